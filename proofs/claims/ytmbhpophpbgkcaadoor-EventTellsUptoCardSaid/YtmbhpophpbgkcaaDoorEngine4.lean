/- Tools for plain laws: loops, whole numbers, lists. -/
import Derived.Test.YtmbhpophpbgkcaaDoorEngine3
import Derived.IntWalk
set_option linter.unusedSimpArgs false
set_option linter.unusedVariables false
namespace Go.Eng

theorem loop_ok {X Y : Type} {body : X → Option (Except Y X)} {x x' : X} (h : body x = some (.ok x')) : loopLim body x = loopLim body x' := by rw [loopLim_eq, h]
theorem loop_out {X Y : Type} {body : X → Option (Except Y X)} {x : X} {y : Y} (h : body x = some (.error y)) : loopLim body x = some y := by rw [loopLim_eq, h]

/-- A loop whose rounds go down. -/
theorem loop_rule {X Y : Type} {body : X → Option (Except Y X)} (I : X → Prop) (m : X → Nat) (Q : Y → Prop)
    (h : ∀ x, I x → (∃ x', body x = some (.ok x') ∧ I x' ∧ m x' < m x) ∨ ∃ y, body x = some (.error y) ∧ Q y) : ∀ x, I x → ∃ y, loopLim body x = some y ∧ Q y := by
  intro x
  generalize hn : m x = n
  induction n using Nat.strongRecOn generalizing x with
  | _ n ih =>
    intro hi
    rcases h x hi with ⟨x', h1, h2, h3⟩ | ⟨y, h1, h2⟩
    · rw [loop_ok h1]
      exact ih (m x') (by omega) x' rfl h2
    · exact ⟨y, loop_out h1, h2⟩

/-- A loop that counts. -/
theorem for_rule {X Y S : Type} {body : X → Option (Except Y X)} (st : Nat → S → X) (n : Nat) (I : Nat → S → Prop) (Q : Y → Prop)
    (hstep : ∀ i s, i < n → I i s → (∃ s', body (st i s) = some (.ok (st (i + 1) s')) ∧ I (i + 1) s') ∨ ∃ y, body (st i s) = some (.error y) ∧ Q y)
    (hend : ∀ s, I n s → ∃ y, body (st n s) = some (.error y) ∧ Q y) : ∀ {i : Nat} {s : S}, i ≤ n → I i s → ∃ y, loopLim body (st i s) = some y ∧ Q y := by
  intro i s hi hI
  generalize hd : n - i = d
  induction d generalizing i s with
  | zero =>
    have : i = n := by omega
    subst this
    obtain ⟨y, h1, h2⟩ := hend s hI
    exact ⟨y, loop_out h1, h2⟩
  | succ d ih =>
    rcases hstep i s (by omega) hI with ⟨s', h1, h2⟩ | ⟨y, h1, h2⟩
    · rw [loop_ok h1]; exact ih (by omega) h2 (by omega)
    · exact ⟨y, loop_out h1, h2⟩

/-- A loop that asks of each number, and stops at the first that is not right. -/
theorem for_all {X Y : Type} {body : X → Option (Except Y X)} {x0 : X} (st : Nat → X) (n : Nat) (out bad : Y) (p : Nat → Bool)
    (hstep : ∀ i, i < n → body (st i) = if p i = true then some (.ok (st (i + 1))) else some (.error bad)) (hend : body (st n) = some (.error out)) (h0 : x0 = st 0) :
    loopLim body x0 = some (if (List.range n).all p = true then out else bad) := by
  subst h0
  have key : ∀ d i, i + d = n → (∀ j, j < i → p j = true) → loopLim body (st i) = some (if (List.range n).all p = true then out else bad) := by
    intro d
    induction d with
    | zero =>
      intro i hi hp
      have : i = n := by omega
      subst this
      rw [loop_out hend, if_pos (by simpa using hp)]
    | succ d ih =>
      intro i hi hp
      have hs := hstep i (by omega)
      by_cases hq : p i = true
      · rw [if_pos hq] at hs
        rw [loop_ok hs]
        exact ih (i + 1) (by omega) (fun j hj => by
          rcases Nat.lt_or_ge j i with h' | h'
          · exact hp j h'
          · have : j = i := by omega
            subst this; exact hq)
      · rw [if_neg hq] at hs
        rw [loop_out hs, if_neg]
        intro hall
        exact hq (List.all_eq_true.1 hall i (by simp; omega))
  exact key n 0 (by omega) (fun j hj => by omega)

/-- A loop that only goes on, gathering. -/
theorem for_fold {X Y S : Type} {body : X → Option (Except Y X)} {x0 : X} (st : Nat → S → X) (n : Nat) (f : Nat → S → S) (I : Nat → S → Prop) (out : S → Y) {s : S}
    (hstep : ∀ i s, i < n → I i s → body (st i s) = some (.ok (st (i + 1) (f i s))) ∧ I (i + 1) (f i s)) (hend : ∀ s, I n s → body (st n s) = some (.error (out s))) (h0 : I 0 s) (hx : x0 = st 0 s) :
    loopLim body x0 = some (out ((List.range n).foldl (fun s i => f i s) s)) := by
  subst hx
  have key : ∀ d i s, i + d = n → I i s → loopLim body (st i s) = some (out ((List.range' i d).foldl (fun s i => f i s) s)) := by
    intro d
    induction d with
    | zero =>
      intro i s hi hI
      have : i = n := by omega
      subst this
      exact loop_out (hend s hI)
    | succ d ih =>
      intro i s hi hI
      obtain ⟨h1, h2⟩ := hstep i s (by omega) hI
      rw [loop_ok h1, ih (i + 1) _ (by omega) h2, List.range'_succ, List.foldl_cons]
  have := key n 0 s (by omega) h0
  rw [this, List.range_eq_range']

/-! ### Whole numbers -/
theorem wrap64_of {n : Int} (h0 : -9223372036854775808 ≤ n) (h1 : n ≤ 9223372036854775807) : IntKind.wrap .i64 n = n := by
  rw [IntKind.wrap_i64]; omega
theorem inB_nat {i n : Nat} : inB (i : Int) n = decide (i < n) := by
  unfold inB
  rw [Bool.eq_iff_iff]; simp
theorem toNat_cast (i : Nat) : Int.toNat (i : Int) = i := Int.toNat_natCast i

/-! ### Lists, place by place -/
theorem all_get_eq {α : Type} [DecidableEq α] {l m : List α} {d : α} (h : l.length = m.length) : (List.range l.length).all (fun i => decide (l.getD i d = m.getD i d)) = decide (l = m) := by
  rw [Bool.eq_iff_iff]
  simp only [List.all_eq_true, List.mem_range, decide_eq_true_eq]
  constructor
  · intro hp
    refine List.ext_getElem h (fun i h1 h2 => ?_)
    have := hp i h1
    simpa [List.getD, h1, h2] using this
  · rintro rfl i _; rfl
/-- The ways out of a loop that looks for what is not right. -/
abbrev outU : Except ((Bool × Unit) × Unit) (Unit × Unit) := .ok ((), ())
abbrev outB (b : Bool) : Except ((Bool × Unit) × Unit) (Unit × Unit) := .error ((b, ()), ())
abbrev resB (b : Bool) : (Bool × Unit) × Unit := ((b, ()), ())
theorem next_i {i n : Nat} (hi : i < n) (hn : n ≤ 4611686018427387904) : IntKind.wrap .i64 ((i : Int) + 1) = ((i + 1 : Nat) : Int) := by
  rw [wrap64_of (by omega) (by omega)]; rfl
end Go.Eng
