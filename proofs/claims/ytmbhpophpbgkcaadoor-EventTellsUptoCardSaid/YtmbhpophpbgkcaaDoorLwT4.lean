/- EventTells: the whole. -/
import Derived.Test.YtmbhpophpbgkcaaDoorLwT3
set_option linter.unusedSimpArgs false
set_option linter.unusedVariables false
namespace Go.Proofs.YtmbhpophpbgkcaaDoor
open Go.Eng

/-! ### The event of one name -/
theorem short_one (n : Int) (h0 : 0 ≤ n) (h1 : n < 128) : fn_27_Short [n] = some (([UInt8.ofNat n.toNat], ()), ()) := by
  unfold fn_27_Short
  have hw : IntKind.wrap .u8 n = n := by
    rw [IntKind.wrap_u8]; omega
  rw [loop_ok (x' := (([n], (((1 : Nat) : Int), (((1 : Nat) : Int), ()))), ([n], ())))]
  · rw [loop_out (y := ((), ([n], ())))]
    · simp
    · simp
  · have hd : (decide (n ≥ (128 : Int)) = true) = False := by simp; omega
    simp only [List.length_singleton]
    rw [if_pos (by rfl), if_pos (by rfl)]
    rw [loop_out (y := ((n, ([n], (((1 : Nat) : Int), ((0 : Int), ())))), (([] : List Int), ())))]
    · simp only [Option.bind_some, hw, List.nil_append, List.length_nil, List.length_singleton]
      rw [if_pos (by rfl)]
      rfl
    · simp only [show Int.toNat 0 = 0 from rfl, List.getD_cons_zero, hd, if_false]
theorem right5 : fn_10_Right ((5 : Int), (([] : List TChange), ())) = some (resB true) := by
  unfold fn_10_Right
  simp only [show decide ((5 : Int) < 0) = false from rfl, show decide ((5 : Int) > 9007199254740992) = false from rfl, beq_self_eq_true, if_true, List.length_nil, Option.bind_some, show decide (((0 : Nat) : Int) > 40) = false from rfl, Bool.false_eq_true, if_false]
  rw [loop_out (y := .ok ((), ()))]
  · rfl
  · simp
theorem lives_eq : fn_5_lives = some (resB true) := by
  unfold fn_5_lives fn_7_Encode
  rw [right5]
  simp only [Option.bind_some, Bool.not_true, Bool.false_eq_true, if_false]
  unfold fn_16_writer__number
  simp only [show IntKind.wrap .u64 5 = 5 from rfl, List.length_nil, show IntKind.wrap .u64 (((0 : Nat) : Int)) = 0 from rfl, short_one 5 (by decide) (by decide), short_one 0 (by decide) (by decide), Option.bind_some]
  rw [if_pos (by decide)]
  simp only [Option.bind_some]
  rw [if_pos (by decide)]
  simp only [Option.bind_some]
  rw [loop_out (y := ((), ((), ([1, 5, 0], ()))))]
  · decide
  · rfl

/-! ### Few: always answers -/
def Ans (o : Option ((Bool × Unit) × Unit)) : Prop := ∃ b, o = some ((b, ()), ())
theorem few48 (a : Int × (Bytes × (Int × (Int × ((List TCol) × Unit))))) (h : a.2.2.2.2.1.length ≤ 4611686018427387904) : Ans (fn_48_Few a) := by
  unfold fn_48_Few fn_74_short
  have e : ∃ c, (if (((decide (((List.length a.2.2.2.2.1 : Nat) : Int) > (20 : Int))) == false) = true) then ((some ((decide (((List.length a.2.1 : Nat) : Int) ≤ (200 : Int)), ()), ())).bind (fun v1 => some (((!v1.1.1), ()), (a, ())))) else (some ((true, ()), (a, ())))) = some ((c, ()), (a, ())) := by
    split
    · exact ⟨_, rfl⟩
    · exact ⟨_, rfl⟩
  obtain ⟨c, e⟩ := e
  rw [e, Option.bind_some]
  cases c
  rotate_left
  · exact ⟨_, rfl⟩
  simp only [Bool.false_eq_true, if_false]
  refine for_bind Ans (fun i (_ : Unit) => ((((i : Nat) : Int), ()), (a, ()))) a.2.2.2.2.1.length (fun _ _ => True) (fun _ => True) () rfl trivial ?_ ?_ ?_
  · intro i s hi _
    simp only [Int.ofNat_lt, hi, decide_true, if_true, inB_nat, Option.bind_some, next_i hi h]
    split
    · simp only [Option.bind_some, next_i hi h]
      split
      · exact .inr ⟨_, rfl, trivial⟩
      · exact .inl ⟨(), rfl, trivial⟩
    · exact .inr ⟨_, rfl, trivial⟩
  · intro s _
    exact ⟨.ok ((), ()), by simp, trivial⟩
  · rintro (y | y) _
    · exact ⟨y.1.1, rfl⟩
    · exact ⟨_, rfl⟩
theorem few26 (a : TDDL) (h : a.2.2.2.2.2.2.2.2.1.length ≤ 4611686018427387904) : Ans (fn_26_Few a) := by
  unfold fn_26_Few
  obtain ⟨b, e⟩ := few48 ((0 : Int), (([] : Bytes), ((0 : Int), ((0 : Int), a.2.2.2.2.2.2.2.2)))) h
  rw [e]
  split
  · exact ⟨_, rfl⟩
  · exact ⟨_, rfl⟩
theorem few15 (a : TChange) (h : OkC a) : Ans (fn_15_FewChange a) := by
  obtain ⟨b, e⟩ := few26 a.2.2.2.2.2.1 h.2
  obtain ⟨h1, h2⟩ := h
  obtain ⟨a1, a2, a3, ⟨a9, a10, a11, _⟩, a4, ⟨d1, d2, d3, d4, d5, ⟨d6, d7, _⟩, d8, ⟨d9, d10, d11, _⟩, d12, _⟩, _⟩ := a
  simp only at e h1 h2
  unfold fn_15_FewChange
  simp only [e, Option.bind_some]
  have e2 : ∀ (p q : Bool) (z : (Int × (Int × (Bytes × (Int × (Int × (Bytes × ((List TCell) × (Int × (Bytes × (Bytes × (Bytes × (Bytes × (Int × (Int × (Bool × (Int × (Int × (Bytes × ((List TCol) × Unit)))))))))))))))))))), ∃ c, (if p = true then (if q = true then some (((!b), ()), (z, ())) else some ((true, ()), (z, ()))) else some ((true, ()), (z, ()))) = some ((c, ()), (z, ())) := by
    intro p q z
    cases p <;> cases q <;> exact ⟨_, rfl⟩
  obtain ⟨c, e3⟩ := e2 (decide ((IntKind.wrap .i64 (((List.length a3 : Nat) : Int) + ((List.length a11 : Nat) : Int))) > (400 : Int)) == false) (decide (((List.length a4 : Nat) : Int) > (20 : Int)) == false) _
  rw [e3, Option.bind_some]
  cases c
  rotate_left
  · exact ⟨_, rfl⟩
  simp only [Bool.false_eq_true, if_false]
  refine for_bind Ans (fun i (_ : Unit) => ((((i : Nat) : Int), ()), (_, ()))) a4.length (fun _ _ => True) (fun _ => True) () rfl trivial ?_ ?_ ?_
  · intro i s hi _
    simp only [Int.ofNat_lt, hi, decide_true, if_true, inB_nat, Option.bind_some, next_i hi h1]
    split
    · exact .inr ⟨_, rfl, trivial⟩
    · exact .inl ⟨(), rfl, trivial⟩
  · intro s _
    exact ⟨.ok ((), ()), by simp, trivial⟩
  · rintro (y | y) _
    · exact ⟨y.1.1, rfl⟩
    · exact ⟨_, rfl⟩
theorem few6 (a : TEvent) (h : OkE a) : Ans (fn_6_Few a) := by
  unfold fn_6_Few
  split
  · exact ⟨_, rfl⟩
  refine for_bind Ans (fun i (_ : Unit) => ((((i : Nat) : Int), ()), (a, ()))) a.2.1.length (fun _ _ => True) (fun _ => True) () rfl trivial ?_ ?_ ?_
  · intro i s hi _
    obtain ⟨b, e⟩ := few15 (a.2.1.getD i zChange) (okC_getD h.2 i)
    simp only [Int.ofNat_lt, hi, decide_true, if_true, inB_nat, toNat_cast, e, Option.bind_some, next_i hi h.1]
    split
    · exact .inr ⟨_, rfl, trivial⟩
    · exact .inl ⟨(), rfl, trivial⟩
  · intro s _
    exact ⟨.ok ((), ()), by simp, trivial⟩
  · rintro (y | y) _
    · exact ⟨y.1.1, rfl⟩
    · exact ⟨_, rfl⟩

/-! ### The tables' names -/
def nameStep (l : List TChange) (i : Nat) (acc : List Bytes) : List Bytes :=
  if ((l.getD i zChange).2.2.2.2.2.1.1 == (3 : Int)) = true then acc ++ [(l.getD i zChange).2.2.1] ++ [(l.getD i zChange).2.2.2.2.2.1.2.2.2.1] else acc ++ [(l.getD i zChange).2.2.1]
def namesOf (l : List TChange) : List Bytes := (List.range l.length).foldl (fun s i => nameStep l i s) []
theorem nameStep_len (l : List TChange) (i : Nat) (acc : List Bytes) (h : acc.length ≤ 2 * i) : (nameStep l i acc).length ≤ 2 * (i + 1) := by
  unfold nameStep; split <;> simp <;> omega
theorem namesOf_ok {l : List TChange} (h : ∀ c ∈ l, c.2.2.1.length ≤ 4611686018427387904 ∧ c.2.2.2.2.2.1.2.2.2.1.length ≤ 4611686018427387904) : (namesOf l).length ≤ 2 * l.length ∧ ∀ x ∈ namesOf l, x.length ≤ 4611686018427387904 := by
  unfold namesOf
  have key : ∀ (n : Nat), n ≤ l.length → ((List.range n).foldl (fun s i => nameStep l i s) []).length ≤ 2 * n ∧ ∀ x ∈ (List.range n).foldl (fun s i => nameStep l i s) [], x.length ≤ 4611686018427387904 := by
    intro n
    induction n with
    | zero => intro _; simp
    | succ n ih =>
      intro hn
      obtain ⟨h1, h2⟩ := ih (by omega)
      rw [List.range_succ, List.foldl_append, List.foldl_cons, List.foldl_nil]
      refine ⟨nameStep_len l n _ h1, fun x hx => ?_⟩
      have hc := h (l.getD n zChange) (by rw [List.getD_eq_getElem?_getD, List.getElem?_eq_getElem (by omega)]; exact List.getElem_mem _)
      unfold nameStep at hx
      split at hx
      · simp only [List.mem_append, List.mem_singleton] at hx
        rcases hx with (hx | hx) | hx
        · exact h2 x hx
        · rw [hx]; exact hc.1
        · rw [hx]; exact hc.2
      · simp only [List.mem_append, List.mem_singleton] at hx
        rcases hx with hx | hx
        · exact h2 x hx
        · rw [hx]; exact hc.1
  exact key _ (Nat.le_refl _)
theorem tables13 (a : TEvent) (h : a.2.1.length ≤ 1048576) : ∃ d, fn_13_Tables a = some ((d, ()), ()) ∧ Rises (namesOf a.2.1) d := by
  have hn : (namesOf a.2.1).length ≤ 2 * a.2.1.length := by
    unfold namesOf
    have key : ∀ (n : Nat), ((List.range n).foldl (fun s i => nameStep a.2.1 i s) []).length ≤ 2 * n := by
      intro n
      induction n with
      | zero => simp
      | succ n ih =>
        rw [List.range_succ, List.foldl_append, List.foldl_cons, List.foldl_nil]
        exact nameStep_len _ _ _ ih
    exact key _
  obtain ⟨d, h1, h2⟩ := sorted24 (namesOf a.2.1) (by omega)
  refine ⟨d, ?_, h2⟩
  unfold fn_13_Tables
  rw [for_fold (fun i (s : List Bytes) => ((a.2.1, (((a.2.1.length : Nat) : Int), (((i : Nat) : Int), ()))), (s, ()))) a.2.1.length (nameStep a.2.1) (fun i s => s.length ≤ 2 * i) (fun s => ((), (s, ()))) (s := [])]
  · simp only [Option.bind_some]
    change (fn_24_Sorted (namesOf a.2.1)).bind _ = _
    rw [h1]; rfl
  · intro i s hi hs
    refine ⟨?_, nameStep_len _ _ _ hs⟩
    have q1 : s.length + List.length [(a.2.1.getD i zChange).2.2.1] ≤ 4294967296 := by simp only [List.length_singleton]; omega
    have q2 : (s ++ [(a.2.1.getD i zChange).2.2.1]).length + List.length [(a.2.1.getD i zChange).2.2.2.2.2.1.2.2.2.1] ≤ 4294967296 := by simp only [List.length_singleton, List.length_append]; omega
    simp only [Int.ofNat_lt, hi, decide_true, if_true, inB_nat, toNat_cast, q1, q2]
    unfold nameStep
    split
    · simp only [Option.bind_some, next_i hi (show a.2.1.length ≤ 4611686018427387904 by omega)]
    · simp only [Option.bind_some, next_i hi (show a.2.1.length ≤ 4611686018427387904 by omega)]
  · intro s _
    simp only [Int.ofNat_lt, Nat.lt_irrefl, decide_false, Bool.false_eq_true, if_false]
  · simp
  · rfl
theorem tables14 (a : TEvent) (h : a.2.1.length ≤ 1048576) (hc : ∀ c ∈ a.2.1, c.2.2.1.length ≤ 4611686018427387904 ∧ c.2.2.2.2.2.1.2.2.2.1.length ≤ 4611686018427387904) : ∃ d, fn_14_Tables a = some ((d, ()), ()) ∧ Rises (namesOf a.2.1) d := by
  obtain ⟨n1, n2⟩ := namesOf_ok hc
  obtain ⟨d, h1, h2⟩ := sorted25 (namesOf a.2.1) (by omega) n2
  refine ⟨d, ?_, h2⟩
  unfold fn_14_Tables
  rw [for_fold (fun i (s : List Bytes) => ((((i : Nat) : Int), ()), (a, (s, ())))) a.2.1.length (nameStep a.2.1) (fun i s => s.length ≤ 2 * i) (fun s => ((), (s, ()))) (s := [])]
  · simp only [Option.bind_some]
    change (fn_25_Sorted (namesOf a.2.1)).bind _ = _
    rw [h1]; rfl
  · intro i s hi hs
    refine ⟨?_, nameStep_len _ _ _ hs⟩
    have q1 : s.length + List.length [(a.2.1.getD i zChange).2.2.1] ≤ 4294967296 := by simp only [List.length_singleton]; omega
    have q2 : (s ++ [(a.2.1.getD i zChange).2.2.1]).length + List.length [(a.2.1.getD i zChange).2.2.2.2.2.1.2.2.2.1] ≤ 4294967296 := by simp only [List.length_singleton, List.length_append]; omega
    simp only [Int.ofNat_lt, hi, decide_true, if_true, inB_nat, toNat_cast, q1, q2]
    unfold nameStep
    split
    · simp only [Option.bind_some, next_i hi (show a.2.1.length ≤ 4611686018427387904 by omega)]
    · simp only [Option.bind_some, next_i hi (show a.2.1.length ≤ 4611686018427387904 by omega)]
  · intro s _
    simp only [Int.ofNat_lt, Nat.lt_irrefl, decide_false, Bool.false_eq_true, if_false]
  · simp
  · rfl

/-! ### The whole -/
theorem wt_mem {t : Ty} : ∀ {xs : List t.El} {x : t.El}, x ∈ xs → wt t x + 1 ≤ (xs.map (wt t)).sum + xs.length
  | [], _, h => by simp at h
  | y :: xs, x, h => by
    simp only [List.map_cons, List.sum_cons, List.length_cons]
    rcases List.mem_cons.1 h with q | q
    · subst q; omega
    · have := wt_mem q; omega
theorem wt_event (v : TEvent) : wt tEvent v = (v.2.1.map (wt tChange)).sum + v.2.1.length := by
  show 0 + (((v.2.1.map (wt tChange)).sum + v.2.1.length) + 0) = _; omega
theorem pickC (p q r s t n : Nat) (h : 0 + (0 + (p + (q + ((r + s) + (t + 0))))) ≤ n) : p ≤ n ∧ s ≤ n ∧ t ≤ n := by omega
theorem pickD (a b c d e f g h n : Nat) (k : 0 + (a + (b + (c + (d + (e + (0 + (f + ((g + h) + 0)))))))) ≤ n) : c ≤ n ∧ h ≤ n := by omega
theorem wtC (c : TChange) (n : Nat) (h : wt tChange c ≤ n) : c.2.2.1.length ≤ n ∧ c.2.2.2.2.1.length ≤ n ∧ wt tDDL c.2.2.2.2.2.1 ≤ n :=
  pickC c.2.2.1.length (wt tVal c.2.2.2.1) ((c.2.2.2.2.1.map (wt tCell)).sum) c.2.2.2.2.1.length (wt tDDL c.2.2.2.2.2.1) n h
theorem wtD (d : TDDL) (n : Nat) (h : wt tDDL d ≤ n) : d.2.2.2.1.length ≤ n ∧ d.2.2.2.2.2.2.2.2.1.length ≤ n :=
  pickD d.2.1.length d.2.2.1.length d.2.2.2.1.length d.2.2.2.2.1.length (wt tTyp d.2.2.2.2.2.1) (wt tVal d.2.2.2.2.2.2.2.1) ((d.2.2.2.2.2.2.2.2.1.map (wt tCol)).sum) d.2.2.2.2.2.2.2.2.1.length n h
theorem big_le {k : Nat} (h : k ≤ 1048576) : k ≤ 4611686018427387904 := Nat.le_trans h (by decide)
theorem okE_of (v : TEvent) (h : wt tEvent v ≤ 1048576) : v.2.1.length ≤ 1048576 ∧ OkE v ∧ ∀ c ∈ v.2.1, c.2.2.1.length ≤ 4611686018427387904 ∧ c.2.2.2.2.2.1.2.2.2.1.length ≤ 4611686018427387904 := by
  rw [wt_event] at h
  have hc : ∀ c ∈ v.2.1, wt tChange c ≤ 1048576 := fun c hcm => Nat.le_trans (Nat.le_of_succ_le (wt_mem (t := tChange) hcm)) h
  have hl : v.2.1.length ≤ 1048576 := Nat.le_trans (Nat.le_add_left _ _) h
  exact ⟨hl, ⟨big_le hl, fun c hcm => ⟨big_le (wtC c _ (hc c hcm)).2.1, big_le (wtD _ _ (wtC c _ (hc c hcm)).2.2).2⟩⟩, fun c hcm => ⟨big_le (wtC c _ (hc c hcm)).1, big_le (wtD _ _ (wtC c _ (hc c hcm)).2.2).1⟩⟩
theorem nodup_le : ∀ {d n : List Bytes}, d.Nodup → (∀ x ∈ d, x ∈ n) → d.length ≤ n.length
  | [], _, _, _ => Nat.zero_le _
  | x :: d, n, hn, h => by
    rw [List.nodup_cons] at hn
    have h1 := nodup_le (n := n.erase x) hn.2 (fun y hy => (List.mem_erase_of_ne (fun (e : y = x) => hn.1 (by rw [← e]; exact hy))).2 (h y (List.mem_cons_of_mem _ hy)))
    have h2 := List.length_erase_of_mem (h x (List.mem_cons_self ..))
    have h3 : 0 < n.length := List.length_pos_of_mem (h x (List.mem_cons_self ..))
    rw [List.length_cons]; omega
theorem tells (a b : TEvent) (ha : wt tEvent a ≤ 1048576) (hb : wt tEvent b ≤ 1048576) : fn_4_EventTells a b = some (resB true) := by
  obtain ⟨a1, a2, a3⟩ := okE_of a ha
  obtain ⟨b1, b2, b3⟩ := okE_of b hb
  obtain ⟨fa, ea⟩ := few6 a a2
  obtain ⟨fb, eb⟩ := few6 b b2
  obtain ⟨d, e13, r13⟩ := tables13 a a1
  obtain ⟨d', e14, r14⟩ := tables14 a a1 a3
  cases r13.uniq r14
  unfold fn_4_EventTells
  rw [lives_eq, ea, eb]
  have hlen : d.length ≤ 4611686018427387904 := by
    -- a row without doubles, all of whose texts stand in the names
    have hn := (namesOf_ok a3).1
    have hnd : d.Nodup := r13.1.imp (fun h e => by rw [e] at h; exact List.lt_irrefl _ h)
    have := nodup_le hnd (fun x hx => (r13.2 x).1 hx)
    omega
  have hrest : ((fn_11_Same a b).bind (fun v4 => (fn_9_SameEvent a b).bind (fun v5 => if ((v4.1.1 == v5.1.1) = true) then ((fn_11_Same a a).bind (fun v6 => if (v6.1.1 = true) then ((fn_13_Tables a).bind (fun v7 => (fn_14_Tables a).bind (fun v8 => (fn_12_Same v7.1.1 v8.1.1).bind (fun v9 => some v9)))) else (some ((false, ()), ())))) else (some ((false, ()), ())))) ) = some (resB true) := by
    rw [eq11 a b a2, eq9 a b a2, eq11 a a a2, e13, e14]
    simp only [Option.bind_some, beq_self_eq_true, if_true, decide_true, same12 d d hlen]
  simp only [Option.bind_some, Bool.not_true, Bool.false_eq_true, if_false]
  cases fa <;> cases fb <;> simp only [Bool.not_true, Bool.not_false, beq_self_eq_true, Bool.false_eq_true, Bool.true_eq_false, if_false, if_true, Option.bind_some, Bool.true_beq, Bool.false_beq]
  exact congrArg (fun o => o.bind some) hrest
end Go.Proofs.YtmbhpophpbgkcaaDoor
