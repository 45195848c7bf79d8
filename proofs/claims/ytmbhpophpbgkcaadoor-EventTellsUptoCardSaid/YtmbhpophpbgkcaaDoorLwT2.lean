/- EventTells: orders of texts, and rows put in order. -/
import Derived.Test.YtmbhpophpbgkcaaDoorLwTells
set_option linter.unusedSimpArgs false
set_option linter.unusedVariables false
namespace Go.Proofs.YtmbhpophpbgkcaaDoor
open Go.Eng

/-! ### Texts in order -/
noncomputable def cmpB (a b : Bytes) : Int := if a < b then -1 else if b < a then 1 else 0
theorem lt_app (p a b : Bytes) : (p ++ a < p ++ b) ↔ a < b := by
  induction p with
  | nil => rfl
  | cons x p ih =>
    rw [List.cons_append, List.cons_append, List.cons_lt_cons_iff, ih]
    constructor
    · rintro (h | ⟨_, h⟩)
      · exact absurd h (UInt8.lt_irrefl x)
      · exact h
    · intro h; exact .inr ⟨rfl, h⟩
theorem cmp_app (p a b : Bytes) : cmpB (p ++ a) (p ++ b) = cmpB a b := by
  unfold cmpB; simp only [lt_app]
theorem split_at {l : Bytes} {i : Nat} (h : i < l.length) : l = l.take i ++ (l.getD i 0 :: l.drop (i + 1)) := by
  rw [List.getD_eq_getElem?_getD, List.getElem?_eq_getElem h, Option.getD_some, List.getElem_cons_drop, List.take_append_drop]
theorem lt_cons' (x y : UInt8) (l m : Bytes) (h : x < y) : x :: l < y :: m := List.cons_lt_cons_iff.2 (.inl h)
theorem take_next {α : Type} {l : List α} {i : Nat} (d : α) (h : i < l.length) : l.take (i + 1) = l.take i ++ [l.getD i d] := by
  rw [List.getD_eq_getElem?_getD, List.getElem?_eq_getElem h, Option.getD_some, List.take_append_getElem h]
theorem order_eq (a b : Bytes) (hl : a.length ≤ 4611686018427387904) : fn_47_Order a b = some ((cmpB a b, ()), ()) := by
  unfold fn_47_Order
  have key := for_rule (body := fun (v2 : (Bytes × (Bytes × (Int × Unit))) × Unit) => (if (((decide (v2.1.2.2.1 < ((List.length v2.1.1 : Nat) : Int))) == true) = true) then (some ((v2.1.1, (v2.1.2.1, (v2.1.2.2.1, (decide (v2.1.2.2.1 < ((List.length v2.1.2.1 : Nat) : Int)), ())))), ())) else (some ((v2.1.1, (v2.1.2.1, (v2.1.2.2.1, (false, ())))), ()))).bind (fun v3 => if (v3.1.2.2.2.1 = true) then (if ((inB v3.1.2.2.1 (List.length v3.1.1)) = true) then (if ((inB v3.1.2.2.1 (List.length v3.1.2.1)) = true) then (if ((decide (((UInt8.toNat (List.getD v3.1.1 (Int.toNat v3.1.2.2.1) (0 : UInt8)) : Nat) : Int) < ((UInt8.toNat (List.getD v3.1.2.1 (Int.toNat v3.1.2.2.1) (0 : UInt8)) : Nat) : Int))) = true) then (some (.error ((.error (((-1 : Int), ()), ())) : Except ((Int × Unit) × Unit) ((Bytes × (Bytes × Unit)) × Unit)))) else (if ((inB v3.1.2.2.1 (List.length v3.1.1)) = true) then (if ((inB v3.1.2.2.1 (List.length v3.1.2.1)) = true) then (if ((decide (((UInt8.toNat (List.getD v3.1.1 (Int.toNat v3.1.2.2.1) (0 : UInt8)) : Nat) : Int) > ((UInt8.toNat (List.getD v3.1.2.1 (Int.toNat v3.1.2.2.1) (0 : UInt8)) : Nat) : Int))) = true) then (some (.error (.error (((1 : Int), ()), ())))) else (some (.ok ((v3.1.1, (v3.1.2.1, (IntKind.wrap .i64 (v3.1.2.2.1 + (1 : Int)), ()))), ())))) else none) else none)) else none) else none) else (some (.error (.ok ((v3.1.1, (v3.1.2.1, ())), ()))))))
    (st := fun i (_ : Unit) => ((a, (b, (((i : Nat) : Int), ()))), ())) (n := min a.length b.length) (I := fun i _ => a.take i = b.take i)
    (Q := fun y => exM y (fun v3 => some v3) (fun v3 => if ((decide (((List.length v3.1.1 : Nat) : Int) < ((List.length v3.1.2.1 : Nat) : Int))) = true) then (some (((-1 : Int), ()), ())) else (if ((decide (((List.length v3.1.1 : Nat) : Int) > ((List.length v3.1.2.1 : Nat) : Int))) = true) then (some (((1 : Int), ()), ())) else (some (((0 : Int), ()), ())))) = some ((cmpB a b, ()), ()))
    ?_ ?_ (i := 0) (s := ()) (Nat.zero_le _) (by simp)
  · obtain ⟨y, h1, h2⟩ := key
    rw [show ((a, (b, ((0 : Int), ()))), ()) = ((a, (b, (((0 : Nat) : Int), ()))), ()) from rfl, h1, Option.bind_some]
    exact h2
  · intro i s hi hI
    have ha : i < a.length := by omega
    have hb : i < b.length := by omega
    have e1 := split_at ha
    have e2 := split_at hb
    simp only [inB_nat, toNat_cast, ha, hb, decide_true, if_true, Int.ofNat_lt, next_i ha hl, beq_self_eq_true, Option.bind_some]
    by_cases h1 : (a.getD i 0).toNat < (b.getD i 0).toNat
    · right
      refine ⟨_, by rw [if_pos (by simpa using h1)], ?_⟩
      have : cmpB a b = -1 := by
        rw [e1, e2, ← hI, cmp_app]
        unfold cmpB
        rw [if_pos (lt_cons' _ _ _ _ h1)]
      simp only [exM, this]
    · by_cases h2 : (b.getD i 0).toNat < (a.getD i 0).toNat
      · right
        refine ⟨_, by rw [if_neg (by simpa using h1), if_pos (by simpa using h2)], ?_⟩
        have : cmpB a b = 1 := by
          rw [e1, e2, ← hI, cmp_app]
          unfold cmpB
          rw [if_neg (List.lt_asymm (lt_cons' _ _ _ _ h2)), if_pos (lt_cons' _ _ _ _ h2)]
        simp only [exM, this]
      · left
        refine ⟨(), by rw [if_neg (by simpa using h1), if_neg (by simpa using h2)], ?_⟩
        rw [take_next 0 ha, take_next 0 hb, hI]
        have : a.getD i 0 = b.getD i 0 := UInt8.toNat_inj.1 (by omega)
        rw [this]
  · intro s hI
    refine ⟨.ok ((a, (b, ())), ()), ?_, ?_⟩
    · by_cases h1 : min a.length b.length < a.length
      · have h2 : ¬ min a.length b.length < b.length := by omega
        simp only [Int.ofNat_lt, h1, h2, decide_true, decide_false, beq_self_eq_true, if_true, Option.bind_some, Bool.false_eq_true, if_false]
      · simp [Int.ofNat_lt, h1]
    · simp only [exM]
      rcases Nat.lt_trichotomy a.length b.length with h | h | h
      · rw [if_pos (by simpa using h)]
        have hm : min a.length b.length = a.length := by omega
        rw [hm, List.take_length] at hI
        have hb : a ++ b.drop a.length = b := by
          conv => lhs; lhs; rw [hI]
          exact List.take_append_drop _ _
        have : cmpB a b = -1 := by
          have h3 : cmpB (a ++ []) (a ++ b.drop a.length) = -1 := by
            rw [cmp_app]
            have : 0 < (b.drop a.length).length := by simp; omega
            match hq : b.drop a.length, this with
            | x :: l, _ => unfold cmpB; rw [if_pos (List.nil_lt_cons x l)]
          rw [hb, List.append_nil] at h3; exact h3
        rw [this]
      · have hm : min a.length b.length = a.length := by omega
        rw [hm] at hI
        have hab : a = b := by
          rw [List.take_length] at hI; rw [h, List.take_length] at hI; exact hI
        subst hab
        rw [if_neg (by simp), if_neg (by simp)]
        simp [cmpB, List.lt_irrefl]
      · rw [if_neg (by simp; omega), if_pos (by simpa using h)]
        have hm : min a.length b.length = b.length := by omega
        rw [hm, List.take_length] at hI
        have hb : b ++ a.drop b.length = a := by
          conv => lhs; lhs; rw [← hI]
          exact List.take_append_drop _ _
        have : cmpB a b = 1 := by
          have h3 : cmpB (b ++ a.drop b.length) (b ++ []) = 1 := by
            rw [cmp_app]
            have : 0 < (a.drop b.length).length := by simp; omega
            match hq : a.drop b.length, this with
            | x :: l, _ => unfold cmpB; rw [if_neg (List.lt_asymm (List.nil_lt_cons x l)), if_pos (List.nil_lt_cons x l)]
          rw [hb, List.append_nil] at h3; exact h3
        rw [this]
theorem order_neg (a b : Bytes) : cmpB a b < 0 ↔ a < b := by
  unfold cmpB
  split
  · simp [*]
  · split <;> simp [*]

/-! ### Rows that rise -/
theorem uniq : ∀ {l m : List Bytes}, l.Pairwise (· < ·) → m.Pairwise (· < ·) → (∀ x, x ∈ l ↔ x ∈ m) → l = m
  | [], [], _, _, _ => rfl
  | [], y :: m, _, _, h => absurd ((h y).2 (List.mem_cons_self ..)) (by simp)
  | x :: l, [], _, _, h => absurd ((h x).1 (List.mem_cons_self ..)) (by simp)
  | x :: l, y :: m, h1, h2, h => by
    rw [List.pairwise_cons] at h1 h2
    have hxy : x = y := by
      rcases List.mem_cons.1 ((h x).1 (List.mem_cons_self ..)) with q | q
      · exact q
      · rcases List.mem_cons.1 ((h y).2 (List.mem_cons_self ..)) with r | r
        · exact r.symm
        · exact absurd (h1.1 y r) (List.lt_asymm (h2.1 x q))
    subst hxy
    rw [uniq h1.2 h2.2 (fun z => ?_)]
    constructor
    · intro hz
      rcases List.mem_cons.1 ((h z).1 (List.mem_cons_of_mem _ hz)) with q | q
      · subst q; exact absurd (h1.1 z hz) (List.lt_irrefl z)
      · exact q
    · intro hz
      rcases List.mem_cons.1 ((h z).2 (List.mem_cons_of_mem _ hz)) with q | q
      · subst q; exact absurd (h2.1 z hz) (List.lt_irrefl z)
      · exact q

/-- Is this the rising row of all that stands in that one? -/
def Rises (a d : List Bytes) : Prop := d.Pairwise (· < ·) ∧ ∀ x, x ∈ d ↔ x ∈ a
theorem Rises.uniq {a d e : List Bytes} (h : Rises a d) (k : Rises a e) : d = e :=
  YtmbhpophpbgkcaaDoor.uniq h.1 k.1 (fun x => by rw [h.2, k.2])

theorem ins_at : ∀ {l : List Bytes} {x : Bytes}, l.Pairwise (· < ·) → (∀ y, y ∈ l.take (l.countP fun y => decide (y < x)) → y < x) ∧ ∀ y, y ∈ l.drop (l.countP fun y => decide (y < x)) → ¬ y < x
  | [], x, _ => by simp
  | y :: l, x, h => by
    rw [List.pairwise_cons] at h
    by_cases hy : y < x
    · rw [List.countP_cons_of_pos (by simpa using hy)]
      obtain ⟨i1, i2⟩ := ins_at (x := x) h.2
      refine ⟨fun z hz => ?_, fun z hz => i2 z (by simpa using hz)⟩
      rw [List.take_succ_cons] at hz
      rcases List.mem_cons.1 hz with q | q
      · subst q; exact hy
      · exact i1 z q
    · have h0 : (y :: l).countP (fun y => decide (y < x)) = 0 := by
        rw [List.countP_eq_zero]
        intro z hz
        simp only [decide_eq_true_eq]
        rcases List.mem_cons.1 hz with q | q
        · subst q; exact hy
        · exact fun hzx => hy (List.lt_trans (h.1 z q) hzx)
      rw [h0]
      refine ⟨fun z hz => by simp at hz, fun z hz => ?_⟩
      rw [List.countP_eq_zero] at h0
      simpa using h0 z (by simpa using hz)
theorem insert_rises {l : List Bytes} {x : Bytes} (h : l.Pairwise (· < ·)) (hx : x ∉ l) :
    (l.take (l.countP fun y => decide (y < x)) ++ [x] ++ l.drop (l.countP fun y => decide (y < x))).Pairwise (· < ·) := by
  obtain ⟨h1, h2⟩ := ins_at (x := x) h
  have hs : (l.take (l.countP fun y => decide (y < x)) ++ l.drop (l.countP fun y => decide (y < x))).Pairwise (· < ·) := by rw [List.take_append_drop]; exact h
  rw [List.pairwise_append] at hs
  rw [List.append_assoc, List.pairwise_append]
  have hgt : ∀ y, y ∈ l.drop (l.countP fun y => decide (y < x)) → x < y := fun y hy => by
    by_cases q : x < y
    · exact q
    · exact absurd (List.le_antisymm q (h2 y hy)) (fun e => hx (e ▸ List.mem_of_mem_drop hy))
  refine ⟨hs.1, ?_, fun a ha b hb => ?_⟩
  · rw [List.singleton_append, List.pairwise_cons]
    exact ⟨hgt, hs.2.1⟩
  · rw [List.singleton_append] at hb
    rcases List.mem_cons.1 hb with q | q
    · subst q; exact h1 a ha
    · exact hs.2.2 a ha b q

/-- A counting loop, and what goes on after it. -/
theorem for_bind {X Y S Z : Type} {body : X → Option (Except Y X)} {x0 : X} {k : Y → Option Z} (G : Option Z → Prop) (st : Nat → S → X) (n : Nat) (I : Nat → S → Prop) (Q : Y → Prop) (s : S)
    (hx : x0 = st 0 s) (h0 : I 0 s)
    (hstep : ∀ i s, i < n → I i s → (∃ s', body (st i s) = some (.ok (st (i + 1) s')) ∧ I (i + 1) s') ∨ ∃ y, body (st i s) = some (.error y) ∧ Q y)
    (hend : ∀ s, I n s → ∃ y, body (st n s) = some (.error y) ∧ Q y) (hk : ∀ y, Q y → G (k y)) : G ((loopLim body x0).bind k) := by
  subst hx
  obtain ⟨y, h1, h2⟩ := for_rule st n I Q hstep hend (Nat.zero_le n) h0
  rw [h1]
  exact hk y h2

theorem sorted25 (a : List Bytes) (hl : a.length ≤ 4194304) (hs : ∀ x ∈ a, x.length ≤ 4611686018427387904) : ∃ d, fn_25_Sorted a = some ((d, ()), ()) ∧ Rises a d := by
  unfold fn_25_Sorted
  refine for_bind (fun o => ∃ d, o = some ((d, ()), ()) ∧ Rises a d) (fun i (d : List Bytes) => ((a, (((i : Nat) : Int), ())), (d, ()))) a.length (fun i d => Rises (a.take i) d ∧ d.length ≤ i)
    (fun y => ∃ d, y = ((), (d, ())) ∧ Rises a d) [] rfl ⟨⟨by simp, by simp⟩, by simp⟩ ?step ?fin ?out
  case out =>
    rintro y ⟨d, rfl, h⟩
    exact ⟨d, rfl, h⟩
  case step =>
    intro i d hi ⟨hr, hd⟩
    left
    have hdl : d.length ≤ 4611686018427387904 := by omega
    simp only [Int.ofNat_lt, hi, decide_true, if_true]
    refine for_bind (fun o => ∃ d', o = some (Except.ok (ε := Unit × ((List Bytes) × Unit)) ((a, (((i + 1 : Nat) : Int), ())), (d', ()))) ∧ Rises (a.take (i + 1)) d' ∧ d'.length ≤ i + 1) (fun j (s : Nat × Bool) => ((a, (((i : Nat) : Int), (((s.1 : Nat) : Int), (s.2, (((j : Nat) : Int), ()))))), (d, ()))) d.length
      (fun j s => s.1 = (d.take j).countP (fun y => decide (y < a.getD i [])) ∧ s.2 = (d.take j).any (fun y => y == a.getD i []))
      (fun y => y = ((a, (((i : Nat) : Int), (((d.countP (fun y => decide (y < a.getD i [])) : Nat) : Int), (d.any (fun y => y == a.getD i []), ())))), (d, ()))) (0, false) rfl (by simp) ?s2 ?f2 ?o2
    case o2 =>
      rintro y rfl
      refine ⟨if d.any (fun y => y == a.getD i []) then d else d.take (d.countP fun y => decide (y < a.getD i [])) ++ [a.getD i []] ++ d.drop (d.countP fun y => decide (y < a.getD i [])), ?_, ?_, ?_⟩
      · by_cases hany : d.any (fun y => y == a.getD i []) = true
        · simp only [hany, Bool.not_true, Bool.false_eq_true, if_false, if_true, Option.bind_some, next_i hi (show a.length ≤ 4611686018427387904 by omega)]
        · have hc : d.countP (fun y => decide (y < a.getD i [])) ≤ d.length := List.countP_le_length
          have hc1 : (0 : Int) ≤ ((d.countP (fun y => decide (y < a.getD i [])) : Nat) : Int) := by omega
          have hc2 : ((d.countP (fun y => decide (y < a.getD i [])) : Nat) : Int) ≤ (d.length : Int) := by omega
          rw [Bool.not_eq_true] at hany
          simp only [hany, Bool.not_false, Bool.false_eq_true, if_false, if_true, Option.bind_some, next_i hi (show a.length ≤ 4611686018427387904 by omega), hc1, hc2, decide_true, Bool.and_self, inB_nat, toNat_cast, hi, List.nil_append, List.drop_zero, Nat.sub_zero]
          rw [if_pos (by simp; omega), if_pos (by simp; omega), if_pos (by simp; omega)]
          simp only [Option.bind_some]
          rw [List.take_of_length_le (l := d.drop _) (by simp), next_i hi (show a.length ≤ 4611686018427387904 by omega)]
      · refine ⟨?_, fun x => ?_⟩
        · split
          · exact hr.1
          · rename_i hany
            refine insert_rises hr.1 (fun hx => hany ?_)
            rw [List.any_eq_true]; exact ⟨_, hx, by simp⟩
        · rw [take_next [] hi, List.mem_append, ← hr.2 x, List.mem_singleton]
          split
          · rename_i hany
            rw [List.any_eq_true] at hany
            obtain ⟨z, hz, hq⟩ := hany
            rw [beq_iff_eq] at hq; subst hq
            exact ⟨fun h => .inl h, fun h => h.elim id (fun e => e ▸ hz)⟩
          · rw [List.append_assoc, List.mem_append, List.singleton_append, List.mem_cons]
            conv => rhs; rw [← List.take_append_drop (d.countP fun y => decide (y < a.getD i [])) d, List.mem_append]
            constructor
            · rintro (h | h | h)
              · exact .inl (.inl h)
              · exact .inr h
              · exact .inl (.inr h)
            · rintro ((h | h) | h)
              · exact .inl h
              · exact .inr (.inr h)
              · exact .inr (.inl h)
      · split
        · omega
        · have := List.countP_le_length (p := fun y => decide (y < a.getD i [])) (l := d)
          simp only [List.length_append, List.length_take, List.length_drop, List.length_singleton]
          omega
    case s2 =>
      rintro j ⟨c, sn⟩ hj ⟨hc, hsn⟩
      left
      simp only at hc hsn
      have hmem : d.getD j [] ∈ a := by
        have : d.getD j [] ∈ d := by rw [List.getD_eq_getElem?_getD, List.getElem?_eq_getElem hj]; exact List.getElem_mem hj
        exact List.mem_of_mem_take ((hr.2 _).1 this)
      have hcj : c ≤ j := by
        rw [hc]; refine Nat.le_trans List.countP_le_length ?_; simp; omega
      refine ⟨(if d.getD j [] < a.getD i [] then c + 1 else c, sn || (d.getD j [] == a.getD i [])), ?_, ?_, ?_⟩
      · simp only [Int.ofNat_lt, hj, hi, decide_true, if_true, inB_nat, toNat_cast, order_eq _ (a.getD i []) (hs _ hmem), Option.bind_some, decide_eq_true_eq, order_neg]
        have hn := next_i hj hdl
        have hn2 : IntKind.wrap .i64 ((c : Int) + 1) = ((c + 1 : Nat) : Int) := next_i (n := c + 1) (by omega) (by omega)
        have hcj2 : d.getD j [] < a.getD i [] → c = j := fun hlt => by
          rw [hc]
          have : (d.take j).length = j := by rw [List.length_take]; omega
          conv => rhs; rw [← this]
          rw [List.countP_eq_length]
          intro z hz
          have hp := (hr.1.sublist (List.take_sublist (j + 1) d))
          rw [take_next [] hj, List.pairwise_append] at hp
          exact decide_eq_true (List.lt_trans (hp.2.2 z hz _ (List.mem_singleton.2 rfl)) hlt)
        by_cases hlt : d.getD j [] < a.getD i []
        · cases hcj2 hlt
          cases sn <;> simp only [hlt, if_true, if_false, Option.bind_some, hn, hn2, Bool.false_eq_true, inB_nat, toNat_cast, hi, hj, decide_true, Bool.true_or, Bool.false_or]
        cases sn <;> simp only [hlt, if_true, if_false, Option.bind_some, hn, hn2, Bool.false_eq_true, inB_nat, toNat_cast, hi, hj, decide_true, Bool.true_or, Bool.false_or]
      · simp only
        rw [take_next [] hj, List.countP_append, List.countP_singleton, ← hc]
        by_cases hlt : d.getD j [] < a.getD i [] <;> simp only [hlt, if_true, if_false, decide_true, decide_false, Bool.false_eq_true, Nat.add_zero]
      · simp only
        rw [take_next [] hj, List.any_append, ← hsn]
        simp
    case f2 =>
      rintro ⟨c, sn⟩ ⟨hc, hsn⟩
      simp only [List.take_length] at hc hsn
      subst hc hsn
      refine ⟨_, ?_, rfl⟩
      simp only [Int.ofNat_lt, Nat.lt_irrefl, decide_false, Bool.false_eq_true, if_false]
  case fin =>
    rintro d ⟨hr, _⟩
    rw [List.take_length] at hr
    refine ⟨_, ?_, d, rfl, hr⟩
    simp only [Int.ofNat_lt, Nat.lt_irrefl, decide_false, Bool.false_eq_true, if_false]
end Go.Proofs.YtmbhpophpbgkcaaDoor
