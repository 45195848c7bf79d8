/- EventTells: what its functions come to. -/
import Derived.Test.YtmbhpophpbgkcaaDoorTsD
import Derived.Test.YtmbhpophpbgkcaaDoorEngine4
set_option linter.unusedSimpArgs false
set_option linter.unusedVariables false
namespace Go.Proofs.YtmbhpophpbgkcaaDoor
open Go.Eng

instance dVal3 : DecidableEq (Bytes × Unit) := inferInstance
instance dVal2 : DecidableEq (Int × (Bytes × Unit)) := inferInstance
instance dVal1 : DecidableEq (Int × (Int × (Bytes × Unit))) := inferInstance
instance dVal : DecidableEq TVal := inferInstance
instance dTyp2 : DecidableEq (Int × Unit) := inferInstance
instance dTyp1 : DecidableEq (Int × (Int × Unit)) := inferInstance
instance dTyp : DecidableEq TTyp := inferInstance
instance dCell3 : DecidableEq (TVal × Unit) := inferInstance
instance dCell2 : DecidableEq (TTyp × (TVal × Unit)) := inferInstance
instance dCell1 : DecidableEq (Bytes × (TTyp × (TVal × Unit))) := inferInstance
instance dCell : DecidableEq TCell := inferInstance
instance dCol5 : DecidableEq (TVal × Unit) := inferInstance
instance dCol4 : DecidableEq (Bool × (TVal × Unit)) := inferInstance
instance dCol3 : DecidableEq (TTyp × (Bool × (TVal × Unit))) := inferInstance
instance dCol2 : DecidableEq (Bytes × (TTyp × (Bool × (TVal × Unit)))) := inferInstance
instance dCol1 : DecidableEq (Int × (Bytes × (TTyp × (Bool × (TVal × Unit))))) := inferInstance
instance dCol : DecidableEq TCol := inferInstance
instance dDDL9 : DecidableEq (List TCol × Unit) := inferInstance
instance dDDL8 : DecidableEq (TVal × (List TCol × Unit)) := inferInstance
instance dDDL7 : DecidableEq (Bool × (TVal × (List TCol × Unit))) := inferInstance
instance dDDL6 : DecidableEq (TTyp × (Bool × (TVal × (List TCol × Unit)))) := inferInstance
instance dDDL5 : DecidableEq (Bytes × (TTyp × (Bool × (TVal × (List TCol × Unit))))) := inferInstance
instance dDDL4 : DecidableEq (Bytes × (Bytes × (TTyp × (Bool × (TVal × (List TCol × Unit)))))) := inferInstance
instance dDDL3 : DecidableEq (Bytes × (Bytes × (Bytes × (TTyp × (Bool × (TVal × (List TCol × Unit))))))) := inferInstance
instance dDDL2 : DecidableEq (Bytes × (Bytes × (Bytes × (Bytes × (TTyp × (Bool × (TVal × (List TCol × Unit)))))))) := inferInstance
instance dDDL1 : DecidableEq (Int × (Bytes × (Bytes × (Bytes × (Bytes × (TTyp × (Bool × (TVal × (List TCol × Unit))))))))) := inferInstance
instance dDDL : DecidableEq TDDL := inferInstance
instance dChange6 : DecidableEq (TDDL × Unit) := inferInstance
instance dChange5 : DecidableEq (List TCell × (TDDL × Unit)) := inferInstance
instance dChange4 : DecidableEq (TVal × (List TCell × (TDDL × Unit))) := inferInstance
instance dChange3 : DecidableEq (Bytes × (TVal × (List TCell × (TDDL × Unit)))) := inferInstance
instance dChange2 : DecidableEq (Int × (Bytes × (TVal × (List TCell × (TDDL × Unit))))) := inferInstance
instance dChange1 : DecidableEq (Int × (Int × (Bytes × (TVal × (List TCell × (TDDL × Unit)))))) := inferInstance
instance dChange : DecidableEq TChange := inferInstance
instance dEvent2 : DecidableEq (List TChange × Unit) := inferInstance
instance dEvent1 : DecidableEq (Int × (List TChange × Unit)) := inferInstance
instance dEvent : DecidableEq TEvent := inferInstance

theorem eq_len {α : Type} [DecidableEq α] {l m : List α} (h : l.length ≠ m.length) : decide (l = m) = false := by
  simp only [decide_eq_false_iff_not]; intro e; exact h (by rw [e])

theorem beq_cell (x y : TCell) : ((x.1 == y.1) && (((x.2.1.1 == y.2.1.1) && ((x.2.1.2.1 == y.2.1.2.1) && true)) && (((x.2.2.1.1 == y.2.2.1.1) && ((x.2.2.1.2.1 == y.2.2.1.2.1) && ((x.2.2.1.2.2.1 == y.2.2.1.2.2.1) && true))) && true))) = decide (x = y) := by
  rw [Bool.eq_iff_iff]; simp [Prod.ext_iff, and_assoc]
theorem beq_col (x y : TCol) : ((x.1 == y.1) && ((x.2.1 == y.2.1) && (((x.2.2.1.1 == y.2.2.1.1) && ((x.2.2.1.2.1 == y.2.2.1.2.1) && true)) && ((x.2.2.2.1 == y.2.2.2.1) && (((x.2.2.2.2.1.1 == y.2.2.2.2.1.1) && ((x.2.2.2.2.1.2.1 == y.2.2.2.2.1.2.1) && ((x.2.2.2.2.1.2.2.1 == y.2.2.2.2.1.2.2.1) && true))) && true))))) = decide (x = y) := by
  rw [Bool.eq_iff_iff]; simp [Prod.ext_iff, and_assoc]
theorem same12 (l m : List Bytes) (hl : l.length ≤ 4611686018427387904) : fn_12_Same l m = some (resB (decide (l = m))) := by
  unfold fn_12_Same
  by_cases hlen : l.length = m.length
  · rw [if_neg (by simp [hlen])]
    rw [for_all (fun i => ((l, (m, (((i : Nat) : Int), ()))), ())) l.length outU (outB false) (fun i => decide (l.getD i [] = m.getD i []))]
    · rw [all_get_eq hlen]
      by_cases h : l = m <;> simp [h, exM]
    · intro i hi
      have hi2 : i < m.length := by omega
      simp only [inB_nat, toNat_cast, hi, hi2, decide_true, if_true, Int.ofNat_lt, next_i hi hl]
      by_cases hq : l.getD i [] = m.getD i [] <;> simp [hq]
    · simp
    · rfl
  · rw [if_pos (by simp; omega)]
    simp [eq_len hlen]
theorem eq44 (l m : List TCell) (hl : l.length ≤ 4611686018427387904) : fn_44_Equal l m = some (resB (decide (l = m))) := by
  unfold fn_44_Equal
  by_cases hlen : l.length = m.length
  · rw [if_neg (by simp [hlen])]
    rw [for_all (fun i => ((l, (m, (((l.length : Nat) : Int), (((i : Nat) : Int), ())))), ())) l.length outU (outB false) (fun i => decide (l.getD i zCell = m.getD i zCell))]
    · rw [all_get_eq hlen]
      by_cases h : l = m <;> simp [h, exM]
    · intro i hi
      have hi2 : i < m.length := by omega
      simp only [inB_nat, toNat_cast, hi, hi2, decide_true, if_true, Int.ofNat_lt, next_i hi hl]
      rw [beq_cell]
      by_cases hq : l.getD i zCell = m.getD i zCell <;> simp [hq]
    · simp
    · rfl
  · rw [if_pos (by simp; omega)]
    simp [eq_len hlen]

theorem eq71 (l m : List TCol) (hl : l.length ≤ 4611686018427387904) : fn_71_Equal l m = some (resB (decide (l = m))) := by
  unfold fn_71_Equal
  by_cases hlen : l.length = m.length
  · rw [if_neg (by simp [hlen])]
    rw [for_all (fun i => ((l, (m, (((l.length : Nat) : Int), (((i : Nat) : Int), ())))), ())) l.length outU (outB false) (fun i => decide (l.getD i zCol = m.getD i zCol))]
    · rw [all_get_eq hlen]
      by_cases h : l = m <;> simp [h, exM]
    · intro i hi
      have hi2 : i < m.length := by omega
      simp only [inB_nat, toNat_cast, hi, hi2, decide_true, if_true, Int.ofNat_lt, next_i hi hl, beq_col]
      by_cases hq : l.getD i zCol = m.getD i zCol <;> simp [hq]
    · simp
    · rfl
  · rw [if_pos (by simp; omega)]
    simp [eq_len hlen]
theorem eq35 (l m : List TCell) (hl : l.length ≤ 4611686018427387904) : fn_35_SameCells l m = some (resB (decide (l = m))) := by
  unfold fn_35_SameCells
  by_cases hlen : l.length = m.length
  · rw [if_neg (by simp [hlen])]
    rw [for_all (fun i => ((l, (m, (((i : Nat) : Int), ()))), ())) l.length outU (outB false) (fun i => decide (l.getD i zCell = m.getD i zCell))]
    · rw [all_get_eq hlen]
      by_cases h : l = m <;> simp [h, exM]
    · intro i hi
      have hi2 : i < m.length := by omega
      simp only [inB_nat, toNat_cast, hi, hi2, decide_true, if_true, Int.ofNat_lt, next_i hi hl, beq_cell]
      by_cases hq : l.getD i zCell = m.getD i zCell <;> simp [hq]
    · simp
    · rfl
  · rw [if_pos (by simp; omega)]
    simp [eq_len hlen]
theorem eq60 (l m : List TCol) (hl : l.length ≤ 4611686018427387904) : fn_60_SameCols l m = some (resB (decide (l = m))) := by
  unfold fn_60_SameCols
  by_cases hlen : l.length = m.length
  · rw [if_neg (by simp [hlen])]
    rw [for_all (fun i => ((l, (m, (((i : Nat) : Int), ()))), ())) l.length outU (outB false) (fun i => decide (l.getD i zCol = m.getD i zCol))]
    · rw [all_get_eq hlen]
      by_cases h : l = m <;> simp [h, exM]
    · intro i hi
      have hi2 : i < m.length := by omega
      simp only [inB_nat, toNat_cast, hi, hi2, decide_true, if_true, Int.ofNat_lt, next_i hi hl, beq_col]
      by_cases hq : l.getD i zCol = m.getD i zCol <;> simp [hq]
    · simp
    · rfl
  · rw [if_pos (by simp; omega)]
    simp [eq_len hlen]
theorem eq45 (a b : TDDL) (hl : a.2.2.2.2.2.2.2.2.1.length ≤ 4611686018427387904) : fn_45_Same a b = some (resB (decide (a = b))) := by
  unfold fn_45_Same fn_72_flat
  rw [eq71 _ _ hl]
  simp only [Option.bind_some]
  by_cases h : a.2.2.2.2.2.2.2.2.1 = b.2.2.2.2.2.2.2.2.1
  · simp only [h, decide_true, if_true, Option.bind_some, Option.some.injEq, Prod.mk.injEq, and_true]
    rw [Bool.eq_iff_iff]; simp [Prod.ext_iff, and_assoc, h]
  · have : a ≠ b := fun e => h (by rw [e])
    simp [h, this]
theorem eq36 (a b : TDDL) (hl : a.2.2.2.2.2.2.2.2.1.length ≤ 4611686018427387904) : fn_36_Same a b = some (resB (decide (a = b))) := by
  unfold fn_36_Same
  rw [eq60 _ _ hl]
  obtain ⟨a1, a2, a3, a4, a5, ⟨a6, a7, _⟩, a8, ⟨a9, a10, a11, _⟩, a12, _⟩ := a
  obtain ⟨b1, b2, b3, b4, b5, ⟨b6, b7, _⟩, b8, ⟨b9, b10, b11, _⟩, b12, _⟩ := b
  simp only [Prod.mk.injEq, and_true, Option.bind_some]
  repeat' split
  all_goals simp_all
theorem eq23 (a b : TChange) (h1 : a.2.2.2.2.1.length ≤ 4611686018427387904) (h2 : a.2.2.2.2.2.1.2.2.2.2.2.2.2.2.1.length ≤ 4611686018427387904) : fn_23_sameChange a b = some (resB (decide (a = b))) := by
  unfold fn_23_sameChange
  obtain ⟨a1, a2, a3, ⟨a9, a10, a11, _⟩, a4, a5, _⟩ := a
  obtain ⟨b1, b2, b3, ⟨b9, b10, b11, _⟩, b4, b5, _⟩ := b
  simp only [Prod.mk.injEq, and_true, Option.bind_some]
  by_cases q1 : a1 = b1
  · by_cases q2 : a2 = b2
    · by_cases q3 : a3 = b3
      · by_cases q4 : a9 = b9 ∧ a10 = b10 ∧ a11 = b11
        · obtain ⟨rfl, rfl, rfl⟩ := q4
          subst q1 q2 q3
          simp only [bne_self_eq_false, beq_self_eq_true, Bool.not_true, if_true, Option.bind_some, Bool.and_self, Bool.false_eq_true, if_false]
          rw [eq44 _ _ h1]
          simp only [Option.bind_some]
          by_cases q5 : a4 = b4
          · subst q5
            simp only [decide_true, beq_self_eq_true, if_true, Option.bind_some]
            change ((fn_45_Same a5 b5).bind fun v4 => some v4).bind _ = _
            rw [eq45 a5 b5 h2]
            simp
          · simp [q5]
        · have hb : (a9 == b9 && (a10 == b10 && (a11 == b11 && true))) = false := by
            rw [← Bool.not_eq_true]
            simp only [Bool.and_eq_true, beq_iff_eq, and_true]
            exact q4
          have hne : ¬ (a9 = b9 ∧ a10 = b10 ∧ a11 = b11) := q4
          subst q1 q2 q3
          simp only [bne_self_eq_false, beq_self_eq_true, Bool.not_true, if_true, Option.bind_some, hb, Bool.not_false]
          simp [hne]
      · simp [q1, q2, q3]
    · simp [q1, q2]
  · simp [q1]

theorem eq20 (a b : TChange) (h1 : a.2.2.2.2.1.length ≤ 4611686018427387904) (h2 : a.2.2.2.2.2.1.2.2.2.2.2.2.2.2.1.length ≤ 4611686018427387904) : fn_20_SameChange a b = some (resB (decide (a = b))) := by
  unfold fn_20_SameChange
  rw [eq35 _ _ h1, eq36 _ _ h2]
  obtain ⟨a1, a2, a3, ⟨a9, a10, a11, _⟩, a4, a5, _⟩ := a
  obtain ⟨b1, b2, b3, ⟨b9, b10, b11, _⟩, b4, b5, _⟩ := b
  simp only [Prod.mk.injEq, and_true, Option.bind_some]
  repeat' split
  all_goals simp_all

/-- A change whose rows are no longer than any machine's. -/
def OkC (c : TChange) : Prop := c.2.2.2.2.1.length ≤ 4611686018427387904 ∧ c.2.2.2.2.2.1.2.2.2.2.2.2.2.2.1.length ≤ 4611686018427387904
theorem okC_getD {l : List TChange} (h : ∀ c ∈ l, OkC c) (i : Nat) : OkC (l.getD i zChange) := by
  rcases Nat.lt_or_ge i l.length with hi | hi
  · rw [show l.getD i zChange = l[i] by simp [List.getD, hi]]
    exact h _ (List.getElem_mem hi)
  · rw [show l.getD i zChange = zChange by simp [List.getD, List.getElem?_eq_none hi]]
    exact ⟨by simp [zChange], by simp [zChange, zDDL]⟩
theorem eq22 (l m : List TChange) (hl : l.length ≤ 4611686018427387904) (hc : ∀ c ∈ l, OkC c) : fn_22_EqualFunc l m = some (resB (decide (l = m))) := by
  unfold fn_22_EqualFunc
  by_cases hlen : l.length = m.length
  · rw [if_neg (by simp [hlen])]
    rw [for_all (fun i => ((m, (l, (((l.length : Nat) : Int), (((i : Nat) : Int), ())))), ())) l.length outU (outB false) (fun i => decide (l.getD i zChange = m.getD i zChange))]
    · rw [all_get_eq hlen]
      by_cases h : l = m <;> simp [h, exM]
    · intro i hi
      have hi2 : i < m.length := by omega
      obtain ⟨k1, k2⟩ := okC_getD hc i
      simp only [inB_nat, toNat_cast, hi, hi2, decide_true, if_true, Int.ofNat_lt, next_i hi hl, eq23 _ _ k1 k2, Option.bind_some]
      by_cases hq : l.getD i zChange = m.getD i zChange <;> simp [hq]
    · simp
    · rfl
  · rw [if_pos (by simp; omega)]
    simp [eq_len hlen]
/-- An event whose rows are no longer than any machine's. -/
def OkE (v : TEvent) : Prop := v.2.1.length ≤ 4611686018427387904 ∧ ∀ c ∈ v.2.1, OkC c
theorem eq11 (a b : TEvent) (h : OkE a) : fn_11_Same a b = some (resB (decide (a = b))) := by
  unfold fn_11_Same
  rw [eq22 _ _ h.1 h.2]
  obtain ⟨a1, a2, _⟩ := a
  obtain ⟨b1, b2, _⟩ := b
  simp only [Option.bind_some, Prod.mk.injEq, and_true]
  repeat' split
  all_goals simp_all
theorem eq9 (a b : TEvent) (h : OkE a) : fn_9_SameEvent a b = some (resB (decide (a = b))) := by
  unfold fn_9_SameEvent
  obtain ⟨a1, l, ⟨⟩⟩ := a
  obtain ⟨b1, m, ⟨⟩⟩ := b
  obtain ⟨hl, hc⟩ := h
  simp only at hl hc
  by_cases h1 : a1 = b1
  · subst h1
    by_cases hlen : l.length = m.length
    · simp only [bne_self_eq_false, beq_self_eq_true, if_true, hlen, Option.bind_some, Bool.false_eq_true, if_false]
      rw [for_all (fun i => ((((i : Nat) : Int), ()), ((a1, (l, ())), ((a1, (m, ())), ())))) l.length outU (outB false) (fun i => decide (l.getD i zChange = m.getD i zChange))]
      · rw [all_get_eq hlen]
        by_cases h : l = m <;> simp [h, exM]
      · intro i hi
        have hi2 : i < m.length := by omega
        obtain ⟨k1, k2⟩ := okC_getD hc i
        simp only [inB_nat, toNat_cast, hi, hi2, decide_true, if_true, Int.ofNat_lt, next_i hi hl, eq20 _ _ k1 k2, Option.bind_some]
        by_cases hq : l.getD i zChange = m.getD i zChange <;> simp [hq]
      · simp
      · rfl
    · have hne : l ≠ m := fun e => hlen (by rw [e])
      have : ((l.length : Int) != (m.length : Int)) = true := by simp; omega
      simp [this, hne]
  · simp [h1]
end Go.Proofs.YtmbhpophpbgkcaaDoor
