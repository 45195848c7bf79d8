/- EventTells: the sorted row without its doubles. -/
import Derived.Test.YtmbhpophpbgkcaaDoorLwT2
set_option linter.unusedSimpArgs false
set_option linter.unusedVariables false
namespace Go.Proofs.YtmbhpophpbgkcaaDoor
open Go.Eng

theorem sortB_length (l : List Bytes) : (sortB l).length = l.length := by simp [sortB]
theorem sortB_mem (l : List Bytes) (x : Bytes) : x ∈ sortB l ↔ x ∈ l := (List.mergeSort_perm l _).mem_iff
theorem sortB_up (l : List Bytes) : (sortB l).Pairwise (· ≤ ·) := by
  have := List.pairwise_mergeSort (le := fun (x y : Bytes) => decide (x ≤ y)) (fun a b c h1 h2 => by
    simp only [decide_eq_true_eq] at h1 h2 ⊢; exact List.le_trans h1 h2) (fun a b => by
    rcases List.le_total a b with h | h <;> simp [h]) l
  exact this.imp (fun h => by simpa using h)
theorem getD_app_left {l m : List Bytes} {i : Nat} (h : i < l.length) : (l ++ m).getD i [] = l.getD i [] := by
  rw [List.getD_eq_getElem?_getD, List.getD_eq_getElem?_getD, List.getElem?_append_left h]
theorem getD_drop {l m : List Bytes} {i : Nat} (h : l.length ≤ i) : (l ++ m.drop l.length).getD i [] = m.getD i [] := by
  rw [List.getD_eq_getElem?_getD, List.getD_eq_getElem?_getD, List.getElem?_append_right h, List.getElem?_drop]
  congr 2; omega

theorem sorted24 (a : List Bytes) (hl : a.length ≤ 4194304) : ∃ d, fn_24_Sorted a = some ((d, ()), ()) ∧ Rises a d := by
  unfold fn_24_Sorted
  rw [if_pos (by simp; omega)]
  simp only [List.nil_append]
  rw [if_pos (by simp; omega)]
  simp only [Option.bind_some, sortB_length, decide_true, Bool.and_self, if_true]
  have hsl := sortB_length a
  have hup := sortB_up a
  have hsm := sortB_mem a
  generalize sortB a = s at hsl hup hsm ⊢
  have hsr : ∀ d, Rises s d → Rises a d := fun d h => ⟨h.1, fun x => by rw [h.2, hsm]⟩
  suffices h : ∃ d, _ = some ((d, ()), ()) ∧ Rises s d by
    obtain ⟨d, h1, h2⟩ := h; exact ⟨d, h1, hsr d h2⟩
  rw [← hsl]
  refine for_bind (fun o => ∃ d, o = some ((d, ()), ()) ∧ Rises s d) (fun i (d : List Bytes) => ((((d.length : Nat) : Int), (((s.length : Nat) : Int), (((i : Nat) : Int), ()))), (d ++ s.drop d.length, ()))) s.length
    (fun i d => Rises (s.take i) d ∧ d.length ≤ i ∧ (0 < i → 0 < d.length ∧ d.getD (d.length - 1) [] = s.getD (i - 1) []))
    (fun y => ∃ d, y = ((((d.length : Nat) : Int), ()), (d ++ s.drop d.length, ())) ∧ Rises s d) [] rfl ⟨⟨by simp, by simp⟩, by simp, by omega⟩ ?step ?fin ?out
  case out =>
    rintro y ⟨d, rfl, h⟩
    refine ⟨d, ?_, h⟩
    simp only [toNat_cast, List.drop_zero, List.take_left']
  case fin =>
    rintro d ⟨hr, hd, _⟩
    rw [List.take_length] at hr
    refine ⟨_, ?_, d, rfl, hr⟩
    simp only [Int.ofNat_lt, Nat.lt_irrefl, decide_false, Bool.false_eq_true, if_false, toNat_cast]
  case step =>
    intro i d hi ⟨hr, hd, hlast⟩
    left
    have hal : (d ++ s.drop d.length).length = s.length := by simp; omega
    have hcur : (d ++ s.drop d.length).getD i [] = s.getD i [] := getD_drop hd
    have hprev : 0 < i → (d ++ s.drop d.length).getD (i - 1) [] = s.getD (i - 1) [] := fun h0 => by
      rcases Nat.lt_or_ge (i - 1) d.length with h | h
      · rw [getD_app_left h]
        obtain ⟨h1, h2⟩ := hlast h0
        rw [← h2]; congr 1; omega
      · exact getD_drop h
    have hnext := next_i hi (show s.length ≤ 4611686018427387904 by omega)
    have hsort : ∀ x ∈ s.take i, x ≤ s.getD i [] := by
      have hp := hup.sublist (List.take_sublist (i + 1) s)
      rw [take_next [] hi, List.pairwise_append] at hp
      exact fun x hx => hp.2.2 x hx _ (List.mem_singleton.2 rfl)
    have hmem : 0 < i → s.getD (i - 1) [] ∈ s.take i := fun h0 => by
      obtain ⟨k, rfl⟩ : ∃ k, i = k + 1 := ⟨i - 1, by omega⟩
      rw [take_next [] (by omega)]; simp
    -- is it new?
    by_cases hnew : i = 0 ∨ s.getD i [] ≠ s.getD (i - 1) []
    · refine ⟨d ++ [s.getD i []], ?_, ⟨?_, fun x => ?_⟩, by simp; omega, fun _ => ⟨by simp, ?_⟩⟩
      · have h2 : d.length + 1 ≤ s.length := by omega
        have h3 : List.take d.length (d ++ s.drop d.length) ++ [s.getD i []] ++ List.drop (d.length + 1) (d ++ s.drop d.length) = d ++ [s.getD i []] ++ s.drop (d ++ [s.getD i []]).length := by
          rw [List.take_left' rfl, ← List.drop_drop, List.drop_left' rfl, List.drop_drop]
          simp
        simp only [hal, Int.ofNat_lt, hi, decide_true, if_true, inB_nat, toNat_cast, hcur]
        rcases Nat.eq_zero_or_pos i with h0 | h0
        · subst h0
          have e0 : (((0 : Nat) : Int) == 0) = true := rfl
          simp only [e0, beq_self_eq_true, Bool.true_eq_false, if_false, Option.bind_some, if_true, Bool.true_beq, Bool.false_eq_true, hal, h2, hnext, Nat.zero_add, List.length_singleton, h3, decide_true, toNat_cast]
          simp only [List.length_append, List.length_singleton]
        · have hw : IntKind.wrap .i64 ((i : Int) - 1) = ((i - 1 : Nat) : Int) := by rw [wrap64_of (by omega) (by omega)]; omega
          have hlt1 : i - 1 < s.length := by omega
          have hne : ((i : Int) == 0) = false := by simp; omega
          have hq : (s.getD i [] == s.getD (i - 1) []) = false := by
            rw [beq_eq_false_iff_ne]
            rcases hnew with h | h
            · omega
            · exact h
          simp only [hne, hw, inB_nat, toNat_cast, hlt1, decide_true, if_true, hprev h0, hq, Bool.not_false, beq_self_eq_true, Option.bind_some, hal, h2, hnext, Nat.zero_add, List.length_singleton, h3]
          simp only [List.length_append, List.length_singleton]
      · rw [List.pairwise_append]
        refine ⟨hr.1, List.pairwise_singleton .., fun x hx y hy => ?_⟩
        rw [List.mem_singleton] at hy; subst hy
        have hle := hsort x ((hr.2 x).1 hx)
        by_cases q : x < s.getD i []
        · exact q
        · have he : x = s.getD i [] := List.le_antisymm hle q
          exfalso
          rcases hnew with h | h
          · subst h; simp at hd; subst hd; simp at hx
          · have h0 : 0 < i := by
              rcases Nat.eq_zero_or_pos i with h0 | h0
              · subst h0; simp at hd; subst hd; simp at hx
              · exact h0
            -- all that was is no more than the last; the last no more than this
            have hp := hup.sublist (List.take_sublist i s)
            have e0 : i = (i - 1) + 1 := by omega
            have hxm := (hr.2 x).1 hx
            rw [e0, take_next [] (by omega)] at hxm hp
            rw [List.pairwise_append] at hp
            have hxl : x ≤ s.getD (i - 1) [] := by
              rcases List.mem_append.1 hxm with r | r
              · exact hp.2.2 x r _ (List.mem_singleton.2 rfl)
              · rw [List.mem_singleton] at r; subst r; exact List.le_refl _
            refine h (List.le_antisymm (he ▸ hxl) ?_)
            exact hsort _ (hmem h0)
      · rw [take_next [] hi, List.mem_append, List.mem_append, hr.2 x]
      · simp
    · have h0 : 0 < i := by omega
      have hq : s.getD i [] = s.getD (i - 1) [] := by
        by_cases q : s.getD i [] = s.getD (i - 1) []
        · exact q
        · exact absurd (.inr q) hnew
      refine ⟨d, ?_, ⟨hr.1, fun x => ?_⟩, by omega, fun _ => ⟨(hlast h0).1, ?_⟩⟩
      · have hw : IntKind.wrap .i64 ((i : Int) - 1) = ((i - 1 : Nat) : Int) := by rw [wrap64_of (by omega) (by omega)]; omega
        have hlt1 : i - 1 < s.length := by omega
        have hne : ((i : Int) == 0) = false := by simp; omega
        simp only [hal, Int.ofNat_lt, hi, decide_true, if_true, inB_nat, toNat_cast, hcur, hne, hw, hlt1, hprev h0, hq, beq_self_eq_true, Bool.not_true, Option.bind_some, Bool.false_eq_true, if_false, hnext]
      · rw [take_next [] hi, List.mem_append, List.mem_singleton, hr.2 x]
        exact ⟨.inl, fun h => h.elim id (fun e => by rw [e, hq]; exact hmem h0)⟩
      · rw [(hlast h0).2, ← hq]; rfl
end Go.Proofs.YtmbhpophpbgkcaaDoor
