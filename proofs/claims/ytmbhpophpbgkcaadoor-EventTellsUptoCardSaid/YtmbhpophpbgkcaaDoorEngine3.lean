/- The engine of these proofs, part 3: how programs of the model are read as functions of data. No condition. -/
import Derived.Test.YtmbhpophpbgkcaaDoorEngine2
import Derived.ChangeArms
import Derived.ChangeSame
import Derived.Below
import Derived.Sort.Row
import Derived.Sort.Grow
import Derived.Sort.OwnSorted
import Derived.Sort.EncStr
/- Eng2I -/
section
set_option linter.unusedSimpArgs false
set_option linter.unusedVariables false
namespace Go.Eng
open Tree

structure Item where
  i : Nat
  o : Oper
  fid : Nat
  K : Nat
  R : List Nat
  W : List Nat
  A : List Nat
  m : St
  out : Out

def Item.app (it : Item) (t : St) : St := match it.out with
  | .ok sm v => { t with slots := setD t.slots it.o.dst v, sto := mergeS it.W it.fid it.K 0 t.sto sm }
  | .pan _ => t
def Item.Match (ops : Array Oper) (it : Item) (t : St) : Prop := maskSt (it.o.looksAt ops) it.R it.fid it.K t = it.m ∧ partOk t.sto it.R it.fid it.K = true
def Item.Good (E : Env) (ops : Array Oper) (it : Item) : Prop :=
  ops[it.i]? = some it.o ∧ (stepW E ops it.fid it.K it.m it.o).run = some (it.out, it.W) ∧ (outOk it.R it.W it.fid it.K it.m.sto.length it.out = true ∨ (pureO it.o.op = true ∧ it.K = 0))
def dstN : Option Nat → List Nat | some d => [d] | none => []
def fAp (f k f' k' : Nat) : Bool := Nat.ble (f + k) f' || Nat.ble (f' + k') f || Nat.beq k 0 || Nat.beq k' 0
def looseB (ops : Array Oper) (x y : Item) : Bool :=
  apartN (dstN x.o.dst) (y.o.looksAt ops) && apartN (dstN y.o.dst) (x.o.looksAt ops) && apartN (dstN x.o.dst) (dstN y.o.dst) && fAp x.fid x.K y.fid y.K &&
    (y.R.all fun k => !inF x.fid x.K k) && (x.R.all fun k => !inF y.fid y.K k)
def clashN (x y : Item) : List Nat := (x.W.filter fun k => memN k y.R) ++ (y.W.filter fun k => memN k x.R)
def Indep (ops : Array Oper) (x y : Item) : Prop := looseB ops x y = true ∧ clashN x y = []

section
variable {E : Env} {C : Cx} {ops : Array Oper} {x y it : Item} {t t' : St}

theorem match_congr (hl : t.slots.length = t'.slots.length) (hs : ∀ d ∈ it.o.looksAt ops, t.slots[d]? = t'.slots[d]?) (hsl : t.sto.length = t'.sto.length)
    (ho : ∀ id, id ∈ it.R ∨ inF it.fid it.K id = true → t.sto[id]? = t'.sto[id]?) (h : it.Match ops t) : it.Match ops t' := by
  obtain ⟨h1, h2⟩ := h
  constructor
  · rw [← h1]
    unfold maskSt
    congr 1
    · refine List.ext_getElem? fun i => ?_
      rw [maskL_get, maskL_get, Nat.zero_add]
      by_cases hi : i ∈ it.o.looksAt ops
      · rw [hs i hi]
      · simp only [hi, if_false]
        rcases Nat.lt_or_ge i t.slots.length with hlt | hge
        · rw [List.getElem?_eq_getElem hlt, List.getElem?_eq_getElem (hl ▸ hlt)]; rfl
        · rw [List.getElem?_eq_none hge, List.getElem?_eq_none (hl ▸ hge)]
    · refine List.ext_getElem? fun i => ?_
      rw [maskS_get, maskS_get, Nat.zero_add]
      by_cases hi : i ∈ it.R ∨ inF it.fid it.K i = true
      · rw [ho i hi]
      · have h1 : i ∉ it.R := fun q => hi (.inl q)
        have h2 : ¬ inF it.fid it.K i = true := fun q => hi (.inr q)
        simp only [h1, h2, if_false]
        rcases Nat.lt_or_ge i t.sto.length with hlt | hge
        · rw [List.getElem?_eq_getElem hlt, List.getElem?_eq_getElem (hsl ▸ hlt)]; rfl
        · rw [List.getElem?_eq_none hge, List.getElem?_eq_none (hsl ▸ hge)]
  · simp only [partOk, Bool.and_eq_true, List.all_eq_true, Bool.or_eq_true] at h2 ⊢
    obtain ⟨⟨q1, q2⟩, q3⟩ := h2
    refine ⟨⟨fun id hid => ⟨(q1 id hid).1, ?_⟩, fun id hid => ?_⟩, ?_⟩
    · have := (q1 id hid).2
      unfold heldN at this ⊢
      rw [← ho id (.inl hid)]; exact this
    · have := q2 id hid
      unfold freeN at this ⊢
      rw [← ho id (.inr (inF_iff.2 (upN_mem.1 hid)))]; exact this
    · rw [← hsl]; exact q3

theorem good_pure (hg : it.Good E ops) (hp : pureO it.o.op = true) (hk : it.K = 0) : it.W = [] ∧ ∃ v, it.out = .ok it.m.sto v := by
  have h := hg.2.1
  rw [hk] at h
  exact pure_out (t := it.m) hp h
theorem good_len (hg : it.Good E ops) (hm : it.Match ops t) {sm : List Ob} {v : AV} (ho : it.out = .ok sm v) : sm.length = t.sto.length := by
  have hl : it.m.sto.length = t.sto.length := by rw [← hm.1]; exact maskS_length
  rcases hg.2.2 with h3 | ⟨hp, hk⟩
  · rw [ho] at h3
    simp only [outOk, Bool.and_eq_true] at h3
    have := Nat.eq_of_beq_eq_true h3.1.1.1.1
    rw [this]; exact hl
  · obtain ⟨_, v', q⟩ := good_pure hg hp hk
    rw [ho] at q
    simp only [Out.ok.injEq] at q
    rw [q.1]; exact hl
theorem good_sub (hg : it.Good E ops) : ∀ id ∈ it.W, id ∈ it.R := by
  rcases hg.2.2 with h3 | ⟨hp, hk⟩
  · cases ho : it.out with
    | ok sm v =>
      rw [ho] at h3
      simp only [outOk, Bool.and_eq_true] at h3
      exact subN_iff.1 h3.1.1.1.2
    | pan v =>
      rw [ho] at h3
      exact subN_iff.1 h3
  · rw [(good_pure hg hp hk).1]
    intro id hid; cases hid

theorem setD_length {s : List AV} {d : Option Nat} {v : AV} : (setD s d v).length = s.length := by cases d <;> simp [setD]
theorem setD_get {s : List AV} {d : Option Nat} {v : AV} {i : Nat} (h : i ∉ dstN d) : (setD s d v)[i]? = s[i]? := by
  cases d with
  | none => rfl
  | some d =>
    simp only [dstN, List.mem_singleton] at h
    simp only [setD, List.getElem?_set]
    rw [if_neg (fun e => h e.symm)]
theorem setD_comm {s : List AV} {d e : Option Nat} {u v : AV} (h : ∀ i ∈ dstN d, i ∉ dstN e) : setD (setD s d u) e v = setD (setD s e v) d u := by
  cases d with
  | none => rfl
  | some d => cases e with
    | none => rfl
    | some e =>
      have : d ≠ e := fun q => h d (by simp [dstN]) (by simp [dstN, q])
      simp only [setD]
      rw [List.set_comm _ _ this]

theorem app_sto (hg : it.Good E ops) (hm : it.Match ops t) {sm : List Ob} {v : AV} (ho : it.out = .ok sm v) (id : Nat) :
    (it.app t).sto[id]? = if inF it.fid it.K id = true ∨ id ∈ it.W then sm[id]? else t.sto[id]? := by
  have e : it.app t = { t with slots := setD t.slots it.o.dst v, sto := mergeS it.W it.fid it.K 0 t.sto sm } := by simp only [Item.app, ho]
  rw [e]
  show (mergeS it.W it.fid it.K 0 t.sto sm)[id]? = _
  rw [mergeS_get (good_len hg hm ho).symm, Nat.zero_add]
theorem app_sto_len (t : St) : (it.app t).sto.length = t.sto.length := by
  unfold Item.app; split
  · exact mergeS_length
  · rfl
theorem app_slots_len (t : St) : (it.app t).slots.length = t.slots.length := by
  unfold Item.app; split
  · exact setD_length
  · rfl
theorem app_slots (t : St) {d : Nat} (h : d ∉ dstN it.o.dst) : (it.app t).slots[d]? = t.slots[d]? := by
  unfold Item.app; split
  · exact setD_get h
  · rfl

theorem indep_spec (hi : Indep ops x y) : (∀ d ∈ dstN x.o.dst, d ∉ y.o.looksAt ops) ∧ (∀ d ∈ dstN y.o.dst, d ∉ x.o.looksAt ops) ∧ (∀ d ∈ dstN x.o.dst, d ∉ dstN y.o.dst) ∧
    (∀ id, inF x.fid x.K id = true → inF y.fid y.K id = true → False) ∧ (∀ id ∈ y.R, inF x.fid x.K id = false) ∧ (∀ id ∈ x.R, inF y.fid y.K id = false) ∧ (∀ id ∈ x.W, id ∉ y.R) ∧ (∀ id ∈ y.W, id ∉ x.R) := by
  obtain ⟨h1, h2⟩ := hi
  simp only [looseB, Bool.and_eq_true, List.all_eq_true, Bool.not_eq_true', apartN_iff] at h1
  obtain ⟨⟨⟨⟨⟨a1, a2⟩, a3⟩, a4⟩, a5⟩, a6⟩ := h1
  refine ⟨a1, a2, a3, fun id p q => ?_, a5, a6, fun id p q => ?_, fun id p q => ?_⟩
  · have p := inF_iff.1 p
    have q := inF_iff.1 q
    simp only [fAp, Bool.or_eq_true, Nat.ble_eq] at a4
    rcases a4 with ((r | r) | r) | r
    · omega
    · omega
    · have := Nat.eq_of_beq_eq_true r; omega
    · have := Nat.eq_of_beq_eq_true r; omega
  · have : id ∈ clashN x y := List.mem_append_left _ (List.mem_filter.2 ⟨p, memN_iff.2 q⟩)
    rw [h2] at this; cases this
  · have : id ∈ clashN x y := List.mem_append_right _ (List.mem_filter.2 ⟨p, memN_iff.2 q⟩)
    rw [h2] at this; cases this

theorem swap (gx : x.Good E ops) (gy : y.Good E ops) (hi : Indep ops x y) (mx : x.Match ops t) {sx : List Ob} {vx : AV} (ox : x.out = .ok sx vx) (my : y.Match ops (x.app t)) :
    y.Match ops t ∧ ∀ sy vy, y.out = .ok sy vy → x.Match ops (y.app t) ∧ y.app (x.app t) = x.app (y.app t) := by
  obtain ⟨a1, a2, a3, a4, a5, a6, a7, a8⟩ := indep_spec hi
  have hy : y.Match ops t := by
    refine match_congr (app_slots_len t) (fun d hd => app_slots t (fun q => a1 d q hd)) (app_sto_len t) (fun id hid => ?_) my
    rw [app_sto gx mx ox, if_neg]
    rintro (q | q)
    · rcases hid with h | h
      · rw [a5 id h] at q; cases q
      · exact a4 id q h
    · rcases hid with h | h
      · exact a7 id q h
      · rw [a6 id (good_sub gx id q)] at h; cases h
  refine ⟨hy, fun sy vy oy => ?_⟩
  have hx : x.Match ops (y.app t) := by
    refine match_congr (app_slots_len t).symm (fun d hd => (app_slots t (fun q => a2 d q hd)).symm) (app_sto_len t).symm (fun id hid => ?_) mx
    rw [app_sto gy hy oy, if_neg]
    rintro (q | q)
    · rcases hid with h | h
      · rw [a6 id h] at q; cases q
      · exact a4 id h q
    · rcases hid with h | h
      · exact a8 id q h
      · rw [a5 id (good_sub gy id q)] at h; cases h
  refine ⟨hx, ?_⟩
  have ex : ∀ t, x.app t = { t with slots := setD t.slots x.o.dst vx, sto := mergeS x.W x.fid x.K 0 t.sto sx } := fun t => by simp only [Item.app, ox]
  have ey : ∀ t, y.app t = { t with slots := setD t.slots y.o.dst vy, sto := mergeS y.W y.fid y.K 0 t.sto sy } := fun t => by simp only [Item.app, oy]
  have hs : (y.app (x.app t)).sto = (x.app (y.app t)).sto := by
    refine List.ext_getElem? fun id => ?_
    rw [app_sto gy my oy, app_sto gx hx ox, app_sto gx mx ox, app_sto gy hy oy]
    by_cases h1 : inF y.fid y.K id = true ∨ id ∈ y.W <;> by_cases h2 : inF x.fid x.K id = true ∨ id ∈ x.W
    · exfalso
      rcases h1 with h1 | h1 <;> rcases h2 with h2 | h2
      · exact a4 id h2 h1
      · rw [a6 id (good_sub gx id h2)] at h1; cases h1
      · rw [a5 id (good_sub gy id h1)] at h2; cases h2
      · exact a7 id h2 (good_sub gy id h1)
    · rw [if_pos h1, if_neg h2, if_pos h1]
    · rw [if_neg h1, if_pos h2, if_pos h2]
    · rw [if_neg h1, if_neg h2, if_neg h2, if_neg h1]
  have hsl : (y.app (x.app t)).slots = (x.app (y.app t)).slots := by
    rw [ey, ex, ex, ey]
    exact setD_comm a3
  have hr : (y.app (x.app t)).rts = (x.app (y.app t)).rts := by rw [ey, ex, ex, ey]
  have hkn : (y.app (x.app t)).known = (x.app (y.app t)).known := by rw [ey, ex, ex, ey]
  cases h1 : y.app (x.app t)
  cases h2 : x.app (y.app t)
  rw [h1, h2] at hs hsl hr hkn
  simp only at hs hsl hr hkn
  rw [hs, hsl, hr, hkn]

def Chain (ops : Array Oper) : List Item → St → SR → Prop
  | [], t, sr => ∃ k, sr = .st { t with known := k }
  | it :: r, t, sr => it.Match ops t ∧ match it.out with
    | .ok _ _ => Chain ops r (it.app t) sr
    | .pan v => r = [] ∧ sr = .pan v

theorem match_known {it : Item} {t : St} (h : it.Match ops t) (k : List Nat) : it.Match ops { t with known := k } := h
theorem app_known (it : Item) (t : St) (k : List Nat) : it.app { t with known := k } = { it.app t with known := k } := by
  unfold Item.app; split <;> rfl
theorem chain_known {sr : SR} (k : List Nat) : ∀ {l : List Item} {t : St}, Chain ops l { t with known := k } sr → Chain ops l t sr
  | [], t, h => h
  | it :: r, t, h => by
    obtain ⟨h1, h2⟩ := h
    refine ⟨h1, ?_⟩
    cases ho : it.out with
    | ok sm v =>
      rw [ho] at h2
      rw [app_known] at h2
      exact chain_known k h2
    | pan v => rw [ho] at h2; exact h2

theorem chain_move (hy : y.Good E ops) {sr : SR} {l2 : List Item} : ∀ {l1 : List Item} {t : St}, (∀ x ∈ l1, x.Good E ops ∧ Indep ops x y) → Chain ops (l1 ++ y :: l2) t sr →
    y.Match ops t ∧ ((∃ sm v, y.out = .ok sm v ∧ Chain ops (l1 ++ l2) (y.app t) sr) ∨ ∃ v, y.out = .pan v ∧ sr = .pan v)
  | [], t, _, h => by
    obtain ⟨h1, h2⟩ := h
    refine ⟨h1, ?_⟩
    cases ho : y.out with
    | ok sm v => rw [ho] at h2; exact .inl ⟨sm, v, rfl, h2⟩
    | pan v => rw [ho] at h2; exact .inr ⟨v, rfl, h2.2⟩
  | x :: l1, t, hx, h => by
    obtain ⟨h1, h2⟩ := h
    obtain ⟨gx, ix⟩ := hx x (by simp)
    cases ho : x.out with
    | ok sx vx =>
      rw [ho] at h2
      obtain ⟨k1, k2⟩ := chain_move hy (l1 := l1) (fun z hz => hx z (by simp [hz])) h2
      obtain ⟨s1, s2⟩ := swap gx hy ix h1 ho k1
      refine ⟨s1, ?_⟩
      rcases k2 with ⟨sy, vy, hoy, k2⟩ | k2
      · obtain ⟨s3, s4⟩ := s2 _ _ hoy
        refine .inl ⟨sy, vy, hoy, s3, ?_⟩
        rw [ho]
        rw [s4] at k2; exact k2
      · exact .inr k2
    | pan v =>
      rw [ho] at h2
      have := h2.1
      simp at this

/-! ### Orders -/
def predsO (o : Oper) : List Nat := o.after.toList.filterMap fun e => if Region.binds .any e then some e.on else none
theorem predsO_mem {o : Oper} {k : Nat} : k ∈ predsO o ↔ ∃ e ∈ o.after, Region.binds .any e = true ∧ e.on = k := by
  simp only [predsO, List.mem_filterMap, Array.mem_toList_iff]
  constructor
  · rintro ⟨e, he, h⟩
    split at h
    · rename_i hb; exact ⟨e, he, hb, by simpa using h⟩
    · cases h
  · rintro ⟨e, he, hb, h⟩
    exact ⟨e, he, by simp [hb, h]⟩

def Topo (ls : Array Bool) : List Nat → List Item → Prop
  | _, [] => True
  | prev, x :: r => (∀ k ∈ predsO x.o, ls.getD k false = true ∨ k ∈ prev) ∧ Topo ls (x.i :: prev) r
theorem topo_weak {ls ls' : Array Bool} (h : ∀ k, ls.getD k false = true → ls'.getD k false = true) : ∀ {l : List Item} {p p' : List Nat}, (∀ k ∈ p, ls'.getD k false = true ∨ k ∈ p') → Topo ls p l → Topo ls' p' l
  | [], _, _, _, _ => trivial
  | x :: r, p, p', hp, ht => by
    refine ⟨fun k hk => (ht.1 k hk).elim (fun q => .inl (h k q)) (hp k), topo_weak h (fun k hk => ?_) ht.2⟩
    rcases List.mem_cons.1 hk with rfl | hk
    · exact .inr (by simp)
    · exact (hp k hk).imp id (fun q => by simp [q])
theorem topo_drop {ls : Array Bool} {l2 : List Item} (hy : y.i < ls.size) : ∀ {l1 : List Item} {p : List Nat}, Topo ls p (l1 ++ y :: l2) → Topo (ls.setIfInBounds y.i true) p (l1 ++ l2)
  | [], p, h => by
    refine topo_weak (fun k hk => getD_set_true hk) (fun k hk => ?_) h.2
    rcases List.mem_cons.1 hk with rfl | hk
    · left; simp [hy]
    · exact .inr hk
  | x :: l1, p, h => ⟨fun k hk => (h.1 k hk).imp (fun q => getD_set_true q) id, topo_drop hy h.2⟩

theorem unlisted_iff {ls : Array Bool} {k : Nat} (hk : k < ls.size) : ls.getD k true = false ↔ ¬ ls.getD k false = true := by
  simp [hk]

theorem any_sound {Q : Exit → Act → World → Prop} {sr : SR} {full : List Item} {rest : List Nat} {p : Nat} (hE : E.OkAt C) (hgood : ∀ z ∈ full, z.Good E ops)
    (hA : ∀ z ∈ full, ∀ k ∈ z.A, k ∈ predsO z.o ∨ ∃ y ∈ full, y.i ∈ predsO z.o ∧ k ∈ y.A) (hfin : Goes E.P C sr (Q .normal) Q)
    (hrest : ∀ r ∈ rest, ∃ o, ops[r]? = some o ∧ ∃ k ∈ predsO o, k = p ∨ k ∈ rest) (hpan : rest ≠ [] → ∀ z ∈ full, z.i = p → ∃ v, z.out = .pan v) :
    ∀ (n : Nat) (its : List Item) (fuel : Nat) (ls : Array Bool) (t : St) (a : Act) (w : World) (μ : Nat → Option Nat), its.length = n → n ≤ fuel → (∀ z ∈ its, z ∈ full) → Chain ops its t sr →
      its.Pairwise (fun x y => x.i ∈ y.A ∨ Indep ops x y) → ls.size = ops.size → (∀ j, j < ops.size → (ls.getD j true = false ↔ j ∈ its.map (·.i) ∨ j ∈ rest)) → (its.map (·.i)).Nodup →
      (∀ r ∈ rest, r ∉ its.map (·.i)) → (rest ≠ [] → p ∈ its.map (·.i)) → (∀ z ∈ full, ls.getD z.i false = true → ∀ k ∈ z.A, ls.getD k false = true) → Topo ls [] its → RelW E.P C t a w μ →
      wpAny E.P .any ops Q fuel ls a w := by
  intro n
  induction n with
  | zero =>
    intro its fuel ls t a w μ hn hf hsub hc hp hsz hls hnd hrd hpi hdown htopo h
    have : its = [] := List.eq_nil_of_length_eq_zero hn
    subst this
    have hr : rest = [] := by
      cases rest with
      | nil => rfl
      | cons r rs => have := hpi (by simp); simp at this
    subst hr
    refine wpAny_done ?_ ?_ fuel
    · rw [List.eq_nil_iff_forall_not_mem]
      intro j hj
      obtain ⟨q1, o, q2, _⟩ := mem_ready.1 hj
      have hlt : j < ops.size := by
        rcases Nat.lt_or_ge j ops.size with h' | h'
        · exact h'
        · rw [Array.getElem?_eq_none h'] at q2; cases q2
      have := (hls j hlt).1 q1
      simp at this
    · obtain ⟨k, hc⟩ := hc
      subst hc
      exact hfin a w μ (h.known k)
  | succ n ih =>
    intro its fuel ls t a w μ hn hf hsub hc hp hsz hls hnd hrd hpi hdown htopo h
    obtain ⟨fuel, rfl⟩ : ∃ f, fuel = f + 1 := ⟨fuel - 1, by omega⟩
    have ilt : ∀ z ∈ full, z.i < ops.size := fun z hz => by
      have := (hgood z hz).1
      rcases Nat.lt_or_ge z.i ops.size with h' | h'
      · exact h'
      · rw [Array.getElem?_eq_none h'] at this; cases this
    refine ⟨fun hnil => ?_, fun j hj => ?_⟩
    · -- the first one is ready
      exfalso
      cases its with
      | nil => simp at hn
      | cons x r =>
        have hx := hsub x (by simp)
        have : x.i ∈ Region.ready .any ops ls := by
          refine mem_ready.2 ⟨(hls x.i (ilt x hx)).2 (.inl (by simp)), x.o, (hgood x hx).1, fun e he hb => ?_⟩
          rcases htopo.1 e.on (predsO_mem.2 ⟨e, he, hb, rfl⟩) with q | q
          · exact q
          · cases q
        rw [hnil] at this; cases this
    · obtain ⟨q1, o, q2, q3⟩ := mem_ready.1 hj
      have hjlt : j < ops.size := by
        rcases Nat.lt_or_ge j ops.size with h' | h'
        · exact h'
        · rw [Array.getElem?_eq_none h'] at q2; cases q2
      have hpreds : ∀ k ∈ predsO o, ls.getD k false = true := fun k hk => by
        obtain ⟨e, he, hb, rfl⟩ := predsO_mem.1 hk
        exact q3 e he hb
      have notl : ∀ k, (k ∈ its.map (·.i) ∨ k ∈ rest) → k < ops.size → ls.getD k false = true → False := fun k hk hlt hl =>
        (unlisted_iff (by rw [hsz]; exact hlt)).1 ((hls k hlt).2 hk) hl
      have listed_lt : ∀ k, ls.getD k false = true → k < ops.size := fun k hk => by
        rcases Nat.lt_or_ge k ls.size with h' | h'
        · rw [← hsz]; exact h'
        · simp [Array.getElem?_eq_none h'] at hk
      rcases (hls j hjlt).1 q1 with hji | hjr
      · obtain ⟨y, hy, rfl⟩ := List.mem_map.1 hji
        obtain ⟨l1, l2, rfl⟩ := List.append_of_mem hy
        have hyf := hsub y hy
        have gy := hgood y hyf
        have hoy : o = y.o := by have := gy.1; rw [q2] at this; exact Option.some.inj this
        subst hoy
        have hyA : ∀ z ∈ full, (∀ k ∈ predsO z.o, ls.getD k false = true) → ∀ k ∈ z.A, ls.getD k false = true := fun z hz hpz k hk => by
          rcases hA z hz k hk with r | ⟨z', r1, r2, r3⟩
          · exact hpz k r
          · exact hdown z' r1 (hpz _ r2) k r3
        have hind : ∀ x ∈ l1, x.Good E ops ∧ Indep ops x y := fun x hx => by
          have hxf := hsub x (by simp [hx])
          refine ⟨hgood x hxf, ?_⟩
          have := (List.pairwise_append.1 hp).2.2 x hx y (by simp)
          rcases this with r | r
          · exact (notl x.i (.inl (by simp only [List.map_append, List.mem_append, List.mem_map]; exact .inl ⟨x, hx, rfl⟩)) (ilt x hxf) (hyA y hyf hpreds _ r)).elim
          · exact r
        obtain ⟨m1, m2⟩ := chain_move gy hind hc
        have hlen : y.m.sto.length = t.sto.length := by rw [← m1.1]; exact maskS_length
        unfold wpOp
        simp only [q2]
        have both : ∀ {next}, PartNxt E.P C t y.o.dst y.W y.fid y.K next Q y.out → if Region.wanted y.o (yielded ops a.tmps) then y.o.wp E.P a w next Q ∨ (y.o.asks E.P a w ∧ LetsOut Q) else next (a.put y.o.dst undef) w := by
          intro next hnx
          rcases gy.2.2 with h3 | ⟨hp', hk'⟩
          · exact part_step hE h m1.2 (L := y.o.looksAt ops) (out := y.out) (W := y.W) (by rw [m1.1]; exact gy.2.1) (by rw [← hlen]; exact h3) hnx
          · have hm1 := m1.1
            have hrun := gy.2.1
            rw [hk'] at hm1 hrun hnx
            exact pure_step (R := y.R) (fid := y.fid) (W := y.W) (out := y.out) hE h hp' (by rw [hm1]; exact hrun) hnx
        refine both ?_
        rcases m2 with ⟨sm, v, hout, m2⟩ | ⟨v, hout, m2⟩
        rotate_left
        · rw [hout]
          subst m2
          exact hfin
        · rw [hout]
          intro a' w' μ' r
          have eapp : y.app t = { t with slots := setD t.slots y.o.dst v, sto := mergeS y.W y.fid y.K 0 t.sto sm } := by simp only [Item.app, hout]
          rw [← eapp] at r
          have hylt : y.i < ls.size := by rw [hsz]; exact hjlt
          have hnot : ∀ k, k ∈ (l1 ++ l2).map (·.i) ↔ k ∈ (l1 ++ y :: l2).map (·.i) ∧ k ≠ y.i := by
            intro k
            simp only [List.map_append, List.map_cons, List.nodup_append, List.nodup_cons] at hnd
            simp only [List.map_append, List.map_cons, List.mem_append, List.mem_cons]
            constructor
            · rintro (q | q)
              · refine ⟨.inl q, fun e => ?_⟩
                subst e
                exact hnd.2.2 _ q _ (by simp) rfl
              · refine ⟨.inr (.inr q), fun e => ?_⟩
                subst e
                exact hnd.2.1.1 q
            · rintro ⟨q | q | q, hne⟩
              · exact .inl q
              · exact absurd q hne
              · exact .inr q
          refine ih (l1 ++ l2) fuel (ls.setIfInBounds y.i true) (y.app t) a' w' μ' ?_ (by omega) (fun z hz => hsub z ?_) m2 ?_ (by simp [hsz]) (fun k hk => ?_) ?_ ?_ ?_ ?_ (topo_drop hylt htopo) r
          · simp only [List.length_append, List.length_cons] at hn ⊢; omega
          · simp only [List.mem_append, List.mem_cons] at hz ⊢; rcases hz with q | q <;> simp [q]
          · exact hp.sublist (by simp)
          · by_cases hky : k = y.i
            · subst hky
              have : ((ls.setIfInBounds y.i true).getD y.i true = false) ↔ False := by simp [hylt]
              rw [this]
              simp only [false_iff, not_or]
              exact ⟨fun q => ((hnot _).1 q).2 rfl, fun q => hrd _ q hji⟩
            · rw [getD_set_ne true (fun e => hky e.symm), hls k hk, hnot]
              simp [hky]
          · exact hnd.sublist (List.Sublist.map _ (by simp))
          · intro r hr q
            exact hrd r hr ((hnot r).1 q).1
          · intro hr
            refine (hnot p).2 ⟨hpi hr, fun e => ?_⟩
            obtain ⟨v', hv'⟩ := hpan hr y hyf e.symm
            rw [hout] at hv'; cases hv'
          · intro z hz hl k hk
            by_cases hzy : z.i = y.i
            · have ho2 : z.o = y.o := by
                have h1 := (hgood z hz).1
                rw [hzy, q2] at h1
                exact (Option.some.inj h1).symm
              exact getD_set_true (hyA z hz (by rw [ho2]; exact hpreds) k hk)
            · rw [getD_set_ne false (fun e => hzy e.symm)] at hl
              exact getD_set_true (hdown z hz hl k hk)
      · exfalso
        obtain ⟨o', r1, k, r2, r3⟩ := hrest j hjr
        rw [q2] at r1; cases r1
        have hl := hpreds k r2
        have hk : k ∈ its.map (·.i) ∨ k ∈ rest := by
          rcases r3 with rfl | r3
          · exact .inl (hpi (by intro e; rw [e] at hjr; cases hjr))
          · exact .inr r3
        exact notl k hk (listed_lt k hl) hl
end
end Go.Eng
end

/- Eng2J -/
section
set_option linter.unusedSimpArgs false
set_option linter.unusedVariables false
namespace Go.Eng
open Tree

inductive DR where
  | fin (sr : SR)
  | again (ids : List Nat)

def reachN (sto : List Ob) : Nat → List Nat → List Nat → List Nat
  | 0, _, acc => acc
  | _ + 1, [], acc => acc
  | n + 1, id :: r, acc => if memN id acc then reachN sto n r acc else match sto[id]? with
    | some .free => reachN sto n r acc
    | none => reachN sto n r acc
    | some o => reachN sto n (refsO o ++ r) (id :: acc)
def refsS (slots : List AV) : List Nat → List Nat
  | [] => []
  | d :: r => (match slots[d]? with | some v => refsA v | none => []) ++ refsS slots r
/-- How many new objects an operation may place. -/
def kOf (E : Env) (o : Oper) : Nat := match o.op with
  | .call c => match c.callee with
    | .value (.func g) => match findF E.funs g with | some fs => fs.post.objs.length - fs.roots | none => 0
    | .value _ => 2
    | _ => 1
  | .alloc _ | .box _ _ | .buildSlice _ _ _ | .makeSlice _ _ _ | .convert _ _ _ => 1
  | _ => 0
def sumK (E : Env) (ops : Array Oper) : List Nat → Nat
  | [] => 0
  | i :: r => (match ops[i]? with | some o => kOf E o | none => 0) + sumK E ops r
def ancA (its : List Item) (ps : List Nat) : List Nat := match its with
  | [] => []
  | y :: r => (if memN y.i ps then y.A else []) ++ ancA r ps
def nubN : List Nat → List Nat
  | [] => []
  | k :: r => if memN k r then nubN r else k :: nubN r
def clash (ops : Array Oper) (y : Item) : List Item → Option (List Nat)
  | [] => some []
  | x :: r => match clash ops y r with
    | none => none
    | some ids => if memN x.i y.A then some ids else if looseB ops x y then some (clashN x y ++ ids) else none
def restOk (ops : Array Oper) : List Nat → List Nat → Bool
  | _, [] => true
  | seen, r :: rs => (match ops[r]? with | some o => (predsO o).any fun k => memN k seen | none => false) && restOk ops (r :: seen) rs
def isN (its : List Item) : List Nat := its.map (·.i)

def itemAt (E : Env) (ops : Array Oper) (i : Nat) (o : Oper) (fid K : Nat) (A R : List Nat) (t : St) : Tree Item :=
  (stepW E ops fid K (maskSt (o.looksAt ops) R fid K t) o).map fun r => ⟨i, o, fid, K, R, r.2, A, maskSt (o.looksAt ops) R fid K t, r.1⟩

/-- What an operation looks at: what its operands speak of, and, if it may change something, all that can be come to from there. -/
def seesN (t : St) (ops : Array Oper) (o : Oper) : List Nat :=
  if pureO o.op then (nubN (refsS t.slots (o.looksAt ops))).filter (heldN t.sto) else reachN t.sto 400 (refsS t.slots (o.looksAt ops)) []

/-- The slot that decides whether an operation is done, if its truth is not known yet. -/
def askO (ops : Array Oper) (o : Oper) (t : St) : Option (Nat × Bool) :=
  match o.guard with
  | none => none
  | some (j, _) => match (ops[j]?).bind (·.dst) with
    | some d => if memN d t.known then none else match t.slots[d]? with
      | some (.one (.val .bool b)) => some (d, b)
      | _ => none
    | none => none
def knowSt (t : St) (d : Nat) (b : Bool) : St := { t with slots := t.slots.set d (.one (.val .bool b)), known := d :: t.known }

def goD (E : Env) (ops : Array Oper) : List Nat → List Item → Nat → St → Tree DR
  | [], _, _, t => leaf (.fin (.st t))
  | i :: r, its, fid, t => match ops[i]? with
    | none => fail
    | some o =>
      let go : St → Tree DR := fun t =>
        if (predsO o).all (fun k => memN k (isN its)) && !memN i (isN its) && partOk t.sto (seesN t ops o) (if Nat.beq (kOf E o) 0 then t.sto.length else fid) (kOf E o) then
          (itemAt E ops i o (if Nat.beq (kOf E o) 0 then t.sto.length else fid) (kOf E o) (nubN (predsO o ++ ancA its (predsO o))) (seesN t ops o) t).bind fun it =>
            if outOk it.R it.W it.fid it.K it.m.sto.length it.out || (pureO it.o.op && Nat.beq it.K 0) then
              match clash ops it its with
              | none => fail
              | some (k :: ks) => leaf (.again (k :: ks))
              | some [] => match it.out with
                | .ok _ _ => goD E ops r (it :: its) (fid + kOf E o) (it.app t)
                | .pan v => if restOk ops [i] r && apartN r (i :: isN its) then leaf (.fin (.pan v)) else fail
            else fail
        else fail
      match askO ops o t with
      | some (d, b) => .ite b (go (knowSt t d true)) (go (knowSt t d false))
      | none => go t

def isPanO (E : Env) (ops : Array Oper) (i : Nat) : Bool := match ops[i]? with
  | some o => match o.op with
    | .call c => match c.callee with
      | .value (.func g) => match findF E.funs g with | some fs => fs.pan | none => false
      | _ => false
    | _ => false
  | none => false
def readyN (ops : Array Oper) (done : List Nat) (i : Nat) : Bool := !memN i done && match ops[i]? with | some o => (predsO o).all fun k => memN k done | none => false
def canonGo (E : Env) (ops : Array Oper) : Nat → List Nat → List Nat
  | 0, done => done.reverse
  | n + 1, done => match (upN ops.size 0).find? fun i => readyN ops done i && !isPanO E ops i with
    | some i => canonGo E ops n (i :: done)
    | none => match (upN ops.size 0).find? fun i => readyN ops done i with
      | some i => canonGo E ops n (i :: done)
      | none => done.reverse
def canon (E : Env) (ops : Array Oper) : List Nat := canonGo E ops ops.size []

def padSt (E : Env) (ops : Array Oper) (order : List Nat) (st : St) : St := { st with sto := st.sto ++ List.replicate (sumK E ops order) .free }

def regD (E : Env) (ops : Array Oper) (order : List Nat) : Nat → St → Tree SR
  | 0, _ => fail
  | n + 1, st => (goD E ops order [] st.sto.length (padSt E ops order st)).bind fun d => match d with
    | .fin sr => leaf sr
    | .again ids => regD E ops order n { st with sto := frz st.sto ids }
def regDraw (E : Env) (ops : Array Oper) (st : St) : Tree SR :=
  if (upN ops.size 0).all (fun i => memN i (canon E ops)) && Nat.ble (canon E ops).length ops.size then regD E ops (canon E ops) 6 st else fail

section
variable {E : Env} {C : Cx} {ops : Array Oper} {st : St} {a : Act} {w : World} {μ : Nat → Option Nat}

theorem nubN_sub {k : Nat} : ∀ {l : List Nat}, k ∈ nubN l → k ∈ l
  | [], h => h
  | a :: r, h => by
    rw [nubN] at h
    split at h
    · exact List.mem_cons_of_mem _ (nubN_sub h)
    · rcases List.mem_cons.1 h with rfl | h
      · simp
      · exact List.mem_cons_of_mem _ (nubN_sub h)
theorem ancA_sub {k : Nat} {ps : List Nat} : ∀ {its : List Item}, k ∈ ancA its ps → ∃ y ∈ its, y.i ∈ ps ∧ k ∈ y.A
  | [], h => by cases h
  | y :: r, h => by
    rw [ancA, List.mem_append] at h
    rcases h with h | h
    · split at h
      · rename_i hm; exact ⟨y, by simp, memN_iff.1 hm, h⟩
      · cases h
    · obtain ⟨z, h1, h2⟩ := ancA_sub h
      exact ⟨z, List.mem_cons_of_mem _ h1, h2⟩
theorem clash_nil {y : Item} : ∀ {its : List Item}, clash ops y its = some [] → ∀ x ∈ its, x.i ∈ y.A ∨ Indep ops x y
  | [], _, x, hx => by cases hx
  | z :: r, h, x, hx => by
    rw [clash] at h
    split at h
    · cases h
    · rename_i ids hids
      have hr : ids = [] := by
        split at h
        · simpa using h
        · split at h
          · simp only [Option.some.injEq, List.append_eq_nil_iff] at h; exact h.2
          · cases h
      subst hr
      rcases List.mem_cons.1 hx with rfl | hx
      · split at h
        · rename_i hm; exact .inl (memN_iff.1 hm)
        · split at h
          · rename_i hl
            simp only [Option.some.injEq, List.append_eq_nil_iff] at h
            exact .inr ⟨hl, h.1⟩
          · cases h
      · exact clash_nil hids x hx
theorem restOk_spec : ∀ {rs seen : List Nat}, restOk ops seen rs = true → ∀ r ∈ rs, ∃ o, ops[r]? = some o ∧ ∃ k ∈ predsO o, k ∈ seen ∨ k ∈ rs
  | [], _, _, r, hr => by cases hr
  | x :: rs, seen, h, r, hr => by
    simp only [restOk, Bool.and_eq_true] at h
    rcases List.mem_cons.1 hr with rfl | hr
    · have h1 := h.1
      split at h1
      · rename_i o ho
        obtain ⟨k, k1, k2⟩ := List.any_eq_true.1 h1
        exact ⟨o, ho, k, k1, .inl (memN_iff.1 k2)⟩
      · cases h1
    · obtain ⟨o, h1, k, h2, h3⟩ := restOk_spec h.2 r hr
      refine ⟨o, h1, k, h2, ?_⟩
      rcases h3 with h3 | h3
      · rcases List.mem_cons.1 h3 with rfl | h3
        · exact .inr (by simp)
        · exact .inl h3
      · exact .inr (by simp [h3])

theorem goD_items {sr : SR} : ∀ {order : List Nat} {its : List Item} {fid : Nat} {t : St}, (goD E ops order its fid t).run = some (.fin sr) → ∃ (js : List Item) (rest : List Nat), order = isN js ++ rest ∧ (∀ z ∈ js, z.Good E ops) ∧ Chain ops js t sr ∧
      (∀ y ∈ js, ∀ x ∈ its, x.i ∈ y.A ∨ Indep ops x y) ∧ js.Pairwise (fun x y => x.i ∈ y.A ∨ Indep ops x y) ∧ (isN js).Nodup ∧ (∀ y ∈ js, y.i ∉ isN its) ∧ (∀ ls, Topo ls (isN its) js) ∧
      (∀ y ∈ js, ∀ k ∈ y.A, k ∈ predsO y.o ∨ ∃ z, (z ∈ its ∨ z ∈ js) ∧ z.i ∈ predsO y.o ∧ k ∈ z.A) ∧
      (rest = [] ∨ ∃ p ∈ js, (∃ v, p.out = .pan v) ∧ (∀ r ∈ rest, ∃ o, ops[r]? = some o ∧ ∃ k ∈ predsO o, k = p.i ∨ k ∈ rest) ∧ ∀ r ∈ rest, r ∉ isN js ∧ r ∉ isN its)
  | [], its, fid, t, h => by
    simp only [goD, Tree.run, Option.some.injEq, DR.fin.injEq] at h
    exact ⟨[], [], rfl, by simp, ⟨t.known, h.symm⟩, by simp, by simp, by simp [isN], by simp, fun _ => trivial, by simp, .inl rfl⟩
  | i :: r, its, fid, t, h => by
    rw [goD] at h
    cases ho : ops[i]? with
    | none => rw [ho] at h; simp [Tree.run] at h
    | some o =>
      rw [ho] at h
      dsimp only at h
      obtain ⟨t', k', ht', h⟩ : ∃ (t' : St) (k' : List Nat), t' = { t with known := k' } ∧ (if (predsO o).all (fun k => memN k (isN its)) && !memN i (isN its) && partOk t'.sto (seesN t' ops o) (if Nat.beq (kOf E o) 0 then t'.sto.length else fid) (kOf E o) then
          (itemAt E ops i o (if Nat.beq (kOf E o) 0 then t'.sto.length else fid) (kOf E o) (nubN (predsO o ++ ancA its (predsO o))) (seesN t' ops o) t').bind fun it =>
            if outOk it.R it.W it.fid it.K it.m.sto.length it.out || (pureO it.o.op && Nat.beq it.K 0) then
              match clash ops it its with
              | none => fail
              | some (k :: ks) => leaf (.again (k :: ks))
              | some [] => match it.out with
                | .ok _ _ => goD E ops r (it :: its) (fid + kOf E o) (it.app t')
                | .pan v => if restOk ops [i] r && apartN r (i :: isN its) then leaf (.fin (.pan v)) else fail
            else fail
        else fail).run = some (.fin sr) := by
        split at h
        · rename_i d b hask
          have hs : t.slots[d]? = some (.one (.val .bool b)) := by
            unfold askO at hask
            split at hask
            · cases hask
            · split at hask
              · split at hask
                · cases hask
                · split at hask
                  · rename_i b' hs
                    simp only [Option.some.injEq, Prod.mk.injEq] at hask
                    obtain ⟨rfl, rfl⟩ := hask
                    exact hs
                  · cases hask
              · cases hask
          simp only [Tree.run] at h
          cases b with
          | true =>
            simp only [if_true] at h
            exact ⟨_, d :: t.known, by unfold knowSt; rw [set_self hs], h⟩
          | false =>
            simp only [Bool.false_eq_true, if_false] at h
            exact ⟨_, d :: t.known, by unfold knowSt; rw [set_self hs], h⟩
        · exact ⟨t, t.known, rfl, h⟩
      suffices hsuf : ∃ (js : List Item) (rest : List Nat), i :: r = isN js ++ rest ∧ (∀ z ∈ js, z.Good E ops) ∧ Chain ops js t' sr ∧
          (∀ y ∈ js, ∀ x ∈ its, x.i ∈ y.A ∨ Indep ops x y) ∧ js.Pairwise (fun x y => x.i ∈ y.A ∨ Indep ops x y) ∧ (isN js).Nodup ∧ (∀ y ∈ js, y.i ∉ isN its) ∧ (∀ ls, Topo ls (isN its) js) ∧
          (∀ y ∈ js, ∀ k ∈ y.A, k ∈ predsO y.o ∨ ∃ z, (z ∈ its ∨ z ∈ js) ∧ z.i ∈ predsO y.o ∧ k ∈ z.A) ∧
          (rest = [] ∨ ∃ p ∈ js, (∃ v, p.out = .pan v) ∧ (∀ r ∈ rest, ∃ o, ops[r]? = some o ∧ ∃ k ∈ predsO o, k = p.i ∨ k ∈ rest) ∧ ∀ r ∈ rest, r ∉ isN js ∧ r ∉ isN its) by
        obtain ⟨js, rest, e1, e2, e3, e4⟩ := hsuf
        subst ht'
        exact ⟨js, rest, e1, e2, chain_known k' e3, e4⟩
      clear ht'
      revert h
      generalize t' = t
      intro h
      generalize (if Nat.beq (kOf E o) 0 = true then t.sto.length else fid) = f0 at h
      split at h
      · rename_i hc
        simp only [Bool.and_eq_true, Bool.not_eq_true', List.all_eq_true, memN_iff] at hc
        obtain ⟨⟨c1, c2⟩, c3⟩ := hc
        have c2 : i ∉ isN its := fun q => by rw [memN_iff.2 q] at c2; cases c2
        generalize hR : seesN t ops o = R at *
        obtain ⟨it, h1, h2⟩ := run_bind_some h
        obtain ⟨ro, h3, h4⟩ := map_some h1
        split at h2
        · rename_i hok
          have hok2 : outOk it.R it.W it.fid it.K it.m.sto.length it.out = true ∨ (pureO it.o.op = true ∧ it.K = 0) := by
            simp only [Bool.or_eq_true, Bool.and_eq_true] at hok
            exact hok.imp (fun q => q) fun q => ⟨q.1, Nat.eq_of_beq_eq_true q.2⟩
          have hgood : it.Good E ops := by subst h4; exact ⟨ho, h3, hok2⟩
          have hmatch : it.Match ops t := by subst h4; exact ⟨rfl, c3⟩
          have hi : it.i = i := by rw [h4]
          have hA : it.A = nubN (predsO o ++ ancA its (predsO o)) := by rw [h4]
          have hoo : it.o = o := by rw [h4]
          have hAA : ∀ k ∈ it.A, k ∈ predsO it.o ∨ ∃ z, z ∈ its ∧ z.i ∈ predsO it.o ∧ k ∈ z.A := by
            intro k hk
            rw [hA] at hk
            rw [hoo]
            rcases List.mem_append.1 (nubN_sub hk) with q | q
            · exact .inl q
            · obtain ⟨z, z1, z2, z3⟩ := ancA_sub q
              exact .inr ⟨z, z1, z2, z3⟩
          split at h2
          · simp [Tree.run] at h2
          · simp [Tree.run] at h2
          · rename_i hcl
            have hfree := clash_nil hcl
            split at h2
            · rename_i sm v hout
              obtain ⟨js, rest, e1, e2, e3, e4, e5, e6, e7, e8, e9, e10⟩ := goD_items h2
              refine ⟨it :: js, rest, by rw [e1]; simp [isN, hi], ?_, ⟨hmatch, by rw [hout]; exact e3⟩, ?_, ?_, ?_, ?_, ?_, ?_, ?_⟩
              · intro z hz
                rcases List.mem_cons.1 hz with rfl | hz
                · exact hgood
                · exact e2 z hz
              · intro y hy x hx
                rcases List.mem_cons.1 hy with rfl | hy
                · exact hfree x hx
                · exact e4 y hy x (by simp [hx])
              · exact List.pairwise_cons.2 ⟨fun y hy => e4 y hy it (by simp), e5⟩
              · simp only [isN, List.map_cons, List.nodup_cons]
                refine ⟨fun q => ?_, e6⟩
                obtain ⟨y, hy, hyi⟩ := List.mem_map.1 q
                exact e7 y hy (by simp [isN, hyi])
              · intro y hy
                rcases List.mem_cons.1 hy with rfl | hy
                · rw [hi]; exact c2
                · intro q; exact e7 y hy (by simp only [isN, List.map_cons, List.mem_cons]; exact .inr q)
              · intro ls
                refine ⟨fun k hk => .inr (c1 k (by rw [← hoo]; exact hk)), ?_⟩
                exact e8 ls
              · intro y hy k hk
                rcases List.mem_cons.1 hy with rfl | hy
                · rcases hAA k hk with q | ⟨z, z1, z2, z3⟩
                  · exact .inl q
                  · exact .inr ⟨z, .inl z1, z2, z3⟩
                · rcases e9 y hy k hk with q | ⟨z, z1, z2, z3⟩
                  · exact .inl q
                  · refine .inr ⟨z, ?_, z2, z3⟩
                    rcases z1 with z1 | z1
                    · rcases List.mem_cons.1 z1 with rfl | z1
                      · exact .inr (by simp)
                      · exact .inl z1
                    · exact .inr (by simp [z1])
              · rcases e10 with q | ⟨p, p1, p2, p3, p4⟩
                · exact .inl q
                · refine .inr ⟨p, by simp [p1], p2, p3, fun r hr => ?_⟩
                  simp only [isN, List.map_cons, List.mem_cons, not_or]
                  obtain ⟨q1, q2⟩ := p4 r hr
                  simp only [isN, List.map_cons, List.mem_cons, not_or] at q2
                  exact ⟨⟨q2.1, q1⟩, q2.2⟩
            · rename_i v hout
              split at h2
              · rename_i hrest
                simp only [Bool.and_eq_true] at hrest
                simp only [Tree.run, Option.some.injEq, DR.fin.injEq] at h2
                refine ⟨[it], r, by simp [isN, hi], ?_, ⟨hmatch, by rw [hout]; exact ⟨rfl, h2.symm⟩⟩, ?_, by simp, by simp [isN], ?_, ?_, ?_, .inr ⟨it, by simp, ⟨v, hout⟩, ?_, ?_⟩⟩
                · intro z hz; rw [List.mem_singleton.1 hz]; exact hgood
                · intro y hy x hx; rw [List.mem_singleton.1 hy]; exact hfree x hx
                · intro y hy; rw [List.mem_singleton.1 hy, hi]; exact c2
                · intro ls
                  exact ⟨fun k hk => .inr (c1 k (by rw [← hoo]; exact hk)), trivial⟩
                · intro y hy k hk
                  rw [List.mem_singleton.1 hy] at hk ⊢
                  rcases hAA k hk with q | ⟨z, z1, z2, z3⟩
                  · exact .inl q
                  · exact .inr ⟨z, .inl z1, z2, z3⟩
                · intro x hx
                  obtain ⟨o', q1, k, q2, q3⟩ := restOk_spec hrest.1 x hx
                  refine ⟨o', q1, k, q2, ?_⟩
                  rw [hi]
                  rcases q3 with q3 | q3
                  · exact .inl (by simpa using q3)
                  · exact .inr q3
                · intro x hx
                  have := apartN_iff.1 hrest.2 x hx
                  simp only [List.mem_cons, not_or] at this
                  simp only [isN, List.map_cons, List.map_nil, List.mem_singleton, hi]
                  exact this
              · simp [Tree.run] at h2
        · simp [Tree.run] at h2
      · simp [Tree.run] at h

theorem nodup_map_inj {α β : Type} {f : α → β} : ∀ {l : List α}, (l.map f).Nodup → ∀ {x y : α}, x ∈ l → y ∈ l → f x = f y → x = y
  | [], _, _, _, hx, _, _ => by cases hx
  | a :: l, h, x, y, hx, hy, he => by
    simp only [List.map_cons, List.nodup_cons] at h
    rcases List.mem_cons.1 hx with rfl | hx <;> rcases List.mem_cons.1 hy with rfl | hy
    · rfl
    · exact absurd (List.mem_map.2 ⟨y, hy, he.symm⟩) h.1
    · exact absurd (he ▸ List.mem_map.2 ⟨_, by assumption, rfl⟩) h.1
    · exact nodup_map_inj h.2 hx hy he

theorem RelW.pad {P : Program} (h : RelW P C st a w μ) (n : Nat) : RelW P C { st with sto := st.sto ++ List.replicate n Ob.free } a w μ := by
  have hfr : ∀ {id : Nat} {o : Ob}, (st.sto ++ List.replicate n Ob.free)[id]? = some o → o = Ob.free ∨ st.sto[id]? = some o := by
    intro id o ho
    rw [List.getElem?_append] at ho
    split at ho
    · exact .inr ho
    · rw [List.getElem?_replicate] at ho
      split at ho
      · exact .inl (Option.some.inj ho).symm
      · cases ho
  have old : ∀ {id : Nat} {o : Ob}, (st.sto ++ List.replicate n Ob.free)[id]? = some o → o.mut = true → st.sto[id]? = some o := by
    intro id o ho hm
    rcases hfr ho with rfl | q
    · cases hm
    · exact q
  refine (h.move (w' := w) (μ' := μ) (sto' := st.sto ++ List.replicate n Ob.free) (Nat.le_refl _) rfl rfl rfl (fun id o b ho hm hb => ⟨(h.blk id o b (old ho hm) hm hb).1, .inr ⟨id, o, old ho hm, hm, hb⟩⟩)
    (fun id id' o o' b ho ho' hm hm' hb hb' => h.inj id id' o o' b (old ho hm) (old ho' hm') hm hm' hb hb') (fun _ _ _ => rfl) (fun _ _ hc => hc)
    (fun id o ho => ⟨o, by rw [List.getElem?_append_left (lt_of_getElem? ho)]; exact ho, Like.refl o, .inr (.inr ⟨rfl, fun _ _ _ hc => hc⟩)⟩) (fun hk id o ho => ?_)).1
  rcases hfr ho with rfl | q
  · exact .inr trivial
  · exact .inl ⟨q, rfl, fun _ _ _ => rfl⟩

theorem regD_sound {Q : Exit → Act → World → Prop} {sr : SR} {order : List Nat} (hE : E.OkAt C) (hall : (upN ops.size 0).all (fun i => memN i order) = true) (hlen : order.length ≤ ops.size) :
    ∀ {n : Nat} {st : St} {a : Act} {w : World} {μ : Nat → Option Nat}, RelW E.P C st a w μ → (regD E ops order n st).run = some sr → Goes E.P C sr (Q .normal) Q →
      wpAny E.P .any ops Q ops.size (Array.replicate ops.size false) a w
  | 0, st, a, w, μ, h, hr, hg => by simp [regD, Tree.run] at hr
  | n + 1, st, a, w, μ, h, hr, hg => by
    obtain ⟨d, h1, h2⟩ := run_bind_some hr
    cases d with
    | again ids => exact regD_sound hE hall hlen (h.frz ids) h2 hg
    | fin sr' =>
      simp only [Tree.run, Option.some.injEq] at h2; subst h2
      obtain ⟨js, rest, e1, e2, e3, e4, e5, e6, e7, e8, e9, e10⟩ := goD_items h1
      have hin : ∀ j, j < ops.size → j ∈ isN js ∨ j ∈ rest := fun j hj => by
        have := List.all_eq_true.1 hall j (upN_mem.2 ⟨Nat.zero_le _, by omega⟩)
        rw [memN_iff, e1, List.mem_append] at this
        exact this
      have hjl : js.length ≤ ops.size := by
        have : order.length = js.length + rest.length := by rw [e1]; simp [isN]
        omega
      have key : ∀ (p : Nat), (∀ r ∈ rest, ∃ o, ops[r]? = some o ∧ ∃ k ∈ predsO o, k = p ∨ k ∈ rest) → (rest ≠ [] → ∀ z ∈ js, z.i = p → ∃ v, z.out = .pan v) → (∀ r ∈ rest, r ∉ isN js) → (rest ≠ [] → p ∈ isN js) →
          wpAny E.P .any ops Q ops.size (Array.replicate ops.size false) a w := by
        intro p hp1 hp2 hp3 hp4
        refine any_sound (full := js) (rest := rest) (p := p) hE e2 (fun z hz k hk => ?_) hg hp1 hp2 js.length js ops.size _ _ a w μ rfl hjl (fun z hz => hz) e3 e5 (by simp) (fun j hj => ?_) e6 hp3 hp4 (fun z hz hl => ?_) (e8 _) (h.pad _)
        · rcases e9 z hz k hk with q | ⟨y, y1, y2, y3⟩
          · exact .inl q
          · rcases y1 with y1 | y1
            · cases y1
            · exact .inr ⟨y, y1, y2, y3⟩
        · constructor
          · intro _; exact hin j hj
          · intro _; simp [hj]
        · exfalso
          have : ((Array.replicate ops.size false).getD z.i false) = false := by
            rw [Array.getD_eq_getD_getElem?, Array.getElem?_replicate]; split <;> rfl
          rw [this] at hl; cases hl
      rcases e10 with q | ⟨p, p1, ⟨v, p2⟩, p3, p4⟩
      · subst q
        exact key 0 (by simp) (by simp) (by simp) (by simp)
      · refine key p.i p3 (fun _ z hz hzi => ?_) (fun r hr => (p4 r hr).1) (fun _ => List.mem_map.2 ⟨p, p1, rfl⟩)
        have : z = p := by
          have hnd := e6
          exact nodup_map_inj hnd hz p1 hzi
        subst this
        exact ⟨v, p2⟩

theorem regDraw_sound {Q : Exit → Act → World → Prop} {sr : SR} {id : Nat} (hE : E.OkAt C) (hmix : E.P.follows .mixedOrders = true) (h : RelW E.P C st a w μ) (hr : (regDraw E ops st).run = some sr) (hg : Goes E.P C sr (Q .normal) Q) :
    (Code.region id ops true).wp E.P Q a w := by
  unfold regDraw at hr
  split at hr
  · rename_i hc
    simp only [Bool.and_eq_true] at hc
    exact wp_region_any hmix (regD_sound hE hc.1 (Nat.le_of_ble_eq_true hc.2) h.drew hr hg)
  · simp [Tree.run] at hr
end
end Go.Eng
end

/- Eng2C -/
section
set_option linter.unusedSimpArgs false
set_option linter.unusedVariables false
namespace Go.Eng
open Tree

/-! ### Loops -/
def iter {X Y : Type} (body : X → Option (Except Y X)) : Nat → X → Option Y
  | 0, _ => none
  | n + 1, x => match body x with
    | none => none
    | some (.error e) => some e
    | some (.ok x') => iter body n x'

open Classical in
/-- What a loop comes to: nothing, if it never ends. -/
noncomputable def loopLim {X Y : Type} (body : X → Option (Except Y X)) (x : X) : Option Y :=
  if h : ∃ n, (iter body n x).isSome then iter body (Classical.choose h) x else none

theorem iter_mono {X Y : Type} {body : X → Option (Except Y X)} : ∀ {n m : Nat} {x : X} {y : Y}, n ≤ m → iter body n x = some y → iter body m x = some y
  | 0, _, _, _, _, h => by cases h
  | n + 1, 0, _, _, hn, _ => by omega
  | n + 1, m + 1, x, y, hn, h => by
    simp only [iter] at h ⊢
    split at h
    · cases h
    · exact h
    · exact iter_mono (by omega) h

theorem loopLim_some {X Y : Type} {body : X → Option (Except Y X)} {x : X} {y : Y} : loopLim body x = some y ↔ ∃ n, iter body n x = some y := by
  unfold loopLim
  constructor
  · intro h
    split at h
    · exact ⟨_, h⟩
    · cases h
  · rintro ⟨n, hn⟩
    have h : ∃ n, (iter body n x).isSome := ⟨n, by rw [hn]; rfl⟩
    rw [dif_pos h]
    obtain ⟨z, hz⟩ := Option.isSome_iff_exists.1 (Classical.choose_spec h)
    rw [hz]
    have h1 := iter_mono (Nat.le_max_left n (Classical.choose h)) hn
    have h2 := iter_mono (Nat.le_max_right n (Classical.choose h)) hz
    rw [h1] at h2
    exact h2.symm

theorem loopLim_eq {X Y : Type} (body : X → Option (Except Y X)) (x : X) : loopLim body x = match body x with
    | none => none
    | some (.error e) => some e
    | some (.ok x') => loopLim body x' := by
  cases h : body x with
  | none =>
    cases hl : loopLim body x with
    | none => rfl
    | some y =>
      obtain ⟨n, hn⟩ := loopLim_some.1 hl
      cases n with
      | zero => cases hn
      | succ n => simp [iter, h] at hn
  | some r => cases r with
    | error e => exact loopLim_some.2 ⟨1, by simp [iter, h]⟩
    | ok x' =>
      show loopLim body x = loopLim body x'
      cases hl : loopLim body x' with
      | some y =>
        obtain ⟨n, hn⟩ := loopLim_some.1 hl
        exact loopLim_some.2 ⟨n + 1, by simp [iter, h, hn]⟩
      | none =>
        cases hl' : loopLim body x with
        | none => rfl
        | some y =>
          obtain ⟨n, hn⟩ := loopLim_some.1 hl'
          cases n with
          | zero => cases hn
          | succ n =>
            simp only [iter, h] at hn
            rw [loopLim_some.2 ⟨n, hn⟩] at hl
            cases hl

/-! ### Ways out -/
inductive Exo where
  | norm (s : St)
  | exit (id : Nat) (s : St)
  | ret (s : St)
  | pan (v : Value)

inductive Key where
  | norm (sh : Shape)
  | exit (id : Nat) (sh : Shape)
  | ret (sh : Shape)
  | pan

@[reducible] def Key.El : Key → Type
  | .norm sh => sh.ty.El
  | .exit _ sh => sh.ty.El
  | .ret sh => sh.ty.El
  | .pan => Value
/-- Data of one of several ways out: the first one, or a later one. -/
@[reducible] def XEl : List Key → Type
  | [] => Empty
  | [k] => k.El
  | k :: r => Except (XEl r) k.El

def Key.to : (k : Key) → Exo → Option k.El
  | .norm sh, .norm s => sh.conv s
  | .exit id sh, .exit i s => if Nat.beq id i then sh.conv s else none
  | .ret sh, .ret s => sh.conv s
  | .pan, .pan v => some v
  | _, _ => none
def Key.back : (k : Key) → k.El → Exo
  | .norm sh, x => .norm (sh.build x)
  | .exit id sh, x => .exit id (sh.build x)
  | .ret sh, x => .ret (sh.build x)
  | .pan, v => .pan v
/-- Is it this way out? -/
def Key.is : Key → Exo → Bool
  | .norm _, .norm _ => true
  | .exit id _, .exit i _ => Nat.beq id i
  | .ret _, .ret _ => true
  | .pan, .pan _ => true
  | _, _ => false

def toX : (ks : List Key) → Exo → Option (XEl ks)
  | [], _ => none
  | [k], e => k.to e
  | k :: k' :: r, e => if k.is e then (match k.to e with | some x => some (.ok x) | none => none) else (match toX (k' :: r) e with | some y => some (.error y) | none => none)
def backX : (ks : List Key) → XEl ks → Tree Exo
  | [], _ => fail
  | [k], x => leaf (k.back x)
  | k :: k' :: r, x => .cas x (fun y => backX (k' :: r) y) (fun y => leaf (k.back y))

def ofO {α : Type} : Option α → Tree α
  | none => fail
  | some a => leaf a

inductive Ann where
  | lf
  | nd (j : Option (List Key)) (l : Option (Shape × List Key)) (a b : Ann)
def Ann.j : Ann → Option (List Key) | .lf => none | .nd j _ _ _ => j
def Ann.l : Ann → Option (Shape × List Key) | .lf => none | .nd _ l _ _ => l
def Ann.a : Ann → Ann | .lf => .lf | .nd _ _ a _ => a
def Ann.b : Ann → Ann | .lf => .lf | .nd _ _ _ b => b

def joinT (o : Option (List Key)) (t : Tree Exo) : Tree Exo :=
  match o with
  | none => t
  | some ks => .opt (t.bind fun e => ofO (toX ks e)).run fun x => backX ks x

/-- A round of a loop: on, or out. -/
def roundX (sh : Shape) (ks : List Key) : Exo → Option (Except (XEl ks) sh.ty.El)
  | .norm s => match sh.conv s with | some x => some (.ok x) | none => none
  | e => match toX ks e with | some y => some (.error y) | none => none

noncomputable def loopT (o : Option (Shape × List Key)) (round : St → Tree Exo) (st : St) : Tree Exo :=
  match o with
  | none => fail
  | some (sh, ks) => match sh.conv st with
    | none => fail
    | some x => .opt (loopLim (fun x => ((round (sh.build x)).bind fun e => ofO (roundX sh ks e)).run) x) fun y => backX ks y

def srX : SR → Exo
  | .st s => .norm s
  | .pan v => .pan v

noncomputable def den (E : Env) : Code → Ann → St → Tree Exo
  | .skip, an, st => joinT an.j (leaf (.norm st))
  | .region _ ops false, an, st => joinT an.j ((regL E ops ops.toList { st with known := [] }).map srX)
  | .region _ ops true, an, st => joinT an.j ((regDraw E ops { st with known := [] }).map srX)
  | .seq x y, an, st => joinT an.j ((den E x an.a st).bind fun e => match e with | .norm s => den E y an.b s | e => leaf e)
  | .cond c x y, an, st => joinT an.j (match opd1 E.gl st.slots c with | .val .bool t => .ite t (den E x an.a st) (den E y an.b st) | _ => fail)
  | .block id x, an, st => joinT an.j ((den E x an.a st).bind fun e => match e with | .exit i s => if Nat.beq i id then leaf (.norm s) else leaf (.exit i s) | e => leaf e)
  | .loop x, an, st => joinT an.j (loopT an.l (den E x an.a) st)
  | .exit id, _, st => leaf (.exit id st)
  | .label _, _, st => leaf (.norm st)
  | .ret, _, st => leaf (.ret st)
  | _, _, _ => fail

/-! ### What it means -/
def Leaves (P : Program) (C : Cx) (ex : Exo) (e : Exit) (a : Act) (w : World) : Prop :=
  match ex, e with
  | .norm s, .normal => ∃ μ, RelW P C s a w μ
  | .exit i s, .exit i' => i' = i ∧ ∃ μ, RelW P C s a w μ
  | .ret s, .ret => ∃ μ, RelW P C s a w μ
  | .pan v, .panic chain => chain = [{ v := v, recovered := false }] ∧ a.defers = [] ∧ Mem P C [] w (fun _ => none)
  | _, _ => False

def Weak (e ex : Exo) : Prop := ∀ (P : Program) (C : Cx) (x : Exit) (a : Act) (w : World), Leaves P C e x a w → Leaves P C ex x a w
theorem Weak.refl (e : Exo) : Weak e e := fun _ _ _ _ _ h => h

theorem Key.to_back {k : Key} {e : Exo} {x : k.El} (h : k.to e = some x) : Weak e (k.back x) := by
  intro P C y a w hl
  cases k <;> cases e <;> simp only [Key.to] at h <;> (try cases h)
  · cases y <;> simp only [Leaves] at hl <;> first | exact hl.elim | skip
    obtain ⟨μ, r⟩ := hl
    exact r.conv h
  · rename_i id sh i s
    split at h
    · rename_i hi
      have hi := Nat.eq_of_beq_eq_true hi
      subst hi
      cases y <;> simp only [Leaves] at hl <;> first | exact hl.elim | skip
      obtain ⟨rfl, μ, r⟩ := hl
      exact ⟨rfl, r.conv h⟩
    · cases h
  · cases y <;> simp only [Leaves] at hl <;> first | exact hl.elim | skip
    obtain ⟨μ, r⟩ := hl
    exact r.conv h
  · exact hl

theorem toX_back : ∀ {ks : List Key} {e ex : Exo} {x : XEl ks}, toX ks e = some x → (backX ks x).run = some ex → Weak e ex
  | [], _, _, _, h, _ => by cases h
  | [k], e, ex, x, h, hb => by
    simp only [backX, Tree.run, Option.some.injEq] at hb; subst hb
    exact Key.to_back h
  | k :: k' :: r, e, ex, x, h, hb => by
    simp only [toX] at h
    split at h
    · split at h
      · rename_i y hy
        simp only [Option.some.injEq] at h; subst h
        simp only [backX, Tree.run, exM, Option.some.injEq] at hb; subst hb
        exact Key.to_back hy
      · cases h
    · split at h
      · rename_i y hy
        simp only [Option.some.injEq] at h; subst h
        simp only [backX, Tree.run, exM] at hb
        exact toX_back hy hb
      · cases h

theorem ofO_run {α : Type} {o : Option α} {x : α} (h : (ofO o).run = some x) : o = some x := by
  cases o with
  | none => cases h
  | some a => simpa [ofO, Tree.run] using h

theorem joinT_run {j : Option (List Key)} {t : Tree Exo} {ex : Exo} (h : (joinT j t).run = some ex) : ∃ e, t.run = some e ∧ Weak e ex := by
  cases j with
  | none => exact ⟨ex, h, Weak.refl _⟩
  | some ks =>
    simp only [joinT, Tree.run] at h
    cases hx : (t.bind fun e => ofO (toX ks e)).run with
    | none => rw [hx] at h; cases h
    | some x =>
      rw [hx, Option.bind_some] at h
      obtain ⟨e, h1, h2⟩ := run_bind_some hx
      exact ⟨e, h1, toX_back (ofO_run h2) h⟩

section
variable {E : Env} {C : Cx}

theorem least (p : Nat → Prop) (h : ∃ n, p n) : ∃ n, p n ∧ ∀ m, p m → n ≤ m := by
  obtain ⟨n, hn⟩ := h
  induction n using Nat.strongRecOn with
  | _ n ih =>
    by_cases hk : ∃ k, k < n ∧ p k
    · obtain ⟨k, k1, k2⟩ := hk; exact ih k k1 k2
    · exact ⟨n, hn, fun m hm => by
        rcases Nat.lt_or_ge m n with h' | h'
        · exact absurd ⟨m, h', hm⟩ hk
        · exact h'⟩

theorem loop_sound {c : Code} {round : St → Tree Exo} {sh : Shape} {ks : List Key} {ex : Exo} {y : XEl ks}
    (hc : ∀ {st : St} {a : Act} {w : World} {μ : Nat → Option Nat} {ex : Exo}, RelW E.P C st a w μ → (round st).run = some ex → c.wp E.P (Leaves E.P C ex) a w)
    (hb : (backX ks y).run = some ex) {n : Nat} {x : sh.ty.El} (hn : iter (fun x => ((round (sh.build x)).bind fun e => ofO (roundX sh ks e)).run) n x = some y)
    {a : Act} {w : World} (hr : ∃ μ, RelW E.P C (sh.build x) a w μ) : (Code.loop c).wp E.P (Leaves E.P C ex) a w := by
  let body : sh.ty.El → Option (Except (XEl ks) sh.ty.El) := fun x => ((round (sh.build x)).bind fun e => ofO (roundX sh ks e)).run
  let Ip : Nat → Act → World → Prop := fun n a w => ∃ x : sh.ty.El, iter body n x = some y ∧ ∃ μ, RelW E.P C (sh.build x) a w μ
  classical
  let m : Act → World → Nat := fun a w => if h : ∃ n, Ip n a w then Classical.choose (least (fun n => Ip n a w) h) else 0
  have key : (Code.loop c).wp E.P (Leaves E.P C ex) a w := by
    refine wp_loop (fun a w => ∃ n, Ip n a w) m ⟨n, x, hn, hr⟩ ?_
    rintro a w hI
    have hm : m a w = Classical.choose (least (fun n => Ip n a w) hI) := dif_pos hI
    obtain ⟨x, hx, μ, hrel⟩ := (Classical.choose_spec (least (fun n => Ip n a w) hI)).1
    cases hk : Classical.choose (least (fun n => Ip n a w) hI) with
    | zero => rw [hk] at hx; cases hx
    | succ k =>
      rw [hk] at hx
      simp only [iter] at hx
      split at hx
      · cases hx
      · rename_i e he
        simp only [Option.some.injEq] at hx; subst hx
        obtain ⟨e', h1, h2⟩ := run_bind_some he
        have h2 := ofO_run h2
        refine wp_mono (hc hrel h1) (fun z a' w' hl => ?_)
        have hout : toX ks e' = some e := by
          unfold roundX at h2
          split at h2
          · split at h2 <;> cases h2
          · split at h2
            · rename_i hh; simp only [Option.some.injEq, Except.error.injEq] at h2; subst h2; exact hh
            · cases h2
        have hne : ∀ s, e' ≠ .norm s := by
          rintro s rfl
          simp only [roundX] at h2
          split at h2 <;> cases h2
        have := toX_back hout hb _ _ _ _ _ hl
        cases z with
        | normal =>
          cases e' <;> simp only [Leaves] at hl
          exact absurd rfl (hne _)
        | _ => exact this
      · rename_i x' he
        obtain ⟨e', h1, h2⟩ := run_bind_some he
        have h2 := ofO_run h2
        refine wp_mono (hc hrel h1) (fun z a' w' hl => ?_)
        unfold roundX at h2
        split at h2
        · split at h2
          · rename_i s x'' hs
            simp only [Option.some.injEq, Except.ok.injEq] at h2; subst h2
            cases z <;> simp only [Leaves] at hl <;> first | exact hl.elim | skip
            obtain ⟨μ', r⟩ := hl
            have hI' : Ip k a' w' := ⟨_, hx, r.conv hs⟩
            refine ⟨⟨k, hI'⟩, ?_⟩
            have hm' : m a' w' = Classical.choose (least (fun n => Ip n a' w') ⟨k, hI'⟩) := dif_pos ⟨k, hI'⟩
            rw [hm, hm', hk]
            have := (Classical.choose_spec (least (fun n => Ip n a' w') ⟨k, hI'⟩)).2 k hI'
            omega
          · cases h2
        · split at h2 <;> cases h2
  exact key

theorem den_sound (hE : E.OkAt C) (hmix : E.P.follows .mixedOrders = true) : ∀ {c : Code} {an : Ann} {st : St} {a : Act} {w : World} {μ : Nat → Option Nat} {ex : Exo}, RelW E.P C st a w μ → (den E c an st).run = some ex → c.wp E.P (Leaves E.P C ex) a w := by
  intro c
  induction c with
  | skip =>
    intro an st a w μ ex h hr
    obtain ⟨e, h1, h2⟩ := joinT_run hr
    simp only [Tree.run, Option.some.injEq] at h1; subst h1
    exact wp_skip (h2 _ _ _ _ _ ⟨μ, h⟩)
  | region id ops draw =>
    intro an st a w μ ex h hr
    cases draw with
    | true =>
      obtain ⟨e, h1, h2⟩ := joinT_run hr
      obtain ⟨sr, h3, rfl⟩ := map_some h1
      exact regDraw_sound hE hmix (h.known []) h3 (by
        cases sr with
        | st s => exact fun a' w' μ' r => h2 _ _ _ _ _ ⟨μ', r⟩
        | pan v => exact fun a' w' hd m => h2 _ _ _ _ _ ⟨rfl, hd, m⟩)
    | false =>
      obtain ⟨e, h1, h2⟩ := joinT_run hr
      obtain ⟨sr, h3, rfl⟩ := map_some h1
      refine wp_region ?_
      have := regL_sound (k := 0) (Q := Leaves E.P C ex) hE (h.known []) (fun i => by simp) h3 (by
        cases sr with
        | st s => exact fun a' w' μ' r => h2 _ _ _ _ _ ⟨μ', r⟩
        | pan v => exact fun a' w' hd m => h2 _ _ _ _ _ ⟨rfl, hd, m⟩)
      rw [List.range_eq_range']
      simpa using this
  | seq x y ihx ihy =>
    intro an st a w μ ex h hr
    obtain ⟨e, h1, h2⟩ := joinT_run hr
    obtain ⟨e1, h3, h4⟩ := run_bind_some h1
    refine wp_seq (wp_mono (ihx h h3) (fun z a' w' hl => ?_))
    cases e1 with
    | norm s =>
      cases z <;> simp only [Leaves] at hl <;> first | exact hl.elim | skip
      obtain ⟨μ', r⟩ := hl
      exact wp_mono (ihy r h4) (fun z a w hl => h2 _ _ _ _ _ hl)
    | exit i s =>
      simp only [Tree.run, Option.some.injEq] at h4; subst h4
      cases z <;> first | exact h2 _ _ _ _ _ hl | (simp only [Leaves] at hl)
    | ret s =>
      simp only [Tree.run, Option.some.injEq] at h4; subst h4
      cases z <;> first | exact h2 _ _ _ _ _ hl | (simp only [Leaves] at hl)
    | pan v =>
      simp only [Tree.run, Option.some.injEq] at h4; subst h4
      cases z <;> first | exact h2 _ _ _ _ _ hl | (simp only [Leaves] at hl)
  | cond c x y ihx ihy =>
    intro an st a w μ ex h hr
    obtain ⟨e, h1, h2⟩ := joinT_run hr
    split at h1
    · rename_i t ht
      have hv := opd1_rel hE.2 h c
      rw [ht] at hv
      have hv := lrel_bool.1 hv
      simp only [Tree.run] at h1
      refine wp_cond_split hv (fun ht => ?_) (fun ht => ?_)
      · subst ht
        simp only [if_true] at h1
        exact wp_mono (ihx h h1) (fun z a w hl => h2 _ _ _ _ _ hl)
      · subst ht
        simp only [Bool.false_eq_true, if_false] at h1
        exact wp_mono (ihy h h1) (fun z a w hl => h2 _ _ _ _ _ hl)
    · simp [Tree.run] at h1
  | block id x ih =>
    intro an st a w μ ex h hr
    obtain ⟨e, h1, h2⟩ := joinT_run hr
    obtain ⟨e1, h3, h4⟩ := run_bind_some h1
    refine wp_block (wp_mono (ih h h3) (fun z a' w' hl => ?_))
    cases e1 with
    | norm s =>
      simp only [Tree.run, Option.some.injEq] at h4; subst h4
      cases z <;> first | exact h2 _ _ _ _ _ hl | (simp only [Leaves] at hl)
    | exit i s =>
      cases z <;> simp only [Leaves] at hl <;> first | exact hl.elim | skip
      obtain ⟨rfl, μ', r⟩ := hl
      simp only [Exit.inBlock]
      rename_i ii
      replace h4 : (if Nat.beq ii id then leaf (Exo.norm s) else leaf (Exo.exit ii s)).run = some e := h4
      split at h4
      · rename_i hi
        have hi := Nat.eq_of_beq_eq_true hi
        simp only [Tree.run, Option.some.injEq] at h4; subst h4
        rw [if_pos hi]
        exact h2 _ _ _ _ _ ⟨μ', r⟩
      · rename_i hi
        simp only [Tree.run, Option.some.injEq] at h4; subst h4
        rw [if_neg (fun e => hi (by subst e; exact Nat.beq_refl _))]
        exact h2 _ _ _ _ _ ⟨rfl, μ', r⟩
    | ret s =>
      simp only [Tree.run, Option.some.injEq] at h4; subst h4
      cases z <;> first | exact h2 _ _ _ _ _ hl | (simp only [Leaves] at hl)
    | pan v =>
      simp only [Tree.run, Option.some.injEq] at h4; subst h4
      cases z <;> first | exact h2 _ _ _ _ _ hl | (simp only [Leaves] at hl)
  | loop x ih =>
    intro an st a w μ ex h hr
    obtain ⟨e, h1, h2⟩ := joinT_run hr
    unfold loopT at h1
    split at h1
    · simp [Tree.run] at h1
    · rename_i sh ks hl
      split at h1
      · simp [Tree.run] at h1
      · rename_i x0 hx
        simp only [Tree.run] at h1
        cases hy : loopLim (fun x_1 => ((den E x an.a (sh.build x_1)).bind fun e => ofO (roundX sh ks e)).run) x0 with
        | none => rw [hy] at h1; cases h1
        | some y =>
          rw [hy, Option.bind_some] at h1
          obtain ⟨n, hn⟩ := loopLim_some.1 hy
          exact wp_mono (loop_sound (fun {st a w μ ex} hr hx => ih hr hx) h1 hn (h.conv hx)) (fun z a w hl => h2 _ _ _ _ _ hl)
  | exit id =>
    intro an st a w μ ex h hr
    simp only [den, Tree.run, Option.some.injEq] at hr; subst hr
    exact wp_exit ⟨rfl, μ, h⟩
  | label l =>
    intro an st a w μ ex h hr
    simp only [den, Tree.run, Option.some.injEq] at hr; subst hr
    exact wp_label ⟨μ, h⟩
  | ret =>
    intro an st a w μ ex h hr
    simp only [den, Tree.run, Option.some.injEq] at hr; subst hr
    exact wp_ret ⟨μ, h⟩
  | rangeFunc f ps x y _ _ => intro an st a w μ ex h hr; simp [den, Tree.run] at hr
  | scope x _ => intro an st a w μ ex h hr; simp [den, Tree.run] at hr
  | goto l => intro an st a w μ ex h hr; simp [den, Tree.run] at hr
  | refuse s => intro an st a w μ ex h hr; simp [den, Tree.run] at hr
end
end Go.Eng
end

/- Eng2D -/
section
set_option linter.unusedSimpArgs false
set_option linter.unusedVariables false
namespace Go.Eng
open Tree

/-- The values that a function hands back. -/
def resT (P : Program) (st : St) : List ResultVar → Tree (List AV)
  | [] => leaf []
  | .tmp t :: r => (resT P st r).map fun l => opd [] st.slots (.tmp t) :: l
  | .cell t ty :: r => (loadL P st.sto ty (opd1 [] st.slots (.tmp t))).bind fun v => (resT P st r).map fun l => v :: l

def outT (P : Program) (fn : Func) (post : Shape) (roots : Nat) : Exo → Tree (Except Value post.ty.El)
  | .norm s | .ret s => (resT P s fn.results.toList).bind fun rs => ofO (match ({ post with rts := List.range roots } : Shape).conv { s with slots := rs } with | some y => some (.ok y) | none => none)
  | .pan v => leaf (.error v)
  | _ => fail

def ofEx {α : Type} : (pan : Bool) → Except Value α → Tree (Rz pan α)
  | false, .ok x => leaf x
  | false, .error _ => fail
  | true, r => leaf r

def entrySt (fn : Func) (pre : Shape) (roots : Nat) (x : pre.ty.El) : St :=
  { slots := (pre.build x).slots ++ List.replicate (fn.ntmps - (pre.build x).slots.length) (.tup []), sto := (pre.build x).sto, rts := List.range roots }

def slotsOf : Nat → Nat → List (Nat × ASh) → List ASh
  | 0, _, _ => []
  | n + 1, k, (i, s) :: r => if Nat.beq i k then s :: slotsOf n (k + 1) r else .one .junk :: slotsOf n (k + 1) ((i, s) :: r)
  | n + 1, k, [] => .one .junk :: slotsOf n (k + 1) []
def mkSh (objs : List OSh) (n : Nat) (slots : List (Nat × ASh)) (rts : List Nat) : Shape := { objs, slots := slotsOf n 0 slots, rts }
def bodyOf (fn : Func) : Code := match fn.body with | some c => c | none => .skip
theorem bodyOf_some {fn : Func} (h : fn.body.isSome = true) : fn.body = some (bodyOf fn) := by
  unfold bodyOf; cases hb : fn.body with
  | none => rw [hb] at h; cases h
  | some c => rfl
theorem ok_nil {P : Program} {gl : Globs} : ∀ g fs, findF [] g = some fs → Spec P gl g fs := fun _ _ h => by cases h
theorem ok_cons {P : Program} {gl : Globs} {k : Nat} {s : FSpec} {r : List (Nat × FSpec)} (h : Spec P gl k s) (hr : ∀ g fs, findF r g = some fs → Spec P gl g fs) : ∀ g fs, findF ((k, s) :: r) g = some fs → Spec P gl g fs := by
  intro g fs hf
  simp only [findF] at hf
  split at hf
  · rename_i hk
    have := Nat.eq_of_beq_eq_true hk
    subst this
    simp only [Option.some.injEq] at hf; subst hf
    exact h
  · exact hr g fs hf

noncomputable def denF (E : Env) (fn : Func) (c : Code) (an : Ann) (pre post : Shape) (roots : Nat) (pan : Bool) (x : pre.ty.El) : Option (Rz pan post.ty.El) :=
  (((den E c an (entrySt fn pre roots x)).bind (outT E.P fn post roots)).bind (ofEx pan)).run

section
variable {P : Program} {C : Cx} {st : St} {a : Act} {w w' : World} {μ : Nat → Option Nat}

theorem load_as {t : TypeId} {u v : Value} (h : (Instr.loadAt t u).run P w = .ok v w) : (do loadVar t (← asAddr u) : Sem Value).run P w = .ok v w := by
  cases u with
  | pointer o => cases o with
    | some b => simpa [Instr.loadAt, Instr.sureAddr, asAddr] using h
    | none => simp [Instr.loadAt, Instr.sureAddr] at h
  | _ => simp [Instr.loadAt, Instr.sureAddr] at h

theorem resT_sound (h : RelW P C st a w μ) : ∀ {rs : List ResultVar} {avs : List AV}, (resT P st rs).run = some avs →
    ∃ vs : List Value, (rs.mapM fun (r : ResultVar) => (match r with | .tmp t => pure (a.tmps.getD t undef) | .cell t ty => do loadVar ty (← asAddr (a.tmps.getD t undef)) : Sem Value)).run P w = .ok vs w ∧
      vs.length = avs.length ∧ ∀ (i : Nat) (av : AV), avs[i]? = some av → ∃ v, vs[i]? = some v ∧ ARel P (Sof C μ st.sto w) μ st.sto w av v
  | [], avs, hr => by
    simp only [resT, Tree.run, Option.some.injEq] at hr; subst hr
    exact ⟨[], by simp, rfl, fun i av hi => by simp at hi⟩
  | .tmp t :: r, avs, hr => by
    obtain ⟨l, h1, rfl⟩ := map_some hr
    obtain ⟨vs, k1, k2, k3⟩ := resT_sound h h1
    refine ⟨a.tmps.getD t undef :: vs, by simp only [List.mapM_cons, Sem.run_bind, Sem.run_pure, Result.andThen_ok, k1], by simp [k2], fun i av hi => ?_⟩
    cases i with
    | zero => simp only [List.getElem?_cons_zero, Option.some.injEq] at hi; subst hi; exact ⟨_, rfl, opd_rel (gl := []) (fun _ _ h => by cases h) h (.tmp t)⟩
    | succ i => simp only [List.getElem?_cons_succ] at hi ⊢; exact k3 i av hi
  | .cell t ty :: r, avs, hr => by
    obtain ⟨v0, h0, hr⟩ := run_bind_some hr
    obtain ⟨l, h1, rfl⟩ := map_some hr
    obtain ⟨vs, k1, k2, k3⟩ := resT_sound h h1
    obtain ⟨u, q1, q2⟩ := loadL_sound h.obj (opd1_rel (gl := []) (fun _ _ h => by cases h) h (.tmp t)) h0
    have q1 := load_as q1
    refine ⟨u :: vs, ?_, by simp [k2], fun i av hi => ?_⟩
    · rw [List.mapM_cons, Sem.run_bind]
      have e : (do loadVar ty (← asAddr (a.tmps.getD t undef)) : Sem Value).run P w = .ok u w := q1
      simp only [e, Sem.run_bind, Sem.run_pure, Result.andThen_ok, k1]
    · cases i with
      | zero => simp only [List.getElem?_cons_zero, Option.some.injEq] at hi; subst hi; exact ⟨_, rfl, q2⟩
      | succ i => simp only [List.getElem?_cons_succ] at hi ⊢; exact k3 i av hi

theorem mapM_results (fn : Func) (tmps : Array Value) {vs : List Value}
    (h : (fn.results.toList.mapM fun (r : ResultVar) => (match r with | .tmp t => pure (tmps.getD t undef) | .cell t ty => do loadVar ty (← asAddr (tmps.getD t undef)) : Sem Value)).run P w = .ok vs w) :
    (results fn tmps).run P w = .ok (if h : vs.toArray.size = 1 then vs.toArray[0] else .tuple vs.toArray) w := by
  unfold results
  rw [Array.mapM_eq_mapM_toList]
  simp only [Sem.run_bind, Sem.run_map]
  generalize hq : Sem.run P (List.mapM _ fn.results.toList) w = q
  have hq2 : q = .ok vs w := hq.symm.trans h
  rw [hq2]
  rfl

/-- Values in a row are what a call hands back. -/
theorem ret_value {st : St} {vs : List Value} (h : RelW P C st { tmps := vs.toArray, defers := [] } w μ) :
    RetRel P (Sof C μ st.sto w) μ st.sto w st.slots (if h : vs.toArray.size = 1 then vs.toArray[0] else .tuple vs.toArray) := by
  have hs := h.slots
  have hv := h.slot
  simp only [List.size_toArray] at hs
  generalize st.slots = avs at *
  unfold RetRel
  split
  · rename_i av
    match vs, hs with
    | [v], _ => simpa using hv 0 av rfl
  · rename_i hne
    have h1 : ¬ vs.toArray.size = 1 := by
      intro h1
      simp only [List.size_toArray] at h1
      match avs, (hs.symm.trans h1), hne with
      | [av], _, hne => exact hne av rfl
    rw [dif_neg h1]
    refine ⟨vs.toArray, rfl, by simpa using hs, fun i av hi => ?_⟩
    have hlt : i < vs.length := by rw [hs]; exact lt_of_getElem? hi
    refine ⟨vs[i], by simp [hlt], ?_⟩
    have := hv i av hi
    rw [Array.getD_eq_getD_getElem?] at this
    simpa [hlt] using this

theorem spec_of_den {E : Env} (hE : E.Ok) (hmix : E.P.follows .mixedOrders = true) {g : FuncId} {fn : Func} {c : Code} (hf : E.P.funcs[g]? = some fn) (hb : fn.body = some c) (hname : (fn.name == "runtime.NumGoroutine") = false)
    {pre post : Shape} {roots : Nat} {pan : Bool} {an : Ann} (hpre : rootsOk pre.objs post.objs roots = true) (hpost : post.rts = []) {f : pre.ty.El → Option (Rz pan post.ty.El)}
    (h : ∀ x y, f x = some y → denF E fn c an pre post roots pan x = some y) : Spec E.P E.gl g { pre, post, roots, pan, f } := by
  intro C hG x y args μ hy m hl hv
  have hden := h x y hy
  change Mem E.P C (pre.build x).sto C.w0 μ at m
  change args.size = (pre.build x).slots.length at hl
  refine .inr ⟨?_, calls_of_wp hf hb ?_⟩
  · have h1 : fn.name ≠ "runtime.NumGoroutine" := by simpa using hname
    simp [callFunc, hf, h1, hb]
  · let C1 : Cx := { C with pin := (List.range roots).map μ }
    have m1 : Mem E.P C1 (pre.build x).sto C.w0 μ := ⟨m.size, m.os, m.tape, m.output, m.frame, m.blk, m.inj, m.obj, m.caps⟩
    have hrel : RelW E.P C1 (entrySt fn pre roots x) { tmps := args ++ Array.replicate (fn.ntmps - args.size) undef, defers := [] } C.w0 μ := by
      refine Mem.rel (st := entrySt fn pre roots x) m1 ?_ ?_ rfl ?_
      · simp [entrySt, hl]
      · intro i v hi
        simp only [entrySt] at hi
        rw [List.getElem?_append] at hi
        split at hi
        · rename_i hlt
          have := hv i v hi
          have e : (args ++ Array.replicate (fn.ntmps - args.size) undef).getD i undef = args.getD i undef := by
            rw [Array.getD_eq_getD_getElem?, Array.getD_eq_getD_getElem?, Array.getElem?_append_left (by rw [hl]; exact hlt)]
          rw [e]; exact this
        · rename_i hge
          rw [List.getElem?_replicate] at hi
          split at hi
          · rename_i hlt2
            simp only [Option.some.injEq] at hi; subst hi
            have e : (args ++ Array.replicate (fn.ntmps - args.size) undef).getD i undef = undef := by
              rw [Array.getD_eq_getD_getElem?, Array.getElem?_append_right (by rw [hl]; omega), Array.getElem?_replicate]
              split <;> rfl
            rw [e]
            exact ⟨#[], rfl, rfl, fun i l hi => by simp at hi⟩
          · cases hi
      · intro k id hk
        have hk' : k < roots ∧ id = k := by
          have hk : (List.range roots)[k]? = some id := hk
          have hlt := lt_of_getElem? hk
          rw [List.length_range] at hlt
          rw [List.getElem?_range hlt] at hk
          exact ⟨hlt, (Option.some.inj hk).symm⟩
        obtain ⟨hk1, rfl⟩ := hk'
        obtain ⟨ss, ss', q1, q2, q3⟩ := rootsOk_at hpre id hk1
        obtain ⟨y0, q4⟩ := mkO_at (x := x.2) q1
        have q5 : (pre.build x).sto[id]? = some (obOf ss y0) := q4
        refine ⟨_, q5, by cases ss <;> simp [obOf], .inr ?_⟩
        show ((List.range roots).map μ)[id]? = some (μ id)
        rw [List.getElem?_map, List.getElem?_range hk1, Option.map_some]
    unfold denF at hden
    obtain ⟨r1, h1, h2⟩ := run_bind_some hden
    obtain ⟨ex, h3, h4⟩ := run_bind_some h1
    refine wp_mono (den_sound (C := C1) ⟨hE, hG⟩ hmix hrel h3) (fun z a' w' hl' => ?_)
    have hfin : ∀ (s : St), (∃ μ1, RelW E.P C1 s a' w' μ1) → (outT E.P fn post roots (.ret s)).run = some r1 →
        a'.defers = [] ∧ ∃ v, (results fn a'.tmps).run E.P w' = .ok v w' ∧ Post E.P C { pre, post, roots, pan, f } μ r1 (.returned v) w' := by
      rintro s ⟨μ1, r⟩ h4
      obtain ⟨rs, h5, h6⟩ := run_bind_some h4
      have h6 := ofO_run h6
      split at h6
      · rename_i yy hyy
        simp only [Option.some.injEq] at h6; subst h6
        obtain ⟨vs, k1, k2, k3⟩ := resT_sound r h5
        refine ⟨r.defers, _, mapM_results fn a'.tmps k1, ?_⟩
        have r2 : RelW E.P C1 { s with slots := rs } { tmps := vs.toArray, defers := [] } w' μ1 := by
          refine Mem.rel (st := { s with slots := rs }) r.mem (by simpa using k2) (fun i v hi => ?_) rfl r.root
          obtain ⟨u, q1, q2⟩ := k3 i v hi
          have e : vs.toArray.getD i undef = u := by
            rw [Array.getD_eq_getD_getElem?]; simp [q1]
          rw [e]; exact q2
        obtain ⟨μ2, r3⟩ := r2.conv hyy
        refine ⟨μ2, ⟨r3.size, r3.os, r3.tape, r3.output, r3.frame, r3.blk, r3.inj, r3.obj, r3.caps⟩, ?_, fun j hj => ?_⟩
        · have rv := ret_value r3
          exact rv
        · have hr0 := r3.root j j (by rw [show (({ post with rts := List.range roots } : Shape).build yy).rts = List.range roots from rfl]; exact List.getElem?_range hj)
          obtain ⟨o, q1, q2, q3⟩ := hr0
          obtain ⟨ss, ss', p1, p2, p3⟩ := rootsOk_at hpre j hj
          obtain ⟨y1, p4⟩ := mkO_at (x := yy.2) p2
          have p5 : (({ post with rts := List.range roots } : Shape).build yy).sto[j]? = some (obOf ss' y1) := p4
          rw [p5] at q1; cases q1
          rcases q3 with q3 | q3
          · cases ss' <;> cases q3
          · have q3 : ((List.range roots).map μ)[j]? = some (μ2 j) := q3
            rw [List.getElem?_map, List.getElem?_range hj, Option.map_some] at q3
            exact (Option.some.inj q3).symm
      · cases h6
    have hty : toEx pan y = r1 := by
      cases pan with
      | true => simp only [ofEx, Tree.run, Option.some.injEq] at h2; exact h2.symm
      | false => cases r1 with
        | ok z => simp only [ofEx, Tree.run, Option.some.injEq] at h2; rw [h2]; rfl
        | error v => simp [ofEx, Tree.run] at h2
    show bodyPost E.P fn (Post E.P C { pre, post, roots, pan, f } μ (toEx pan y)) z a' w'
    rw [hty]
    cases ex with
    | norm s =>
      cases z <;> simp only [Leaves] at hl' <;> first | exact hl'.elim | exact hfin s hl' h4
    | ret s =>
      cases z <;> simp only [Leaves] at hl' <;> first | exact hl'.elim | exact hfin s hl' h4
    | exit i s => simp [outT, Tree.run] at h4
    | pan v =>
      simp only [outT, Tree.run, Option.some.injEq] at h4; subst h4
      cases z <;> simp only [Leaves] at hl' <;> first | exact hl'.elim | skip
      obtain ⟨h5, h6, h7⟩ := hl'
      exact ⟨h6, h5, ⟨h7.size, h7.os, h7.tape, h7.output, h7.frame, h7.blk, h7.inj, h7.obj, h7.caps⟩⟩
theorem spec_of_eq {E : Env} (hE : E.Ok) (hmix : E.P.follows .mixedOrders = true) {g : FuncId} {fn : Func} (hf : E.P.funcs[g]? = some fn) (hb : fn.body.isSome = true) (hname : (fn.name == "runtime.NumGoroutine") = false)
    {pre post : Shape} {roots : Nat} {pan : Bool} {an : Ann} (hpre : rootsOk pre.objs post.objs roots = true) (hpost : post.rts = []) {f : pre.ty.El → Option (Rz pan post.ty.El)}
    (h : ∀ x, denF E fn (bodyOf fn) an pre post roots pan x = f x) : Spec E.P E.gl g { pre, post, roots, pan, f } :=
  spec_of_den hE hmix hf (bodyOf_some hb) hname hpre hpost (fun x y hy => (h x).trans hy)
end
end Go.Eng
end

/- Eng2L -/
section
set_option linter.unusedSimpArgs false
set_option linter.unusedVariables false
namespace Go.Eng
open Go.RowKit Go.ChangeShapes Go.WideShapes

/-- How much a piece of data holds: letters, and places in rows. -/
def wt : (t : Ty) → t.El → Nat
  | .str, x => List.length x
  | .pair a b, x => wt a x.1 + wt b x.2
  | .slice t, xs => (List.map (wt t) xs).sum + List.length xs
  | _, _ => 0

def layFs (rec : TypeId → Ty → Bool) (P : Program) : List Field → Nat → Ty → Bool
  | [], _, .unit => true
  | f :: fs, off, .pair a b => decide (f.offset = off) && decide (P.cellsOf f.type = a.size) && rec f.type a && layFs rec P fs (off + a.size) b
  | _, _, _ => false
/-- Is a type laid as this kind of data is? -/
def layOk (P : Program) : Nat → TypeId → Ty → Bool
  | 0, _, _ => false
  | n + 1, t, ty => match P.underlying t with
    | some (.int k) => (match ty with | .int k' => decide (k = k') | _ => false)
    | some .bool => (match ty with | .bool => true | _ => false)
    | some .string => (match ty with | .str => true | _ => false)
    | some (.slice e) => (match ty with | .slice te => decide (P.cellsOf e = te.size) && decide (0 < te.size) && layOk P n e te | _ => false)
    | some (.struct fs) => (match ty with | .pair a b => decide (P.cellsOf t = (Ty.pair a b).size) && layFs (layOk P n) P fs.toList 0 (.pair a b) | _ => false)
    | _ => false

/-- A measure of what is read: as the seat's 'bulk'. -/
structure BulkOk {H : Type} (β : DataW H → Nat) (βs : List (DataW H) → Nat) : Prop where
  one : ∀ d, 1 ≤ β d
  str : ∀ l, l.length + 1 ≤ β (.lit (.string l))
  slice : ∀ es sp, βs es + 1 ≤ β (.slice es sp)
  agg : ∀ ps, βs ps + 1 ≤ β (.agg ps)
  cons : ∀ d r, β d + βs r ≤ βs (d :: r)

section
variable {H : Type} {enc : TypeId × Value → H} {P : Program} {w : World} {base : Nat} {sp : Nat → Bool} {held : Bool} {β : DataW H → Nat} {βs : List (DataW H) → Nat}

theorem choose_list {α : Type} {n : Nat} {p : Nat → α → Prop} (h : ∀ i, i < n → ∃ x, p i x) : ∃ xs : List α, xs.length = n ∧ ∀ i x, xs[i]? = some x → p i x := by
  induction n with
  | zero => exact ⟨[], rfl, fun i x h => by simp at h⟩
  | succ n ih =>
    obtain ⟨xs, h1, h2⟩ := ih (fun i hi => h i (by omega))
    obtain ⟨y, hy⟩ := h n (by omega)
    refine ⟨xs ++ [y], by simp [h1], fun i x hi => ?_⟩
    rw [List.getElem?_append] at hi
    split at hi
    · exact h2 i x hi
    · rename_i hlt
      have : i - xs.length = 0 := by
        rcases Nat.eq_zero_or_pos (i - xs.length) with q | q
        · exact q
        · rw [List.getElem?_eq_none (by simp; omega)] at hi; cases hi
      rw [this] at hi
      simp only [List.getElem?_cons_zero, Option.some.injEq] at hi; subst hi
      have : i = n := by omega
      subst this
      exact hy

theorem sum_le (hβ : BulkOk β βs) {α : Type} {f : α → Nat} : ∀ {xs : List α} {ds : List (DataW H)}, xs.length = ds.length → (∀ (i : Nat) x d, xs[i]? = some x → ds[i]? = some d → f x + 1 ≤ β d) → (xs.map f).sum + xs.length ≤ βs ds
  | [], [], _, _ => by simp
  | [], _ :: _, h, _ => by simp at h
  | _ :: _, [], h, _ => by simp at h
  | x :: xs, d :: ds, h, hp => by
    have h1 := hp 0 x d rfl rfl
    have h2 := sum_le hβ (xs := xs) (ds := ds) (by simpa using h) (fun i x d hx hd => hp (i + 1) x d (by simpa using hx) (by simpa using hd))
    have h3 := hβ.cons d ds
    simp only [List.map_cons, List.sum_cons, List.length_cons]
    omega

theorem cells_read {a : Addr} {n : Nat} {cs : List Value} (h : w.cells? base a n = some cs) : cs.length = n ∧ ∀ i v, cs[i]? = some v → w.cell? (a.add i) = some v := by
  unfold World.cells? at h
  split at h
  · have hl := mapM_some_length h
    refine ⟨by simpa using hl, fun i v hi => ?_⟩
    have hlt : i < n := by have := lt_of_getElem? hi; rw [hl] at this; simpa using this
    have := mapM_some_get h i i (by simp [hlt])
    rw [this, hi]
  · cases h

theorem cell_spot {a : Addr} {v : Value} (h : w.cell? a = some v) : a.spot = none ∧ a.block < w.heap.size := by
  unfold World.cell? at h
  split at h
  · rename_i c _ _ hb
    split at h
    · cases h
    · rename_i hs
      exact ⟨by simpa using hs, lt_of_some hb⟩
  · cases h

def Old (w : World) : Nat → Prop := fun b => b < w.heap.size

theorem rep_of_trod (hβ : BulkOk β βs) : ∀ {n : Nat} {t : TypeId} {ty : Ty} {fuel : Nat} {cs : List Value} {x : DataW H × List MemPlace}, layOk P n t ty = true → DataW.trod enc P w base sp held fuel t cs = some x → β x.1 ≤ 4611686018427387904 →
    ∃ y : ty.El, Rep P false ty (Old w) w y cs ∧ wt ty y + 1 ≤ β x.1
  | 0, _, _, _, _, _, h, _, _ => by cases h
  | n + 1, t, ty, fuel, cs, x, h, hx, hb => by
    simp only [layOk] at h
    split at h
    · rename_i k hu
      split at h
      · rename_i k'
        simp only [decide_eq_true_eq] at h; subst h
        obtain ⟨z, rfl, rfl, hw⟩ := DataW.trod_int hu hx
        refine ⟨z, ?_, hβ.one _⟩
        have hw2 : k.min ≤ z ∧ z ≤ k.max := by simpa [Lit.wf] using hw
        simp only [Rep]
        exact ⟨by trivial, hw2⟩
      · cases h
    · rename_i hu
      split at h
      · obtain ⟨b, rfl, rfl⟩ := DataW.trod_bool hu hx
        exact ⟨b, by simp only [Rep], hβ.one _⟩
      · cases h
    · rename_i hu
      split at h
      · obtain ⟨s, rfl, rfl, hs⟩ := DataW.trod_string hu hx
        have h1 := hβ.str s.data.toList
        refine ⟨s.data.toList, ?_, h1⟩
        simp only [Rep]
        refine ⟨s, rfl, rfl, ?_⟩
        have : s.size = s.data.toList.length := by rw [Array.length_toList]; rfl
        dsimp only at hb
        omega
      · cases h
    · rename_i e hu
      split at h
      · rename_i te
        simp only [Bool.and_eq_true, decide_eq_true_eq] at h
        obtain ⟨⟨h1, h2⟩, h3⟩ := h
        rcases DataW.trod_slice hu hx with ⟨rfl, rfl⟩ | ⟨a, len, cap, elems, rest, m, rfl, rfl, rfl, hb1, hl, hm, hlen, hel, _, _⟩
        · refine ⟨[], ?_, ?_⟩
          rotate_left
          · have h0 := hβ.one (DataW.nil : DataW H)
            show (List.map (wt te) ([] : List te.El)).sum + List.length ([] : List te.El) + 1 ≤ _
            rw [List.map_nil, List.sum_nil, List.length_nil]
            exact h0
          simp only [Rep]
          clear hb
          exact ⟨none, 0, rfl, Nat.le_refl _, by decide, fun q => absurd rfl q⟩
        · have hs1 := hβ.slice (elems.map (·.1)) (rest.map (·.1))
          dsimp only at hb
          have hin : ∀ (ds : List (DataW H)) (i : Nat) d, ds[i]? = some d → β d ≤ βs ds := by
            intro ds
            induction ds with
            | nil => intro i d hd; simp at hd
            | cons a r ih =>
              intro i d hd
              have := hβ.cons a r
              cases i with
              | zero => simp at hd; subst hd; omega
              | succ i => have := ih i d (by simpa using hd); omega
          have hspot : 0 < len → a.spot = none ∧ a.block < w.heap.size := by
            intro hlen0
            have he := hel 0 hlen0
            rw [List.getElem?_eq_getElem (by omega), Option.bind_eq_some_iff] at he
            obtain ⟨cs, k1, k2⟩ := he
            obtain ⟨r1, r2⟩ := cells_read k1
            have hc0 : ∃ v, cs[0]? = some v := ⟨_, List.getElem?_eq_getElem (by rw [r1, h1]; exact h2)⟩
            obtain ⟨v0, hv0⟩ := hc0
            have := r2 0 v0 hv0
            simp only [Nat.zero_mul, Addr.add, if_true] at this
            exact cell_spot this
          obtain ⟨xs, hxl, hxs⟩ := choose_list (n := len) (p := fun i (y : te.El) => ∃ cs, Rep P false te (Old w) w y cs ∧ cs.length = te.size ∧ CellsAt w a.block (a.off + i * te.size) cs ∧ a.spot = none ∧ a.block < w.heap.size ∧
              ∀ d, (elems.map (·.1))[i]? = some d → wt te y + 1 ≤ β d) (fun i hi => by
            have he := hel i hi
            have hlt : i < elems.length := by omega
            rw [List.getElem?_eq_getElem hlt, Option.bind_eq_some_iff] at he
            obtain ⟨cs, k1, k2⟩ := he
            have hd : (elems.map (·.1))[i]? = some (elems[i]).1 := by simp [hlt]
            obtain ⟨y, q1, q2⟩ := rep_of_trod hβ h3 k2 (by have := hin _ _ _ hd; omega)
            obtain ⟨r1, r2⟩ := cells_read k1
            have hsp := hspot (by omega)
            refine ⟨y, cs, q1, by rw [r1, h1], fun j v hj => ?_, hsp.1, hsp.2, fun d hd' => ?_⟩
            · have := r2 j v hj
              have e : (a.add (i * P.cellsOf e)).add j = ⟨a.block, a.off + i * te.size + j, none⟩ := by
                have hs : a.spot = none := hsp.1
                obtain ⟨ab, ao, asp⟩ := a
                simp only at hs; subst hs
                rw [addr_add, addr_add, h1]
              rw [e] at this; exact this
            · rw [hd] at hd'; cases hd'; exact q2)
          refine ⟨xs, ?_, ?_⟩
          · simp only [Rep]
            refine ⟨some a, cap, by rw [hxl], by rw [hxl]; exact hl, by unfold maxLen at hm; omega, fun hne => ?_⟩
            obtain ⟨cs0, _, _, _, hsp, hblk, _⟩ := hxs 0 _ (List.getElem?_eq_getElem (Nat.pos_of_ne_zero hne))
            refine ⟨a.block, a.off, ?_, hblk, hblk, fun i y hi => ?_⟩
            · obtain ⟨ab, ao, asp⟩ := a
              simp only at hsp; subst hsp; rfl
            · obtain ⟨cs, q1, q2, q3, _⟩ := hxs i y hi
              exact ⟨cs, q1, q2, q3⟩
          · have := sum_le hβ (f := wt te) (xs := xs) (ds := elems.map (·.1)) (by simp [hxl, hlen]) (fun i y d hy hd => by
              obtain ⟨cs, _, _, _, _, _, q⟩ := hxs i y hy
              exact q d hd)
            simp only [wt]
            omega
      · cases h
    · rename_i fs hu
      split at h
      · rename_i ta tb
        simp only [Bool.and_eq_true, decide_eq_true_eq] at h
        obtain ⟨h1, h2⟩ := h
        obtain ⟨xs, m, rfl, rfl, hl, hfl, hf⟩ := DataW.trod_struct hu hx
        have hs1 := hβ.agg (xs.map (·.1))
        dsimp only at hb
        have key : ∀ (l : List Field) (off : Nat) (tz : Ty) (ds : List (DataW H)) (zs : List (DataW H × List MemPlace)), layFs (layOk P n) P l off tz = true → zs.length = l.length → off + tz.size ≤ cs.length →
            (∀ (i : Nat) (f : Field), l[i]? = some f → DataW.trod enc P w base sp held m f.type ((cs.drop f.offset).take (P.cellsOf f.type)) = zs[i]?) → βs (zs.map (·.1)) ≤ 4611686018427387904 →
            ∃ y : tz.El, Rep P false tz (Old w) w y ((cs.drop off).take tz.size) ∧ wt tz y ≤ βs (zs.map (·.1)) := by
          intro l
          induction l with
          | nil =>
            intro off tz ds zs hlay hzl hle hz hbz
            cases tz <;> simp only [layFs, Bool.false_eq_true] at hlay
            exact ⟨(), by simp [Rep, Ty.size], by simp [wt]⟩
          | cons f l ih =>
            intro off tz ds zs hlay hzl hle hz hbz
            cases tz <;> simp only [layFs, Bool.false_eq_true, Bool.and_eq_true, decide_eq_true_eq] at hlay
            rename_i ta tb
            obtain ⟨⟨⟨l1, l2⟩, l3⟩, l4⟩ := hlay
            cases zs with
            | nil => simp at hzl
            | cons z zs =>
              have hz0 := hz 0 f rfl
              simp only [List.getElem?_cons_zero] at hz0
              have hcons := hβ.cons z.1 (zs.map (·.1))
              simp only [List.map_cons] at hbz
              simp only [Ty.size] at hle
              obtain ⟨y1, q1, q2⟩ := rep_of_trod hβ l3 hz0 (by omega)
              obtain ⟨y2, q3, q4⟩ := ih (off + ta.size) tb [] zs l4 (by simpa using hzl) (by omega) (fun i f hi => by simpa using hz (i + 1) f (by simpa using hi)) (by omega)
              refine ⟨(y1, y2), ?_, by simp only [wt, List.map_cons]; omega⟩
              simp only [Rep]
              refine ⟨(cs.drop off).take ta.size, (cs.drop (off + ta.size)).take tb.size, ?_, by simp; omega, by simp; omega, by rw [l1, l2] at q1; exact q1, q3⟩
              simp only [Ty.size]
              rw [List.take_add, List.drop_drop]
        obtain ⟨y, q1, q2⟩ := key fs.toList 0 (.pair ta tb) [] xs h2 (by simpa using hfl) (by rw [hl, h1]; omega) (fun i f hi => hf i f (by simpa using hi)) (by omega)
        refine ⟨y, ?_, by dsimp only; omega⟩
        rw [List.drop_zero, List.take_of_length_le (by rw [hl, h1]; exact Nat.le_refl _)] at q1
        exact q1
      · cases h
    · cases h

/-- An argument. -/
theorem arg_rep (hβ : BulkOk β βs) {n : Nat} {t : TypeId} {ty : Ty} {v : Value} {d : DataW H} {ps : List MemPlace} {r : Reach} {b0 : Nat} (h : layOk P n t ty = true) (hv : Value.okWide P w r b0 t v)
    (hd : DataW.Trod enc P w base sp held t v d ps) (hb : β d ≤ 4611686018427387904) : ∃ y : ty.El, VRep P (Old w) w ty y v ∧ wt ty y + 1 ≤ β d := by
  obtain ⟨fuel, hf⟩ := hd
  obtain ⟨y, h1, h2⟩ := rep_of_trod hβ h hf hb
  refine ⟨y, ⟨_, h1.length, h1, ?_⟩, h2⟩
  cases n with
  | zero => cases h
  | succ n =>
    simp only [layOk] at h
    unfold Value.okWide at hv
    split at h
    · rename_i k hu
      split at h
      · simp only [hu, Cell.okWide, Cell.ok] at hv
        cases v <;> simp at hv <;> rfl
      · cases h
    · rename_i hu
      split at h
      · simp only [hu, Cell.okWide, Cell.ok] at hv
        cases v <;> simp at hv <;> rfl
      · cases h
    · rename_i hu
      split at h
      · simp only [hu, Cell.okWide, Cell.ok] at hv
        cases v <;> simp at hv <;> rfl
      · cases h
    · rename_i e hu
      split at h
      · simp only [hu, Cell.okWide, Cell.ok] at hv
        cases v <;> simp at hv <;> rfl
      · cases h
    · rename_i fs hu
      split at h
      · simp only [hu] at hv
        obtain ⟨cs, rfl, _, _⟩ := hv
        simp [Ty.agg, Value.cells]
      · cases h
    · cases h

/-- A call of a function whose contract speaks of data alone: nothing that was there is written to. -/
theorem call_of_spec {gl : Globs} {g : FuncId} {fs : FSpec} {fn : Func} {args : Array Value} {x : fs.pre.ty.El} {y : Rz fs.pan fs.post.ty.El} (hs : Spec P gl g fs) (hf : P.funcs[g]? = some fn) (hb : fn.body.isSome = true)
    (hname : (fn.name == "runtime.NumGoroutine") = false) (hobjs : fs.pre.objs = []) (hgl : ∀ g xs, (g, xs) ∈ gl → g < w.heap.size ∧ ∀ (i : Nat) (x : Int), xs[i]? = some x → w.cell? ⟨g, i, none⟩ = some (.int .i64 x) ∧ IntKind.i64.min ≤ x ∧ x ≤ IntKind.i64.max)
    (hy : fs.f x = some y) (hl : args.size = (fs.pre.build x).slots.length) (hv : ∀ (i : Nat) (av : AV), (fs.pre.build x).slots[i]? = some av → ARel P (Old w) (fun _ => none) [] w av (args.getD i undef)) :
    Calls P g args w fun e w' => ∃ C : Cx, C.w0 = w ∧ (∀ b, ¬ C.M0 b) ∧ Post P C fs (fun _ => none) (toEx fs.pan y) e w' := by
  let C : Cx := { w0 := w, S0 := Old w, M0 := fun _ => False, hS := fun _ h => h, hM := fun _ h => h.elim }
  have hsto : (fs.pre.build x).sto = [] := by
    show mkO fs.pre.objs x.2 = []
    exact List.eq_nil_of_length_eq_zero (by rw [mkO_length, hobjs]; rfl)
  have hm : Mem P C (fs.pre.build x).sto C.w0 (fun _ => none) := by
    rw [hsto]
    exact ⟨Nat.le_refl _, rfl, rfl, rfl, fun _ _ _ => rfl, fun id o b ho => by simp at ho, fun id id' o o' b ho => by simp at ho, fun id o ho => by simp at ho, fun _ _ h => h⟩
  have hS : ∀ b, Old w b → Sof C (fun _ => none) (fs.pre.build x).sto C.w0 b := fun b hb => ⟨hb, .inl hb, fun id o ho => by rw [hsto] at ho; simp at ho⟩
  have hd := hs C (fun g xs hg => ⟨(hgl g xs hg).1, (hgl g xs hg).2⟩) x y args (fun _ => none) hy hm hl (fun i av hi => by
    have := hv i av hi
    have hk : Keeps (Old w) (Sof C (fun _ => none) (fs.pre.build x).sto C.w0) (fun _ => none) (fun _ => none) [] (fs.pre.build x).sto w w := ⟨fun b hb _ => ⟨hS b hb, rfl⟩, fun id o ho => by simp at ho⟩
    exact this.keeps hk)
  rcases hd with ⟨v, w', h1, h2⟩ | ⟨_, h2⟩
  · exfalso
    obtain ⟨c, hc⟩ := Option.isSome_iff_exists.1 hb
    have hn : fn.name ≠ "runtime.NumGoroutine" := by simpa using hname
    have : (callFunc g args).run P w = .ok (.enter g args) w := by simp [callFunc, hf, hn, hc]
    have h1 : (callFunc g args).run P w = .ok (.value v) w' := h1
    rw [this] at h1
    cases h1
  · exact h2.mono fun e w' hp => ⟨C, rfl, fun _ h => h, hp⟩

theorem below_of_mem {C : Cx} {sto : List Ob} {w' : World} {μ : Nat → Option Nat} (h : Mem P C sto w' μ) (h0 : C.w0 = w) (hM : ∀ b, ¬ C.M0 b) : Below w.heap.size w w' := by
  subst h0
  exact ⟨h.os, h.tape, h.output, h.size, fun b hb => h.frame b hb (hM b)⟩
end
end Go.Eng
end

/- Eng2M -/
section
set_option linter.unusedSimpArgs false
set_option linter.unusedVariables false
namespace Go.Eng
open Go.Sort Go.RowKit Go.Proofs

def sortPre : Shape := mkSh [.arr .str] 1 [(0, .one (.vec 0))] []
def sortPost : Shape := mkSh [.arr .str] 0 [] []
def sortB (l : List Bytes) : List Bytes := l.mergeSort fun x y => decide (x ≤ y)
def sortF (x : sortPre.ty.El) : Option (Rz false sortPost.ty.El) := if decide (List.length x.2.1 < 4611686018427387904) = true then some ((), (sortB x.2.1, ())) else none
def sortSp : FSpec := ⟨sortPre, sortPost, 1, false, sortF⟩

theorem putCells_at {α : Type} [Inhabited α] (enc : α → Value) (d : Array α) (c : Array Value) (i : Nat) : (putCells enc 0 d c)[i]? = (c[i]?).map fun x => if i < d.size then enc d[i]! else x := by
  unfold putCells
  rw [Array.getElem?_mapIdx]
  cases c[i]? with
  | none => rfl
  | some v => simp

theorem sort_spec {P : Program} {gl : Globs} {g : FuncId} {fn : Func} (hf : P.funcs[g]? = some fn) (hb : fn.body.isSome = true) (hname : (fn.name == "runtime.NumGoroutine") = false)
    (hs : ∀ (blk off cap : Nat) (ss : List (List UInt8)) (w : World), Holds encStr w blk off ss.toArray → blk < w.heap.size → ss.length < 4611686018427387904 →
      Calls P g #[.slice (some ⟨blk, off, none⟩) ss.length cap] w fun e w' => e = .returned (.tuple #[]) ∧ ∃ n os, w' = grow (putRow encStr (Sort.ahead w n) blk off (ss.mergeSort fun x y => decide (x ≤ y)).toArray) os)
    (hn : ∀ (p : Option Addr) (cap : Nat) (w : World), Calls P g #[.slice p 0 cap] w fun e w' => e = .returned (.tuple #[]) ∧ w' = w) : Spec P gl g sortSp := by
  intro C hG x y args μ hy m hl hv
  obtain ⟨x0, xs, xu⟩ := x
  change sortF (x0, xs, xu) = some y at hy
  unfold sortF at hy
  split at hy
  · rename_i hlen
    simp only [decide_eq_true_eq] at hlen
    have hy := (Option.some.inj hy).symm
    subst hy
    change Mem P C [Ob.arr .str xs] C.w0 μ at m
    change args.size = 1 at hl
    obtain ⟨v, rfl⟩ : ∃ v, args = #[v] := by
      rcases args with ⟨l⟩
      match l, hl with
      | [v], _ => exact ⟨v, rfl⟩
    have h0 : LRel P (Sof C μ [Ob.arr .str xs] C.w0) μ [Ob.arr .str xs] C.w0 (.vec 0) v := hv 0 (.one (.vec 0)) rfl
    obtain ⟨c, hc⟩ := Option.isSome_iff_exists.1 hb
    have hn1 : fn.name ≠ "runtime.NumGoroutine" := by simpa using hname
    have henter : (callFunc g #[v]).run P C.w0 = .ok (.enter g #[v]) C.w0 := by simp [callFunc, hf, hn1, hc]
    refine .inr ⟨henter, ?_⟩
    have fin : ∀ (w' : World), Mem P C [Ob.arr .str (sortB xs)] w' μ → Post P C sortSp μ (toEx false ((), (sortB xs, ()))) (.returned (.tuple #[])) w' := by
      intro w' hm
      refine ⟨μ, hm, ?_, fun _ _ => rfl⟩
      exact ⟨#[], rfl, rfl, fun i av hi => by simp [sortSp, sortPost, mkSh, slotsOf, Shape.build, mkS] at hi⟩
    simp only [LRel, List.getElem?_cons_zero] at h0
    have hob := m.obj 0 (Ob.arr .str xs) rfl
    rcases h0 with ⟨h1, h2, a, rfl⟩ | ⟨b, cap, h1, rfl, h3, h4, h5⟩
    · refine (hn a 0 C.w0).mono ?_
      rintro e w' ⟨rfl, rfl⟩
      have hx : xs = [] := List.eq_nil_of_length_eq_zero h2
      have hs2 : sortB xs = xs := by rw [hx]; simp [sortB]
      refine fin _ ?_
      rw [hs2]; exact m
    · rcases hob with ⟨q1, _⟩ | ⟨b', cs, e, fz, q1, q2, q3, q4⟩
      · rw [h1] at q1; cases q1
      · rw [h1] at q1; cases q1
        have hblk := (m.blk 0 _ b rfl rfl h1)
        have e1 : Ty.size .str = 1 := rfl
        have hel : ∀ (j : Nat) (l : Bytes), xs[j]? = some l → cs[j]? = some (encStr l) := by
          intro j l hj
          obtain ⟨es, r1, r2⟩ := q4.2.2 j l hj
          simp only [Rep] at r1
          obtain ⟨bb, rfl, r3, _⟩ := r1
          have := r2 0 _ rfl
          rw [e1, Nat.mul_one, Nat.add_zero] at this
          rw [this]
          have : bb = ⟨l.toArray⟩ := by
            rcases bb with ⟨bd⟩
            rw [← r3]
          rw [this]
        have hH : Holds encStr C.w0 b 0 xs.toArray := by
          intro j hj
          have hj' : j < xs.length := by simpa using hj
          have := hel j xs[j] (List.getElem?_eq_getElem hj')
          have hcs : j < cs.size := by
            have := q4.2.1; rw [e1, Nat.mul_one] at this; omega
          refine ⟨?_, ?_⟩
          · simp only [World.cell?, Nat.zero_add, q2]
            rw [show (xs.toArray[j]! : Bytes) = xs[j] by simp [hj']]
            simpa using this
          · simp only [World.frozen?, Nat.zero_add, q2]
            have := q3 j hcs
            simpa using this
        refine (hs b 0 cap xs C.w0 hH hblk.1 hlen).mono ?_
        rintro ee w' ⟨rfl, n, os, rfl⟩
        refine fin _ ?_
        have hsl : (sortB xs).length = xs.length := by simp [sortB]
        have hget : ∀ k, k < C.w0.heap.size → k ≠ b → (grow (putRow encStr (Sort.ahead C.w0 n) b 0 (sortB xs).toArray) os).heap[k]? = C.w0.heap[k]? := by
          intro k hk hkb
          simp only [grow, putRow, mapBlock, Sort.ahead]
          rw [Array.getElem?_append_left (by simpa using hk), Array.getElem?_modify, if_neg (fun q => hkb q.symm)]
        have hgb : (grow (putRow encStr (Sort.ahead C.w0 n) b 0 (sortB xs).toArray) os).heap[b]? = some (.cells (putCells encStr 0 (sortB xs).toArray cs) e fz) := by
          simp only [grow, putRow, mapBlock, Sort.ahead]
          rw [Array.getElem?_append_left (by simpa using hblk.1), Array.getElem?_modify, if_pos rfl, q2]
          rfl
        have hsz : C.w0.heap.size ≤ (grow (putRow encStr (Sort.ahead C.w0 n) b 0 (sortB xs).toArray) os).heap.size := by simp [grow, putRow, mapBlock, Sort.ahead]
        have hpc : (putCells encStr 0 (sortB xs).toArray cs).size = cs.size := by simp [putCells]
        refine ⟨hsz, rfl, rfl, rfl, fun k hk hM => ?_, fun id o bb ho hm hid => ?_, fun id id' o o' bb ho ho' _ _ _ _ => ?_, fun id o ho => ?_, fun k nn hc => ?_⟩
        · refine hget k hk (fun e => ?_)
          subst e
          rcases hblk.2 with r | r
          · omega
          · exact hM r
        · cases id with
          | zero =>
            obtain ⟨r1, r2⟩ := m.blk 0 _ bb rfl rfl hid
            exact ⟨Nat.lt_of_lt_of_le r1 hsz, r2⟩
          | succ i => simp at ho
        · cases id with
          | zero => cases id' with
            | zero => rfl
            | succ i => simp at ho'
          | succ i => simp at ho
        · cases id with
          | zero =>
            simp only [List.getElem?_cons_zero, Option.some.injEq] at ho; subst ho
            refine .inr ⟨b, _, e, fz, h1, hgb, by rw [hpc]; exact q3, by rw [hsl]; exact q4.1, by rw [hsl, hpc]; exact q4.2.1, fun i l hi => ?_⟩
            have hil : i < (sortB xs).length := lt_of_getElem? hi
            have hics : i < cs.size := by have := q4.2.1; rw [e1, Nat.mul_one] at this; omega
            -- every text of the sorted row was there
            have hmem : l ∈ xs := by
              have := List.mem_of_getElem? hi
              exact (List.mergeSort_perm xs _).mem_iff.1 this
            obtain ⟨k, hk⟩ := List.getElem?_of_mem hmem
            obtain ⟨es, r1, r2⟩ := q4.2.2 k l hk
            have r1' : Rep P false .str (Sof C μ [Ob.arr .str (sortB xs)] (grow (putRow encStr (Sort.ahead C.w0 n) b 0 (sortB xs).toArray) os)) (grow (putRow encStr (Sort.ahead C.w0 n) b 0 (sortB xs).toArray) os) l es := flat_rep rfl r1
            refine ⟨es, r1', fun j v hj => ?_⟩
            simp only [Rep] at r1
            obtain ⟨bb, rfl, r3, _⟩ := r1
            cases j with
            | zero =>
              simp only [List.getElem?_cons_zero, Option.some.injEq] at hj; subst hj
              rw [e1, Nat.mul_one, Nat.add_zero, putCells_at, Array.getElem?_eq_getElem hics, Option.map_some, if_pos (by simpa using hil)]
              have : (sortB xs).toArray[i]! = l := by
                rw [List.getElem?_eq_getElem hil] at hi
                simp [hil, Option.some.inj hi]
              rw [this]
              have : bb = ⟨l.toArray⟩ := by
                rcases bb with ⟨bd⟩
                rw [← r3]
              rw [this]
            | succ j => simp at hj
          | succ i => simp at ho
        · obtain ⟨cs2, e2, fz2, r1, r2⟩ := hc
          by_cases hkb : k = b
          · subst hkb
            rw [q2] at r1; cases r1
            exact ⟨_, _, _, hgb, by rw [hpc]; exact r2⟩
          · exact ⟨cs2, e2, fz2, (hget k (lt_of_some r1) hkb).trans r1, r2⟩
  · cases hy
end Go.Eng
end
