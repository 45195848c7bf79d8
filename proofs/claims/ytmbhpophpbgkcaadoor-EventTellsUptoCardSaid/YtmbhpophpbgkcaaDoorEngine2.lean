/- The engine of these proofs, part 2: how programs of the model are read as functions of data. No condition. -/
import Derived.Test.YtmbhpophpbgkcaaDoorEngine1
import Derived.Orders
/- EngR -/
section
set_option linter.unusedSimpArgs false
set_option linter.unusedVariables false
namespace Go.Eng
open Tree

def isStr : Lf → Bool | .val .str _ => true | _ => false

def convL (P : Program) (sto : List Ob) (fid : Nat) (src dst : TypeId) (x : Lf) : Tree Eff :=
  match P.underlying src, P.underlying dst with
  | some (.int _), some (.int k) => match x with
    | .val (.int _) n => leaf { val := .one (.val (.int k) (k.wrap n)) }
    | _ => fail
  | some .string, some .string => match x with
    | .val .str s => leaf { val := .one (.val .str s) }
    | _ => fail
  | some .string, some (.slice e) => match P.underlying e, x with
    | some (.int .u8), .val .str s => grd (decide (List.length s ≤ 4294967296)) (leaf { fresh := some (.arr (.int .u8) (List.map (fun b : UInt8 => ((b.toNat : Nat) : Int)) s)), val := .one (.vec fid) })
    | _, _ => fail
  | some (.slice e), some .string => match P.underlying e with
    | some (.int .u8) => if isStr x then fail else (match elemsOf sto (.int .u8) x with
      | some ys => grd (decide (List.length ys ≤ 4611686018427387904)) (leaf { val := .one (.val .str (List.map (fun n : Int => UInt8.ofNat n.toNat) ys)) })
      | none => fail)
    | _ => fail
  | _, _ => fail

section
variable {P : Program} {C : Cx} {st : St} {a : Act} {w w' : World} {μ : Nat → Option Nat} {S : Nat → Prop} {sto : List Ob}

theorem zeroOk_spec {e : TypeId} {te : Ty} {i : TypeInfo} {z : Value} (h : zeroOk P e te = true) (hi : P.info? e = some i) (hz : i.zero = some z) : ∀ S w, Rep P false te S w te.zero z.cells.toList := by
  unfold zeroOk at h
  rw [hi] at h
  simp only [hz] at h
  split at h
  · rename_i hr
    obtain ⟨c, h1, h2⟩ := zeroRep_sound (P := P) hr
    rw [List.append_nil] at h1
    rw [h1]; exact h2
  · cases h

theorem makeSliceL_sound {fid : Nat} {t : TypeId} {n c : Lf} {u v : Value} {ef : Eff} (h : RelW P C st a w μ) (hfid : FidOk st.sto fid) (hn : LRel P (Sof C μ st.sto w) μ st.sto w n u) (hc : LRel P (Sof C μ st.sto w) μ st.sto w c v)
    (hr : (makeSliceL P fid t n c).run = some ef) :
    ∃ r w' μ', (Instr.makeSlice t u v).run P w = .ok r w' ∧ RelW P C { st with sto := ef.sto fid st.sto } a w' μ' ∧ ARel P (Sof C μ' (ef.sto fid st.sto) w') μ' (ef.sto fid st.sto) w' ef.val r := by
  unfold makeSliceL at hr
  split at hr
  · rename_i e ht
    split at hr
    · rename_i te _
      split at hr
      · rename_i hok
        simp only [Bool.and_eq_true] at hok
        obtain ⟨hrow, hzo⟩ := hok
        obtain ⟨i, z, hi, hsz, hpos, hby, hz, hzs⟩ := rowOk_spec hrow
        split at hr
        · rename_i k1 l k2 m
          obtain ⟨rfl, _⟩ := lrel_int.1 hn
          obtain ⟨rfl, _⟩ := lrel_int.1 hc
          obtain ⟨hb, hr⟩ := run_grd hr
          simp only [makeB, Bool.and_eq_true, decide_eq_true_eq] at hb
          obtain ⟨⟨h0, h1⟩, h2⟩ := hb
          simp only [Tree.run, Option.some.injEq] at hr; subst hr
          have hrun := run_make (P := P) w t e i z ht hi hz k1 k2 l m h0 h1 (by
            have : (i.bytes : Int) * m ≤ 4096 * 4294967296 := Int.mul_le_mul (by omega) h2 (by omega) (by omega)
            omega) (by omega)
          rw [hsz] at hrun
          have hmc : (madeCells z.cells ((Int.toNat m) * te.size)).size = (Int.toNat m) * te.size := by simp [madeCells]
          have hle : (Int.toNat l) * te.size ≤ (Int.toNat m) * te.size := Nat.mul_le_mul_right _ (by omega)
          have hZ : ElsIn P (Sof C μ st.sto w) w te (List.replicate (Int.toNat l) te.zero) ((madeCells z.cells ((Int.toNat m) * te.size)).toList.take ((Int.toNat l) * te.size)) := by
            intro q x hq
            rw [List.getElem?_replicate] at hq
            split at hq
            · rename_i hlt
              simp only [Option.some.injEq] at hq; subst hq
              refine ⟨z.cells.toList, zeroOk_spec hzo hi hz _ _, fun j v hj => ?_⟩
              have hj1 := lt_of_getElem? hj
              simp only [Array.length_toList, hzs] at hj1
              have h3 : (q + 1) * te.size ≤ (Int.toNat l) * te.size := Nat.mul_le_mul_right _ hlt
              rw [Nat.add_mul, Nat.one_mul] at h3
              rw [List.getElem?_take, if_pos (by omega), Array.getElem?_toList]
              simp only [madeCells, Array.getElem?_map, Array.getElem?_range]
              rw [if_pos (by omega)]
              simp only [Option.map_some, hzs, Option.some.injEq]
              have e1 : (q * te.size + j) % te.size = j := by
                rw [Nat.add_comm, Nat.add_mul_mod_self_right]; exact Nat.mod_eq_of_lt hj1
              rw [e1]
              rw [Array.getElem?_toList] at hj
              rw [getElem!_def, hj]
            · cases hq
          obtain ⟨r, hl⟩ := h.newArr (e := e) (kid := none) (fid := fid) (zs := List.replicate (Int.toNat l) te.zero) (R := ((madeCells z.cells ((Int.toNat m) * te.size)).toList.drop ((Int.toNat l) * te.size)).toArray) (c := (Int.toNat m)) hfid (fun k hk => by cases hk) hZ
            (by rw [List.length_take, Array.length_toList, hmc, List.length_replicate]; omega) (by simp; omega) (by omega) (by simp [hmc, Nat.sub_mul])
          have e2 : ((madeCells z.cells ((Int.toNat m) * te.size)).toList.take ((Int.toNat l) * te.size)).toArray ++ ((madeCells z.cells ((Int.toNat m) * te.size)).toList.drop ((Int.toNat l) * te.size)).toArray = madeCells z.cells ((Int.toNat m) * te.size) := by
            apply Array.ext'; simp
          rw [e2] at r hl
          rw [List.length_replicate] at hl
          exact ⟨_, _, _, hrun, r, hl⟩
        · simp [Tree.run] at hr
      · simp [Tree.run] at hr
    · simp [Tree.run] at hr
  · simp [Tree.run] at hr

theorem els_bytes {ys : List Int} {B : List Value} (h : ElsIn P S w (.int .u8) ys B) (hl : B.length = ys.length * (Ty.int .u8).size) : B = ys.map (Value.int .u8) ∧ ∀ y ∈ ys, 0 ≤ y ∧ y ≤ 255 := by
  have one : ∀ (i : Nat) (y : Int), ys[i]? = some y → B[i]? = some (Value.int .u8 y) ∧ 0 ≤ y ∧ y ≤ 255 := by
    intro i y hi
    obtain ⟨es, k1, k2⟩ := h i y hi
    simp only [Rep] at k1
    obtain ⟨k1, k3, k4⟩ := k1
    subst k1
    have := k2 0 _ rfl
    simp only [Ty.size, Nat.mul_one, Nat.add_zero] at this
    have h1 : IntKind.u8.min = 0 := by decide
    have h2 : IntKind.u8.max = 255 := by decide
    exact ⟨this, by have q : IntKind.u8.min ≤ y := k3; omega, by have q : y ≤ IntKind.u8.max := k4; omega⟩
  constructor
  · apply List.ext_getElem?
    intro i
    rw [List.getElem?_map]
    cases hy : ys[i]? with
    | some y => rw [(one i y hy).1]; rfl
    | none =>
      have hge : ys.length ≤ i := List.getElem?_eq_none_iff.1 hy
      simp only [Ty.size, Nat.mul_one] at hl
      rw [List.getElem?_eq_none (by omega)]; rfl
  · intro y hy
    obtain ⟨i, hi⟩ := List.getElem?_of_mem hy
    exact (one i y hi).2

theorem foldl_push (ns : List Int) : ∀ (b : ByteArray), (ns.foldl (fun r n => r.push (UInt8.ofNat n.toNat)) b).data.toList = b.data.toList ++ ns.map fun n => UInt8.ofNat n.toNat := by
  induction ns with
  | nil => intro b; simp
  | cons n ns ih => intro b; simp only [List.foldl_cons, List.map_cons]; rw [ih]; simp

theorem convL_sound {fid : Nat} {src dst : TypeId} {x : Lf} {u : Value} {ef : Eff} (h : RelW P C st a w μ) (hfid : FidOk st.sto fid) (hx : LRel P (Sof C μ st.sto w) μ st.sto w x u) (hr : (convL P st.sto fid src dst x).run = some ef) :
    ∃ r w' μ', (convert src dst u).run P w = .ok r w' ∧ RelW P C { st with sto := ef.sto fid st.sto } a w' μ' ∧ ARel P (Sof C μ' (ef.sto fid st.sto) w') μ' (ef.sto fid st.sto) w' ef.val r := by
  unfold convL at hr
  split at hr
  · rename_i hs hd
    split at hr
    · obtain ⟨rfl, _⟩ := lrel_int.1 hx
      simp only [Tree.run, Option.some.injEq] at hr; subst hr
      exact ⟨_, w, μ, by simp [convert, run_underlying hs, run_underlying hd, Conv.intToInt], h, vrep_int.2 ⟨rfl, wrap_within _ _⟩⟩
    · simp [Tree.run] at hr
  · rename_i hs hd
    split at hr
    · obtain ⟨b, rfl, rfl, hb⟩ := lrel_str.1 hx
      simp only [Tree.run, Option.some.injEq] at hr; subst hr
      exact ⟨_, w, μ, by simp [convert, run_underlying hs, run_underlying hd], h, vrep_str.2 ⟨b, rfl, rfl, hb⟩⟩
    · simp [Tree.run] at hr
  · rename_i e hs hd
    split at hr
    · rename_i s he
      obtain ⟨b, rfl, rfl, hb⟩ := lrel_str.1 hx
      obtain ⟨hlim, hr⟩ := run_grd hr
      simp only [decide_eq_true_eq] at hlim
      simp only [Tree.run, Option.some.injEq] at hr; subst hr
      have hrun := Lib.run_convert_string_bytes (P := P) w src dst e b hs hd he
      have hsz : b.data.toList.length = b.size := by rw [Array.length_toList]; rfl
      have hnew := Lib.bytesWorld_at_new w e b
      have hbe : ElsIn P (Sof C μ st.sto w) w (.int .u8) (b.data.toList.map fun b : UInt8 => ((b.toNat : Nat) : Int)) (b.data.toList.map fun c => Value.int .u8 ((c.toNat : Nat) : Int)) := by
        intro i x hi
        simp only [List.getElem?_map, Option.map_eq_some_iff] at hi
        obtain ⟨c, hc, rfl⟩ := hi
        have hlt := c.toNat_lt
        have h1 : IntKind.u8.min = 0 := by decide
        have h3 : IntKind.u8.max = 255 := by decide
        refine ⟨[.int .u8 ((c.toNat : Nat) : Int)], ?_, fun j v hj => ?_⟩
        · simp only [Rep]
          exact ⟨by first | rfl | trivial, by show IntKind.u8.min ≤ ((c.toNat : Nat) : Int); rw [h1]; omega, by show ((c.toNat : Nat) : Int) ≤ IntKind.u8.max; rw [h3]; omega⟩
        · cases j with
          | succ j => simp at hj
          | zero =>
            simp only [List.getElem?_cons_zero, Option.some.injEq] at hj; subst hj
            simp [Ty.size, hc]
      have hcl : (Lib.bytesCells w e b).size = grownCap w b.size 0 e := by
        have : b.size ≤ grownCap w b.size 0 e := by simp [grownCap, Question.cut]
        have h2 : b.data.size = b.size := rfl
        simp [Lib.bytesCells, h2]; omega
      have hcap1 : b.size ≤ grownCap w b.size 0 e := by simp [grownCap, Question.cut]
      have hcap2 : grownCap w b.size 0 e ≤ 9223372036854775807 := by
        simp only [grownCap, Question.cut]
        have : w.tape w.drawn (.appendCap b.size 0 e) % (2 ^ 63 - b.size) < 2 ^ 63 - b.size := Nat.mod_lt _ (by omega)
        omega
      obtain ⟨r, hk⟩ := h.fresh (w' := Lib.bytesWorld w e b) (m := some w.heap.size) (kid := none) (ob := .arr (.int .u8) (List.map (fun b : UInt8 => ((b.toNat : Nat) : Int)) b.data.toList)) hfid (fun k hk => by cases hk)
        (by rw [Lib.bytesWorld_size]; omega) (by simp [Lib.bytesWorld, World.freeze]; rfl) (by simp [Lib.bytesWorld, World.freeze]) (by simp [Lib.bytesWorld, World.freeze]; rfl)
        (fun j hj _ => Lib.bytesWorld_at_old w e b j hj) (capAt_keep fun j hj => Lib.bytesWorld_at_old w e b j hj) (fun j hj => by cases hj; exact ⟨by rw [Lib.bytesWorld_size]; omega, .inl (Nat.le_refl _)⟩)
        (fun hk => .inr ⟨w.heap.size, _, e, _, upd_same _ _ _, hnew, fun i hi hf => by have := hf.1; simp only at this; omega, by
          have := arrAt_of (R := (Array.replicate (grownCap w b.size 0 e - b.size) (Value.int .u8 0)).toList) (hbe.ext hk.ext) (by simp [Ty.size]) (by rw [List.length_map, hsz]; omega)
          have e1 : ((b.data.toList.map fun c => Value.int .u8 ((c.toNat : Nat) : Int)) ++ (Array.replicate (grownCap w b.size 0 e - b.size) (Value.int .u8 0)).toList).toArray = Lib.bytesCells w e b := by
            apply Array.ext'; simp [Lib.bytesCells]
          rw [e1] at this
          exact this⟩)
      refine ⟨_, _, _, hrun, r, ?_⟩
      simp only [Eff.sto, frz, applyUpd, ARel, LRel, place_get (fidOk_kill (kid := none) hfid (fun k hk => by cases hk)), if_true]
      refine .inr ⟨_, grownCap w b.size 0 e, upd_same _ _ _, ?_, ?_, hcap2, _, e, _, hnew, ?_⟩
      · rw [List.length_map, hsz]
      · rw [List.length_map, hsz]; exact hcap1
      · rw [hcl]; simp [Ty.size]
    · simp [Tree.run] at hr
  · rename_i e hs hd
    split at hr
    · rename_i he
      split at hr
      · simp [Tree.run] at hr
      · rename_i hns
        split at hr
        · rename_i ys hys
          obtain ⟨hlim, hr⟩ := run_grd hr
          simp only [decide_eq_true_eq] at hlim
          simp only [Tree.run, Option.some.injEq] at hr; subst hr
          obtain ⟨hlen, hel⟩ := elemsOf_sound h.obj (by simp [Ty.size]) hx hys
          obtain ⟨B, hB, hBs, hBe⟩ := hel ys.length (Nat.le_refl _)
          rw [List.take_length] at hBe
          obtain ⟨hBy, hrg⟩ := els_bytes hBe (by simpa using hBs)
          have hsl : ∃ base c, u = .slice base ys.length c := by
            have hh : ∀ {base : Option Addr} {n c : Nat}, u = .slice base n c → ∃ base c, u = .slice base ys.length c := by
              intro base n c hu
              subst hu
              simp only [Builtin.lenOf, Sem.run_pure, Result.ok.injEq, and_true] at hlen
              rw [hlen]; exact ⟨_, _, rfl⟩
            cases u with
            | slice base n c => exact hh rfl
            | string b =>
              exfalso
              unfold elemsOf at hys
              split at hys
              · have hv := (vrep_one rfl).1 hx
                simp only [Rep] at hv
                obtain ⟨_, _, hv, _⟩ := hv
                simp at hv
              · simp [isStr] at hns
              · obtain ⟨_, hv⟩ := hx; cases hv
              · split at hys <;> first | (cases hys; done) | (rename_i ho; simp only [LRel, ho] at hx; rcases hx with ⟨_, _, _, hv⟩ | ⟨_, _, _, hv, _⟩ <;> cases hv)
              · split at hys <;> first | (cases hys; done) | (rename_i ho; simp only [LRel, ho] at hx; obtain ⟨_, _, _, hv, _⟩ := hx; cases hv)
              · cases hys
            | _ => simp [Builtin.lenOf] at hlen
          obtain ⟨base, c, rfl⟩ := hsl
          have hrun : (convert src dst (.slice base ys.length c)).run P w = .ok (.string (ys.foldl (fun r n => r.push (UInt8.ofNat n.toNat)) ByteArray.empty)) w := by
            have e1 : (convert src dst (.slice base ys.length c)).run P w = (Conv.bytesToString (.slice base ys.length c)).run P w := run_convert_bytes_string w src dst e _ _ _ hs he hd
            rw [e1]
            cases base with
            | none =>
              have : ys = [] := by
                simp only [Builtin.firstCells, Sem.run_pure, Result.ok.injEq, and_true] at hB
                subst hB
                simp [Ty.size] at hBs
                exact List.eq_nil_of_length_eq_zero hBs.symm
              subst this
              simp [Conv.bytesToString]
            | some ad =>
              refine run_bytesToString w ad ys.length c ys ?_
              simp only [Builtin.firstCells, Ty.size, Nat.mul_one] at hB
              rw [hB]
              congr 1
              apply Array.ext'
              rw [hBy]
          refine ⟨_, w, μ, hrun, h, vrep_str.2 ⟨_, rfl, ?_, ?_⟩⟩
          · rw [foldl_push]; simp
          · have e2 : (ys.foldl (fun r n => r.push (UInt8.ofNat n.toNat)) ByteArray.empty).size = (ys.foldl (fun r n => r.push (UInt8.ofNat n.toNat)) ByteArray.empty).data.toList.length := by rw [Array.length_toList]; rfl
            rw [e2, foldl_push]
            simpa using hlim
        · simp [Tree.run] at hr
    · simp [Tree.run] at hr
  · simp [Tree.run] at hr
end
end Go.Eng
end

/- EngS -/
section
set_option linter.unusedSimpArgs false
set_option linter.unusedVariables false
namespace Go.Eng
open Tree

def eqLf : Lf → Lf → Option Bool
  | .val (.int k) a, .val (.int k') b => if k = k' then some (a == b) else none
  | .val .bool a, .val .bool b => some (a == b)
  | .val .str a, .val .str b => some (a == b)
  | _, _ => none

def kindOk : TypeDesc → Lf → Bool
  | .int k, .val (.int k') _ => decide (k = k')
  | .bool, .val .bool _ => true
  | .string, .val .str _ => true
  | _, _ => false

def eqFs (P : Program) (E : TypeId → List Lf → List Lf → Option Bool) (xs ys : List Lf) : List Field → Option Bool
  | [] => some true
  | f :: fs => if f.name ≠ "_" then
      match szOf P f.type with
      | some sz => if f.offset + sz ≤ xs.length ∧ f.offset + sz ≤ ys.length then
          (match E f.type ((xs.drop f.offset).take sz) ((ys.drop f.offset).take sz) with
          | some a => match eqFs P E xs ys fs with | some b => some (a && b) | none => none
          | none => none) else none
      | none => none
    else eqFs P E xs ys fs

def eqT (P : Program) : Nat → TypeId → List Lf → List Lf → Option Bool
  | 0, _, _, _ => none
  | n + 1, t, xs, ys => match P.underlying t with
    | some (.struct fs) => if P.stoodInHeld t then none else if xs.length = ys.length then eqFs P (eqT P n) xs ys fs.toList else none
    | some d => match xs, ys with
      | [x], [y] => if kindOk d x then eqLf x y else none
      | _, _ => none
    | none => none

def isAggAV : AV → Bool
  | .agg _ => true
  | .one (.val t _) => t.agg
  | _ => false

def eqAV (P : Program) (sto : List Ob) (op : BinOp) (t : TypeId) (x y : AV) : Tree Lf :=
  match leavesOf sto x, leavesOf sto y with
  | some xs, some ys => if aggOf P t = true ∧ P.eqGuardType P.depth t = false ∧ isAggAV x = true ∧ isAggAV y = true then
      match eqT P 20 t xs ys with
      | some b => match op with
        | .eql => leaf (.val .bool b)
        | .neq => leaf (.val .bool (!b))
        | _ => fail
      | none => fail
    else fail
  | _, _ => fail

def binA (P : Program) (sto : List Ob) (op : BinOp) (t : TypeId) (x y : AV) : Tree Lf :=
  if isAggAV x then eqAV P sto op t x y else
  match x, y with
  | .one x, .one y => binL P sto op t x y
  | _, _ => fail

section
variable {P : Program} {C : Cx} {st : St} {a : Act} {w w' : World} {μ : Nat → Option Nat} {S : Nat → Prop} {sto : List Ob}

def valOf (P : Program) (t : TypeId) (cs : List Value) : Value := if aggOf P t then .agg cs.toArray else cs.headD undef

theorem eqLf_sound {t : TypeId} {d : Nat} {td : TypeDesc} {x y : Lf} {u v : Value} {b : Bool} (ht : P.underlying t = some td) (hk : kindOk td x = true) (hx : LRel P S μ sto w x u) (hy : LRel P S μ sto w y v)
    (h : eqLf x y = some b) : (Op.equalIn (d + 1) t u v).run P w = .ok b w := by
  unfold eqLf at h
  split at h
  · rename_i k p k' q
    obtain ⟨rfl, _⟩ := lrel_int.1 hx
    obtain ⟨rfl, _⟩ := lrel_int.1 hy
    split at h
    · rename_i hkk
      subst hkk
      simp only [Option.some.injEq] at h; subst h
      cases td <;> simp only [kindOk, Bool.false_eq_true] at hk
      exact run_equalIn_int w d t k _ p q ht
    · cases h
  · obtain rfl := lrel_bool.1 hx
    obtain rfl := lrel_bool.1 hy
    simp only [Option.some.injEq] at h; subst h
    cases td <;> simp only [kindOk, Bool.false_eq_true] at hk
    exact run_equalIn_bool' w d t _ _ ht
  · obtain ⟨p, rfl, rfl, _⟩ := lrel_str.1 hx
    obtain ⟨q, rfl, rfl, _⟩ := lrel_str.1 hy
    simp only [Option.some.injEq] at h; subst h
    cases td <;> simp only [kindOk, Bool.false_eq_true] at hk
    rw [run_equalIn_string w d t p q ht, ByteArray.toList_eq, ByteArray.toList_eq]
  · cases h

theorem run_part {t : TypeId} {cs : Array Value} {off sz : Nat} (hu : (P.underlying t).isSome = true) (hs : szOf P t = some sz) (hle : off + sz ≤ cs.size) (hone : aggOf P t = false → sz = 1) :
    (part t cs off).run P w = .ok (valOf P t ((cs.toList.drop off).take sz)) w := by
  unfold part valOf
  rw [Sem.run_bind, run_isAgg hu, Result.andThen_ok]
  cases ha : aggOf P t with
  | true =>
    rw [if_pos rfl, if_pos rfl, Sem.run_bind, run_sizeOf hs, Result.andThen_ok, Sem.run_pure]
    congr 2
    apply Array.ext'
    rw [Array.toList_extract]
    simp [List.extract_eq_take_drop]
  | false =>
    have h1 := hone ha
    subst h1
    have hlt : off < cs.size := by omega
    simp only [Bool.false_eq_true, if_false, Array.getElem?_eq_getElem hlt, Sem.run_pure]
    congr 1
    rw [List.drop_eq_getElem_cons (by simpa using hlt)]
    simp

theorem eqFs_sound {d : Nat} {E : TypeId → List Lf → List Lf → Option Bool} {xs ys : List Lf} {cx cy : List Value} (hx : Cells P S μ sto w xs cx) (hy : Cells P S μ sto w ys cy)
    (hE : ∀ {t : TypeId} {xs ys : List Lf} {cx cy : List Value} {b : Bool}, Cells P S μ sto w xs cx → Cells P S μ sto w ys cy → E t xs ys = some b →
      (Op.equalIn d t (valOf P t cx) (valOf P t cy)).run P w = .ok b w ∧ (P.underlying t).isSome = true ∧ (aggOf P t = false → xs.length = 1)) :
    ∀ {fs : List Field} {b : Bool}, eqFs P E xs ys fs = some b → (Op.eqFields d cx.toArray cy.toArray fs).run P w = .ok b w
  | [], b, h => by simp only [eqFs, Option.some.injEq] at h; subst h; simp [Op.eqFields]
  | f :: fs, b, h => by
    have lx := cells_length hx
    have ly := cells_length hy
    simp only [eqFs] at h
    rw [Op.eqFields]
    split at h
    · rename_i hname
      rw [if_pos hname]
      split at h
      · rename_i sz hsz
        split at h
        · rename_i hle
          split at h
          · rename_i a1 ha1
            split at h
            · rename_i b1 hb1
              simp only [Option.some.injEq] at h; subst h
              obtain ⟨e1, e2, e3⟩ := hE (cells_take (cells_drop hx f.offset) sz) (cells_take (cells_drop hy f.offset) sz) ha1
              have e4 : aggOf P f.type = false → sz = 1 := fun ha => by
                have := e3 ha
                simp only [List.length_take, List.length_drop] at this
                omega
              have q1 := run_part (w := w) (off := f.offset) (cs := cx.toArray) e2 hsz (by simp; omega) e4
              have q2 := run_part (w := w) (off := f.offset) (cs := cy.toArray) e2 hsz (by simp; omega) e4
              simp only [Sem.run_bind, q1, q2, e1, Result.andThen_ok]
              cases a1 with
              | true => simpa using eqFs_sound hx hy hE hb1
              | false => simp
            · cases h
          · cases h
        · cases h
      · cases h
    · rename_i hname
      rw [if_neg hname]
      exact eqFs_sound hx hy hE h

theorem eqT_sound : ∀ {n d : Nat} {t : TypeId} {xs ys : List Lf} {cx cy : List Value} {b : Bool}, n ≤ d → Cells P S μ sto w xs cx → Cells P S μ sto w ys cy → eqT P n t xs ys = some b →
    (Op.equalIn d t (valOf P t cx) (valOf P t cy)).run P w = .ok b w ∧ (P.underlying t).isSome = true ∧ (aggOf P t = false → xs.length = 1)
  | 0, d, t, xs, ys, cx, cy, b, _, _, _, h => by cases h
  | n + 1, 0, _, _, _, _, _, _, hn, _, _, _ => by omega
  | n + 1, d + 1, t, xs, ys, cx, cy, b, hn, hx, hy, h => by
    unfold eqT at h
    split at h
    · rename_i fs ht
      split at h
      · cases h
      · rename_i hp
        split at h
        · have hag : aggOf P t = true := by simp [aggOf, ht]
          have hfo : P.fieldsOf t = fs := by simp [Program.fieldsOf, ht]
          refine ⟨?_, by simp [ht], fun ha => by rw [hag] at ha; cases ha⟩
          simp only [valOf, hag, if_true]
          rw [run_equalIn_struct w d t _ _ (by rw [hfo]; exact ht) (by simpa using hp), hfo]
          exact eqFs_sound hx hy (fun hx hy h => eqT_sound (n := n) (d := d) (by omega) hx hy h) h
        · cases h
    · rename_i td _ ht
      split at h
      · rename_i x y
        split at h
        · rename_i hk
          match cx, cy, hx, hy with
          | [u], [v], hx, hy =>
            have hag : aggOf P t = false := by
              cases td <;> simp only [kindOk, Bool.false_eq_true] at hk <;> simp [aggOf, ht]
            refine ⟨?_, by simp [ht], fun _ => rfl⟩
            simp only [valOf, hag, Bool.false_eq_true, if_false, List.headD_cons]
            exact eqLf_sound ht hk hx.1.2 hy.1.2 h
        · cases h
      · cases h
    · cases h

theorem isAgg_value {av : AV} {v : Value} (hv : ARel P S μ sto w av v) (h : isAggAV av = true) : v = .agg v.cells.toList.toArray := by
  unfold isAggAV at h
  split at h
  · obtain ⟨cs, rfl, _⟩ := hv
    simp [Value.cells]
  · obtain ⟨cs, _, _, h3⟩ := hv
    rw [if_pos h] at h3
    subst h3
    simp [Value.cells]
  · cases h

theorem eqAV_sound {op : BinOp} {t : TypeId} {x y : AV} {u v : Value} {r : Lf} {ox oy : Operand} (hx : ARel P S μ sto w x u) (hy : ARel P S μ sto w y v) (h : (eqAV P sto op t x y).run = some r) :
    ∃ z, (eqGuard op t ox oy u v).run P w = .ok () w ∧ (binOp op t u v).run P w = .ok z w ∧ LRel P S μ sto w r z := by
  unfold eqAV at h
  split at h
  · rename_i xs ys h1 h2
    split at h
    · rename_i hc
      obtain ⟨ha, hg, k1, k2⟩ := hc
      split at h
      · rename_i b hb
        have e := (eqT_sound (d := 10000) (by omega) (leavesOf_sound hx h1) (leavesOf_sound hy h2) hb).1
        simp only [valOf, ha, if_true] at e
        rw [isAgg_value hx k1, isAgg_value hy k2]
        split at h
        · simp only [Tree.run, Option.some.injEq] at h; subst h
          exact ⟨.bool b, run_eqGuard_agg w _ t ox oy _ _ hg, by rw [run_eql_struct, e]; rfl, vrep_bool.2 rfl⟩
        · simp only [Tree.run, Option.some.injEq] at h; subst h
          exact ⟨.bool (!b), run_eqGuard_agg w _ t ox oy _ _ hg, by rw [run_neq_struct, e]; rfl, vrep_bool.2 rfl⟩
        · simp [Tree.run] at h
      · simp [Tree.run] at h
    · simp [Tree.run] at h
  · simp [Tree.run] at h

theorem eqGuard_plain {op : BinOp} {t : TypeId} {x y : Lf} {u v : Value} {r : Lf} {ox oy : Operand} (hx : LRel P S μ sto w x u) (h : (binL P sto op t x y).run = some r) :
    (eqGuard op t ox oy u v).run P w = .ok () w := by
  have key : (∀ cs, u ≠ .agg cs) ∧ u ≠ .nilIface := by
    unfold binL at h
    split at h
    · obtain ⟨rfl, _⟩ := lrel_int.1 hx; simp
    · obtain ⟨p, rfl, _⟩ := lrel_str.1 hx; simp
    · obtain rfl := lrel_bool.1 hx; simp
    · simp only [LRel] at hx; subst hx; simp
    · split at h
      all_goals first
        | (simp [Tree.run] at h; done)
        | (rename_i ho
           simp only [LRel, ho] at hx
           obtain ⟨b, _, rfl⟩ := hx
           simp)
    · obtain ⟨b, o, cs, rfl, _⟩ := hx; simp
    · rename_i te x
      have hx := (vrep_one rfl).1 hx
      cases x with
      | nil =>
        have hx := rep_nil.1 hx
        simp only [List.cons.injEq, and_true] at hx; subst hx; simp
      | mk k l c s =>
        obtain ⟨b, o, cs, hv, _⟩ := rep_open rfl hx
        simp only [List.cons.injEq, and_true] at hv; subst hv; simp
    · simp [Tree.run] at h
  obtain ⟨k1, k2⟩ := key
  unfold eqGuard
  cases u <;> first | exact absurd rfl (k1 _) | exact absurd rfl k2 | (cases v <;> cases op <;> simp)

theorem binA_sound {op : BinOp} {t : TypeId} {x y : AV} {u v : Value} {r : Lf} {ox oy : Operand} (hx : ARel P S μ sto w x u) (hy : ARel P S μ sto w y v) (h : (binA P sto op t x y).run = some r) :
    ∃ z, (do eqGuard op t ox oy u v; binOp op t u v : Sem Value).run P w = .ok z w ∧ LRel P S μ sto w r z := by
  unfold binA at h
  split at h
  · obtain ⟨z, h1, h2, h3⟩ := eqAV_sound (ox := ox) (oy := oy) hx hy h
    exact ⟨z, by rw [Sem.run_bind, h1, Result.andThen_ok, h2], h3⟩
  · rename_i hn
    split at h
    · rename_i x y
      obtain ⟨z, h2, h3⟩ := binL_sound hx hy h
      refine ⟨z, ?_, h3⟩
      rw [Sem.run_bind]
      have : (eqGuard op t ox oy u v).run P w = .ok () w := eqGuard_plain hx h
      rw [this, Result.andThen_ok, h2]
    · simp [Tree.run] at h
end
end Go.Eng
end

/- EngT -/
section
set_option linter.unusedSimpArgs false
set_option linter.unusedVariables false
namespace Go.Eng

structure Mem (P : Program) (C : Cx) (sto : List Ob) (w : World) (μ : Nat → Option Nat) : Prop where
  size : C.w0.heap.size ≤ w.heap.size
  os : w.os = C.w0.os
  tape : w.tape = C.w0.tape
  output : w.output = C.w0.output
  frame : ∀ b, b < C.w0.heap.size → ¬ C.M0 b → w.heap[b]? = C.w0.heap[b]?
  blk : ∀ id o b, sto[id]? = some o → o.mut = true → μ id = some b → b < w.heap.size ∧ (C.w0.heap.size ≤ b ∨ C.M0 b)
  inj : ∀ id id' o o' b, sto[id]? = some o → sto[id']? = some o' → o.mut = true → o'.mut = true → μ id = some b → μ id' = some b → id = id'
  obj : ∀ id o, sto[id]? = some o → ORel P (Sof C μ sto w) μ sto w id o
  caps : ∀ b n, CapAt C.w0 b n → CapAt w b n

variable {P : Program} {C : Cx} {st : St} {a : Act} {w w' : World} {μ : Nat → Option Nat} {S : Nat → Prop} {sto : List Ob}

theorem RelW.mem (h : RelW P C st a w μ) : Mem P C st.sto w μ := ⟨h.size, h.os, h.tape, h.output, h.frame, h.blk, h.inj, h.obj, h.caps⟩
theorem Mem.rel (h : Mem P C st.sto w μ) (hs : a.tmps.size = st.slots.length) (hv : ∀ i v, st.slots[i]? = some v → ARel P (Sof C μ st.sto w) μ st.sto w v (a.tmps.getD i undef)) (hd : a.defers = [])
    (hr : ∀ (k id : Nat), st.rts[k]? = some id → ∃ o, st.sto[id]? = some o ∧ o ≠ .free ∧ (o = .dead ∨ C.pin[k]? = some (μ id))) : RelW P C st a w μ :=
  ⟨h.size, h.os, h.tape, h.output, h.frame, h.blk, h.inj, h.obj, hs, hv, hd, hr, h.caps⟩

/-- The same variable, as typed data that nobody changes. -/
def iceV (sto : List Ob) (id : Nat) (tb : Ty) : List Ob :=
  match sto[id]? with
  | some (.var ls) => match pack (frz sto (ls.flatMap idsL)) tb ls with
    | some (x, []) => (frz sto (ls.flatMap idsL)).set id (.frv tb x)
    | _ => sto
  | _ => sto

theorem frz1_var {sto : List Ob} {id i : Nat} {ls : List Lf} (h : sto[id]? = some (.var ls)) : (frz1 sto i)[id]? = some (.var ls) := by
  unfold frz1
  split
  · rename_i t xs ho
    rw [List.getElem?_set]
    by_cases hi : i = id
    · subst hi; rw [ho] at h; cases h
    · rw [if_neg hi]; exact h
  · exact h
theorem frz_var : ∀ {ids : List Nat} {sto : List Ob} {id : Nat} {ls : List Lf}, sto[id]? = some (.var ls) → (frz sto ids)[id]? = some (.var ls)
  | [], _, _, _, h => h
  | i :: r, sto, id, ls, h => frz_var (ids := r) (frz1_var h)

/-- A mutable object that becomes typed data in its place. -/
theorem RelW.toFrv (h : RelW P C st a w μ) {id : Nat} {ls : List Lf} {tb : Ty} {x : tb.El} (ho : st.sto[id]? = some (.var ls)) (hp : pack st.sto tb ls = some (x, [])) :
    RelW P C { st with sto := st.sto.set id (.frv tb x) } a w μ ∧ Keeps (Sof C μ st.sto w) (Sof C μ (st.sto.set id (.frv tb x)) w) μ μ st.sto (st.sto.set id (.frv tb x)) w w := by
  have hlt := lt_of_getElem? ho
  have get : ∀ i, (st.sto.set id (.frv tb x))[i]? = if i = id then some (.frv tb x) else st.sto[i]? := by
    intro i
    rw [List.getElem?_set]
    by_cases hi : id = i
    · subst hi; simp [hlt]
    · have : ¬ i = id := fun e => hi e.symm
      simp [hi, this]
  have old : ∀ (i : Nat) (o : Ob), (st.sto.set id (.frv tb x))[i]? = some o → o.mut = true → i ≠ id ∧ st.sto[i]? = some o := by
    intro i o hi hm
    rw [get] at hi
    by_cases he : i = id
    · subst he; rw [if_pos rfl] at hi; cases hi; simp [Ob.mut] at hm
    · rw [if_neg he] at hi; exact ⟨he, hi⟩
  refine h.move (Nat.le_refl _) rfl rfl rfl ?_ ?_ (fun _ _ _ => rfl) (fun _ _ hc => hc) ?_ ?_
  · intro i o b hi hm hb
    obtain ⟨_, k⟩ := old i o hi hm
    exact ⟨(h.blk i o b k hm hb).1, .inr ⟨i, o, k, hm, hb⟩⟩
  · intro i i' o o' b hi hi' hm hm' hb hb'
    exact h.inj i i' o o' b (old i o hi hm).2 (old i' o' hi' hm').2 hm hm' hb hb'
  · intro i o hi
    rw [get]
    by_cases he : i = id
    · subst he
      rw [ho] at hi; cases hi
      exact ⟨_, if_pos rfl, trivial, .inr (.inr ⟨rfl, fun _ _ _ hc => hc⟩)⟩
    · rw [if_neg he]
      exact ⟨o, hi, Like.refl o, .inr (.inr ⟨rfl, fun _ _ _ hc => hc⟩)⟩
  · intro hk i o' hi
    rw [get] at hi
    by_cases he : i = id
    · subst he
      rw [if_pos rfl] at hi; cases hi
      refine .inr ?_
      obtain ⟨b, cs, e, fz, h1, h2, h3, h4, h5⟩ := h.obj i _ ho
      have hc : Cells P (Sof C μ st.sto w) μ st.sto w ls cs.toList := cells_iff.2 ⟨by simp [h4], fun j l hj => by
        obtain ⟨u, k1, k2, k3⟩ := h5 j l hj
        exact ⟨u, by simpa using k1, k2, k3⟩⟩
      obtain ⟨c1, c2, e1, k1, k2⟩ := pack_sound h.obj hc hp
      refine ⟨b, cs, e, fz, c1, h1, ⟨lt_of_some h2, ?_, fun i' o2 q1 q2 q3 => ?_⟩, h2, k1.ext hk.ext, fun j v hj => ?_⟩
      · rcases (h.blk i _ b ho rfl h1).2 with hge | hm
        · exact .inr (.inr hge)
        · exact .inr (.inl hm)
      · obtain ⟨q4, q5⟩ := old i' o2 q1 q2
        exact q4 (h.inj i' i o2 _ b q5 ho q2 rfl q3 h1)
      · simp only [World.cell?, h2]
        have : cs.toList[j]? = some v := by
          rw [e1, List.getElem?_append_left (lt_of_getElem? hj)]; exact hj
        simpa using this
    · rw [if_neg he] at hi
      exact .inl ⟨hi, rfl, fun _ _ _ => rfl⟩

theorem Keeps.refl (S : Nat → Prop) (μ : Nat → Option Nat) (sto : List Ob) (w : World) : Keeps S S μ μ sto sto w w :=
  ⟨Ext.refl _ _, fun i o hi => ⟨o, hi, Like.refl o, .inr (.inr ⟨rfl, fun _ _ _ hc => hc⟩)⟩⟩

theorem RelW.iceV (h : RelW P C st a w μ) (id : Nat) (tb : Ty) : RelW P C { st with sto := iceV st.sto id tb } a w μ ∧
    Keeps (Sof C μ st.sto w) (Sof C μ (Eng.iceV st.sto id tb) w) μ μ st.sto (Eng.iceV st.sto id tb) w w := by
  unfold Eng.iceV
  split
  · rename_i ls ho
    split
    · rename_i x hp
      have h1 := h.frz (ls.flatMap idsL)
      have k1 := frz_keeps (ls.flatMap idsL) h
      obtain ⟨r, k2⟩ := h1.toFrv (frz_var ho) hp
      exact ⟨r, k1.trans k2⟩
    · exact ⟨h, Keeps.refl _ _ _ _⟩
  · exact ⟨h, Keeps.refl _ _ _ _⟩
end Go.Eng
end

/- EngU -/
section
set_option linter.unusedSimpArgs false
set_option linter.unusedVariables false
namespace Go.Eng

inductive LSh where
  | junk
  | val (t : Ty)
  | vec (j : Nat)
  | ptr (j : Nat)
  | mapr (j : Nat)
  | clo (f : FuncId) (caps : List Nat)
  | nilp
  | fst (j : Nat)

inductive ASh where
  | one (l : LSh)
  | agg (ls : List LSh)

inductive OSh where
  | var (ls : List LSh)
  | arr (t : Ty)
  | mp (k v : Ty)

structure Shape where
  objs : List OSh
  slots : List ASh
  rts : List Nat := []

/-! ### Data of parts, those without data left out -/
@[reducible] def optEl : Option Ty → Type
  | none => Unit
  | some t => t.El
@[reducible] def consT : Option Ty → Ty → Ty
  | none, t => t
  | some a, t => .pair a t
def hd {t : Ty} : (o : Option Ty) → (consT o t).El → optEl o
  | none, _ => ()
  | some _, x => x.1
def tl {t : Ty} : (o : Option Ty) → (consT o t).El → t.El
  | none, x => x
  | some _, x => x.2
def cns {t : Ty} : (o : Option Ty) → optEl o → t.El → (consT o t).El
  | none, _, y => y
  | some _, x, y => (x, y)
theorem hd_cns {t : Ty} (o : Option Ty) (x : optEl o) (y : t.El) : hd o (cns o x y) = x := by cases o <;> rfl
theorem tl_cns {t : Ty} (o : Option Ty) (x : optEl o) (y : t.El) : tl o (cns o x y) = y := by cases o <;> rfl

@[reducible] def LSh.tyO : LSh → Option Ty
  | .val t => some t
  | .fst _ => some (.int .i64)
  | _ => none
@[reducible] def lty : List LSh → Ty
  | [] => .unit
  | s :: r => consT s.tyO (lty r)
@[reducible] def ASh.tyO : ASh → Option Ty
  | .one l => l.tyO
  | .agg ls => some (lty ls)
@[reducible] def sty : List ASh → Ty
  | [] => .unit
  | s :: r => consT s.tyO (sty r)
@[reducible] def OSh.ty : OSh → Ty
  | .var ls => lty ls
  | .arr t => .vec t
  | .mp k v => .map k v
@[reducible] def oty : List OSh → Ty
  | [] => .unit
  | o :: r => .pair o.ty (oty r)
@[reducible] def Shape.ty (sh : Shape) : Ty := .pair (sty sh.slots) (oty sh.objs)

/-! ### The state of data -/
def leafOf : (s : LSh) → optEl s.tyO → Lf
  | .junk, _ => .junk
  | .val t, x => .val t x
  | .vec j, _ => .vec j
  | .ptr j, _ => .ptr j 0
  | .mapr j, _ => .mapr j
  | .clo f caps, _ => .clo f caps
  | .nilp, _ => .nilp
  | .fst j, x => .sub j 0 (Int.toNat x)
def mkL : (ls : List LSh) → (lty ls).El → List Lf
  | [], _ => []
  | s :: r, x => leafOf s (hd s.tyO x) :: mkL r (tl s.tyO x)
def avOf : (s : ASh) → optEl s.tyO → AV
  | .one l, x => .one (leafOf l x)
  | .agg ls, x => .agg (mkL ls x)
def mkS : (ss : List ASh) → (sty ss).El → List AV
  | [], _ => []
  | s :: r, x => avOf s (hd s.tyO x) :: mkS r (tl s.tyO x)
def obOf : (o : OSh) → o.ty.El → Ob
  | .var ls, x => .var (mkL ls x)
  | .arr t, xs => .arr t xs
  | .mp k v, es => .mp k v es
def mkO : (os : List OSh) → (oty os).El → List Ob
  | [], _ => []
  | o :: r, x => obOf o x.1 :: mkO r x.2
def Shape.build (sh : Shape) (x : sh.ty.El) : St := { slots := mkS sh.slots x.1, sto := mkO sh.objs x.2, rts := sh.rts }

/-! ### The data of a state, by a list of its objects -/
abbrev Ren := List (Option Nat)
def isArrSh : Option OSh → Bool | some (.arr _) => true | _ => false
def isVarSh : Option OSh → Bool | some (.var _) => true | _ => false
def isPlaceSh : Option OSh → Bool | some (.var _) => true | some (.arr _) => true | _ => false
def isMpSh : Option OSh → Bool | some (.mp _ _) => true | _ => false

def capsOk (objs : List OSh) (ren : Ren) : List Nat → List Nat → Bool
  | [], [] => true
  | j :: r, id :: s => isVarSh objs[j]? && decide (ren[j]? = some (some id)) && capsOk objs ren r s
  | _, _ => false

def getL (objs : List OSh) (ren : Ren) (sto : List Ob) : (s : LSh) → Lf → Option (optEl s.tyO)
  | .junk, _ => some ()
  | .val t, l => if t.agg then none else packL sto t l
  | .vec j, .vec id => if isArrSh objs[j]? && decide (ren[j]? = some (some id)) then some () else none
  | .vec j, .nils _ => if isArrSh objs[j]? && decide (ren[j]? = some none) then some () else none
  | .vec _, _ => none
  | .ptr j, .ptr id off => if decide (off = 0) && isPlaceSh objs[j]? && decide (ren[j]? = some (some id)) then some () else none
  | .ptr _, _ => none
  | .mapr j, .mapr id => if isMpSh objs[j]? && decide (ren[j]? = some (some id)) then some () else none
  | .mapr _, _ => none
  | .clo f caps, .clo f' caps' => if decide (f = f') && capsOk objs ren caps caps' then some () else none
  | .clo _ _, _ => none
  | .nilp, .nilp => some ()
  | .nilp, _ => none
  | .fst j, .sub id off len => if decide (off = 0) && isArrSh objs[j]? && decide (ren[j]? = some (some id)) then some (len : Int) else none
  | .fst _, _ => none

def getLs (objs : List OSh) (ren : Ren) (sto : List Ob) : (ls : List LSh) → List Lf → Option (lty ls).El
  | [], [] => some ()
  | s :: r, l :: ls => match getL objs ren sto s l, getLs objs ren sto r ls with
    | some x, some y => some (cns s.tyO x y)
    | _, _ => none
  | _, _ => none

def getA (objs : List OSh) (ren : Ren) (sto : List Ob) : (s : ASh) → AV → Option (optEl s.tyO)
  | .one (.val t), av => packAV sto t av
  | .one .junk, _ => some ()
  | .one s, .one l => getL objs ren sto s l
  | .one _, _ => none
  | .agg ss, .agg ls => getLs objs ren sto ss ls
  | .agg _, _ => none

def getSs (objs : List OSh) (ren : Ren) (sto : List Ob) : (ss : List ASh) → List AV → Option (sty ss).El
  | [], [] => some ()
  | s :: r, v :: vs => match getA objs ren sto s v, getSs objs ren sto r vs with
    | some x, some y => some (cns s.tyO x y)
    | _, _ => none
  | _, _ => none

def getO (objs : List OSh) (ren : Ren) (sto : List Ob) : (o : OSh) → Option Nat → Option o.ty.El
  | .var ss, some id => match sto[id]? with | some (.var ls) => getLs objs ren sto ss ls | _ => none
  | .arr t, some id => match sto[id]? with | some (.arr t' xs) => (match Ty.eq? (.vec t') (.vec t) with | some ⟨h⟩ => some (castEl h xs) | none => none) | _ => none
  | .arr t, none => some ([] : List t.El)
  | .mp k v, some id => match sto[id]? with | some (.mp k' v' es) => (match Ty.eq? (.map k' v') (.map k v) with | some ⟨h⟩ => some (castEl h es) | none => none) | _ => none
  | _, none => none

def getOs (objs : List OSh) (ren : Ren) (sto : List Ob) : (os : List OSh) → Ren → Option (oty os).El
  | [], [] => some ()
  | o :: r, i :: is => match getO objs ren sto o i, getOs objs ren sto r is with
    | some x, some y => some (x, y)
    | _, _ => none
  | _, _ => none

def nodupR : Ren → Bool
  | [] => true
  | none :: r => nodupR r
  | some i :: r => !(r.contains (some i)) && nodupR r

def rtsOk (ren : Ren) : List Nat → List Nat → Bool
  | [], [] => true
  | j :: r, id :: s => decide (ren[j]? = some (some id)) && rtsOk ren r s
  | _, _ => false

def Shape.get (sh : Shape) (ren : Ren) (st : St) : Option sh.ty.El :=
  if nodupR ren && rtsOk ren sh.rts st.rts then
    match getSs sh.objs ren st.sto sh.slots st.slots, getOs sh.objs ren st.sto sh.objs ren with
    | some x, some y => some (x, y)
    | _, _ => none
  else none

/-! ### What it means -/
section
variable {P : Program} {C C' : Cx} {w : World} {μ : Nat → Option Nat} {S S' : Nat → Prop} {sto : List Ob} {objs : List OSh} {ren : Ren}

def reμ (ren : Ren) (μ : Nat → Option Nat) : Nat → Option Nat := fun j => (ren.getD j none).bind μ

theorem getOs_at : ∀ {os : List OSh} {is : Ren} {x : (oty os).El}, getOs objs ren sto os is = some x → ∀ {j : Nat} {o : Ob}, (mkO os x)[j]? = some o →
    ∃ (s : OSh) (r : Option Nat) (y : s.ty.El), os[j]? = some s ∧ is[j]? = some r ∧ getO objs ren sto s r = some y ∧ o = obOf s y
  | [], [], _, _, j, o, h => by simp [mkO] at h
  | [], _ :: _, _, h, _, _, _ => by cases h
  | _ :: _, [], _, h, _, _, _ => by cases h
  | s :: os, i :: is, x, h, j, o, hj => by
    simp only [getOs] at h
    split at h
    · rename_i y z hy hz
      simp only [Option.some.injEq] at h; subst h
      cases j with
      | zero => simp only [mkO, List.getElem?_cons_zero, Option.some.injEq] at hj; exact ⟨s, i, y, rfl, rfl, hy, hj.symm⟩
      | succ j => simp only [mkO, List.getElem?_cons_succ] at hj; exact getOs_at hz hj
    · cases h

theorem getOs_sh : ∀ {os : List OSh} {is : Ren} {x : (oty os).El}, getOs objs ren sto os is = some x → ∀ {j : Nat} {s : OSh}, os[j]? = some s →
    ∃ (r : Option Nat) (y : s.ty.El), is[j]? = some r ∧ getO objs ren sto s r = some y ∧ (mkO os x)[j]? = some (obOf s y)
  | [], [], _, _, j, o, h => by simp at h
  | [], _ :: _, _, h, _, _, _ => by cases h
  | _ :: _, [], _, h, _, _, _ => by cases h
  | s :: os, i :: is, x, h, j, o, hj => by
    simp only [getOs] at h
    split at h
    · rename_i y z hy hz
      simp only [Option.some.injEq] at h; subst h
      cases j with
      | zero => simp only [List.getElem?_cons_zero, Option.some.injEq] at hj; subst hj; exact ⟨i, y, rfl, hy, rfl⟩
      | succ j => simp only [List.getElem?_cons_succ] at hj; exact getOs_sh hz hj
    · cases h

/-- The new objects are the old ones, under new numbers. -/
theorem getO_arr {t : Ty} {id : Nat} {y : (OSh.arr t).ty.El} (h : getO objs ren sto (.arr t) (some id) = some y) : sto[id]? = some (.arr t y) := by
  simp only [getO] at h
  split at h
  · rename_i t' xs ho
    split at h
    · rename_i e _
      simp only [Option.some.injEq] at h; subst h
      cases e
      exact ho
    · cases h
  · cases h
theorem getO_mp {k v : Ty} {id : Nat} {y : (OSh.mp k v).ty.El} (h : getO objs ren sto (.mp k v) (some id) = some y) : sto[id]? = some (.mp k v y) := by
  simp only [getO] at h
  split at h
  · rename_i t' xs ho
    split at h
    · rename_i e _
      simp only [Option.some.injEq] at h; subst h
      cases e
      rename_i ho _ _ ; exact ho
    · cases h
  · cases h

theorem lrel_re (hob : ∀ id o, sto[id]? = some o → ORel P S μ sto w id o) (he : Ext S S' w w) {x : (oty objs).El} (hg : getOs objs ren sto objs ren = some x) {s : LSh} {l : Lf} {v : Value} {y : optEl s.tyO}
    (hl : getL objs ren sto s l = some y) (h : LRel P S μ sto w l v) : LRel P S' (reμ ren μ) (mkO objs x) w (leafOf s y) v := by
  have mu : ∀ {j id : Nat}, ren[j]? = some (some id) → reμ ren μ j = μ id := fun h => by simp [reμ, List.getD, h]
  have mu0 : ∀ {j : Nat}, ren[j]? = some none → reμ ren μ j = none := fun h => by simp [reμ, List.getD, h]
  have caps : ∀ {js ids : List Nat}, capsOk objs ren js ids = true → js.length = ids.length ∧ ∀ (i j : Nat), js[i]? = some j → ∃ id, ids[i]? = some id ∧ isVarSh objs[j]? = true ∧ ren[j]? = some (some id) := by
    intro js
    induction js with
    | nil => intro ids hc; cases ids <;> simp [capsOk] at hc ⊢
    | cons a js ih =>
      intro ids hc
      cases ids with
      | nil => simp [capsOk] at hc
      | cons b ids =>
        simp only [capsOk, Bool.and_eq_true, decide_eq_true_eq] at hc
        obtain ⟨k1, k2⟩ := ih hc.2
        refine ⟨by simp [k1], fun i j hi => ?_⟩
        cases i with
        | zero => simp at hi; subst hi; exact ⟨b, rfl, hc.1.1, hc.1.2⟩
        | succ i => simp at hi; simpa using k2 i j hi
  have isv : ∀ {j id : Nat}, isVarSh objs[j]? = true → ren[j]? = some (some id) → (∃ ls, sto[id]? = some (.var ls)) ∧ ∃ ls, (mkO objs x)[j]? = some (.var ls) := by
    intro j id k1 k2
    unfold isVarSh at k1
    split at k1
    · rename_i ss hs
      obtain ⟨r, z, q1, q2, q3⟩ := getOs_sh hg hs
      rw [k2] at q1; cases q1
      simp only [getO] at q2
      split at q2
      · rename_i ls ho; exact ⟨⟨ls, ho⟩, _, q3⟩
      · cases q2
    · cases k1
  cases s with
  | junk => trivial
  | val t =>
    simp only [getL] at hl
    split at hl
    · cases hl
    · rename_i ht
      have ht : t.agg = false := by simpa using ht
      exact VRep.ext he ((vrep_one ht).2 (packL_sound hob ht h hl))
  | vec j =>
    cases l <;> simp only [getL] at hl <;> (try cases hl)
    · rename_i t'
      split at hl
      · rename_i hc
        simp only [Bool.and_eq_true, decide_eq_true_eq] at hc
        obtain ⟨k1, k2⟩ := hc
        unfold isArrSh at k1
        split at k1
        · rename_i t hs
          obtain ⟨r, z, q1, q2, q3⟩ := getOs_sh hg hs
          rw [k2] at q1; cases q1
          simp only [getO, Option.some.injEq] at q2; subst q2
          simp only [leafOf, LRel, q3, obOf]
          exact .inl ⟨mu0 k2, rfl, h⟩
        · cases k1
      · cases hl
    · rename_i id
      split at hl
      · rename_i hc
        simp only [Bool.and_eq_true, decide_eq_true_eq] at hc
        obtain ⟨k1, k2⟩ := hc
        unfold isArrSh at k1
        split at k1
        · rename_i t hs
          obtain ⟨r, z, q1, q2, q3⟩ := getOs_sh hg hs
          rw [k2] at q1; cases q1
          have q4 := getO_arr q2
          simp only [leafOf, LRel, q3, obOf]
          simp only [LRel, q4] at h
          rw [mu k2]
          exact h
        · cases k1
      · cases hl
  | ptr j =>
    cases l <;> simp only [getL] at hl <;> (try cases hl)
    rename_i id off
    split at hl
    · rename_i hc
      simp only [Bool.and_eq_true, decide_eq_true_eq] at hc
      obtain ⟨⟨rfl, k1⟩, k2⟩ := hc
      unfold isPlaceSh at k1
      split at k1
      · rename_i ss hs
        obtain ⟨⟨ls, q1⟩, ls', q2⟩ := isv (by simp [isVarSh, hs]) k2
        simp only [LRel, q1] at h
        simp only [leafOf, LRel, q2]
        rw [mu k2]; exact h
      · rename_i t hs
        obtain ⟨r, z, q1, q2, q3⟩ := getOs_sh hg hs
        rw [k2] at q1; cases q1
        have q4 := getO_arr q2
        simp only [leafOf, LRel, q3, obOf]
        simp only [LRel, q4] at h
        rw [mu k2]
        exact h
      · cases k1
    · cases hl
  | mapr j =>
    cases l <;> simp only [getL] at hl <;> (try cases hl)
    rename_i id
    split at hl
    · rename_i hc
      simp only [Bool.and_eq_true, decide_eq_true_eq] at hc
      obtain ⟨k1, k2⟩ := hc
      unfold isMpSh at k1
      split at k1
      · rename_i kk vv hs
        obtain ⟨r, z, q1, q2, q3⟩ := getOs_sh hg hs
        rw [k2] at q1; cases q1
        have q4 := getO_mp q2
        simp only [leafOf, LRel, q3, obOf]
        simp only [LRel, q4] at h
        rw [mu k2]; exact h
      · cases k1
    · cases hl
  | clo f js =>
    cases l <;> simp only [getL] at hl <;> (try cases hl)
    rename_i f' ids
    split at hl
    · rename_i hc
      simp only [Bool.and_eq_true, decide_eq_true_eq] at hc
      obtain ⟨rfl, hc⟩ := hc
      obtain ⟨k1, k2⟩ := caps hc
      obtain ⟨cv, rfl, k3, k4⟩ := h
      refine ⟨cv, rfl, by rw [k1]; exact k3, fun i j hi => ?_⟩
      obtain ⟨id, q1, q2, q3⟩ := k2 i j hi
      obtain ⟨u, q4, q5⟩ := k4 i id q1
      obtain ⟨⟨ls, q6⟩, ls', q7⟩ := isv q2 q3
      refine ⟨u, q4, ?_⟩
      simp only [q6] at q5
      simp only [q7]
      rw [mu q3]; exact q5
    · cases hl
  | nilp =>
    cases l <;> simp only [getL] at hl <;> (try cases hl)
    exact h
  | fst j =>
    cases l <;> simp only [getL] at hl <;> (try cases hl)
    rename_i id off len
    split at hl
    · rename_i hc
      simp only [Bool.and_eq_true, decide_eq_true_eq] at hc
      obtain ⟨⟨rfl, k1⟩, k2⟩ := hc
      simp only [Option.some.injEq] at hl; subst hl
      unfold isArrSh at k1
      split at k1
      · rename_i t hs
        obtain ⟨r, z, q1, q2, q3⟩ := getOs_sh hg hs
        rw [k2] at q1; cases q1
        have q4 := getO_arr q2
        simp only [leafOf, LRel, q3, obOf, Int.toNat_natCast]
        simp only [LRel, q4] at h
        rw [mu k2]
        exact h
      · cases k1
    · cases hl
end
end Go.Eng
end

/- EngV -/
section
set_option linter.unusedSimpArgs false
set_option linter.unusedVariables false
namespace Go.Eng
section
variable {P : Program} {C C' : Cx} {w : World} {μ : Nat → Option Nat} {S S' : Nat → Prop} {sto : List Ob} {objs : List OSh} {ren : Ren}

theorem nodupR_inj : ∀ {ren : Ren}, nodupR ren = true → ∀ {i j id : Nat}, ren[i]? = some (some id) → ren[j]? = some (some id) → i = j
  | [], _, i, j, id, hi, _ => by simp at hi
  | none :: r, h, i, j, id, hi, hj => by
    cases i with
    | zero => simp at hi
    | succ i => cases j with
      | zero => simp at hj
      | succ j => simp only [List.getElem?_cons_succ] at hi hj; rw [nodupR_inj (ren := r) h hi hj]
  | some a :: r, h, i, j, id, hi, hj => by
    simp only [nodupR, Bool.and_eq_true, Bool.not_eq_true', List.contains_eq_mem, decide_eq_false_iff_not] at h
    cases i with
    | zero =>
      simp only [List.getElem?_cons_zero, Option.some.injEq] at hi; subst hi
      cases j with
      | zero => rfl
      | succ j => simp only [List.getElem?_cons_succ] at hj; exact absurd (List.mem_of_getElem? hj) h.1
    | succ i =>
      simp only [List.getElem?_cons_succ] at hi
      cases j with
      | zero => simp only [List.getElem?_cons_zero, Option.some.injEq] at hj; subst hj; exact absurd (List.mem_of_getElem? hi) h.1
      | succ j => simp only [List.getElem?_cons_succ] at hj; rw [nodupR_inj (ren := r) h.2 hi hj]

/-- A new object that may be written to is an old one. -/
theorem re_back {x : (oty objs).El} (hg : getOs objs ren sto objs ren = some x) {j b : Nat} {o' : Ob} (ho : (mkO objs x)[j]? = some o') (hb : reμ ren μ j = some b) :
    ∃ id o, ren[j]? = some (some id) ∧ sto[id]? = some o ∧ o.mut = true ∧ μ id = some b := by
  obtain ⟨s, r, y, k1, k2, k3, rfl⟩ := getOs_at hg ho
  cases r with
  | none => simp [reμ, List.getD, k2] at hb
  | some id =>
    have hb : μ id = some b := by simpa [reμ, List.getD, k2] using hb
    refine ⟨id, ?_⟩
    cases s with
    | var ss =>
      simp only [getO] at k3
      split at k3
      · rename_i ls q; exact ⟨_, k2, q, rfl, hb⟩
      · cases k3
    | arr t => exact ⟨_, k2, getO_arr k3, rfl, hb⟩
    | mp k v => exact ⟨_, k2, getO_mp k3, rfl, hb⟩

theorem lrels_re (hob : ∀ id o, sto[id]? = some o → ORel P S μ sto w id o) (he : Ext S S' w w) {x : (oty objs).El} (hg : getOs objs ren sto objs ren = some x) : ∀ {ss : List LSh} {ls : List Lf} {y : (lty ss).El},
    getLs objs ren sto ss ls = some y → (mkL ss y).length = ls.length ∧ ∀ (i : Nat) (l' : Lf), (mkL ss y)[i]? = some l' → ∃ l, ls[i]? = some l ∧ ∀ v, LRel P S μ sto w l v → LRel P S' (reμ ren μ) (mkO objs x) w l' v
  | [], [], y, h => ⟨rfl, fun i l' hi => by simp [mkL] at hi⟩
  | [], _ :: _, y, h => by cases h
  | _ :: _, [], y, h => by cases h
  | s :: ss, l :: ls, y, h => by
    simp only [getLs] at h
    split at h
    · rename_i y1 y2 h1 h2
      simp only [Option.some.injEq] at h; subst h
      obtain ⟨k1, k2⟩ := lrels_re hob he hg h2
      simp only [mkL, hd_cns, tl_cns]
      refine ⟨by simp [k1], fun i l' hi => ?_⟩
      cases i with
      | zero => simp only [List.getElem?_cons_zero, Option.some.injEq] at hi; subst hi; exact ⟨l, rfl, fun v hv => lrel_re hob he hg h1 hv⟩
      | succ i => simp only [List.getElem?_cons_succ] at hi ⊢; exact k2 i l' hi
    · cases h

theorem orel_re (hob : ∀ id o, sto[id]? = some o → ORel P S μ sto w id o) (he : Ext S S' w w) {x : (oty objs).El} (hg : getOs objs ren sto objs ren = some x) {j : Nat} {o' : Ob} (ho : (mkO objs x)[j]? = some o') :
    ORel P S' (reμ ren μ) (mkO objs x) w j o' := by
  obtain ⟨s, r, y, k1, k2, k3, rfl⟩ := getOs_at hg ho
  cases r with
  | none =>
    have m0 : reμ ren μ j = none := by simp [reμ, List.getD, k2]
    cases s with
    | var ss => cases k3
    | arr t => simp only [getO, Option.some.injEq] at k3; subst k3; exact .inl ⟨m0, rfl⟩
    | mp k v => cases k3
  | some id =>
    have m1 : reμ ren μ j = μ id := by simp [reμ, List.getD, k2]
    cases s with
    | var ss =>
      simp only [getO] at k3
      split at k3
      · rename_i ls q
        obtain ⟨b, cs, e, fz, h1, h2, h3, h4, h5⟩ := hob id _ q
        obtain ⟨q1, q2⟩ := lrels_re hob he hg k3
        refine ⟨b, cs, e, fz, m1.trans h1, h2, h3, by rw [q1]; exact h4, fun i l' hi => ?_⟩
        obtain ⟨l, q3, q4⟩ := q2 i l' hi
        obtain ⟨u, q5, q6, q7⟩ := h5 i l q3
        exact ⟨u, q5, q6, q4 u q7⟩
      · cases k3
    | arr t =>
      rcases hob id _ (getO_arr k3) with ⟨h1, h2⟩ | ⟨b, cs, e, fz, h1, h2, h3, h4⟩
      · exact .inl ⟨m1.trans h1, h2⟩
      · exact .inr ⟨b, cs, e, fz, m1.trans h1, h2, h3, h4.ext he⟩
    | mp k v =>
      obtain ⟨b, cs, c, h1, h2, h3⟩ := hob id _ (getO_mp k3)
      exact ⟨b, cs, c, m1.trans h1, h2, h3.ext he⟩

/-- The same memory by a shape's objects. -/
theorem Mem.re (h : Mem P C sto w μ) (hn : nodupR ren = true) {x : (oty objs).El} (hg : getOs objs ren sto objs ren = some x) :
    Mem P C (mkO objs x) w (reμ ren μ) ∧ Ext (Sof C μ sto w) (Sof C (reμ ren μ) (mkO objs x) w) w w := by
  have he : Ext (Sof C μ sto w) (Sof C (reμ ren μ) (mkO objs x) w) w w := by
    rintro b ⟨h1, h2, h3⟩ _
    refine ⟨⟨h1, h2, fun j o' ho hm hb => ?_⟩, rfl⟩
    obtain ⟨id, o, _, q1, q2, q3⟩ := re_back hg ho hb
    exact h3 id o q1 q2 q3
  refine ⟨⟨h.size, h.os, h.tape, h.output, h.frame, fun j o b ho hm hb => ?_, fun j j' o o' b ho ho' hm hm' hb hb' => ?_, fun j o ho => orel_re h.obj he hg ho, h.caps⟩, he⟩
  · obtain ⟨id, o2, _, q1, q2, q3⟩ := re_back hg ho hb
    exact h.blk id o2 b q1 q2 q3
  · obtain ⟨id, o2, q0, q1, q2, q3⟩ := re_back hg ho hb
    obtain ⟨id', o3, p0, p1, p2, p3⟩ := re_back hg ho' hb'
    have := h.inj id id' o2 o3 b q1 p1 q2 p2 q3 p3
    subst this
    exact nodupR_inj hn q0 p0

/-- The context of a call. -/
def callCx (C : Cx) (μ : Nat → Option Nat) (sto : List Ob) (w : World) (μ' : Nat → Option Nat) (sto' : List Ob) (hM : ∀ j o b, sto'[j]? = some o → o.mut = true → μ' j = some b → b < w.heap.size ∧ ¬ Sof C μ sto w b) : Cx where
  w0 := w
  S0 := Sof C μ sto w
  M0 := fun b => ∃ j o, sto'[j]? = some o ∧ o.mut = true ∧ μ' j = some b
  hS := fun b h => h.1
  hM := fun b ⟨j, o, h1, h2, h3⟩ => hM j o b h1 h2 h3

theorem Mem.call (h : Mem P C sto w μ) (hn : nodupR ren = true) {x : (oty objs).El} (hg : getOs objs ren sto objs ren = some x) :
    ∃ hM, Mem P (callCx C μ sto w (reμ ren μ) (mkO objs x) hM) (mkO objs x) w (reμ ren μ) ∧
      Ext (Sof C μ sto w) (Sof (callCx C μ sto w (reμ ren μ) (mkO objs x) hM) (reμ ren μ) (mkO objs x) w) w w := by
  have hM : ∀ j o b, (mkO objs x)[j]? = some o → o.mut = true → reμ ren μ j = some b → b < w.heap.size ∧ ¬ Sof C μ sto w b := by
    intro j o b ho hm hb
    obtain ⟨id, o2, _, q1, q2, q3⟩ := re_back hg ho hb
    exact ⟨(h.blk id o2 b q1 q2 q3).1, fun hs => hs.2.2 id o2 q1 q2 q3⟩
  refine ⟨hM, ?_⟩
  have he : Ext (Sof C μ sto w) (Sof (callCx C μ sto w (reμ ren μ) (mkO objs x) hM) (reμ ren μ) (mkO objs x) w) w w := by
    rintro b hb _
    refine ⟨⟨hb.1, .inl hb, fun j o' ho hm hb' => ?_⟩, rfl⟩
    exact (hM j o' b ho hm hb').2 hb
  refine ⟨⟨Nat.le_refl _, rfl, rfl, rfl, fun _ _ _ => rfl, fun j o b ho hm hb => ⟨(hM j o b ho hm hb).1, .inr ⟨j, o, ho, hm, hb⟩⟩, fun j j' o o' b ho ho' hm hm' hb hb' => ?_, fun j o ho => orel_re h.obj he hg ho, fun _ _ hc => hc⟩, he⟩
  obtain ⟨id, o2, q0, q1, q2, q3⟩ := re_back hg ho hb
  obtain ⟨id', o3, p0, p1, p2, p3⟩ := re_back hg ho' hb'
  have := h.inj id id' o2 o3 b q1 p1 q2 p2 q3 p3
  subst this
  exact nodupR_inj hn q0 p0

/-! ### Slots -/
theorem arel_re (hob : ∀ id o, sto[id]? = some o → ORel P S μ sto w id o) (he : Ext S S' w w) {x : (oty objs).El} (hg : getOs objs ren sto objs ren = some x) {s : ASh} {av : AV} {v : Value} {y : optEl s.tyO}
    (h : getA objs ren sto s av = some y) (hv : ARel P S μ sto w av v) : ARel P S' (reμ ren μ) (mkO objs x) w (avOf s y) v := by
  unfold getA at h
  split at h
  · rename_i t
    exact VRep.ext he (packAV_sound hob hv h)
  · trivial
  · exact lrel_re hob he hg h hv
  · cases h
  · rename_i ss ls
    obtain ⟨cs, rfl, h1, h2⟩ := hv
    obtain ⟨k1, k2⟩ := lrels_re hob he hg h
    refine ⟨cs, rfl, by rw [k1]; exact h1, fun i l' hi => ?_⟩
    obtain ⟨l, q1, q2⟩ := k2 i l' hi
    obtain ⟨u, q3, q4, q5⟩ := h2 i l q1
    exact ⟨u, q3, q4, q2 u q5⟩
  · cases h

theorem arels_re (hob : ∀ id o, sto[id]? = some o → ORel P S μ sto w id o) (he : Ext S S' w w) {x : (oty objs).El} (hg : getOs objs ren sto objs ren = some x) : ∀ {ss : List ASh} {vs : List AV} {y : (sty ss).El},
    getSs objs ren sto ss vs = some y → (mkS ss y).length = vs.length ∧ ∀ (i : Nat) (v' : AV), (mkS ss y)[i]? = some v' → ∃ v, vs[i]? = some v ∧ ∀ u, ARel P S μ sto w v u → ARel P S' (reμ ren μ) (mkO objs x) w v' u
  | [], [], y, h => ⟨rfl, fun i l' hi => by simp [mkS] at hi⟩
  | [], _ :: _, y, h => by cases h
  | _ :: _, [], y, h => by cases h
  | s :: ss, l :: ls, y, h => by
    simp only [getSs] at h
    split at h
    · rename_i y1 y2 h1 h2
      simp only [Option.some.injEq] at h; subst h
      obtain ⟨k1, k2⟩ := arels_re hob he hg h2
      simp only [mkS, hd_cns, tl_cns]
      refine ⟨by simp [k1], fun i l' hi => ?_⟩
      cases i with
      | zero => simp only [List.getElem?_cons_zero, Option.some.injEq] at hi; subst hi; exact ⟨l, rfl, fun v hv => arel_re hob he hg h1 hv⟩
      | succ i => simp only [List.getElem?_cons_succ] at hi ⊢; exact k2 i l' hi
    · cases h

theorem rtsOk_at : ∀ {js ids : List Nat}, rtsOk ren js ids = true → ∀ {k j : Nat}, js[k]? = some j → ∃ id, ids[k]? = some id ∧ ren[j]? = some (some id)
  | [], [], _, k, j, h => by simp at h
  | [], _ :: _, h, _, _, _ => by cases h
  | _ :: _, [], h, _, _, _ => by cases h
  | a :: js, b :: ids, h, k, j, hk => by
    simp only [rtsOk, Bool.and_eq_true, decide_eq_true_eq] at h
    cases k with
    | zero => simp only [List.getElem?_cons_zero, Option.some.injEq] at hk; subst hk; exact ⟨b, rfl, h.1⟩
    | succ k => simp only [List.getElem?_cons_succ] at hk ⊢; exact rtsOk_at h.2 hk

theorem getOs_ren : ∀ {os : List OSh} {is : Ren} {objs : List OSh} {ren : Ren} {sto : List Ob} {x : (oty os).El}, getOs objs ren sto os is = some x → ∀ {j : Nat} {r : Option Nat}, is[j]? = some r → ∃ s, os[j]? = some s
  | [], [], _, _, _, _, _, j, r, h => by simp at h
  | [], _ :: _, _, _, _, _, h, _, _, _ => by cases h
  | _ :: _, [], _, _, _, _, h, _, _, _ => by cases h
  | s :: os, i :: is, objs, ren, sto, x, h, j, r, hj => by
    simp only [getOs] at h
    split at h
    · rename_i y z hy hz
      cases j with
      | zero => exact ⟨s, rfl⟩
      | succ j => simp only [List.getElem?_cons_succ] at hj ⊢; exact getOs_ren hz hj
    · cases h

theorem RelW.re {st : St} {a : Act} {sh : Shape} {x : sh.ty.El} (h : RelW P C st a w μ) (hg : sh.get ren st = some x) : RelW P C (sh.build x) a w (reμ ren μ) := by
  unfold Shape.get at hg
  split at hg
  · rename_i hn
    simp only [Bool.and_eq_true] at hn
    obtain ⟨hn, hrt⟩ := hn
    split at hg
    · rename_i y z hy hz
      simp only [Option.some.injEq] at hg; subst hg
      obtain ⟨m, he⟩ := h.mem.re hn hz
      obtain ⟨k1, k2⟩ := arels_re h.obj he hz hy
      refine Mem.rel (st := sh.build (y, z)) m ?_ ?_ h.defers ?_
      · show a.tmps.size = (mkS sh.slots y).length
        rw [k1]; exact h.slots
      · intro i v hi
        obtain ⟨u, q1, q2⟩ := k2 i v hi
        exact q2 _ (h.slot i u q1)
      · intro k j hk
        obtain ⟨id, r1, r2⟩ := rtsOk_at hrt hk
        obtain ⟨o, r3, r4, r5⟩ := h.root k id r1
        obtain ⟨s, hs⟩ := getOs_ren hz r2
        obtain ⟨r', y', p1, p2, p3⟩ := getOs_sh hz hs
        rw [r2] at p1; cases p1
        refine ⟨_, p3, by cases s <;> simp [obOf], ?_⟩
        have hlive : o ≠ .dead := by
          rintro rfl
          cases s with
          | var ss =>
            simp only [getO] at p2
            split at p2
            · rename_i ls q; rw [r3] at q; cases q
            · cases p2
          | arr t => have := getO_arr p2; rw [r3] at this; cases this
          | mp kk vv => have := getO_mp p2; rw [r3] at this; cases this
        rcases r5 with r5 | r5
        · exact absurd r5 hlive
        · exact .inr (by rw [r5]; simp [reμ, List.getD, r2])
    · cases hg
  · cases hg
end
end Go.Eng
end

/- EngW -/
section
set_option linter.unusedSimpArgs false
set_option linter.unusedVariables false
namespace Go.Eng
open Tree

/-! ### Looking -/
abbrev Ren0 := List (Option (Option Nat))
def setR (r : Ren0) (j : Nat) (v : Option Nat) : Ren0 := match r[j]? with | some none => r.set j (some v) | _ => r
def bindC : List Nat → List Nat → Ren0 → Ren0
  | j :: js, id :: ids, r => bindC js ids (setR r j (some id))
  | _, _, r => r
def bindL : LSh → Lf → Ren0 → Ren0
  | .vec j, .vec id, r => setR r j (some id)
  | .vec j, .nils _, r => setR r j none
  | .ptr j, .ptr id _, r => setR r j (some id)
  | .mapr j, .mapr id, r => setR r j (some id)
  | .fst j, .sub id _ _, r => setR r j (some id)
  | .clo _ js, .clo _ ids, r => bindC js ids r
  | _, _, r => r
def bindLs : List LSh → List Lf → Ren0 → Ren0
  | s :: ss, l :: ls, r => bindLs ss ls (bindL s l r)
  | _, _, r => r
def bindA : ASh → AV → Ren0 → Ren0
  | .one s, .one l, r => bindL s l r
  | .agg ss, .agg ls, r => bindLs ss ls r
  | _, _, r => r
def bindAs : List ASh → List AV → Ren0 → Ren0
  | s :: ss, v :: vs, r => bindAs ss vs (bindA s v r)
  | _, _, r => r
def objVar (sto : List Ob) (r : Ren0) (j : Nat) : List Lf :=
  match r[j]? with | some (some (some id)) => (match sto[id]? with | some (.var ls) => ls | _ => []) | _ => []
def bindOs (sto : List Ob) : List OSh → Nat → Ren0 → Ren0
  | .var ss :: os, j, r => bindOs sto os (j + 1) (bindLs ss (objVar sto r j) r)
  | _ :: os, j, r => bindOs sto os (j + 1) r
  | [], _, r => r
def bindR : List Nat → List Nat → Ren0 → Ren0
  | j :: js, id :: ids, r => bindR js ids (setR r j (some id))
  | _, _, r => r
def Shape.ren0 (sh : Shape) (sto : List Ob) (vs : List AV) (rts : List Nat) : Ren0 := bindOs sto sh.objs 0 (bindAs sh.slots vs (bindR sh.rts rts (List.replicate sh.objs.length none)))
def Shape.ren (sh : Shape) (sto : List Ob) (vs : List AV) (rts : List Nat) : Ren := (sh.ren0 sto vs rts).map fun o => o.getD none

/-! ### Freezing -/
def icesT : Ty → Lf → List (Nat × Option Ty)
  | .node t, .ptr id _ => [(id, some (nodeBody t))]
  | _, .vec id => [(id, none)]
  | _, .sub id _ _ => [(id, none)]
  | _, _ => []
def icesTs : List Ty → List Lf → List (Nat × Option Ty)
  | t :: ts, l :: ls => icesT t l ++ icesTs ts ls
  | _, _ => []
def icesL : LSh → Lf → List (Nat × Option Ty)
  | .val t, l => icesT t l
  | _, _ => []
def icesLs : List LSh → List Lf → List (Nat × Option Ty)
  | s :: ss, l :: ls => icesL s l ++ icesLs ss ls
  | _, _ => []
def icesA : ASh → AV → List (Nat × Option Ty)
  | .one (.val t), .one l => icesT t l
  | .one (.val t), .agg ls => icesTs (flatTys t) ls
  | .agg ss, .agg ls => icesLs ss ls
  | _, _ => []
def icesAs : List ASh → List AV → List (Nat × Option Ty)
  | s :: ss, v :: vs => icesA s v ++ icesAs ss vs
  | _, _ => []
def icesOs (sto : List Ob) : List OSh → Nat → Ren0 → List (Nat × Option Ty)
  | .var ss :: os, j, r => icesLs ss (objVar sto r j) ++ icesOs sto os (j + 1) r
  | _ :: os, j, r => icesOs sto os (j + 1) r
  | [], _, _ => []
def iceAll (sto : List Ob) : List (Nat × Option Ty) → List Ob
  | [] => sto
  | (id, none) :: r => iceAll (frz1 sto id) r
  | (id, some tb) :: r => iceAll (iceV sto id tb) r
def Shape.ices (sh : Shape) (sto : List Ob) (vs : List AV) (rts : List Nat) : List (Nat × Option Ty) := icesAs sh.slots vs ++ icesOs sto sh.objs 0 (sh.ren0 sto vs rts)

/-- A state by a shape: what must be frozen is frozen. -/
def Shape.conv (sh : Shape) (st : St) : Option sh.ty.El := sh.get (sh.ren st.sto st.slots st.rts) { st with sto := iceAll st.sto (sh.ices st.sto st.slots st.rts) }

section
variable {P : Program} {C : Cx} {st : St} {a : Act} {w w' : World} {μ : Nat → Option Nat} {sto : List Ob}

theorem RelW.iceAll : ∀ (l : List (Nat × Option Ty)) {st : St}, RelW P C st a w μ → RelW P C { st with sto := iceAll st.sto l } a w μ ∧
    Keeps (Sof C μ st.sto w) (Sof C μ (Eng.iceAll st.sto l) w) μ μ st.sto (Eng.iceAll st.sto l) w w
  | [], st, h => ⟨h, Keeps.refl _ _ _ _⟩
  | (id, none) :: r, st, h => by
    obtain ⟨h1, k1⟩ := h.frz1 id
    obtain ⟨h2, k2⟩ := RelW.iceAll r h1
    exact ⟨h2, k1.trans k2⟩
  | (id, some tb) :: r, st, h => by
    obtain ⟨h1, k1⟩ := h.iceV id tb
    obtain ⟨h2, k2⟩ := RelW.iceAll r h1
    exact ⟨h2, k1.trans k2⟩

theorem RelW.conv {sh : Shape} {x : sh.ty.El} (h : RelW P C st a w μ) (hc : sh.conv st = some x) : ∃ μ', RelW P C (sh.build x) a w μ' :=
  ⟨_, (h.iceAll (sh.ices st.sto st.slots st.rts)).1.re hc⟩
end

/-! ### Contracts -/
@[reducible] def Rz (pan : Bool) (α : Type) : Type := match pan with | false => α | true => Except Value α

/-- What a function does with its arguments' data: 'pre' and 'post' are the states at its door, 'roots' how many places of the caller's it writes to. -/
structure FSpec where
  pre : Shape
  post : Shape
  roots : Nat
  pan : Bool
  f : pre.ty.El → Option (Rz pan post.ty.El)

def toEx {α : Type} : (pan : Bool) → Rz pan α → Except Value α
  | false, x => .ok x
  | true, x => x

/-- Results and the value that a call hands back. -/
def RetRel (P : Program) (S : Nat → Prop) (μ : Nat → Option Nat) (sto : List Ob) (w : World) (avs : List AV) (v : Value) : Prop :=
  match avs with
  | [av] => ARel P S μ sto w av v
  | _ => ∃ cs : Array Value, v = .tuple cs ∧ cs.size = avs.length ∧ ∀ (i : Nat) (av : AV), avs[i]? = some av → ∃ u, cs[i]? = some u ∧ ARel P S μ sto w av u

/-- A function is called, one of Go's or one that the model answers itself. -/
def Does (P : Program) (f : FuncId) (args : Array Value) (w : World) (R : Ending → World → Prop) : Prop :=
  (∃ v w', (callFunc f args).run P w = .ok (.value v) w' ∧ R (.returned v) w') ∨ ((callFunc f args).run P w = .ok (.enter f args) w ∧ Calls P f args w R)

def Post (P : Program) (C : Cx) (fs : FSpec) (μ : Nat → Option Nat) (y : Except Value fs.post.ty.El) (e : Ending) (w' : World) : Prop :=
  match y, e with
  | .ok y, .returned v => ∃ μ', Mem P C (fs.post.build y).sto w' μ' ∧ RetRel P (Sof C μ' (fs.post.build y).sto w') μ' (fs.post.build y).sto w' (fs.post.build y).slots v ∧ ∀ j, j < fs.roots → μ' j = μ j
  | .error pv, .panicked chain => chain = [{ v := pv, recovered := false }] ∧ Mem P C [] w' (fun _ => none)
  | _, _ => False

def Spec (P : Program) (gl : Globs) (g : FuncId) (fs : FSpec) : Prop :=
  ∀ (C : Cx), GlobOk C gl → ∀ (x : fs.pre.ty.El) (y : Rz fs.pan fs.post.ty.El) (args : Array Value) (μ : Nat → Option Nat), fs.f x = some y → Mem P C (fs.pre.build x).sto C.w0 μ → args.size = (fs.pre.build x).slots.length →
    (∀ (i : Nat) (av : AV), (fs.pre.build x).slots[i]? = some av → ARel P (Sof C μ (fs.pre.build x).sto C.w0) μ (fs.pre.build x).sto C.w0 av (args.getD i undef)) →
    Does P g args C.w0 (Post P C fs μ (toEx fs.pan y))

/-! ### New objects' places, many -/
def placeL (sto : List Ob) (fid : Nat) : List Ob → List Ob
  | [] => sto
  | o :: r => placeL (place sto fid o) (fid + 1) r
def FidsOk (sto : List Ob) (fid n : Nat) : Prop := fid = sto.length ∨ ∀ i, i < n → sto[fid + i]? = some .free

theorem placeL_get : ∀ {obs : List Ob} {sto : List Ob} {fid : Nat}, FidsOk sto fid obs.length → ∀ id, (placeL sto fid obs)[id]? = if fid ≤ id ∧ id < fid + obs.length then obs[id - fid]? else sto[id]?
  | [], sto, fid, h, id => by
    rw [if_neg (by simp only [List.length_nil]; omega)]; rfl
  | o :: r, sto, fid, h, id => by
    have h1 : FidOk sto fid := by
      rcases h with h | h
      · exact .inl h
      · exact .inr (by simpa using h 0 (by simp))
    have hl : (place sto fid o).length = if fid < sto.length then sto.length else sto.length + 1 := by
      unfold place; split <;> simp
    have h2 : FidsOk (place sto fid o) (fid + 1) r.length := by
      rcases h with h | h
      · left; rw [hl, if_neg (by omega)]; omega
      · right
        intro i hi
        rw [place_get h1, if_neg (by omega)]
        have := h (i + 1) (by simp; omega)
        rw [← this]; congr 1; omega
    rw [placeL, placeL_get h2, place_get h1]
    simp only [List.length_cons]
    by_cases hid : id = fid
    · subst hid
      rw [if_neg (by omega), if_pos rfl, if_pos (by omega)]; simp
    · by_cases hr : fid + 1 ≤ id ∧ id < fid + 1 + r.length
      · rw [if_pos hr, if_pos (by omega)]
        have : id - fid = (id - (fid + 1)) + 1 := by omega
        rw [this, List.getElem?_cons_succ]
      · rw [if_neg hr, if_neg hid, if_neg (by omega)]
end Go.Eng
end

/- EngX -/
section
set_option linter.unusedSimpArgs false
set_option linter.unusedVariables false
namespace Go.Eng
open Tree

def renL (ρ : Nat → Nat) : Lf → Lf
  | .vec j => .vec (ρ j)
  | .sub j o n => .sub (ρ j) o n
  | .ptr j o => .ptr (ρ j) o
  | .eptr j i o => .eptr (ρ j) i o
  | .clo f caps => .clo f (caps.map ρ)
  | .mapr j => .mapr (ρ j)
  | l => l
def renOb (ρ : Nat → Nat) : Ob → Ob
  | .var ls => .var (ls.map (renL ρ))
  | o => o
def renAV (ρ : Nat → Nat) : AV → AV
  | .one l => .one (renL ρ l)
  | .agg ls => .agg (ls.map (renL ρ))
  | .tup ls => .tup (ls.map (renL ρ))
def rho (ren : Ren) (roots fid j : Nat) : Nat := if j < roots then (ren.getD j none).getD 0 else fid + (j - roots)

def chgs (ρ : Nat → Nat) (roots : Nat) (objs : List Ob) : Nat → Ren → List (Nat × Ob)
  | _, [] => []
  | j, none :: r => chgs ρ roots objs (j + 1) r
  | j, some id :: r => (id, if j < roots then renOb ρ (objs.getD j .dead) else .dead) :: chgs ρ roots objs (j + 1) r
def backSto (sto : List Ob) (ren : Ren) (roots fid : Nat) (objs : List Ob) : List Ob :=
  placeL (applyUpd sto (chgs (rho ren roots fid) roots objs 0 ren)) fid ((objs.drop roots).map (renOb (rho ren roots fid)))
def backμ (roots fid n : Nat) (μ μ' : Nat → Option Nat) : Nat → Option Nat := fun id => if fid ≤ id ∧ id < fid + n then μ' (roots + (id - fid)) else μ id

def okL (ok : Ty → Bool) : Lf → Bool
  | .val t _ => ok t
  | .pbox _ _ _ => false
  | _ => true
def okOb (ok : Ty → Bool) : Ob → Bool
  | .var ls => ls.all (okL ok)
  | .arr t _ => ok t
  | .fro _ _ | .frv _ _ => false
  | .mp k v _ => ok k && ok v
  | _ => true

/-- Data without pointers. -/
def flatT : Ty → Bool
  | .int _ | .bool | .str | .unit => true
  | .pair a b => flatT a && flatT b
  | .arr _ t => flatT t
  | _ => false
theorem flat_rep {P : Program} {S S' : Nat → Prop} {w w' : World} : ∀ {t : Ty}, flatT t = true → ∀ {x : t.El} {vs : List Value}, Rep P false t S w x vs → Rep P false t S' w' x vs := by
  intro t
  induction t with
  | int k => intro _ x vs h; simp only [Rep] at h ⊢; exact h
  | bool => intro _ x vs h; simp only [Rep] at h ⊢; exact h
  | str => intro _ x vs h; simp only [Rep] at h ⊢; exact h
  | unit => intro _ x vs h; simp only [Rep] at h ⊢; exact h
  | pair a b iha ihb =>
    intro hf x vs h
    simp only [flatT, Bool.and_eq_true] at hf
    simp only [Rep] at h ⊢
    obtain ⟨c1, c2, h0, h1, h2, h3, h4⟩ := h
    exact ⟨c1, c2, h0, h1, h2, iha hf.1 h3, ihb hf.2 h4⟩
  | arr n t ih =>
    intro hf x vs h
    simp only [Rep] at h ⊢
    exact ⟨h.1, h.2.1, fun i y hi => ih hf (h.2.2 i y hi)⟩
  | slice t _ => intro hf; cases hf
  | fn a b _ _ => intro hf; cases hf
  | vec t _ => intro hf; cases hf
  | map k v _ _ => intro hf; cases hf
  | node t _ => intro hf; cases hf

theorem applyUpd_length : ∀ {l : List (Nat × Ob)} {sto : List Ob}, (applyUpd sto l).length = sto.length
  | [], _ => rfl
  | (i, o) :: r, sto => by rw [applyUpd, applyUpd_length]; simp

theorem chgs_other {ρ : Nat → Nat} {roots : Nat} {objs : List Ob} {id : Nat} : ∀ {ren : Ren} {j : Nat} {sto : List Ob}, (∀ i : Nat, ren[i]? ≠ some (some id)) → (applyUpd sto (chgs ρ roots objs j ren))[id]? = sto[id]?
  | [], _, _, _ => rfl
  | none :: r, j, sto, h => chgs_other (ren := r) (fun i => by simpa using h (i + 1))
  | some k :: r, j, sto, h => by
    rw [chgs, applyUpd, chgs_other (ren := r) (fun i => by simpa using h (i + 1)), List.getElem?_set, if_neg]
    intro e; exact h 0 (by simp [e])

theorem chgs_at {ρ : Nat → Nat} {roots : Nat} {objs : List Ob} {id : Nat} : ∀ {ren : Ren} {j : Nat} {sto : List Ob}, nodupR ren = true → ∀ {i : Nat}, ren[i]? = some (some id) → id < sto.length →
    (applyUpd sto (chgs ρ roots objs j ren))[id]? = some (if j + i < roots then renOb ρ (objs.getD (j + i) .dead) else .dead)
  | [], _, _, _, i, hi, _ => by simp at hi
  | none :: r, j, sto, hn, i, hi, hl => by
    cases i with
    | zero => simp at hi
    | succ i =>
      rw [chgs, chgs_at (ren := r) hn (by simpa using hi) hl]
      have : j + 1 + i = j + (i + 1) := by omega
      rw [this]
  | some k :: r, j, sto, hn, i, hi, hl => by
    have hn' := hn
    simp only [nodupR, Bool.and_eq_true, Bool.not_eq_true', List.contains_eq_mem, decide_eq_false_iff_not] at hn
    cases i with
    | zero =>
      simp only [List.getElem?_cons_zero, Option.some.injEq] at hi; subst hi
      rw [chgs, applyUpd, chgs_other (ren := r) (fun i hi => hn.1 (List.mem_of_getElem? hi)), List.getElem?_set, if_pos rfl, if_pos hl]
      simp
    | succ i =>
      rw [chgs, applyUpd, chgs_at (ren := r) hn.2 (by simpa using hi) (by simpa using hl)]
      have : j + 1 + i = j + (i + 1) := by omega
      rw [this]

section
variable {P : Program} {C C' : Cx} {st : St} {a : Act} {w w' : World} {μ μ' : Nat → Option Nat} {S S' : Nat → Prop} {sto objs : List Ob} {ren : Ren} {roots fid : Nat} {ok : Ty → Bool}

/-- Leaves under new numbers. -/
theorem lrel_ren {ρ : Nat → Nat} {μc : Nat → Option Nat} {new : List Ob} (hob : ∀ j o, objs[j]? = some o → new[ρ j]? = some (renOb ρ o) ∧ μc (ρ j) = μ' j)
    (htr : ∀ t : Ty, ok t = true → ∀ (x : t.El) vs, Rep P false t S w x vs → Rep P false t S' w x vs) {l : Lf} {v : Value} (hok : okL ok l = true) (h : LRel P S μ' objs w l v) : LRel P S' μc new w (renL ρ l) v := by
  cases l with
  | junk => trivial
  | val t x => obtain ⟨cs, h1, h2, h3⟩ := h; exact ⟨cs, h1, htr t hok x cs h2, h3⟩
  | nilp => exact h
  | nils t => exact h
  | vec id =>
    simp only [LRel, renL] at h ⊢
    cases ho : objs[id]? with
    | none => simp [ho] at h
    | some o =>
      obtain ⟨h1, h2⟩ := hob id o ho
      rw [h1, h2]
      cases o <;> simp only [ho, renOb] at h ⊢ <;> first | exact h | exact h.elim
  | sub id off len =>
    simp only [LRel, renL] at h ⊢
    cases ho : objs[id]? with
    | none => simp [ho] at h
    | some o =>
      obtain ⟨h1, h2⟩ := hob id o ho
      rw [h1, h2]
      cases o <;> simp only [ho, renOb] at h ⊢ <;> first | exact h | exact h.elim
  | ptr id off =>
    simp only [LRel, renL] at h ⊢
    cases ho : objs[id]? with
    | none => simp [ho] at h
    | some o =>
      obtain ⟨h1, h2⟩ := hob id o ho
      rw [h1, h2]
      cases o <;> simp only [ho, renOb] at h ⊢ <;> first | exact h | exact h.elim
  | eptr id i off =>
    simp only [LRel, renL] at h ⊢
    cases ho : objs[id]? with
    | none => simp [ho] at h
    | some o =>
      obtain ⟨h1, h2⟩ := hob id o ho
      rw [h1, h2]
      cases o <;> simp only [ho, renOb] at h ⊢ <;> first | exact h | exact h.elim
  | pbox t x off => cases hok
  | clo f caps =>
    obtain ⟨cv, rfl, h2, h3⟩ := h
    refine ⟨cv, rfl, by simpa using h2, fun i id hi => ?_⟩
    rw [List.getElem?_map] at hi
    cases hc : caps[i]? with
    | none => rw [hc] at hi; cases hi
    | some k =>
      rw [hc] at hi
      simp only [Option.map_some, Option.some.injEq] at hi; subst hi
      obtain ⟨u, k1, k2⟩ := h3 i k hc
      refine ⟨u, k1, ?_⟩
      cases ho : objs[k]? with
      | none => simp [ho] at k2
      | some o =>
        obtain ⟨h1, h2⟩ := hob k o ho
        rw [h1, h2]
        cases o <;> simp only [ho, renOb] at k2 ⊢ <;> first | exact k2 | exact k2.elim
  | mapr id =>
    simp only [LRel, renL] at h ⊢
    cases ho : objs[id]? with
    | none => simp [ho] at h
    | some o =>
      obtain ⟨h1, h2⟩ := hob id o ho
      rw [h1, h2]
      cases o <;> simp only [ho, renOb] at h ⊢ <;> first | exact h | exact h.elim

theorem orel_ren {ρ : Nat → Nat} {μc : Nat → Option Nat} {new : List Ob} (hob : ∀ j o, objs[j]? = some o → new[ρ j]? = some (renOb ρ o) ∧ μc (ρ j) = μ' j)
    (htr : ∀ t : Ty, ok t = true → ∀ (x : t.El) vs, Rep P false t S w x vs → Rep P false t S' w x vs) {j : Nat} {o : Ob} (ho : objs[j]? = some o) (hok : okOb ok o = true) (h : ORel P S μ' objs w j o) : ORel P S' μc new w (ρ j) (renOb ρ o) := by
  have hμ := (hob j o ho).2
  cases o with
  | free => trivial
  | dead => trivial
  | var ls =>
    obtain ⟨b, cs, e, fz, h1, h2, h3, h4, h5⟩ := h
    refine ⟨b, cs, e, fz, hμ.trans h1, h2, h3, by simpa using h4, fun i l hi => ?_⟩
    rw [List.getElem?_map] at hi
    cases hc : ls[i]? with
    | none => rw [hc] at hi; cases hi
    | some k =>
      rw [hc] at hi
      simp only [Option.map_some, Option.some.injEq] at hi; subst hi
      obtain ⟨u, k1, k2, k3⟩ := h5 i k hc
      simp only [okOb, List.all_eq_true] at hok
      exact ⟨u, k1, k2, lrel_ren hob htr (hok k (List.mem_of_getElem? hc)) k3⟩
  | arr t xs =>
    rcases h with ⟨h1, h2⟩ | ⟨b, cs, e, fz, h1, h2, h3, h4, h5, h6⟩
    · exact .inl ⟨hμ.trans h1, h2⟩
    · exact .inr ⟨b, cs, e, fz, hμ.trans h1, h2, h3, h4, h5, fun i x hi => let ⟨es, k1, k2⟩ := h6 i x hi; ⟨es, htr t hok x es k1, k2⟩⟩
  | fro t xs => cases hok
  | frv t x => cases hok
  | mp k v es =>
    simp only [okOb, Bool.and_eq_true] at hok
    obtain ⟨b, cs, c, h1, h2, h3, h4⟩ := h
    refine ⟨b, cs, c, hμ.trans h1, h2, h3, fun i p hi => ?_⟩
    obtain ⟨e, k1, ⟨ks, q1, q2, q3⟩, ⟨vs, q4, q5, q6⟩⟩ := h4 i p hi
    exact ⟨e, k1, ⟨ks, q1, htr k hok.1 _ _ q2, q3⟩, ⟨vs, q4, htr v hok.2 _ _ q5, q6⟩⟩
end
end Go.Eng
end

/- EngY -/
section
set_option linter.unusedSimpArgs false
set_option linter.unusedVariables false
namespace Go.Eng
open Tree
section
variable {P : Program} {C C' : Cx} {st : St} {a : Act} {w w' : World} {μ μ' : Nat → Option Nat} {S S' : Nat → Prop} {sto objs : List Ob} {ren : Ren} {roots fid : Nat} {ok : Ty → Bool}

theorem renOb_mut {ρ : Nat → Nat} {o : Ob} : (renOb ρ o).mut = o.mut := by cases o <;> rfl

theorem back_get (hn : nodupR ren = true) (hf : FidsOk sto fid (objs.length - roots)) (hmut : ∀ (j id : Nat), ren[j]? = some (some id) → ∃ o, sto[id]? = some o ∧ o.mut = true) :
    (∀ id, fid ≤ id ∧ id < fid + (objs.length - roots) → (backSto sto ren roots fid objs)[id]? = (objs[roots + (id - fid)]?).map (renOb (rho ren roots fid)) ∧ (sto[id]? = none ∨ sto[id]? = some .free)) ∧
    (∀ (j id : Nat), ren[j]? = some (some id) → ¬ (fid ≤ id ∧ id < fid + (objs.length - roots)) ∧ (backSto sto ren roots fid objs)[id]? = some (if j < roots then renOb (rho ren roots fid) (objs.getD j .dead) else .dead)) ∧
    (∀ id, ¬ (fid ≤ id ∧ id < fid + (objs.length - roots)) → (∀ j : Nat, ren[j]? ≠ some (some id)) → (backSto sto ren roots fid objs)[id]? = sto[id]?) := by
  have hfree : ∀ id, fid ≤ id ∧ id < fid + (objs.length - roots) → sto[id]? = none ∨ sto[id]? = some .free := by
    intro id hid
    rcases hf with hf | hf
    · left; exact List.getElem?_eq_none (by omega)
    · right
      have := hf (id - fid) (by omega)
      rw [← this]; congr 1; omega
  have hnot : ∀ (j id : Nat), ren[j]? = some (some id) → ¬ (fid ≤ id ∧ id < fid + (objs.length - roots)) := by
    intro j id hj hid
    obtain ⟨o, h1, h2⟩ := hmut j id hj
    rcases hfree id hid with h | h <;> rw [h1] at h
    · cases h
    · cases h; cases h2
  have hlen : ((objs.drop roots).map (renOb (rho ren roots fid))).length = objs.length - roots := by simp
  have hf2 : FidsOk (applyUpd sto (chgs (rho ren roots fid) roots objs 0 ren)) fid ((objs.drop roots).map (renOb (rho ren roots fid))).length := by
    rw [hlen]
    rcases hf with hf | hf
    · left; rw [applyUpd_length]; exact hf
    · right
      intro i hi
      rw [chgs_other (fun j hj => hnot j _ hj ⟨by omega, by omega⟩)]
      exact hf i hi
  refine ⟨fun id hid => ⟨?_, hfree id hid⟩, fun j id hj => ⟨hnot j id hj, ?_⟩, fun id hid hno => ?_⟩
  · rw [backSto, placeL_get hf2, hlen, if_pos hid, List.getElem?_map, List.getElem?_drop]
  · obtain ⟨o, h1, h2⟩ := hmut j id hj
    rw [backSto, placeL_get hf2, hlen, if_neg (hnot j id hj), chgs_at hn hj (lt_of_getElem? h1)]
    simp
  · rw [backSto, placeL_get hf2, hlen, if_neg hid, chgs_other hno]

theorem RelW.back (h : RelW P C st a w μ) (hn : nodupR ren = true) (hf : FidsOk st.sto fid (objs.length - roots)) (hmut : ∀ (j id : Nat), ren[j]? = some (some id) → ∃ o, st.sto[id]? = some o ∧ o.mut = true)
    (M' : Mem P C' objs w' μ') (hw0 : C'.w0 = w) (hM0 : ∀ b, C'.M0 b → ∃ j id : Nat, ren[j]? = some (some id) ∧ μ id = some b)
    (hroots : ∀ j, j < roots → μ' j = reμ ren μ j ∧ ∃ id o1 o2, ren[j]? = some (some id) ∧ st.sto[id]? = some o1 ∧ objs[j]? = some o2 ∧ Like o1 (renOb (rho ren roots fid) o2))
    (hok : ∀ o ∈ objs, okOb ok o = true)
    (hS : (∀ t : Ty, ok t = true → flatT t = true) ∨ ∀ b, C'.S0 b → Sof C μ st.sto w b) :
    RelW P C { st with sto := backSto st.sto ren roots fid objs } a w' (backμ roots fid (objs.length - roots) μ μ') ∧
      (∀ l v, okL ok l = true → LRel P (Sof C' μ' objs w') μ' objs w' l v →
        LRel P (Sof C (backμ roots fid (objs.length - roots) μ μ') (backSto st.sto ren roots fid objs) w') (backμ roots fid (objs.length - roots) μ μ') (backSto st.sto ren roots fid objs) w' (renL (rho ren roots fid) l) v) := by
  obtain ⟨g1, g2, g3⟩ := back_get hn hf hmut
  generalize hnew : backSto st.sto ren roots fid objs = new at *
  generalize hμc : backμ roots fid (objs.length - roots) μ μ' = μc at *
  have mμ : ∀ id, ¬ (fid ≤ id ∧ id < fid + (objs.length - roots)) → μc id = μ id := fun id hid => by rw [← hμc, backμ, if_neg hid]
  have mμ' : ∀ id, fid ≤ id ∧ id < fid + (objs.length - roots) → μc id = μ' (roots + (id - fid)) := fun id hid => by rw [← hμc, backμ, if_pos hid]
  -- every object of the callee's has its place
  have hob : ∀ j o, objs[j]? = some o → new[rho ren roots fid j]? = some (renOb (rho ren roots fid) o) ∧ μc (rho ren roots fid j) = μ' j := by
    intro j o ho
    have hj := lt_of_getElem? ho
    by_cases hr : j < roots
    · obtain ⟨q1, id, ls, ls', q2, q3, q4, q5⟩ := hroots j hr
      have hρ : rho ren roots fid j = id := by simp [rho, hr, List.getD, q2]
      obtain ⟨p1, p2⟩ := g2 j id q2
      rw [hρ, p2, if_pos hr, mμ id p1, q1]
      refine ⟨?_, by simp [reμ, List.getD, q2]⟩
      simp [List.getD, ho]
    · have hρ : rho ren roots fid j = fid + (j - roots) := by simp [rho, hr]
      have hrange : fid ≤ fid + (j - roots) ∧ fid + (j - roots) < fid + (objs.length - roots) := by omega
      obtain ⟨p1, _⟩ := g1 _ hrange
      rw [hρ, p1, mμ' _ hrange]
      have : roots + (fid + (j - roots) - fid) = j := by omega
      rw [this, ho]
      exact ⟨rfl, rfl⟩
  have cls : ∀ id o, new[id]? = some o → (∃ j o0, objs[j]? = some o0 ∧ o = renOb (rho ren roots fid) o0 ∧ id = rho ren roots fid j ∧ μc id = μ' j) ∨ o = .dead ∨
      (st.sto[id]? = some o ∧ μc id = μ id ∧ ∀ j : Nat, ren[j]? ≠ some (some id)) := by
    intro id o ho
    by_cases hr : fid ≤ id ∧ id < fid + (objs.length - roots)
    · obtain ⟨p1, _⟩ := g1 id hr
      rw [p1] at ho
      cases hc : objs[roots + (id - fid)]? with
      | none => rw [hc] at ho; cases ho
      | some o0 =>
        rw [hc] at ho
        simp only [Option.map_some, Option.some.injEq] at ho
        refine .inl ⟨_, o0, hc, ho.symm, ?_, mμ' id hr⟩
        rw [rho, if_neg (by omega)]; omega
    · by_cases hj : ∃ j : Nat, ren[j]? = some (some id)
      · obtain ⟨j, hj⟩ := hj
        obtain ⟨p1, p2⟩ := g2 j id hj
        rw [p2] at ho
        split at ho
        · rename_i hlt
          obtain ⟨q1, id', ls, ls', q2, q3, q4, q5⟩ := hroots j hlt
          rw [hj] at q2; cases q2
          simp only [Option.some.injEq, List.getD, q4, Option.getD_some] at ho
          refine .inl ⟨j, _, q4, ho.symm, by simp [rho, hlt, List.getD, hj], ?_⟩
          rw [mμ _ p1, q1]; simp [reμ, List.getD, hj]
        · simp only [Option.some.injEq] at ho; exact .inr (.inl ho.symm)
      · have hno : ∀ j : Nat, ren[j]? ≠ some (some id) := fun j hj' => hj ⟨j, hj'⟩
        rw [g3 id hr hno] at ho
        exact .inr (.inr ⟨ho, mμ id hr, hno⟩)
  have hsz : w.heap.size ≤ w'.heap.size := by have := M'.size; rw [hw0] at this; exact this
  have frame : ∀ b, b < w.heap.size → ¬ C'.M0 b → w'.heap[b]? = w.heap[b]? := fun b hb hM => by
    have := M'.frame b (by rw [hw0]; exact hb) hM
    rw [hw0] at this; exact this
  have own : ∀ b, C'.M0 b → ∃ id o, st.sto[id]? = some o ∧ o.mut = true ∧ μ id = some b ∧ ∃ j : Nat, ren[j]? = some (some id) := fun b hb => by
    obtain ⟨j, id, q1, q2⟩ := hM0 b hb
    obtain ⟨o, q3, q4⟩ := hmut j id q1
    exact ⟨id, o, q3, q4, q2, j, q1⟩
  have keep : ∀ id o, st.sto[id]? = some o → o.mut = true → (∀ j : Nat, ren[j]? ≠ some (some id)) → ∀ b, μ id = some b → w'.heap[b]? = w.heap[b]? := by
    intro id o ho hm hno b hb
    refine frame b (h.blk id o b ho hm hb).1 (fun hM => ?_)
    obtain ⟨id', o', p1, p2, p3, j, p4⟩ := own b hM
    have := h.inj id id' o o' b ho p1 hm p2 hb p3
    subst this
    exact hno j p4
  have keepS : ∀ b, Sof C μ st.sto w b → w'.heap[b]? = w.heap[b]? := by
    intro b hb
    refine frame b hb.1 (fun hM => ?_)
    obtain ⟨id', o', p1, p2, p3, j, p4⟩ := own b hM
    exact hb.2.2 id' o' p1 p2 p3
  have htr : ∀ t : Ty, ok t = true → ∀ (x : t.El) vs, Rep P false t (Sof C' μ' objs w') w' x vs → Rep P false t (Sof C μc new w') w' x vs := by
    intro t ht x vs hx
    rcases hS with hS | hS
    · exact flat_rep (hS t ht) hx
    · refine hx.ext (fun b hb hlt => ⟨⟨hlt, ?_, fun id o ho hm hid => ?_⟩, rfl⟩)
      · rcases hb.2.1 with q | q | q
        · exact (hS b q).2.1
        · obtain ⟨id, o, p1, p2, p3, _⟩ := own b q
          rcases (h.blk id o b p1 p2 p3).2 with r | r
          · exact .inr (.inr r)
          · exact .inr (.inl r)
        · rw [hw0] at q
          exact .inr (.inr (Nat.le_trans h.size q))
      · rcases cls id o ho with ⟨j, o0, q1, rfl, q3, q4⟩ | rfl | ⟨q1, q2, q3⟩
        · rw [renOb_mut] at hm
          exact hb.2.2 j o0 q1 hm (q4 ▸ hid)
        · cases hm
        · rw [q2] at hid
          rcases hb.2.1 with q | q | q
          · exact (hS b q).2.2 id o q1 hm hid
          · obtain ⟨id2, o2, r1, r2, r3, j2, r4⟩ := own b q
            have := h.inj id id2 o o2 b q1 r1 hm r2 hid r3
            subst this
            exact q3 j2 r4
          · rw [hw0] at q
            have := (h.blk id o b q1 hm hid).1
            omega
  obtain ⟨r, hk⟩ := h.move (w' := w') (μ' := μc) (sto' := new) hsz (by rw [M'.os, hw0]) (by rw [M'.tape, hw0]) (by rw [M'.output, hw0])
    (fun id o b ho hm hb => by
      rcases cls id o ho with ⟨j, o0, q1, rfl, q3, q4⟩ | rfl | ⟨q1, q2, q3⟩
      · rw [renOb_mut] at hm
        obtain ⟨p1, p2⟩ := M'.blk j o0 b q1 hm (q4 ▸ hb)
        refine ⟨p1, ?_⟩
        rcases p2 with p2 | p2
        · left; rw [hw0] at p2; exact p2
        · obtain ⟨id', o', p3, p4, p5, _⟩ := own b p2
          exact .inr ⟨id', o', p3, p4, p5⟩
      · cases hm
      · rw [q2] at hb
        have := (h.blk id o b q1 hm hb).1
        exact ⟨by omega, .inr ⟨id, o, q1, hm, hb⟩⟩)
    (fun id id' o o' b ho ho' hm hm' hb hb' => by
      have cross : ∀ {id id' : Nat} {o o0 : Ob} {j : Nat}, st.sto[id]? = some o → o.mut = true → μc id = μ id → (∀ j : Nat, ren[j]? ≠ some (some id)) → μc id = some b → objs[j]? = some o0 → o0.mut = true → μ' j = some b → False := by
        intro id id' o o0 j p1 p2 p3 p4 p5 p6 p7 p8
        rw [p3] at p5
        have hlt := (h.blk id o b p1 p2 p5).1
        rcases (M'.blk j o0 b p6 p7 p8).2 with q | q
        · rw [hw0] at q; omega
        · obtain ⟨id2, o2, r1, r2, r3, j2, r4⟩ := own b q
          have := h.inj id id2 o o2 b p1 r1 p2 r2 p5 r3
          subst this
          exact p4 j2 r4
      rcases cls id o ho with ⟨j, o0, q1, rfl, q3, q4⟩ | rfl | ⟨q1, q2, q3⟩
      · rcases cls id' o' ho' with ⟨j', o0', q1', rfl, q3', q4'⟩ | rfl | ⟨q1', q2', q3'⟩
        · rw [renOb_mut] at hm hm'
          have := M'.inj j j' o0 o0' b q1 q1' hm hm' (q4 ▸ hb) (q4' ▸ hb')
          subst this
          rw [q3, q3']
        · cases hm'
        · rw [renOb_mut] at hm
          exact (cross (id' := id) q1' hm' q2' q3' hb' q1 hm (q4 ▸ hb)).elim
      · cases hm
      · rcases cls id' o' ho' with ⟨j', o0', q1', rfl, q3', q4'⟩ | rfl | ⟨q1', q2', q3'⟩
        · rw [renOb_mut] at hm'
          exact (cross (id' := id) q1 hm q2 q3 hb q1' hm' (q4' ▸ hb')).elim
        · cases hm'
        · exact h.inj id id' o o' b q1 q1' hm hm' (q2 ▸ hb) (q2' ▸ hb'))
    (fun b hb hno => frame b hb (fun hM => by
      obtain ⟨id, o, p1, p2, p3, _⟩ := own b hM
      exact hno id o p1 p2 p3))
    (fun b n hc => M'.caps b n (by rw [hw0]; exact hc))
    (fun id o ho => by
      by_cases hr : fid ≤ id ∧ id < fid + (objs.length - roots)
      · obtain ⟨p1, p2⟩ := g1 id hr
        have hof : o = .free := by rcases p2 with p2 | p2 <;> rw [ho] at p2 <;> cases p2; rfl
        subst hof
        have hlt : roots + (id - fid) < objs.length := by omega
        rw [List.getElem?_eq_getElem hlt] at p1
        exact ⟨_, p1, by simp [Like], .inl rfl⟩
      · by_cases hj : ∃ j : Nat, ren[j]? = some (some id)
        · obtain ⟨j, hj⟩ := hj
          obtain ⟨p1, p2⟩ := g2 j id hj
          by_cases hlt : j < roots
          · obtain ⟨q1, id', ls, ls', q2, q3, q4, q5⟩ := hroots j hlt
            rw [hj] at q2; cases q2
            rw [ho] at q3; cases q3
            rw [if_pos hlt] at p2
            simp only [List.getD, q4, Option.getD_some] at p2
            exact ⟨_, p2, q5, .inr (.inr ⟨mμ _ p1, fun b n hb hc => M'.caps b n (by rw [hw0]; exact hc)⟩)⟩
          · rw [if_neg hlt] at p2
            exact ⟨.dead, p2, by cases o <;> simp [Like], .inr (.inl rfl)⟩
        · have hno : ∀ j : Nat, ren[j]? ≠ some (some id) := fun j hj' => hj ⟨j, hj'⟩
          refine ⟨o, by rw [g3 id hr hno]; exact ho, Like.refl o, ?_⟩
          by_cases hm : o.mut = true
          · refine .inr (.inr ⟨mμ id hr, fun b n hb hc => ?_⟩)
            obtain ⟨cs, e, fz, h1, h2⟩ := hc
            exact ⟨cs, e, fz, (keep id o ho hm hno b hb).trans h1, h2⟩
          · cases o with
            | free => exact .inl rfl
            | dead => exact .inr (.inl rfl)
            | var ls => simp [Ob.mut] at hm
            | arr t xs => simp [Ob.mut] at hm
            | mp k v es => simp [Ob.mut] at hm
            | fro t xs =>
              refine .inr (.inr ⟨mμ id hr, fun b n hb hc => ?_⟩)
              rcases h.obj id _ ho with ⟨h1, _⟩ | ⟨b', cs, e, fz, h1, hS, h2, _⟩
              · rw [h1] at hb; cases hb
              · rw [h1] at hb; cases hb
                obtain ⟨cs, e, fz, q1, q2⟩ := hc
                exact ⟨cs, e, fz, (keepS b hS).trans q1, q2⟩
            | frv t x =>
              refine .inr (.inr ⟨mμ id hr, fun b n hb hc => ?_⟩)
              obtain ⟨b', cs, e, fz, es, h1, hS, h2, _⟩ := h.obj id _ ho
              rw [h1] at hb; cases hb
              obtain ⟨cs, e, fz, q1, q2⟩ := hc
              exact ⟨cs, e, fz, (keepS b hS).trans q1, q2⟩)
    (fun hk id o ho => by
      rcases cls id o ho with ⟨j, o0, q1, rfl, q3, q4⟩ | rfl | ⟨q1, q2, q3⟩
      · right
        rw [q3]
        exact orel_ren hob htr q1 (hok o0 (List.mem_of_getElem? q1)) (M'.obj j o0 q1)
      · exact .inr trivial
      · exact .inl ⟨q1, q2, fun b hb hm => keep id o q1 hm q3 b hb⟩)
  exact ⟨r, fun l v hl hv => lrel_ren hob htr hl hv⟩
end
end Go.Eng
end

/- EngZ -/
section
set_option linter.unusedSimpArgs false
set_option linter.unusedVariables false
namespace Go.Eng
open Tree

def okSh (ok : Ty → Bool) : LSh → Bool
  | .val t => ok t
  | _ => true
def okASh (ok : Ty → Bool) : ASh → Bool
  | .one l => okSh ok l
  | .agg ls => ls.all (okSh ok)
def okOSh (ok : Ty → Bool) : OSh → Bool
  | .var ls => ls.all (okSh ok)
  | .arr t => ok t
  | .mp k v => ok k && ok v
def Shape.all (sh : Shape) (ok : Ty → Bool) : Bool := sh.objs.all (okOSh ok) && sh.slots.all (okASh ok)

def rootLike : OSh → OSh → Bool
  | .var ss, .var ss' => decide (ss.length = ss'.length)
  | .arr t, .arr t' => (Ty.eq? t t').isSome
  | .mp k v, .mp k' v' => (Ty.eq? (.map k v) (.map k' v')).isSome
  | _, _ => false
def rootsOk (a b : List OSh) : Nat → Bool
  | 0 => true
  | n + 1 => (match a[n]?, b[n]? with | some s, some s' => rootLike s s' | _, _ => false) && rootsOk a b n
/-- Rows that the caller keeps are as long as they were. -/
def lensOk : (a : List OSh) → (oty a).El → (b : List OSh) → (oty b).El → Nat → Bool
  | _, _, _, _, 0 => true
  | .arr _ :: a, x, .arr _ :: b, y, n + 1 => decide (List.length x.1 = List.length y.1) && lensOk a x.2 b y.2 n
  | _ :: a, x, _ :: b, y, n + 1 => lensOk a x.2 b y.2 n
  | _, _, _, _, _ + 1 => false

def rensOk (ren : Ren) : Nat → Bool
  | 0 => true
  | n + 1 => (match ren[n]? with | some (some _) => true | _ => false) && rensOk ren n
theorem rensOk_at {ren : Ren} : ∀ {n : Nat}, rensOk ren n = true → ∀ j, j < n → ren[j]? ≠ some none
  | 0, _, j, hj => by omega
  | n + 1, h, j, hj => by
    simp only [rensOk, Bool.and_eq_true] at h
    rcases Nat.lt_or_ge j n with h' | h'
    · exact rensOk_at h.2 j h'
    · have : j = n := by omega
      subst this
      intro e; rw [e] at h; simp at h

def oneLf : AV → Option Lf | .one l => some l | _ => none
def ones : List AV → Option (List Lf)
  | [] => some []
  | .one l :: r => match ones r with | some ls => some (l :: ls) | none => none
  | _ :: _ => none
def retAV (ρ : Nat → Nat) (avs : List AV) : Option AV :=
  match avs with
  | [av] => some (renAV ρ av)
  | avs => match ones avs with | some ls => some (.tup (ls.map (renL ρ))) | none => none

def casT {α β : Type} : (pan : Bool) → Rz pan β → (Value → Tree α) → (β → Tree α) → Tree α
  | false, y, _, k => k y
  | true, r, e, k => .cas r e k

inductive Out where
  | ok (sto : List Ob) (v : AV)
  | pan (v : Value)

def callT (sto : List Ob) (fs : FSpec) (fid : Nat) (args : List AV) : Tree Out :=
  if rootsOk fs.pre.objs fs.post.objs fs.roots && rensOk (fs.pre.ren sto args []) fs.roots then
    match fs.pre.get (fs.pre.ren sto args []) { slots := args, sto := iceAll sto (fs.pre.ices sto args []) } with
    | some x => .opt (fs.f x) fun r => casT fs.pan r (fun v => leaf (.pan v)) fun y =>
        match retAV (rho (fs.pre.ren sto args []) fs.roots fid) (mkS fs.post.slots y.1) with
        | some v => grd (lensOk fs.pre.objs x.2 fs.post.objs y.2 fs.roots) (leaf (.ok (backSto (if fs.post.all flatT then sto else iceAll sto (fs.pre.ices sto args [])) (fs.pre.ren sto args []) fs.roots fid (mkO fs.post.objs y.2)) v))
        | none => fail
    | none => fail
  else fail

section
variable {P : Program} {C C' : Cx} {st : St} {a : Act} {w w' : World} {μ μ' : Nat → Option Nat} {S S' : Nat → Prop} {sto objs : List Ob} {ren : Ren} {roots fid : Nat} {ok : Ty → Bool}

theorem okL_leaf {s : LSh} {x : optEl s.tyO} (h : okSh ok s = true) : okL ok (leafOf s x) = true := by cases s <;> first | exact h | rfl
theorem okL_mkL : ∀ {ss : List LSh} {x : (lty ss).El}, ss.all (okSh ok) = true → ∀ l ∈ mkL ss x, okL ok l = true
  | [], _, _, l, hl => by cases hl
  | s :: ss, x, h, l, hl => by
    simp only [List.all_cons, Bool.and_eq_true] at h
    rcases List.mem_cons.1 hl with rfl | hl
    · exact okL_leaf h.1
    · exact okL_mkL h.2 l hl
theorem okOb_mkO : ∀ {os : List OSh} {x : (oty os).El}, os.all (okOSh ok) = true → ∀ o ∈ mkO os x, okOb ok o = true
  | [], _, _, o, ho => by cases ho
  | s :: os, x, h, o, ho => by
    simp only [List.all_cons, Bool.and_eq_true] at h
    rcases List.mem_cons.1 ho with rfl | ho
    · cases s with
      | var ss => simp only [obOf, okOb, List.all_eq_true]; exact okL_mkL h.1
      | arr t => exact h.1
      | mp k v => exact h.1
    · exact okOb_mkO h.2 o ho
theorem mkL_length : ∀ {ss : List LSh} {x : (lty ss).El}, (mkL ss x).length = ss.length
  | [], _ => rfl
  | s :: ss, x => by simp only [mkL, List.length_cons, mkL_length]
theorem mkO_length : ∀ {os : List OSh} {x : (oty os).El}, (mkO os x).length = os.length
  | [], _ => rfl
  | s :: os, x => by simp only [mkO, List.length_cons, mkO_length]
theorem mkO_at : ∀ {os : List OSh} {x : (oty os).El} {j : Nat} {s : OSh}, os[j]? = some s → ∃ y, (mkO os x)[j]? = some (obOf s y)
  | [], _, j, s, h => by simp at h
  | o :: os, x, 0, s, h => by simp only [List.getElem?_cons_zero, Option.some.injEq] at h; subst h; exact ⟨_, rfl⟩
  | o :: os, x, j + 1, s, h => by
    simp only [List.getElem?_cons_succ] at h
    obtain ⟨y, hy⟩ := mkO_at (os := os) (x := x.2) (j := j) h
    exact ⟨y, by simpa [mkO] using hy⟩

theorem rootsOk_at {a b : List OSh} : ∀ {n : Nat}, rootsOk a b n = true → ∀ j, j < n → ∃ s s', a[j]? = some s ∧ b[j]? = some s' ∧ rootLike s s' = true
  | 0, _, j, hj => by omega
  | n + 1, h, j, hj => by
    simp only [rootsOk, Bool.and_eq_true] at h
    rcases Nat.lt_or_ge j n with h' | h'
    · exact rootsOk_at h.2 j h'
    · have : j = n := by omega
      subst this
      have h1 := h.1
      split at h1
      · rename_i s s' k1 k2
        exact ⟨s, s', k1, k2, h1⟩
      · cases h1
theorem lensOk_at : ∀ {a : List OSh} {x : (oty a).El} {b : List OSh} {y : (oty b).El} {n : Nat}, lensOk a x b y n = true → ∀ j, j < n → ∀ (t t' : Ty) (xs : List t.El) (ys : List t'.El),
    (mkO a x)[j]? = some (.arr t xs) → (mkO b y)[j]? = some (.arr t' ys) → xs.length = ys.length
  | _, _, _, _, 0, _, j, hj, _, _, _, _, _, _ => by omega
  | [], _, _, _, n + 1, h, j, hj, _, _, _, _, h1, _ => by simp [mkO] at h1
  | s :: a, x, [], y, n + 1, h, j, hj, _, _, _, _, _, h2 => by simp [mkO] at h2
  | s :: a, x, s' :: b, y, n + 1, h, 0, hj, t, t', xs, ys, h1, h2 => by
    simp only [mkO, List.getElem?_cons_zero, Option.some.injEq] at h1 h2
    cases s with
    | arr te => cases s' with
      | arr te' =>
        simp only [obOf, Ob.arr.injEq] at h1 h2
        obtain ⟨rfl, h1⟩ := h1
        obtain ⟨rfl, h2⟩ := h2
        simp only [lensOk, Bool.and_eq_true, decide_eq_true_eq] at h
        rw [← eq_of_heq h1, ← eq_of_heq h2]
        exact h.1
      | _ => simp [obOf] at h2
    | _ => simp [obOf] at h1
  | s :: a, x, s' :: b, y, n + 1, h, j + 1, hj, t, t', xs, ys, h1, h2 => by
    simp only [mkO, List.getElem?_cons_succ] at h1 h2
    have h' : lensOk a x.2 b y.2 n = true := by
      cases s <;> cases s' <;> simp only [lensOk, Bool.and_eq_true] at h <;> first | exact h | exact h.2
    exact lensOk_at h' j (by omega) t t' xs ys h1 h2

theorem frz1_mut {sto : List Ob} {i id : Nat} {o : Ob} (h : (frz1 sto i)[id]? = some o) (hm : o.mut = true) : sto[id]? = some o := by
  unfold frz1 at h
  split at h
  · rename_i t xs ho
    rw [List.getElem?_set] at h
    split at h
    · split at h
      · cases h; cases hm
      · cases h
    · exact h
  · exact h
theorem frz_mut : ∀ {ids : List Nat} {sto : List Ob} {id : Nat} {o : Ob}, (frz sto ids)[id]? = some o → o.mut = true → sto[id]? = some o
  | [], _, _, _, h, _ => h
  | i :: r, sto, id, o, h, hm => frz1_mut (frz_mut (ids := r) h hm) hm
theorem iceAll_mut : ∀ {l : List (Nat × Option Ty)} {sto : List Ob} {id : Nat} {o : Ob}, (iceAll sto l)[id]? = some o → o.mut = true → sto[id]? = some o
  | [], _, _, _, h, _ => h
  | (i, none) :: r, sto, id, o, h, hm => frz1_mut (iceAll_mut (l := r) h hm) hm
  | (i, some tb) :: r, sto, id, o, h, hm => by
    have h := iceAll_mut (l := r) h hm
    unfold iceV at h
    split at h
    · split at h
      · rw [List.getElem?_set] at h
        split at h
        · split at h
          · cases h; cases hm
          · cases h
        · exact frz_mut h hm
      · exact h
    · exact h

theorem FidsOk.ice {l : List (Nat × Option Ty)} {n : Nat} (h : FidsOk sto fid n) : FidsOk (iceAll sto l) fid n := by
  have len1 : ∀ (s : List Ob) (i : Nat), (frz1 s i).length = s.length := fun s i => by unfold frz1; split <;> simp
  have len2 : ∀ (ids : List Nat) (s : List Ob), (frz s ids).length = s.length := fun ids => by
    induction ids with
    | nil => intro s; rfl
    | cons i r ih => intro s; rw [frz, ih, len1]
  have len3 : ∀ (s : List Ob) (i : Nat) (tb : Ty), (iceV s i tb).length = s.length := fun s i tb => by unfold iceV; split <;> (try split) <;> simp [len2]
  have f1 : ∀ (s : List Ob) (i k : Nat), s[k]? = some .free → (frz1 s i)[k]? = some .free := fun s i k hk => by
    unfold frz1; split
    · rename_i t xs ho
      rw [List.getElem?_set, if_neg]
      · exact hk
      · intro e; subst e; rw [ho] at hk; cases hk
    · exact hk
  have f2 : ∀ (ids : List Nat) (s : List Ob) (k : Nat), s[k]? = some .free → (frz s ids)[k]? = some .free := fun ids => by
    induction ids with
    | nil => intro s k hk; exact hk
    | cons i r ih => intro s k hk; exact ih _ _ (f1 _ _ _ hk)
  have f3 : ∀ (s : List Ob) (i : Nat) (tb : Ty) (k : Nat), s[k]? = some .free → (iceV s i tb)[k]? = some .free := fun s i tb k hk => by
    unfold iceV; split
    · rename_i ls ho
      split
      · rw [List.getElem?_set, if_neg]
        · exact f2 _ _ _ hk
        · intro e; subst e; rw [ho] at hk; cases hk
      · exact hk
    · exact hk
  induction l generalizing sto with
  | nil => exact h
  | cons p r ih =>
    obtain ⟨id, o⟩ := p
    cases o with
    | none =>
      refine ih ?_
      rcases h with h | h
      · left; rw [len1]; exact h
      · right; intro i hi; exact f1 _ _ _ (h i hi)
    | some tb =>
      refine ih ?_
      rcases h with h | h
      · left; rw [len3]; exact h
      · right; intro i hi; exact f3 _ _ _ _ (h i hi)

theorem Does.mono {f : FuncId} {args : Array Value} {R R' : Ending → World → Prop} (h : Does P f args w R) (hr : ∀ e w', R e w' → R' e w') : Does P f args w R' := by
  rcases h with ⟨v, w', h1, h2⟩ | ⟨h1, h2⟩
  · exact .inl ⟨v, w', h1, hr _ _ h2⟩
  · exact .inr ⟨h1, h2.mono hr⟩

theorem ones_get : ∀ {avs : List AV} {ls : List Lf}, ones avs = some ls → ls.length = avs.length ∧ ∀ (i : Nat) (l : Lf), ls[i]? = some l → avs[i]? = some (.one l)
  | [], ls, h => by simp only [ones, Option.some.injEq] at h; subst h; simp
  | .one l :: r, ls, h => by
    simp only [ones] at h
    split at h
    · rename_i ls' h'
      simp only [Option.some.injEq] at h; subst h
      obtain ⟨k1, k2⟩ := ones_get h'
      refine ⟨by simp [k1], fun i l' hi => ?_⟩
      cases i with
      | zero => simp only [List.getElem?_cons_zero, Option.some.injEq] at hi; subst hi; rfl
      | succ i => simp only [List.getElem?_cons_succ] at hi ⊢; exact k2 i l' hi
    · cases h
  | .agg _ :: r, ls, h => by simp [ones] at h
  | .tup _ :: r, ls, h => by simp [ones] at h

/-- What a caller knows behind a call. -/
def Behind (P : Program) (C : Cx) (st : St) (a : Act) (o : Out) (e : Ending) (w' : World) : Prop :=
  match o, e with
  | .ok sto v, .returned u => ∃ μ', RelW P C { st with sto := sto } a w' μ' ∧ ARel P (Sof C μ' sto w') μ' sto w' v u
  | .pan pv, .panicked chain => chain = [{ v := pv, recovered := false }] ∧ Mem P C [] w' (fun _ => none)
  | _, _ => False

theorem arel_ren {ρ : Nat → Nat} {μc : Nat → Option Nat} {new : List Ob} (hl : ∀ l v, okL ok l = true → LRel P S μ' objs w' l v → LRel P S' μc new w' (renL ρ l) v) {s : ASh} {x : optEl s.tyO} {v : Value}
    (hok : okASh ok s = true) (h : ARel P S μ' objs w' (avOf s x) v) : ARel P S' μc new w' (renAV ρ (avOf s x)) v := by
  cases s with
  | one l => exact hl _ _ (okL_leaf hok) h
  | agg ss =>
    obtain ⟨cs, rfl, h1, h2⟩ := h
    refine ⟨cs, rfl, by simpa [avOf] using h1, fun i l hi => ?_⟩
    rw [List.getElem?_map] at hi
    cases hc : (mkL ss x)[i]? with
    | none => rw [hc] at hi; cases hi
    | some k =>
      rw [hc] at hi
      simp only [Option.map_some, Option.some.injEq] at hi; subst hi
      obtain ⟨u, k1, k2, k3⟩ := h2 i k hc
      exact ⟨u, k1, k2, hl _ _ (okL_mkL hok k (List.mem_of_getElem? hc)) k3⟩

theorem mkS_at : ∀ {ss : List ASh} {x : (sty ss).El} {i : Nat} {av : AV}, (mkS ss x)[i]? = some av → ∃ s y, ss[i]? = some s ∧ av = avOf s y
  | [], _, i, av, h => by simp [mkS] at h
  | s :: ss, x, 0, av, h => by simp only [mkS, List.getElem?_cons_zero, Option.some.injEq] at h; exact ⟨s, _, rfl, h.symm⟩
  | s :: ss, x, i + 1, av, h => by
    simp only [mkS, List.getElem?_cons_succ] at h
    obtain ⟨s', y, h1, h2⟩ := mkS_at h
    exact ⟨s', y, by simpa using h1, h2⟩

theorem ret_ren {ρ : Nat → Nat} {μc : Nat → Option Nat} {new : List Ob} {ss : List ASh} {x : (sty ss).El} {v : AV} {u : Value} (hok : ss.all (okASh ok) = true)
    (hl : ∀ l v, okL ok l = true → LRel P S μ' objs w' l v → LRel P S' μc new w' (renL ρ l) v) (h : RetRel P S μ' objs w' (mkS ss x) u) (hv : retAV ρ (mkS ss x) = some v) : ARel P S' μc new w' v u := by
  have each : ∀ (i : Nat) (av : AV) (u : Value), (mkS ss x)[i]? = some av → ARel P S μ' objs w' av u → ARel P S' μc new w' (renAV ρ av) u := by
    intro i av u hi ha
    obtain ⟨s, y, h1, rfl⟩ := mkS_at hi
    exact arel_ren hl (List.all_eq_true.1 hok s (List.mem_of_getElem? h1)) ha
  generalize mkS ss x = avs at *
  unfold retAV at hv
  unfold RetRel at h
  split at hv
  · simp only [Option.some.injEq] at hv; subst hv
    exact each 0 _ _ rfl h
  · rename_i hne
    split at hv
    · rename_i ls hls
      simp only [Option.some.injEq] at hv; subst hv
      split at h
      · rename_i av; exact absurd rfl (hne av)
      · obtain ⟨cs, rfl, h1, h2⟩ := h
        obtain ⟨k1, k2⟩ := ones_get hls
        refine ⟨cs, rfl, by rw [List.length_map, k1]; exact h1, fun i l hi => ?_⟩
        rw [List.getElem?_map] at hi
        cases hc : ls[i]? with
        | none => rw [hc] at hi; cases hi
        | some k =>
          rw [hc] at hi
          simp only [Option.map_some, Option.some.injEq] at hi; subst hi
          obtain ⟨u, q1, q2⟩ := h2 i _ (k2 i k hc)
          exact ⟨u, q1, each i _ u (k2 i k hc) q2⟩
    · cases hv

theorem call_sound {g : FuncId} {fs : FSpec} {args : List AV} {vals : Array Value} {o : Out} {gl : Globs} (hs : Spec P gl g fs) (hG : GlobOk C gl) (h : RelW P C st a w μ) (hf : FidsOk st.sto fid (fs.post.objs.length - fs.roots))
    (hl : vals.size = args.length) (hv : ∀ (i : Nat) (av : AV), args[i]? = some av → ARel P (Sof C μ st.sto w) μ st.sto w av (vals.getD i undef))
    (hr : (callT st.sto fs fid args).run = some o) : Does P g vals w (Behind P C st a o) := by
  unfold callT at hr
  split at hr
  · rename_i hroots
    simp only [Bool.and_eq_true] at hroots
    obtain ⟨hroots, hsome0⟩ := hroots
    split at hr
    · rename_i x hx
      simp only [Tree.run] at hr
      cases hy : fs.f x with
      | none => rw [hy] at hr; cases hr
      | some r =>
        rw [hy, Option.bind_some] at hr
        generalize hren : fs.pre.ren st.sto args [] = ren at *
        generalize hic : fs.pre.ices st.sto args [] = ic at *
        have hsome := rensOk_at hsome0
        obtain ⟨h1, k1⟩ := h.iceAll ic
        unfold Shape.get at hx
        split at hx
        · rename_i hn
          simp only [Bool.and_eq_true] at hn
          replace hn := hn.1
          split at hx
          · rename_i x1 x2 e1 e2
            simp only [Option.some.injEq] at hx; subst hx
            obtain ⟨hM, m, he⟩ := h1.mem.call hn e2
            obtain ⟨l1, l2⟩ := arels_re h1.obj he e2 e1
            have hd := hs _ (fun g xs hg => h1.glob hG hg) (x1, x2) r vals _ hy m (by rw [hl]; exact l1.symm) (fun i av hi => by
              obtain ⟨av0, q1, q2⟩ := l2 i av hi
              exact q2 _ ((hv i av0 q1).keeps k1))
            refine hd.mono (fun e w' hp => ?_)
            have hmut1 : ∀ (j id : Nat), ren[j]? = some (some id) → ∃ o, (iceAll st.sto ic)[id]? = some o ∧ o.mut = true := by
              intro j id hj
              obtain ⟨s, hs'⟩ := getOs_ren e2 hj
              obtain ⟨r', y', q1, q2, _⟩ := getOs_sh e2 hs'
              rw [hj] at q1; cases q1
              cases s with
              | var ss =>
                simp only [getO] at q2
                split at q2
                · rename_i ls q; exact ⟨_, q, rfl⟩
                · cases q2
              | arr t => exact ⟨_, getO_arr q2, rfl⟩
              | mp k v => exact ⟨_, getO_mp q2, rfl⟩
            have hmut : ∀ (j id : Nat), ren[j]? = some (some id) → ∃ o, st.sto[id]? = some o ∧ o.mut = true := fun j id hj => by
              obtain ⟨o, q1, q2⟩ := hmut1 j id hj
              exact ⟨o, iceAll_mut q1 q2, q2⟩
            have hM0 : ∀ b, (callCx C μ (iceAll st.sto ic) w (reμ ren μ) (mkO fs.pre.objs x2) hM).M0 b → ∃ j id : Nat, ren[j]? = some (some id) ∧ μ id = some b := by
              rintro b ⟨j, o, q1, q2, q3⟩
              obtain ⟨id, o2, p1, _, _, p2⟩ := re_back e2 q1 q3
              exact ⟨j, id, p1, p2⟩
            have hpan : ∀ {μc : Nat → Option Nat}, Mem P (callCx C μ (iceAll st.sto ic) w (reμ ren μ) (mkO fs.pre.objs x2) hM) [] w' μc → Mem P C [] w' (fun _ => none) := by
              intro μc m'
              refine ⟨Nat.le_trans h.size m'.size, m'.os.trans h.os, m'.tape.trans h.tape, m'.output.trans h.output, fun b hb hno => ?_, fun id o b ho => by simp at ho, fun id id' o o' b ho => by simp at ho, fun id o ho => by simp at ho, fun b n hc => m'.caps b n (h.caps b n hc)⟩
              rw [m'.frame b (Nat.lt_of_lt_of_le hb h.size) (fun hm => ?_)]
              · exact h.frame b hb hno
              · obtain ⟨j, id, p1, p2⟩ := hM0 b hm
                obtain ⟨o, q1, q2⟩ := hmut j id p1
                rcases (h.blk id o b q1 q2 p2).2 with q | q
                · omega
                · exact hno q
            have hok : ∀ (y : fs.post.ty.El), (match retAV (rho ren fs.roots fid) (mkS fs.post.slots y.1) with
                | some v => grd (lensOk fs.pre.objs x2 fs.post.objs y.2 fs.roots) (leaf (Out.ok (backSto (if fs.post.all flatT then st.sto else iceAll st.sto ic) ren fs.roots fid (mkO fs.post.objs y.2)) v))
                | none => fail).run = some o →
                Post P (callCx C μ (iceAll st.sto ic) w (reμ ren μ) (mkO fs.pre.objs x2) hM) fs (reμ ren μ) (.ok y) e w' → Behind P C st a o e w' := by
              intro y hr hp
              split at hr
              · rename_i v hv'
                obtain ⟨hlens, hr⟩ := run_grd hr
                simp only [Tree.run, Option.some.injEq] at hr; subst hr
                cases e with
                | returned u =>
                  obtain ⟨μ', m', rr, hroot⟩ := hp
                  have hlen : (mkO fs.post.objs y.2).length = fs.post.objs.length := mkO_length
                  have hrt : ∀ (sto0 : List Ob), (∀ (id : Nat) (o : Ob), (iceAll st.sto ic)[id]? = some o → o.mut = true → sto0[id]? = some o) → ∀ j, j < fs.roots → μ' j = reμ ren μ j ∧
                      ∃ id o1 o2, ren[j]? = some (some id) ∧ sto0[id]? = some o1 ∧ (mkO fs.post.objs y.2)[j]? = some o2 ∧ Like o1 (renOb (rho ren fs.roots fid) o2) := by
                    intro sto0 hsto j hj
                    refine ⟨hroot j hj, ?_⟩
                    obtain ⟨s, s', p1, p2, p3⟩ := rootsOk_at hroots j hj
                    obtain ⟨r', y', q1, q2, qx⟩ := getOs_sh e2 p1
                    obtain ⟨y2, q3⟩ := mkO_at (x := y.2) p2
                    cases s with
                    | var ss => cases s' with
                      | var ss' =>
                        cases r' with
                        | none => cases q2
                        | some id =>
                          simp only [getO] at q2
                          split at q2
                          · rename_i ls q4
                            exact ⟨id, _, _, q1, hsto id _ q4 rfl, q3, trivial⟩
                          · cases q2
                      | _ => simp [rootLike] at p3
                    | arr t => cases s' with
                      | arr t' =>
                        cases r' with
                        | none => exact absurd (hsome j hj) (by simp [q1])
                        | some id =>
                          refine ⟨id, _, _, q1, hsto id _ (getO_arr q2) rfl, q3, ?_⟩
                          simp only [rootLike, Option.isSome_iff_exists] at p3
                          obtain ⟨⟨pe⟩, _⟩ := p3
                          exact ⟨pe, lensOk_at hlens j hj _ _ _ _ qx q3⟩
                      | _ => simp [rootLike] at p3
                    | mp k v => cases s' with
                      | mp k' v' =>
                        cases r' with
                        | none => cases q2
                        | some id => exact ⟨id, _, _, q1, hsto id _ (getO_mp q2) rfl, q3, trivial⟩
                      | _ => simp [rootLike] at p3
                  have fin : ∀ {st0 : St} {ok : Ty → Bool}, RelW P C { st with sto := backSto st0.sto ren fs.roots fid (mkO fs.post.objs y.2) } a w' (backμ fs.roots fid ((mkO fs.post.objs y.2).length - fs.roots) μ μ') →
                      fs.post.all ok = true →
                      (∀ l v, okL ok l = true → LRel P (Sof (callCx C μ (iceAll st.sto ic) w (reμ ren μ) (mkO fs.pre.objs x2) hM) μ' (mkO fs.post.objs y.2) w') μ' (mkO fs.post.objs y.2) w' l v →
                        LRel P (Sof C (backμ fs.roots fid ((mkO fs.post.objs y.2).length - fs.roots) μ μ') (backSto st0.sto ren fs.roots fid (mkO fs.post.objs y.2)) w')
                          (backμ fs.roots fid ((mkO fs.post.objs y.2).length - fs.roots) μ μ') (backSto st0.sto ren fs.roots fid (mkO fs.post.objs y.2)) w' (renL (rho ren fs.roots fid) l) v) →
                      ARel P (Sof C (backμ fs.roots fid ((mkO fs.post.objs y.2).length - fs.roots) μ μ') (backSto st0.sto ren fs.roots fid (mkO fs.post.objs y.2)) w')
                          (backμ fs.roots fid ((mkO fs.post.objs y.2).length - fs.roots) μ μ') (backSto st0.sto ren fs.roots fid (mkO fs.post.objs y.2)) w' v u := by
                    intro st0 ok _ hall hl
                    simp only [Shape.all, Bool.and_eq_true] at hall
                    exact ret_ren hall.2 hl rr hv'
                  by_cases hfl : fs.post.all flatT = true
                  · simp only [hfl, if_true]
                    obtain ⟨r1, r2⟩ := h.back (ok := flatT) (objs := mkO fs.post.objs y.2) (roots := fs.roots) (fid := fid) hn (by rw [hlen]; exact hf) hmut m' rfl hM0 (hrt st.sto (fun id o h1 h2 => iceAll_mut h1 h2))
                      (okOb_mkO (by simp only [Shape.all, Bool.and_eq_true] at hfl; exact hfl.1)) (.inl fun _ h => h)
                    exact ⟨_, r1, fin (st0 := st) r1 hfl r2⟩
                  · simp only [hfl, if_false, Bool.false_eq_true]
                    have hall : fs.post.all (fun _ => true) = true := by
                      simp only [Shape.all, Bool.and_eq_true, List.all_eq_true]
                      refine ⟨fun o _ => ?_, fun s _ => ?_⟩
                      · cases o <;> simp [okOSh]
                        intro s _; cases s <;> rfl
                      · cases s with
                        | one l => cases l <;> rfl
                        | agg ls => simp [okASh]; intro s _; cases s <;> rfl
                    obtain ⟨r1, r2⟩ := h1.back (ok := fun _ => true) (objs := mkO fs.post.objs y.2) (roots := fs.roots) (fid := fid) hn (by rw [hlen]; exact hf.ice) hmut1 m' rfl hM0 (hrt _ (fun id o h1 h2 => h1))
                      (okOb_mkO (by simp only [Shape.all, Bool.and_eq_true] at hall; exact hall.1)) (.inr fun b hb => hb)
                    exact ⟨_, r1, fin (st0 := { st with sto := iceAll st.sto ic }) r1 hall r2⟩
                | panicked chain => exact hp.elim
                | outgrown => exact hp.elim
              · simp [Tree.run] at hr
            obtain ⟨pre, post, roots, pan, f⟩ := fs
            cases pan with
            | false => exact hok r hr hp
            | true =>
              simp only [casT, Tree.run, exM] at hr
              cases r with
              | ok y => exact hok y hr hp
              | error v =>
                simp only [Tree.run, Option.some.injEq] at hr; subst hr
                cases e with
                | returned u => exact hp.elim
                | outgrown => exact hp.elim
                | panicked chain => exact ⟨hp.1, hpan hp.2⟩
          · cases hx
        · cases hx
    · simp [Tree.run] at hr
  · simp [Tree.run] at hr
end
end Go.Eng
end

/- Eng2A -/
section
set_option linter.unusedSimpArgs false
set_option linter.unusedVariables false
namespace Go.Eng
open Tree

def findG : Globs → Nat → Option (List Int)
  | [], _ => none
  | (k, xs) :: r, g => if Nat.beq k g then some xs else findG r g
theorem findG_mem {xs : List Int} {g : Nat} : ∀ {gl : Globs}, findG gl g = some xs → (g, xs) ∈ gl
  | [], h => by cases h
  | (k, ys) :: r, h => by
    simp only [findG] at h
    split at h
    · rename_i hk
      have := Nat.eq_of_beq_eq_true hk
      subst this
      simp only [Option.some.injEq] at h; subst h
      simp
    · exact List.mem_cons_of_mem _ (findG_mem h)
def opd (gl : Globs) (slots : List AV) : Operand → AV
  | .tmp t => slots.getD t (.one .junk)
  | .const v => .one (constLf v)
  | .global g => match findG gl g with | some xs => .one (.pbox (.arr xs.length (.int .i64)) xs 0) | none => .one .junk
  | .func f => .one (.clo f [])
def opd1 (gl : Globs) (slots : List AV) (o : Operand) : Lf := match opd gl slots o with | .one l => l | _ => .junk
def valE (v : AV) : Eff := { val := v }
def noVal (e : Eff) : Eff := { e with val := .one .junk }
def lfE (l : Lf) : Eff := { val := .one l }

def extractL (v : AV) (i : Nat) : Tree Lf := match v with | .tup ls => (match ls[i]? with | some l => leaf l | none => fail) | _ => fail
def nilCheckL (sto : List Ob) (v : AV) : Tree AV :=
  match v with
  | .one (.ptr id off) => match sto[id]? with | some (.var _) | some (.frv _ _) | some (.arr _ _) => leaf (.one (.ptr id off)) | _ => fail
  | .one (.eptr id i off) => match sto[id]? with | some (.arr _ _) | some (.fro _ _) => leaf (.one (.eptr id i off)) | _ => fail
  | .one (.pbox t x off) => leaf (.one (.pbox t x off))
  | .one (.val (.node t) x) => opt (nodeOpen x) fun _ => leaf (.one (.val (.node t) x))
  | .one (.clo f caps) => leaf (.one (.clo f caps))
  | _ => fail
def capsL (sto : List Ob) : List Lf → Option (List Nat)
  | [] => some []
  | .ptr id off :: r => match sto[id]? with
    | some (.var _) => if off = 0 then (match capsL sto r with | some l => some (id :: l) | none => none) else none
    | _ => none
  | _ => none
def makeFuncL (sto : List Ob) (fn : Fn) (first : Nat) (caps : List Lf) : Tree Lf :=
  match fn, first with
  | .func f, 0 => match capsL sto caps with | some l => leaf (.clo f l) | none => fail
  | _, _ => fail
def minL (mx : Bool) : List Lf → Tree Lf
  | [.val (.int k) x, .val (.int k') y] => if k = k' then leaf (.val (.int k) (if mx then (if y > x then y else x) else (if y < x then y else x))) else fail
  | _ => fail
/-- An array in a variable, as a whole. -/
def loadArrL (P : Program) (sto : List Ob) (t : TypeId) : Lf → Tree AV
  | .ptr id 0 => match sto[id]? with
    | some (.arr te xs) => match P.underlying t with
      | some (.array n e) => if n = xs.length ∧ fits P t (.arr n te) = true then leaf (.one (.val (.arr n te) xs)) else fail
      | _ => fail
    | _ => fail
  | _ => fail

def builtinL (P : Program) (sto : List Ob) (fid : Nat) (b : Builtin) (ats : List TypeId) (xs : List Lf) : Tree Eff :=
  match b, ats, xs with
  | .len, [t], [x] => (lenL P sto t x).map lfE
  | .append, [t, t'], [s, x] => appendL P sto fid t t' s x
  | .copy, [t, t'], [x, y] => copyL P sto t x y
  | .min, _, xs => (minL false xs).map lfE
  | .max, _, xs => (minL true xs).map lfE
  | _, _, _ => fail

def act (P : Program) (fid : Nat) (sto : List Ob) (ρ : Operand → AV) (ρ1 : Operand → Lf) : Op → Tree Eff
  | .move x => leaf (valE (ρ x))
  | .assign x => leaf (valE (ρ x))
  | .pick c a b => (pickL (ρ1 c) (ρ a) (ρ b)).map valE
  | .alloc e => allocL P fid e
  | .box _ x => boxL sto fid (ρ x)
  | .build t parts => (buildL P sto t (parts.toList.map fun p => (p.1, ρ p.2))).map valE
  | .buildSlice t len parts => buildSliceL P sto fid t len (parts.toList.map fun p => (p.1, ρ p.2))
  | .load t x => (loadL P sto t (ρ1 x)).map valE
  | .store t x v => (storeL P sto t (ρ1 x) (ρ v)).map noVal
  | .nilCheck x => (nilCheckL sto (ρ x)).map valE
  | .binOp op t x y _ => (binA P sto op t (ρ x) (ρ y)).map lfE
  | .unOp op _ x => (unL op (ρ1 x)).map lfE
  | .convert s d x => convL P sto fid s d (ρ1 x)
  | .makeFunc fn first caps => (makeFuncL sto fn first.size (caps.toList.map ρ1)).map lfE
  | .makeSlice t l c => makeSliceL P fid t (ρ1 l) (ρ1 c)
  | .slice t x lo hi mx => (sliceL P sto t (ρ1 x) (lo.map ρ1) (hi.map ρ1) (mx.map ρ1)).map lfE
  | .fieldAddr s x f => (fieldAddrL P sto s f (ρ1 x)).map lfE
  | .indexAddr t x i => (indexAddrL P sto t (ρ1 x) (ρ1 i)).map lfE
  | .index t x i => (indexL P t (ρ1 x) (ρ1 i)).map lfE
  | .extract x i => (extractL (ρ x) i).map lfE
  | .call c => match c.callee with
    | .builtin b => builtinL P sto fid b c.argTypes.toList (c.args.toList.map ρ1)
    | _ => fail
  | _ => fail

section
variable {P : Program} {C : Cx} {st : St} {a : Act} {w w' : World} {μ : Nat → Option Nat} {S : Nat → Prop} {sto : List Ob}

/-- What an operation has done. -/
def Acted (P : Program) (C : Cx) (st : St) (a : Act) (fid : Nat) (ef : Eff) (n : Next) (w' : World) : Prop :=
  ∃ μ', RelW P C { st with sto := ef.sto fid st.sto } a w' μ' ∧
    ((∃ v, n = .value v ∧ ARel P (Sof C μ' (ef.sto fid st.sto) w') μ' (ef.sto fid st.sto) w' ef.val v) ∨ (n = .skip ∧ ef.val = .one .junk))

theorem opd_rel {gl : Globs} (hG : GlobOk C gl) (h : RelW P C st a w μ) (x : Operand) : ARel P (Sof C μ st.sto w) μ st.sto w (opd gl st.slots x) (a.eval x) := by
  cases x with
  | tmp t =>
    simp only [opd, Act.eval]
    cases hs : st.slots[t]? with
    | none => simp only [List.getD, hs, Option.getD_none]; trivial
    | some v => simp only [List.getD, hs, Option.getD_some]; exact h.slot t v hs
  | const v => exact lrel_const v
  | global g =>
    simp only [opd, Act.eval]
    split
    · rename_i xs hx
      obtain ⟨h1, h2⟩ := h.glob hG (findG_mem hx)
      refine ⟨g, 0, xs.map (Value.int .i64), rfl, h1, h1.1, ?_, fun j v hj => ?_⟩
      · simp only [Rep]
        refine ⟨by trivial, by simp [Ty.size], fun i x hi => ?_⟩
        have hlt := (List.getElem?_eq_some_iff.1 hi).1
        refine ⟨?_, (h2 i x hi).2⟩
        have e1 : Ty.size (.int .i64) = 1 := rfl
        rw [e1, Nat.mul_one, List.drop_eq_getElem_cons (by simpa using hlt), List.take_succ_cons]
        simp only [List.take_zero, List.getElem_map, List.cons.injEq, and_true]
        rw [List.getElem?_eq_getElem hlt] at hi
        rw [Option.some.inj hi]
      · rw [List.getElem?_map] at hj
        cases hx2 : xs[j]? with
        | none => rw [hx2] at hj; cases hj
        | some x =>
          rw [hx2] at hj
          simp only [Option.map_some, Option.some.injEq] at hj; subst hj
          have := (h2 j x hx2).1
          simpa using this
    · trivial
  | func f => exact ⟨#[], rfl, rfl, fun i id hi => by simp at hi⟩
theorem opd1_rel {gl : Globs} (hG : GlobOk C gl) (h : RelW P C st a w μ) (x : Operand) : LRel P (Sof C μ st.sto w) μ st.sto w (opd1 gl st.slots x) (a.eval x) := by
  have := opd_rel hG h x
  unfold opd1
  split
  · rename_i l hl; rw [hl] at this; exact this
  · trivial

theorem Acted.pure (h : RelW P C st a w μ) {fid : Nat} {av : AV} {v : Value} (hv : ARel P (Sof C μ st.sto w) μ st.sto w av v) : Acted P C st a fid (valE av) (.value v) w :=
  ⟨μ, h, .inl ⟨v, rfl, hv⟩⟩

theorem map_some {α β : Type} {t : Tree α} {f : α → β} {y : β} (h : (t.map f).run = some y) : ∃ x, t.run = some x ∧ y = f x := by
  rw [run_map] at h
  cases hx : t.run with
  | none => rw [hx] at h; cases h
  | some x => rw [hx] at h; simp only [Option.map_some, Option.some.injEq] at h; exact ⟨x, rfl, h.symm⟩

theorem extractL_sound {v : AV} {u : Value} {i : Nat} {l : Lf} (hv : ARel P S μ sto w v u) (h : (extractL v i).run = some l) : ∃ r, (Instr.extract u i).run P w = .ok r w ∧ LRel P S μ sto w l r := by
  unfold extractL at h
  split at h
  · rename_i ls
    obtain ⟨cs, rfl, h1, h2⟩ := hv
    split at h
    · rename_i l' hl
      simp only [Tree.run, Option.some.injEq] at h; subst h
      obtain ⟨r, k1, k2⟩ := h2 i _ hl
      exact ⟨r, by simp [Instr.extract, k1], k2⟩
    · simp [Tree.run] at h
  · simp [Tree.run] at h

theorem capsL_sound : ∀ {ls : List Lf} {vs : List Value} {ids : List Nat}, capsL sto ls = some ids → vs.length = ls.length → (∀ (i : Nat) (l : Lf), ls[i]? = some l → ∃ v, vs[i]? = some v ∧ LRel P S μ sto w l v) →
    vs.length = ids.length ∧ ∀ (i id : Nat), ids[i]? = some id → ∃ u, vs[i]? = some u ∧ match sto[id]? with
        | some (.var _) | some (.frv _ _) => ∃ b, μ id = some b ∧ u = .pointer (some ⟨b, 0, none⟩)
        | some .dead => True
        | _ => False
  | [], vs, ids, h, hl, _ => by simp only [capsL, Option.some.injEq] at h; subst h; simp at hl; subst hl; simp
  | l :: ls, [], ids, h, hl, _ => by simp at hl
  | l :: ls, v :: vs, ids, h, hl, hv => by
    cases l <;> simp only [capsL] at h <;> (try cases h)
    rename_i id off
    split at h
    · rename_i lz ho
      split at h
      · rename_i h0
        subst h0
        split at h
        · rename_i ids' hi
          simp only [Option.some.injEq] at h; subst h
          obtain ⟨k1, k2⟩ := capsL_sound hi (by simpa using hl) (fun i l hi => by simpa using hv (i + 1) l (by simpa using hi))
          refine ⟨by simp [k1], fun i id' hi' => ?_⟩
          cases i with
          | zero =>
            simp only [List.getElem?_cons_zero, Option.some.injEq] at hi'; subst hi'
            obtain ⟨u, q1, q2⟩ := hv 0 _ rfl
            simp only [LRel, ho] at q2
            exact ⟨u, q1, by simp only [ho]; exact q2⟩
          | succ i => simpa using k2 i id' (by simpa using hi')
        · cases h
      · cases h
    · cases h

theorem map_rel {xs : List Operand} {ρ1 : Operand → Lf} {ρv : Operand → Value} (h : ∀ x, LRel P S μ sto w (ρ1 x) (ρv x)) (i : Nat) (l : Lf) (hi : (xs.map ρ1)[i]? = some l) :
    ∃ v, (xs.map ρv)[i]? = some v ∧ LRel P S μ sto w l v := by
  rw [List.getElem?_map] at hi ⊢
  cases hx : xs[i]? with
  | none => rw [hx] at hi; cases hi
  | some x => rw [hx] at hi; simp only [Option.map_some, Option.some.injEq] at hi; subst hi; exact ⟨_, rfl, h x⟩

theorem minL_sound {mx : Bool} {xs : List Lf} {vs : Array Value} {l : Lf} {ats : Array TypeId} {ty : TypeId} (hl : vs.size = xs.length)
    (hv : ∀ (i : Nat) (l : Lf), xs[i]? = some l → ∃ v, vs[i]? = some v ∧ LRel P S μ sto w l v) (h : (minL mx xs).run = some l) :
    ∃ r, (if mx then Builtin.max_ ats ty vs else Builtin.min_ ats ty vs).run P w = .ok r w ∧ LRel P S μ sto w l r := by
  unfold minL at h
  split at h
  · rename_i k x k' y
    split at h
    · rename_i hk
      subst hk
      simp only [Tree.run, Option.some.injEq] at h; subst h
      obtain ⟨v, k1, k2⟩ := hv 0 _ rfl
      obtain ⟨u, k3, k4⟩ := hv 1 _ rfl
      obtain ⟨rfl, a1⟩ := lrel_int.1 k2
      obtain ⟨rfl, a2⟩ := lrel_int.1 k4
      have e2 : vs = #[.int k x, .int k y] := by
        rcases vs with ⟨vs⟩
        match vs, hl, k1, k3 with
        | [a, b], _, k1, k3 => simp at k1 k3; rw [k1, k3]
      subst e2
      have a1' : k.min ≤ (x : Int) ∧ (x : Int) ≤ k.max := a1
      have a2' : k.min ≤ (y : Int) ∧ (y : Int) ≤ k.max := a2
      cases mx with
      | true =>
        refine ⟨_, by simp only [if_true]; exact run_max_int2 _ ats ty k k x y, lrel_int.2 ⟨rfl, ?_⟩⟩
        simp only [if_true]
        split <;> assumption
      | false =>
        refine ⟨_, by simp only [Bool.false_eq_true, if_false]; exact run_min_int2 _ ats ty k k x y, lrel_int.2 ⟨rfl, ?_⟩⟩
        simp only [Bool.false_eq_true, if_false]
        split <;> assumption
    · simp [Tree.run] at h
  · simp [Tree.run] at h

theorem builtin_sound {fid : Nat} {b : Builtin} {ats : Array TypeId} {ty : TypeId} {consts : Array Bool} {xs : List Lf} {vs : Array Value} {ef : Eff} (h : RelW P C st a w μ) (hfid : FidOk st.sto fid) (hl : vs.size = xs.length)
    (hv : ∀ (i : Nat) (l : Lf), xs[i]? = some l → ∃ v, vs[i]? = some v ∧ LRel P (Sof C μ st.sto w) μ st.sto w l v) (hr : (builtinL P st.sto fid b ats.toList xs).run = some ef) :
    ∃ n w', (builtin b ats ty consts vs).run P w = .ok n w' ∧ Acted P C st a fid ef n w' := by
  unfold builtinL at hr
  split at hr
  · rename_i t x hats
    obtain ⟨l, h1, rfl⟩ := map_some hr
    obtain ⟨v, k1, k2⟩ := hv 0 _ rfl
    obtain ⟨r, q1, q2⟩ := lenL_sound (ty := ty) k2 h1
    have e1 : ats = #[t] := Array.toList_inj.1 hats
    have e2 : vs = #[v] := by
      rcases vs with ⟨vs⟩
      match vs, hl, k1 with
      | [a], _, k1 => simp at k1; rw [k1]
    subst e1 e2
    exact ⟨.value r, w, by simp [builtin, q1], Acted.pure h q2⟩
  · rename_i t t' s x hats
    obtain ⟨v, k1, k2⟩ := hv 0 _ rfl
    obtain ⟨u, k3, k4⟩ := hv 1 _ rfl
    obtain ⟨r, w', μ', q1, q2, q3⟩ := appendL_sound (ty := ty) h hfid k2 k4 hr
    have e1 : ats = #[t, t'] := Array.toList_inj.1 hats
    have e2 : vs = #[v, u] := by
      rcases vs with ⟨vs⟩
      match vs, hl, k1, k3 with
      | [a, b], _, k1, k3 => simp at k1 k3; rw [k1, k3]
    subst e1 e2
    exact ⟨.value r, w', by simp [builtin, q1], μ', q2, .inl ⟨r, rfl, q3⟩⟩
  · rename_i t t' s x hats
    obtain ⟨v, k1, k2⟩ := hv 0 _ rfl
    obtain ⟨u, k3, k4⟩ := hv 1 _ rfl
    obtain ⟨r, w', q1, q2, q3⟩ := copyL_sound (ty := ty) (t' := t') fid h k2 k4 hr
    have e1 : ats = #[t, t'] := Array.toList_inj.1 hats
    have e2 : vs = #[v, u] := by
      rcases vs with ⟨vs⟩
      match vs, hl, k1, k3 with
      | [a, b], _, k1, k3 => simp at k1 k3; rw [k1, k3]
    subst e1 e2
    exact ⟨.value r, w', by simp [builtin, q1], μ, q2, .inl ⟨r, rfl, q3⟩⟩
  · obtain ⟨l, h1, rfl⟩ := map_some hr
    obtain ⟨r, q1, q2⟩ := minL_sound (mx := false) (ats := ats) (ty := ty) hl hv h1
    simp only [Bool.false_eq_true, if_false] at q1
    exact ⟨.value r, w, by simp [builtin, q1], Acted.pure h q2⟩
  · obtain ⟨l, h1, rfl⟩ := map_some hr
    obtain ⟨r, q1, q2⟩ := minL_sound (mx := true) (ats := ats) (ty := ty) hl hv h1
    simp only [if_true] at q1
    exact ⟨.value r, w, by simp [builtin, q1], Acted.pure h q2⟩
  · simp [Tree.run] at hr

theorem nilCheckL_sound {o : Oper} {x : Operand} {ρ : Operand → Value} {v r : AV} (ho : o.op = .nilCheck x) (hv : ARel P S μ sto w v (ρ x)) (h : (nilCheckL sto v).run = some r) :
    ∃ u, (execOp ρ o).run P w = .ok (.value u) w ∧ ARel P S μ sto w r u := by
  unfold nilCheckL at h
  simp only [execOp, ho]
  split at h
  · rename_i id off
    split at h
    all_goals first
      | (simp [Tree.run] at h; done)
      | (rename_i hob
         simp only [Tree.run, Option.some.injEq] at h; subst h
         have hv' := hv
         simp only [ARel, LRel, hob] at hv
         obtain ⟨b, hb, e⟩ := hv
         first
           | (rw [e] at hv' ⊢; exact ⟨_, rfl, hv'⟩)
           | (obtain ⟨e, _⟩ := e; rw [e] at hv' ⊢; exact ⟨_, rfl, hv'⟩))
  · rename_i id i off
    split at h
    all_goals first
      | (simp [Tree.run] at h; done)
      | (rename_i hob
         simp only [Tree.run, Option.some.injEq] at h; subst h
         have hv' := hv
         simp only [ARel, LRel, hob] at hv
         obtain ⟨_, b, hb, e⟩ := hv
         rw [e] at hv' ⊢; exact ⟨_, rfl, hv'⟩)
  · simp only [Tree.run, Option.some.injEq] at h; subst h
    obtain ⟨b, o, cs, e, k⟩ := hv
    rw [e]; exact ⟨_, rfl, b, o, cs, rfl, k⟩
  · rename_i t x
    simp only [Tree.run] at h
    cases hn : nodeOpen x with
    | none => rw [hn] at h; cases h
    | some y =>
      rw [hn] at h
      simp only [Option.bind_some, Tree.run, Option.some.injEq] at h; subst h
      obtain ⟨b, o, cs, e, _⟩ := rep_open hn ((vrep_one rfl).1 hv)
      simp only [List.cons.injEq, and_true] at e
      have hv' := hv
      rw [e] at hv' ⊢; exact ⟨_, rfl, hv'⟩
  · simp only [Tree.run, Option.some.injEq] at h; subst h
    obtain ⟨cv, e, k1, k2⟩ := hv
    rw [e]; exact ⟨_, rfl, cv, rfl, k1, k2⟩
  · simp [Tree.run] at h

theorem act_sound {gl : Globs} {fid : Nat} {o : Oper} {ef : Eff} (hG : GlobOk C gl) (h : RelW P C st a w μ) (hfid : FidOk st.sto fid) (hr : (act P fid st.sto (opd gl st.slots) (opd1 gl st.slots) o.op).run = some ef) :
    ∃ n w', (execOp a.eval o).run P w = .ok n w' ∧ Acted P C st a fid ef n w' := by
  have O := fun x => opd_rel hG h x
  have O1 := fun x => opd1_rel hG h x
  have parts : ∀ (ps : Array (Nat × Operand)), (ps.map fun (i, x) => (i, a.eval x)).size = (ps.toList.map fun p => (p.1, opd gl st.slots p.2)).length ∧
      ∀ (i : Nat) (p : Nat × AV), (ps.toList.map fun p => (p.1, opd gl st.slots p.2))[i]? = some p → ∃ v, (ps.map fun (i, x) => (i, a.eval x))[i]? = some (p.1, v) ∧ ARel P (Sof C μ st.sto w) μ st.sto w p.2 v := by
    intro ps
    refine ⟨by simp, fun i p hi => ?_⟩
    rw [List.getElem?_map] at hi
    cases hp : ps.toList[i]? with
    | none => rw [hp] at hi; cases hi
    | some q =>
      rw [hp] at hi
      simp only [Option.map_some, Option.some.injEq] at hi; subst hi
      refine ⟨a.eval q.2, ?_, O q.2⟩
      rw [Array.getElem?_map]
      have : ps[i]? = some q := by simpa using hp
      rw [this]; rfl
  have lo : ∀ (x : Option Operand), LRelO P (Sof C μ st.sto w) μ st.sto w (x.map (opd1 gl st.slots)) (x.map a.eval) := by
    intro x; cases x with
    | none => exact (by simp [LRelO])
    | some x => exact (by simpa [LRelO] using O1 x)
  obtain ⟨dst, op, ty, pos, after, guard⟩ := o
  cases op <;> simp only [act] at hr <;> (try (simp [Tree.run] at hr; done))
  case move x => simp only [Tree.run, Option.some.injEq] at hr; subst hr; exact ⟨_, w, rfl, Acted.pure h (O x)⟩
  case assign x => simp only [Tree.run, Option.some.injEq] at hr; subst hr; exact ⟨_, w, rfl, Acted.pure h (O x)⟩
  case pick c x y =>
    obtain ⟨v, h1, rfl⟩ := map_some hr
    unfold pickL at h1
    split at h1
    · rename_i cc b hb
      have hc := O1 c
      rw [hb] at hc
      have hc := lrel_bool.1 hc
      simp only [Tree.run] at h1
      refine ⟨.value (if b = true then a.eval x else a.eval y), w, ?_, ?_⟩
      · simp only [execOp, hc]
        cases b <;> simp [asBool]
      · cases b with
        | true => simp only [if_true] at h1 ⊢; rw [ntA_some h1]; exact Acted.pure h (O x)
        | false => simp only [Bool.false_eq_true, if_false] at h1 ⊢; rw [ntA_some h1]; exact Acted.pure h (O y)
    · simp [Tree.run] at h1
  case alloc e => 
    obtain ⟨r, w', μ', q1, q2, q3⟩ := allocL_sound (old := .tuple #[]) h hfid hr
    exact ⟨.value r, w', by simp [execOp, q1], μ', q2, .inl ⟨r, rfl, q3⟩⟩
  case box e x =>
    obtain ⟨r, w', μ', q1, q2, q3⟩ := boxL_sound (e := e) h hfid (O x) hr
    exact ⟨.value r, w', by simp [execOp, q1], μ', q2, .inl ⟨r, rfl, q3⟩⟩
  case build t ps =>
    obtain ⟨v, h1, rfl⟩ := map_some hr
    obtain ⟨k1, k2⟩ := parts ps
    obtain ⟨r, q1, q2⟩ := buildL_sound k1 k2 h1
    exact ⟨.value r, w, by simp only [execOp, Sem.run_bind, q1, Result.andThen_ok, Sem.run_pure], Acted.pure h q2⟩
  case buildSlice t len ps =>
    obtain ⟨k1, k2⟩ := parts ps
    obtain ⟨r, w', μ', q1, q2, q3⟩ := buildSliceL_sound h hfid k1 k2 hr
    exact ⟨.value r, w', by simp only [execOp, Sem.run_bind, q1, Result.andThen_ok, Sem.run_pure], μ', q2, .inl ⟨r, rfl, q3⟩⟩
  case load t x =>
    obtain ⟨v, h1, rfl⟩ := map_some hr
    obtain ⟨r, q1, q2⟩ := loadL_sound h.obj (O1 x) h1
    exact ⟨.value r, w, by simp only [execOp, Sem.run_bind, q1, Result.andThen_ok, Sem.run_pure], Acted.pure h q2⟩
  case store t x v =>
    obtain ⟨e, h1, rfl⟩ := map_some hr
    obtain ⟨w', q1, q2⟩ := storeL_sound h (O1 x) (O v) h1 fid
    exact ⟨.skip, w', by simp only [execOp, Sem.run_bind, q1, Result.andThen_ok, Sem.run_pure], μ, q2, .inr ⟨rfl, rfl⟩⟩
  case nilCheck x =>
    obtain ⟨v, h1, rfl⟩ := map_some hr
    obtain ⟨r, q1, q2⟩ := nilCheckL_sound (o := { dst, op := .nilCheck x, type := ty, pos, after, guard }) rfl (O x) h1
    exact ⟨.value r, w, q1, Acted.pure h q2⟩
  case binOp op t x y t2 =>
    obtain ⟨l, h1, rfl⟩ := map_some hr
    obtain ⟨r, q1, q2⟩ := binA_sound (ox := x) (oy := y) (O x) (O y) h1
    refine ⟨.value r, w, ?_, Acted.pure h q2⟩
    simp only [execOp]
    rw [Sem.run_bind, q1]; rfl
  case unOp op t x =>
    obtain ⟨l, h1, rfl⟩ := map_some hr
    obtain ⟨r, q1, q2⟩ := unL_sound (O1 x) h1
    exact ⟨.value r, w, by simp only [execOp, Sem.run_bind, q1, Result.andThen_ok, Sem.run_pure], Acted.pure h q2⟩
  case convert s d x =>
    obtain ⟨r, w', μ', q1, q2, q3⟩ := convL_sound h hfid (O1 x) hr
    exact ⟨.value r, w', by simp only [execOp, Sem.run_bind, q1, Result.andThen_ok, Sem.run_pure], μ', q2, .inl ⟨r, rfl, q3⟩⟩
  case makeFunc fn first caps =>
    obtain ⟨l, h1, rfl⟩ := map_some hr
    unfold makeFuncL at h1
    split at h1
    · rename_i f hf0
      split at h1
      · rename_i ids hc
        simp only [Tree.run, Option.some.injEq] at h1; subst h1
        have e0 : first = #[] := Array.eq_empty_of_size_eq_zero hf0
        subst e0
        obtain ⟨k1, k2⟩ := capsL_sound (vs := caps.toList.map a.eval) hc (by simp) (map_rel O1)
        refine ⟨.value (.func (.func f) #[] (caps.map a.eval)), w, by simp [execOp, Instr.makeFunc], Acted.pure h ⟨caps.map a.eval, rfl, by simpa using k1, fun i id hi => ?_⟩⟩
        obtain ⟨u, q1, q2⟩ := k2 i id hi
        exact ⟨u, by simpa using q1, q2⟩
      · simp [Tree.run] at h1
    · simp [Tree.run] at h1
  case makeSlice t l c =>
    obtain ⟨r, w', μ', q1, q2, q3⟩ := makeSliceL_sound h hfid (O1 l) (O1 c) hr
    exact ⟨.value r, w', by simp only [execOp, Sem.run_bind, q1, Result.andThen_ok, Sem.run_pure], μ', q2, .inl ⟨r, rfl, q3⟩⟩
  case slice t x l1 h1 m1 =>
    obtain ⟨l, h2, rfl⟩ := map_some hr
    obtain ⟨r, q1, q2⟩ := sliceL_sound (O1 x) (lo l1) (lo h1) (lo m1) h2
    exact ⟨.value r, w, by simp only [execOp, Sem.run_bind, q1, Result.andThen_ok, Sem.run_pure], Acted.pure h q2⟩
  case fieldAddr s x f =>
    obtain ⟨l, h1, rfl⟩ := map_some hr
    obtain ⟨r, q1, q2⟩ := fieldAddrL_sound (O1 x) h1
    exact ⟨.value r, w, by simp only [execOp, Sem.run_bind, q1, Result.andThen_ok, Sem.run_pure], Acted.pure h q2⟩
  case indexAddr t x i =>
    obtain ⟨l, h1, rfl⟩ := map_some hr
    obtain ⟨r, q1, q2⟩ := indexAddrL_sound (O1 x) (O1 i) h1
    exact ⟨.value r, w, by simp only [execOp, Sem.run_bind, q1, Result.andThen_ok, Sem.run_pure], Acted.pure h q2⟩
  case index t x i =>
    obtain ⟨l, h1, rfl⟩ := map_some hr
    obtain ⟨r, q1, q2⟩ := indexL_sound (O1 x) (O1 i) h1
    exact ⟨.value r, w, by simp only [execOp, Sem.run_bind, q1, Result.andThen_ok, Sem.run_pure], Acted.pure h q2⟩
  case extract x i =>
    obtain ⟨l, h1, rfl⟩ := map_some hr
    obtain ⟨r, q1, q2⟩ := extractL_sound (O x) h1
    exact ⟨.value r, w, by simp only [execOp, Sem.run_bind, q1, Result.andThen_ok, Sem.run_pure], Acted.pure h q2⟩
  case call c =>
    obtain ⟨callee, args, ats⟩ := c
    cases callee <;> simp only at hr <;> (try (simp [Tree.run] at hr; done))
    rename_i b
    obtain ⟨n, w', q1, q2⟩ := builtin_sound (ty := ty) (consts := args.map fun | .const _ => true | _ => false) (vs := args.map a.eval) h hfid (by simp) (fun i l hi => by
      obtain ⟨v, k1, k2⟩ := map_rel O1 i l hi
      exact ⟨v, by simpa using k1, k2⟩) hr
    exact ⟨n, w', by simp only [execOp, resolve, Sem.run_bind, Sem.run_pure, Result.andThen_ok, invoke]; exact q1, q2⟩
end
end Go.Eng
end

/- Eng2B -/
section
set_option linter.unusedSimpArgs false
set_option linter.unusedVariables false
namespace Go.Eng
open Tree

structure Env where
  P : Program
  funs : List (Nat × FSpec)
  gl : Globs := []

def findF : List (Nat × FSpec) → Nat → Option FSpec
  | [], _ => none
  | (k, fs) :: r, g => if Nat.beq k g then some fs else findF r g

def Env.Ok (E : Env) : Prop := ∀ g fs, findF E.funs g = some fs → Spec E.P E.gl g fs
def Env.OkAt (E : Env) (C : Cx) : Prop := E.Ok ∧ GlobOk C E.gl

inductive SR where
  | st (s : St)
  | pan (v : Value)

def doOp (E : Env) (fid : Nat) (st : St) (o : Oper) : Tree Out :=
  match o.op with
  | .call c => match c.callee with
    | .value f => match opd E.gl st.slots f with
      | .one (.clo g caps) => match findF E.funs g with
        | some fs => callT st.sto fs fid (c.args.toList.map (opd E.gl st.slots) ++ caps.map fun id => AV.one (.ptr id 0))
        | none => fail
      | _ => fail
    | _ => (act E.P fid st.sto (opd E.gl st.slots) (opd1 E.gl st.slots) o.op).map fun ef => .ok (ef.sto fid st.sto) ef.val
  | _ => (act E.P fid st.sto (opd E.gl st.slots) (opd1 E.gl st.slots) o.op).map fun ef => .ok (ef.sto fid st.sto) ef.val

def setD (slots : List AV) (dst : Option Nat) (v : AV) : List AV := match dst with | some d => slots.set d v | none => slots
def doneOp (st : St) (dst : Option Nat) : Out → SR
  | .ok sto v => .st { st with slots := setD st.slots dst v, sto := sto }
  | .pan v => .pan v

def memN (k : Nat) : List Nat → Bool
  | [] => false
  | i :: r => Nat.beq i k || memN k r
theorem memN_iff {k : Nat} : ∀ {l : List Nat}, memN k l = true ↔ k ∈ l
  | [] => by simp [memN]
  | i :: r => by
    simp only [memN, Bool.or_eq_true, List.mem_cons, memN_iff (l := r)]
    constructor
    · rintro (h | h)
      · exact .inl (Nat.eq_of_beq_eq_true h).symm
      · exact .inr h
    · rintro (h | h)
      · subst h; exact .inl (Nat.beq_refl k)
      · exact .inr h
def stepO (E : Env) (ops : Array Oper) (fid : Nat) (st : St) (o : Oper) : Tree SR :=
  match o.guard with
  | none => (doOp E fid st o).map (doneOp st o.dst)
  | some (j, want) => match (ops[j]?).bind (·.dst) with
    | some d => match st.slots[d]? with
      | some (.one (.val .bool b)) =>
        if memN d st.known then
          (match b == want with
            | true => (doOp E fid st o).map (doneOp st o.dst)
            | false => leaf (.st { st with slots := setD st.slots o.dst (.tup []) }))
        else .ite (b == want) ((doOp E fid { st with slots := st.slots.set d (.one (.val .bool want)), known := d :: st.known } o).map (doneOp { st with slots := st.slots.set d (.one (.val .bool want)), known := d :: st.known } o.dst))
          (leaf (.st { st with slots := setD (st.slots.set d (.one (.val .bool (!want)))) o.dst (.tup []), known := d :: st.known }))
      | some (.tup []) => leaf (.st { st with slots := setD st.slots o.dst (.tup []) })
      | _ => fail
    | none => fail

def regL (E : Env) (ops : Array Oper) : List Oper → St → Tree SR
  | [], st => leaf (.st st)
  | o :: r, st => (stepO E ops st.sto.length st o).bind fun
    | .st s => regL E ops r s
    | .pan v => leaf (.pan v)

section
variable {E : Env} {C : Cx} {st : St} {a : Act} {w w' : World} {μ : Nat → Option Nat} {ops : Array Oper}

/-- What is asked of those who go on behind an operation. -/
def Goes (P : Program) (C : Cx) (sr : SR) (next : Act → World → Prop) (Q : Exit → Act → World → Prop) : Prop :=
  match sr with
  | .st s => ∀ a' w' μ', RelW P C s a' w' μ' → next a' w'
  | .pan v => ∀ a' w', a'.defers = [] → Mem P C [] w' (fun _ => none) → Q (.panic [{ v := v, recovered := false }]) a' w'

theorem setD_put (st : St) (dst : Option Nat) (v : AV) (u : Value) {P : Program} (h : RelW P C st a w μ) (hv : ARel P (Sof C μ st.sto w) μ st.sto w v u) :
    RelW P C { st with slots := setD st.slots dst v } (a.put dst u) w μ := by
  cases dst with
  | none => exact h
  | some d => exact h.put hv

theorem acted_next {P : Program} {fid : Nat} {o : Oper} {ef : Eff} {n : Next} {next : Act → World → Prop} {Q : Exit → Act → World → Prop} (hr : (execOp a.eval o).run P w = .ok n w') (hA : Acted P C st a fid ef n w')
    (hg : Goes P C (doneOp st o.dst (.ok (ef.sto fid st.sto) ef.val)) next Q) : o.wp P a w next Q := by
  obtain ⟨μ', r, h⟩ := hA
  unfold Oper.wp
  rw [hr]
  rcases h with ⟨v, rfl, hv⟩ | ⟨rfl, hv⟩
  · exact hg _ _ μ' (setD_put { st with sto := ef.sto fid st.sto } o.dst ef.val v r hv)
  · exact hg _ _ μ' (setD_put { st with sto := ef.sto fid st.sto } o.dst ef.val undef r (by rw [hv]; trivial))

theorem does_next {P : Program} {o : Oper} {f : FuncId} {args : Array Value} {out : Out} {next : Act → World → Prop} {Q : Exit → Act → World → Prop} (hd : a.defers = []) (he : execOp a.eval o = callFunc f args)
    (h : Does P f args w (Behind P C st a out)) (hg : Goes P C (doneOp st o.dst out) next Q) : o.wp P a w next Q := by
  unfold Oper.wp
  rw [he]
  rcases h with ⟨v, w', h1, h2⟩ | ⟨h1, h2⟩
  · rw [h1]
    cases out with
    | ok sto av =>
      obtain ⟨μ', r, hv⟩ := h2
      exact hg _ _ μ' (setD_put { st with sto := sto } o.dst av v r hv)
    | pan pv => exact h2.elim
  · rw [h1]
    refine h2.mono (fun e w'' hb => ?_)
    cases out with
    | ok sto av =>
      cases e with
      | returned v =>
        obtain ⟨μ', r, hv⟩ := hb
        exact hg _ _ μ' (setD_put { st with sto := sto } o.dst av v r hv)
      | panicked chain => exact hb.elim
      | outgrown => exact hb.elim
    | pan pv =>
      cases e with
      | returned v => exact hb.elim
      | panicked chain =>
        obtain ⟨rfl, m⟩ := hb
        exact hg a w'' hd m
      | outgrown => exact hb.elim

theorem doOp_sound {fid : Nat} {o : Oper} {out : Out} {next : Act → World → Prop} {Q : Exit → Act → World → Prop} (hE : E.OkAt C) (h : RelW E.P C st a w μ) (hfid : FidOk st.sto fid) (hfids : ∀ n, FidsOk st.sto fid n)
    (hr : (doOp E fid st o).run = some out) (hg : Goes E.P C (doneOp st o.dst out) next Q) : o.wp E.P a w next Q := by
  have plain : ((act E.P fid st.sto (opd E.gl st.slots) (opd1 E.gl st.slots) o.op).map fun ef => Out.ok (ef.sto fid st.sto) ef.val).run = some out → o.wp E.P a w next Q := by
    intro hr
    obtain ⟨ef, h1, rfl⟩ := map_some hr
    obtain ⟨n, w', q1, q2⟩ := act_sound hE.2 h hfid h1
    exact acted_next q1 q2 hg
  unfold doOp at hr
  split at hr
  · rename_i c hop
    split at hr
    · rename_i f hc
      split at hr
      · rename_i g caps hf
        split at hr
        · rename_i fs hfs
          have hv := opd_rel hE.2 h f
          rw [hf] at hv
          obtain ⟨cv, hcv, k1, k2⟩ := hv
          obtain ⟨dst, op, ty, pos, after, guard⟩ := o
          obtain ⟨callee, args, ats⟩ := c
          simp only at hop hc
          subst hop hc
          have he : execOp a.eval { dst := dst, op := .call { callee := .value f, args := args, argTypes := ats }, type := ty, pos := pos, after := after, guard := guard } = callFunc g (args.map a.eval ++ cv) := by
            simp only [execOp, resolve]
            rw [hcv]
            simp [Deferred.ofValue, invoke]
          refine does_next h.defers he (call_sound (hE.1 g fs hfs) hE.2 h (hfids _) ?_ ?_ hr) hg
          · simp [k1]
          · intro i av hi
            rw [List.getElem?_append] at hi
            split at hi
            · rename_i hlt
              rw [List.getElem?_map] at hi
              cases hx : args.toList[i]? with
              | none => rw [hx] at hi; cases hi
              | some x =>
                rw [hx] at hi
                simp only [Option.map_some, Option.some.injEq] at hi; subst hi
                have hx' : args[i]? = some x := by simpa using hx
                have : (args.map a.eval ++ cv).getD i undef = a.eval x := by
                  rw [Array.getD_eq_getD_getElem?, Array.getElem?_append_left (by simpa using hlt)]
                  simp [hx']
                rw [this]; exact opd_rel hE.2 h x
            · rename_i hge
              rw [List.getElem?_map] at hi
              simp only [List.length_map, Array.length_toList] at hi hge
              cases hx : caps[i - args.size]? with
              | none => rw [hx] at hi; cases hi
              | some id =>
                rw [hx] at hi
                simp only [Option.map_some, Option.some.injEq] at hi; subst hi
                obtain ⟨u, q1, q2⟩ := k2 _ _ hx
                have : (args.map a.eval ++ cv).getD i undef = u := by
                  rw [Array.getD_eq_getD_getElem?, Array.getElem?_append_right (by simpa using hge)]
                  simp [q1]
                rw [this]
                show LRel E.P (Sof C μ st.sto w) μ st.sto w (.ptr id 0) u
                simp only [LRel]
                split at q2
                · rename_i ho; simp only [ho]; exact q2
                · rename_i ho; simp only [ho]; exact q2
                · rename_i ho; simp only [ho]
                · exact q2.elim
        · simp [Tree.run] at hr
      · simp [Tree.run] at hr
    · exact plain hr
  · exact plain hr

theorem stepO_sound {fid : Nat} {o : Oper} {sr : SR} {next : Act → World → Prop} {Q : Exit → Act → World → Prop} (hE : E.OkAt C) (h : RelW E.P C st a w μ) (hfid : FidOk st.sto fid) (hfids : ∀ n, FidsOk st.sto fid n)
    (hr : (stepO E ops fid st o).run = some sr) (hg : Goes E.P C sr next Q) :
    if Region.wanted o (yielded ops a.tmps) then o.wp E.P a w next Q ∨ (o.asks E.P a w ∧ LetsOut Q) else next (a.put o.dst undef) w := by
  have doIt : ∀ {sr}, ((doOp E fid st o).map (doneOp st o.dst)).run = some sr → Goes E.P C sr next Q → o.wp E.P a w next Q := by
    intro sr hr hg
    obtain ⟨out, h1, rfl⟩ := map_some hr
    exact doOp_sound hE h hfid hfids h1 hg
  have skip : ∀ {sr}, (leaf (SR.st { st with slots := setD st.slots o.dst (.tup []) })).run = some sr → Goes E.P C sr next Q → next (a.put o.dst undef) w := by
    intro sr hr hg
    simp only [Tree.run, Option.some.injEq] at hr; subst hr
    exact hg _ _ μ (setD_put st o.dst (.tup []) undef h ⟨#[], rfl, rfl, fun i l hi => by simp at hi⟩)
  unfold stepO at hr
  unfold Region.wanted
  split at hr
  · rename_i hgd
    simp only [hgd, if_true]
    exact .inl (doIt hr hg)
  · rename_i j want hgd
    simp only [hgd]
    split at hr
    · rename_i d hd
      split at hr
      · rename_i b hs
        have hv : a.tmps.getD d undef = .bool b := lrel_bool.1 (show LRel E.P (Sof C μ st.sto w) μ st.sto w (.val .bool b) (a.tmps.getD d undef) from h.slot d _ hs)
        have hlt : d < a.tmps.size := by rw [h.slots]; exact lt_of_getElem? hs
        have hy : yielded ops a.tmps j = some b := by
          unfold yielded
          rw [hd]
          simp only [Option.bind_some]
          have : a.tmps[d]? = some (.bool b) := by
            rw [Array.getElem?_eq_getElem hlt]
            simpa [Array.getD, hlt] using hv
          rw [this]
        rw [hy]
        by_cases hb : b = want
        · subst hb
          simp only [beq_self_eq_true, if_true] at hr ⊢
          split at hr
          · exact .inl (doIt hr hg)
          · simp only [Tree.run, if_true] at hr
            rw [set_self hs] at hr
            obtain ⟨out, h1, rfl⟩ := map_some hr
            exact .inl (doOp_sound (st := { st with known := d :: st.known }) hE (h.known _) hfid hfids h1 hg)
        · have h1 : (b == want) = false := by simpa using hb
          have h2 : (some b == some want) = false := by simpa using hb
          have h3 : (!want) = b := by cases b <;> cases want <;> simp at hb ⊢
          simp only [h1, h2, Bool.false_eq_true, if_false] at hr ⊢
          split at hr
          · exact skip hr hg
          · simp only [Tree.run, Bool.false_eq_true, if_false] at hr
            rw [h3, set_self hs] at hr
            simp only [Option.some.injEq] at hr; subst hr
            exact hg _ _ μ ((setD_put st o.dst (.tup []) undef h ⟨#[], rfl, rfl, fun i l hi => by simp at hi⟩).known _)
      · rename_i hs
        obtain ⟨cs, hv, hz, _⟩ := h.slot d _ hs
        have hlt : d < a.tmps.size := by rw [h.slots]; exact lt_of_getElem? hs
        have hy : yielded ops a.tmps j = none := by
          unfold yielded
          rw [hd]
          simp only [Option.bind_some]
          have : a.tmps[d]? = some (.tuple cs) := by
            rw [Array.getElem?_eq_getElem hlt]
            simpa [Array.getD, hlt] using hv
          rw [this]
        rw [hy]
        have h2 : ((none : Option Bool) == some want) = false := rfl
        simp only [h2, Bool.false_eq_true, if_false]
        exact skip hr hg
      · simp [Tree.run] at hr
    · simp [Tree.run] at hr

theorem run_bind_some {α β : Type} {t : Tree α} {f : α → Tree β} {y : β} (h : (t.bind f).run = some y) : ∃ x, t.run = some x ∧ (f x).run = some y := by
  rw [run_bind] at h
  cases hx : t.run with
  | none => rw [hx] at h; cases h
  | some x => rw [hx] at h; exact ⟨x, rfl, h⟩

theorem regL_sound {Q : Exit → Act → World → Prop} (hE : E.OkAt C) : ∀ {l : List Oper} {k : Nat} {st : St} {a : Act} {w : World} {μ : Nat → Option Nat} {sr : SR}, RelW E.P C st a w μ → (∀ i, l[i]? = ops[k + i]?) →
    (regL E ops l st).run = some sr → Goes E.P C sr (Q .normal) Q → wpOps E.P ops Q ((List.range' k l.length)) a w
  | [], k, st, a, w, μ, sr, h, hl, hr, hg => by
    simp only [regL, Tree.run, Option.some.injEq] at hr; subst hr
    exact hg a w μ h
  | o :: r, k, st, a, w, μ, sr, h, hl, hr, hg => by
    obtain ⟨s1, h1, h2⟩ := run_bind_some hr
    have ho : ops[k]? = some o := by have := hl 0; simpa using this.symm
    rw [List.length_cons, List.range'_succ, wpOps]
    simp only [ho]
    have key := stepO_sound (next := wpOps E.P ops Q (List.range' (k + 1) r.length)) (Q := Q) hE h (.inl rfl) (fun n => .inl rfl) h1 (by
      cases s1 with
      | st s => exact fun a' w' μ' h' => regL_sound hE h' (fun i => by have := hl (i + 1); simp only [List.getElem?_cons_succ] at this; rw [this]; congr 1; omega) h2 hg
      | pan v =>
        simp only [Tree.run, Option.some.injEq] at h2; subst h2
        exact hg)
    exact key
end
end Go.Eng
end

/- Eng2E -/
section
set_option linter.unusedSimpArgs false
set_option linter.unusedVariables false
namespace Go.Eng
open Tree

def subN (xs ys : List Nat) : Bool := xs.all fun x => memN x ys
theorem subN_iff {xs ys : List Nat} : subN xs ys = true ↔ ∀ x ∈ xs, x ∈ ys := by
  simp [subN, List.all_eq_true, memN_iff]
/-- No number in both. -/
def apartN (xs ys : List Nat) : Bool := xs.all fun x => !memN x ys
theorem apartN_iff {xs ys : List Nat} : apartN xs ys = true ↔ ∀ x ∈ xs, x ∉ ys := by
  constructor
  · intro h x hx hy
    have := List.all_eq_true.1 h x hx
    rw [memN_iff.2 hy] at this; cases this
  · intro h
    refine List.all_eq_true.2 fun x hx => ?_
    cases hm : memN x ys with
    | false => rfl
    | true => exact absurd (memN_iff.1 hm) (h x hx)

/-! ### A part of the state: the objects R, the own places from fid on, the slots L -/
def inF (fid K k : Nat) : Bool := Nat.ble fid k && Nat.blt k (fid + K)
theorem inF_iff {fid K k : Nat} : inF fid K k = true ↔ fid ≤ k ∧ k < fid + K := by
  simp [inF, Nat.blt]; omega
def maskS (R : List Nat) (fid K : Nat) : Nat → List Ob → List Ob
  | _, [] => []
  | k, o :: r => (bif inF fid K k then .free else bif memN k R then o else .dead) :: maskS R fid K (k + 1) r
def maskL (L : List Nat) : Nat → List AV → List AV
  | _, [] => []
  | k, v :: r => (bif memN k L then v else .one .junk) :: maskL L (k + 1) r
def maskSt (L R : List Nat) (fid K : Nat) (st : St) : St := { slots := maskL L 0 st.slots, sto := maskS R fid K 0 st.sto, rts := R }
/-- What the operation has done is laid into the whole state. -/
def mergeS (W : List Nat) (fid K : Nat) : Nat → List Ob → List Ob → List Ob
  | k, o :: r, m :: s => (bif inF fid K k || memN k W then m else o) :: mergeS W fid K (k + 1) r s
  | _, r, _ => r

theorem maskS_get {R : List Nat} {fid K : Nat} : ∀ {sto : List Ob} {k i : Nat}, (maskS R fid K k sto)[i]? = (sto[i]?).map fun o => if inF fid K (k + i) = true then .free else if k + i ∈ R then o else .dead
  | [], k, i => by simp [maskS]
  | o :: r, k, 0 => by
    simp only [maskS, List.getElem?_cons_zero, Option.map_some, Nat.add_zero, Option.some.injEq]
    cases inF fid K k <;> simp only [cond_true, cond_false, if_true, Bool.false_eq_true, if_false]
    by_cases h : k ∈ R
    · rw [memN_iff.2 h, if_pos h]; rfl
    · have : memN k R = false := by cases hm : memN k R with | false => rfl | true => exact absurd (memN_iff.1 hm) h
      rw [this, if_neg h]; rfl
  | o :: r, k, i + 1 => by
    simp only [maskS, List.getElem?_cons_succ]
    rw [maskS_get (sto := r)]
    have : k + 1 + i = k + (i + 1) := by omega
    rw [this]
theorem maskS_length {R : List Nat} {fid K : Nat} : ∀ {sto : List Ob} {k : Nat}, (maskS R fid K k sto).length = sto.length
  | [], _ => rfl
  | o :: r, k => by simp [maskS, maskS_length (sto := r)]
theorem maskL_get {L : List Nat} : ∀ {s : List AV} {k i : Nat}, (maskL L k s)[i]? = (s[i]?).map fun v => if k + i ∈ L then v else .one .junk
  | [], k, i => by simp [maskL]
  | o :: r, k, 0 => by
    simp only [maskL, List.getElem?_cons_zero, Option.map_some, Nat.add_zero, Option.some.injEq]
    by_cases h : k ∈ L
    · rw [memN_iff.2 h, if_pos h]; rfl
    · have : memN k L = false := by cases hm : memN k L with | false => rfl | true => exact absurd (memN_iff.1 hm) h
      rw [this, if_neg h]; rfl
  | o :: r, k, i + 1 => by
    simp only [maskL, List.getElem?_cons_succ]
    rw [maskL_get (s := r)]
    have : k + 1 + i = k + (i + 1) := by omega
    rw [this]
theorem maskL_length {L : List Nat} : ∀ {s : List AV} {k : Nat}, (maskL L k s).length = s.length
  | [], _ => rfl
  | o :: r, k => by simp [maskL, maskL_length (s := r)]
theorem mergeS_length {W : List Nat} {fid K : Nat} : ∀ {a b : List Ob} {k : Nat}, (mergeS W fid K k a b).length = a.length
  | [], _, _ => by simp [mergeS]
  | o :: r, [], k => by simp [mergeS]
  | o :: r, m :: s, k => by simp [mergeS, mergeS_length (a := r)]
theorem mergeS_get {W : List Nat} {fid K : Nat} : ∀ {a b : List Ob} {k i : Nat}, a.length = b.length → (mergeS W fid K k a b)[i]? = if inF fid K (k + i) = true ∨ k + i ∈ W then b[i]? else a[i]?
  | [], [], k, i, _ => by simp [mergeS]
  | [], _ :: _, _, _, h => by simp at h
  | _ :: _, [], _, _, h => by simp at h
  | o :: r, m :: s, k, 0, h => by
    simp only [mergeS, List.getElem?_cons_zero, Nat.add_zero]
    by_cases h1 : inF fid K k = true ∨ k ∈ W
    · rw [if_pos h1]
      have : (inF fid K k || memN k W) = true := by
        rcases h1 with h1 | h1
        · simp [h1]
        · simp [memN_iff.2 h1]
      rw [this]; rfl
    · rw [if_neg h1]
      have : (inF fid K k || memN k W) = false := by
        cases hq : (inF fid K k || memN k W) with
        | false => rfl
        | true =>
          rw [Bool.or_eq_true] at hq
          exact absurd (hq.imp id memN_iff.1) h1
      rw [this]; rfl
  | o :: r, m :: s, k, i + 1, h => by
    simp only [mergeS, List.getElem?_cons_succ]
    rw [mergeS_get (a := r) (b := s) (by simpa using h)]
    have : k + 1 + i = k + (i + 1) := by omega
    rw [this]

/-- The objects that a leaf, a slot's content, an object speak of. -/
def refsL : Lf → List Nat
  | .vec id | .sub id _ _ | .ptr id _ | .eptr id _ _ | .mapr id => [id]
  | .clo _ caps => caps
  | _ => []
def refsLs : List Lf → List Nat
  | [] => []
  | l :: r => refsL l ++ refsLs r
def refsA : AV → List Nat
  | .one l => refsL l
  | .agg ls | .tup ls => refsLs ls
def refsO : Ob → List Nat
  | .var ls => refsLs ls
  | _ => []
theorem refsLs_mem {l : Lf} : ∀ {ls : List Lf}, l ∈ ls → ∀ x ∈ refsL l, x ∈ refsLs ls
  | [], h, _, _ => by cases h
  | a :: r, h, x, hx => by
    rcases List.mem_cons.1 h with rfl | h
    · exact List.mem_append_left _ hx
    · exact List.mem_append_right _ (refsLs_mem h x hx)

section
variable {P : Program} {C C' : Cx} {st : St} {a : Act} {w w' : World} {μ μ' : Nat → Option Nat} {S S' : Nat → Prop} {L R W : List Nat} {fid K : Nat}

/-- The world as an operation meets it that may write to the objects R alone. -/
def maskCx (C : Cx) (μ : Nat → Option Nat) (st : St) (w : World) (R : List Nat)
    (h : ∀ b, (∃ id o, id ∈ R ∧ st.sto[id]? = some o ∧ o.mut = true ∧ μ id = some b) → b < w.heap.size ∧ ¬ Sof C μ st.sto w b) : Cx :=
  { w0 := w, S0 := Sof C μ st.sto w, M0 := fun b => ∃ id o, id ∈ R ∧ st.sto[id]? = some o ∧ o.mut = true ∧ μ id = some b, hS := fun _ h => h.1, hM := h, pin := R.map μ }

theorem RelW.maskM (h : RelW P C st a w μ) (R : List Nat) (b : Nat) (hb : ∃ id o, id ∈ R ∧ st.sto[id]? = some o ∧ o.mut = true ∧ μ id = some b) : b < w.heap.size ∧ ¬ Sof C μ st.sto w b := by
  obtain ⟨id, o, h1, h2, h3, h4⟩ := hb
  exact ⟨(h.blk id o b h2 h3 h4).1, fun hs => hs.2.2 id o h2 h3 h4⟩

theorem mask_ob {sto : List Ob} {id : Nat} {o : Ob} (h : (maskS R fid K 0 sto)[id]? = some o) : (inF fid K id = true ∧ o = .free) ∨ (inF fid K id = false ∧ id ∈ R ∧ sto[id]? = some o) ∨ (inF fid K id = false ∧ id ∉ R ∧ o = .dead) := by
  rw [maskS_get, Nat.zero_add] at h
  cases hs : sto[id]? with
  | none => rw [hs] at h; cases h
  | some o' =>
    rw [hs] at h
    simp only [Option.map_some, Option.some.injEq] at h
    by_cases hf : inF fid K id = true
    · rw [if_pos hf] at h; exact .inl ⟨hf, h.symm⟩
    · rw [if_neg hf] at h
      have hf : inF fid K id = false := by simpa using hf
      by_cases hr : id ∈ R
      · rw [if_pos hr] at h; subst h; exact .inr (.inl ⟨hf, hr, rfl⟩)
      · rw [if_neg hr] at h; exact .inr (.inr ⟨hf, hr, h.symm⟩)

theorem RelW.mask (h : RelW P C st a w μ) (L : List Nat) (hR : ∀ id ∈ R, inF fid K id = false ∧ ∃ o, st.sto[id]? = some o ∧ o ≠ .free) (hF : ∀ id, inF fid K id = true → st.sto[id]? = some .free) :
    RelW P (maskCx C μ st w R (h.maskM R)) (maskSt L R fid K st) a w μ := by
  have hmutd : ∀ {id o}, (maskS R fid K 0 st.sto)[id]? = some o → o.mut = true → id ∈ R ∧ st.sto[id]? = some o := by
    intro id o ho hm
    rcases mask_ob ho with ⟨_, rfl⟩ | ⟨_, h1, h2⟩ | ⟨_, _, rfl⟩
    · cases hm
    · exact ⟨h1, h2⟩
    · cases hm
  have hk : Keeps (Sof C μ st.sto w) (Sof (maskCx C μ st w R (h.maskM R)) μ (maskS R fid K 0 st.sto) w) μ μ st.sto (maskS R fid K 0 st.sto) w w := by
    refine ⟨fun b hb hlt => ⟨⟨hlt, .inl hb, fun id o ho hm => ?_⟩, rfl⟩, fun id o ho => ?_⟩
    · exact hb.2.2 id o (hmutd ho hm).2 hm
    · have e : (maskS R fid K 0 st.sto)[id]? = some (if inF fid K id = true then .free else if id ∈ R then o else .dead) := by rw [maskS_get, Nat.zero_add, ho, Option.map_some]
      by_cases hf : inF fid K id = true
      · rw [if_pos hf] at e
        have := hF id hf
        rw [ho] at this; cases this
        exact ⟨_, e, by simp [Like], .inl rfl⟩
      · rw [if_neg hf] at e
        by_cases hr : id ∈ R
        · rw [if_pos hr] at e
          exact ⟨_, e, Like.refl o, .inr (.inr ⟨rfl, fun _ _ _ hc => hc⟩)⟩
        · rw [if_neg hr] at e
          exact ⟨_, e, by cases o <;> simp [Like], .inr (.inl rfl)⟩
  refine { size := Nat.le_refl _, os := rfl, tape := rfl, output := rfl, frame := fun _ _ _ => rfl, blk := ?_, inj := ?_, obj := ?_, slots := ?_, slot := ?_, defers := h.defers, root := ?_, caps := fun _ _ hc => hc }
  · intro id o b ho hm hb
    obtain ⟨h1, h2⟩ := hmutd ho hm
    exact ⟨(h.blk id o b h2 hm hb).1, .inr ⟨id, o, h1, h2, hm, hb⟩⟩
  · intro id id' o o' b ho ho' hm hm' hb hb'
    exact h.inj id id' o o' b (hmutd ho hm).2 (hmutd ho' hm').2 hm hm' hb hb'
  · intro id o ho
    rcases mask_ob ho with ⟨_, rfl⟩ | ⟨_, h1, h2⟩ | ⟨_, _, rfl⟩
    · trivial
    · exact (h.obj id o h2).keeps hk (fun _ => rfl) (fun _ => rfl) (fun _ _ _ => rfl) (fun _ _ _ _ hx => lt_of_some hx)
    · trivial
  · rw [h.slots]; exact maskL_length.symm
  · intro i v hi
    have hi : (maskL L 0 st.slots)[i]? = some v := hi
    rw [maskL_get] at hi
    cases hs : st.slots[i]? with
    | none => rw [hs] at hi; cases hi
    | some v0 =>
      rw [hs] at hi
      simp only [Option.map_some, Option.some.injEq] at hi
      split at hi
      · subst hi; exact (h.slot i v0 hs).keeps hk
      · subst hi; trivial
  · intro k id hk'
    have hk' : R[k]? = some id := hk'
    obtain ⟨h1, o, h2, h3⟩ := hR id (List.mem_of_getElem? hk')
    refine ⟨o, ?_, h3, .inr ?_⟩
    · show (maskS R fid K 0 st.sto)[id]? = some o
      rw [maskS_get, Nat.zero_add, h2, Option.map_some, h1]
      simp [List.mem_of_getElem? hk']
    · show (R.map μ)[k]? = some (μ id)
      rw [List.getElem?_map, hk', Option.map_some]

/-- Leaves of the part are leaves of the whole. -/
theorem lrel_lift {sm new : List Ob} {V : Nat → Prop} (he : Ext S S' w w) (hV : ∀ id, V id → new[id]? = sm[id]? ∧ μ' id = μ id) {l : Lf} {v : Value} (hl : ∀ id ∈ refsL l, V id) (h : LRel P S μ sm w l v) : LRel P S' μ' new w l v := by
  cases l with
  | junk => trivial
  | val t x => exact VRep.ext he h
  | nilp => exact h
  | nils t => exact h
  | vec id => obtain ⟨e1, e2⟩ := hV id (hl id (by simp [refsL])); simp only [LRel, e1, e2] at h ⊢; exact h
  | sub id off len => obtain ⟨e1, e2⟩ := hV id (hl id (by simp [refsL])); simp only [LRel, e1, e2] at h ⊢; exact h
  | ptr id off => obtain ⟨e1, e2⟩ := hV id (hl id (by simp [refsL])); simp only [LRel, e1, e2] at h ⊢; exact h
  | eptr id i off => obtain ⟨e1, e2⟩ := hV id (hl id (by simp [refsL])); simp only [LRel, e1, e2] at h ⊢; exact h
  | pbox t x off =>
    obtain ⟨b, o, cs, h1, h2, h3, h4, h5⟩ := h
    obtain ⟨k1, k2⟩ := he b h2 h3
    exact ⟨b, o, cs, h1, k1, h3, h4.ext he, h5⟩
  | clo f caps =>
    obtain ⟨cv, rfl, h2, h3⟩ := h
    refine ⟨cv, rfl, h2, fun i id hi => ?_⟩
    obtain ⟨u, k1, k2⟩ := h3 i id hi
    obtain ⟨e1, e2⟩ := hV id (hl id (List.mem_of_getElem? hi))
    exact ⟨u, k1, by simp only [e1, e2]; exact k2⟩
  | mapr id => obtain ⟨e1, e2⟩ := hV id (hl id (by simp [refsL])); simp only [LRel, e1, e2] at h ⊢; exact h
theorem arel_lift {sm new : List Ob} {V : Nat → Prop} (he : Ext S S' w w) (hV : ∀ id, V id → new[id]? = sm[id]? ∧ μ' id = μ id) {l : AV} {v : Value} (hl : ∀ id ∈ refsA l, V id) (h : ARel P S μ sm w l v) : ARel P S' μ' new w l v := by
  cases l with
  | one l => exact lrel_lift he hV hl h
  | agg ls =>
    obtain ⟨cs, h1, h2, h3⟩ := h
    exact ⟨cs, h1, h2, fun i l hi => let ⟨u, k1, k2, k3⟩ := h3 i l hi; ⟨u, k1, k2, lrel_lift he hV (fun id hid => hl id (refsLs_mem (List.mem_of_getElem? hi) id hid)) k3⟩⟩
  | tup ls =>
    obtain ⟨cs, h1, h2, h3⟩ := h
    exact ⟨cs, h1, h2, fun i l hi => let ⟨u, k1, k2⟩ := h3 i l hi; ⟨u, k1, lrel_lift he hV (fun id hid => hl id (refsLs_mem (List.mem_of_getElem? hi) id hid)) k2⟩⟩
theorem orel_lift {sm new : List Ob} {V : Nat → Prop} (he : Ext S S' w w) (hV : ∀ id, V id → new[id]? = sm[id]? ∧ μ' id = μ id) {id : Nat} {o : Ob} (hid : V id) (hl : ∀ id ∈ refsO o, V id) (h : ORel P S μ sm w id o) : ORel P S' μ' new w id o := by
  have hμ := (hV id hid).2
  cases o with
  | free => trivial
  | dead => trivial
  | var ls =>
    obtain ⟨b, cs, e, fz, h1, h2, h3, h4, h5⟩ := h
    exact ⟨b, cs, e, fz, hμ.trans h1, h2, h3, h4, fun i l hi => let ⟨u, k1, k2, k3⟩ := h5 i l hi; ⟨u, k1, k2, lrel_lift he hV (fun id hid => hl id (refsLs_mem (List.mem_of_getElem? hi) id hid)) k3⟩⟩
  | arr t xs =>
    rcases h with ⟨h1, h2⟩ | ⟨b, cs, e, fz, h1, h2, h3, h4⟩
    · exact .inl ⟨hμ.trans h1, h2⟩
    · exact .inr ⟨b, cs, e, fz, hμ.trans h1, h2, h3, h4.ext he⟩
  | fro t xs =>
    rcases h with ⟨h1, h2⟩ | ⟨b, cs, e, fz, h1, hS, h2, h4⟩
    · exact .inl ⟨hμ.trans h1, h2⟩
    · exact .inr ⟨b, cs, e, fz, hμ.trans h1, (he b hS (lt_of_some h2)).1, h2, h4.ext he⟩
  | frv t x =>
    obtain ⟨b, cs, e, fz, es, h1, hS, h2, h3, h4⟩ := h
    exact ⟨b, cs, e, fz, es, hμ.trans h1, (he b hS (lt_of_some h2)).1, h2, h3.ext he, h4⟩
  | mp k v es =>
    obtain ⟨b, cs, c, h1, h2, h3⟩ := h
    exact ⟨b, cs, c, hμ.trans h1, h2, h3.ext he⟩

theorem RelW.unmask {sm : List Ob} {am : Act} {L : List Nat} (h : RelW P C st a w μ) (hR : ∀ id ∈ R, inF fid K id = false ∧ ∃ o, st.sto[id]? = some o ∧ o ≠ .free) (hF : ∀ id, inF fid K id = true → st.sto[id]? = some .free)
    (h' : RelW P (maskCx C μ st w R (h.maskM R)) { maskSt L R fid K st with sto := sm } am w' μ') (hlen : sm.length = st.sto.length)
    (hlike : ∀ id ∈ R, ∀ o, st.sto[id]? = some o → ∃ o', sm[id]? = some o' ∧ Like o o') (hsame : ∀ id ∈ R, id ∉ W → sm[id]? = st.sto[id]?) (hW : ∀ id ∈ W, id ∈ R)
    (hrefs : ∀ id o, (id ∈ R ∨ inF fid K id = true) → sm[id]? = some o → ∀ k ∈ refsO o, k ∈ R ∨ inF fid K k = true) :
    ∃ μ2, RelW P C { st with sto := mergeS W fid K 0 st.sto sm } a w' μ2 ∧ (∀ l v, (∀ k ∈ refsA l, k ∈ R ∨ inF fid K k = true) →
      ARel P (Sof (maskCx C μ st w R (h.maskM R)) μ' sm w') μ' sm w' l v → ARel P (Sof C μ2 (mergeS W fid K 0 st.sto sm) w') μ2 (mergeS W fid K 0 st.sto sm) w' l v) := by
  generalize hnew : mergeS W fid K 0 st.sto sm = new
  have hget : ∀ i, new[i]? = if inF fid K i = true ∨ i ∈ W then sm[i]? else st.sto[i]? := fun i => by
    rw [← hnew, mergeS_get hlen.symm, Nat.zero_add]
  have newV : ∀ i, (i ∈ R ∨ inF fid K i = true) → new[i]? = sm[i]? := fun i hi => by
    rw [hget]
    by_cases hc : inF fid K i = true ∨ i ∈ W
    · rw [if_pos hc]
    · rw [if_neg hc]
      rcases hi with hi | hi
      · exact (hsame i hi (fun hw => hc (.inr hw))).symm
      · exact absurd (.inl hi) hc
  have newO : ∀ i, ¬ (i ∈ R ∨ inF fid K i = true) → new[i]? = st.sto[i]? := fun i hi => by
    rw [hget, if_neg]
    rintro (hc | hc)
    · exact hi (.inr hc)
    · exact hi (.inl (hW i hc))
  let V : Nat → Prop := fun i => i ∈ R ∨ inF fid K i = true
  classical
  let μ2 : Nat → Option Nat := fun i => if V i then μ' i else μ i
  have mV : ∀ i, V i → μ2 i = μ' i := fun i hi => if_pos hi
  have mO : ∀ i, ¬ V i → μ2 i = μ i := fun i hi => if_neg hi
  have hsz : w.heap.size ≤ w'.heap.size := h'.size
  have hfr : ∀ b, b < w.heap.size → (∀ id o, st.sto[id]? = some o → o.mut = true → μ id ≠ some b) → w'.heap[b]? = w.heap[b]? := fun b hb hno =>
    h'.frame b hb (fun ⟨id, o, _, h2, h3, h4⟩ => hno id o h2 h3 h4)
  have hpin : ∀ id ∈ R, ∀ o', sm[id]? = some o' → o' ≠ .dead → μ' id = μ id := by
    intro id hid o' ho' hd
    obtain ⟨k, hk⟩ := List.getElem?_of_mem hid
    obtain ⟨o1, q1, q2, q3⟩ := h'.root k id hk
    have q1 : sm[id]? = some o1 := q1
    rw [ho'] at q1; cases q1
    rcases q3 with q3 | q3
    · exact absurd q3 hd
    · have q3 : (R.map μ)[k]? = some (μ' id) := q3
      rw [List.getElem?_map, hk, Option.map_some] at q3
      exact (Option.some.inj q3).symm
  -- a block of a writable object in the part
  have blkV : ∀ id o b, V id → sm[id]? = some o → o.mut = true → μ' id = some b → b < w'.heap.size ∧ (w.heap.size ≤ b ∨ ∃ id0 o0, id0 ∈ R ∧ st.sto[id0]? = some o0 ∧ o0.mut = true ∧ μ id0 = some b) :=
    fun id o b _ ho hm hb => h'.blk id o b ho hm hb
  have cross : ∀ id o id' o' b, V id → sm[id]? = some o → o.mut = true → μ' id = some b → ¬ V id' → st.sto[id']? = some o' → o'.mut = true → μ id' = some b → False := by
    intro id o id' o' b h1 h2 h3 h4 k1 k2 k3 k4
    rcases (blkV id o b h1 h2 h3 h4).2 with q | ⟨id0, o0, q1, q2, q3, q4⟩
    · have := (h.blk id' o' b k2 k3 k4).1; omega
    · have := h.inj id0 id' o0 o' b q2 k2 q3 k3 q4 k4
      subst this
      exact k1 (.inl q1)
  have hSin : ∀ b, Sof (maskCx C μ st w R (h.maskM R)) μ' sm w' b → Sof C μ2 new w' b := by
    intro b ⟨hb1, hb2, hb3⟩
    refine ⟨hb1, ?_, fun id o ho hm hid => ?_⟩
    · rcases hb2 with q | ⟨id0, o0, q1, q2, q3, q4⟩ | q
      · exact q.2.1
      · rcases (h.blk id0 o0 b q2 q3 q4).2 with r | r
        · exact .inr (.inr r)
        · exact .inr (.inl r)
      · have q : w.heap.size ≤ b := q
        exact .inr (.inr (Nat.le_trans h.size q))
    · by_cases hv : V id
      · rw [newV id hv] at ho
        rw [mV id hv] at hid
        exact hb3 id o ho hm hid
      · rw [newO id hv] at ho
        rw [mO id hv] at hid
        rcases hb2 with q | ⟨id0, o0, q1, q2, q3, q4⟩ | q
        · exact q.2.2 id o ho hm hid
        · have := h.inj id0 id o0 o b q2 ho q3 hm q4 hid
          subst this
          exact hv (.inl q1)
        · have q : w.heap.size ≤ b := q
          have := (h.blk id o b ho hm hid).1; omega
  have hext : Ext (Sof (maskCx C μ st w R (h.maskM R)) μ' sm w') (Sof C μ2 new w') w' w' := fun b hb _ => ⟨hSin b hb, rfl⟩
  have hVV : ∀ id, V id → new[id]? = sm[id]? ∧ μ2 id = μ' id := fun id hid => ⟨newV id hid, mV id hid⟩
  obtain ⟨r, hk⟩ := h.move (w' := w') (μ' := μ2) (sto' := new) hsz h'.os h'.tape h'.output
    (fun id o b ho hm hb => by
      by_cases hv : V id
      · rw [newV id hv] at ho; rw [mV id hv] at hb
        obtain ⟨q1, q2⟩ := blkV id o b hv ho hm hb
        exact ⟨q1, q2.imp (fun q => q) fun ⟨id0, o0, _, p2, p3, p4⟩ => ⟨id0, o0, p2, p3, p4⟩⟩
      · rw [newO id hv] at ho; rw [mO id hv] at hb
        have := (h.blk id o b ho hm hb).1
        exact ⟨by omega, .inr ⟨id, o, ho, hm, hb⟩⟩)
    (fun id id' o o' b ho ho' hm hm' hb hb' => by
      by_cases hv : V id <;> by_cases hv' : V id'
      · rw [newV id hv] at ho; rw [mV id hv] at hb; rw [newV id' hv'] at ho'; rw [mV id' hv'] at hb'
        exact h'.inj id id' o o' b ho ho' hm hm' hb hb'
      · rw [newV id hv] at ho; rw [mV id hv] at hb; rw [newO id' hv'] at ho'; rw [mO id' hv'] at hb'
        exact (cross id o id' o' b hv ho hm hb hv' ho' hm' hb').elim
      · rw [newO id hv] at ho; rw [mO id hv] at hb; rw [newV id' hv'] at ho'; rw [mV id' hv'] at hb'
        exact (cross id' o' id o b hv' ho' hm' hb' hv ho hm hb).elim
      · rw [newO id hv] at ho; rw [mO id hv] at hb; rw [newO id' hv'] at ho'; rw [mO id' hv'] at hb'
        exact h.inj id id' o o' b ho ho' hm hm' hb hb')
    hfr (fun b n hc => h'.caps b n hc)
    (fun id o ho => by
      by_cases hv : V id
      · rw [newV id hv]
        rcases hv with hv | hv
        · obtain ⟨o', q1, q2⟩ := hlike id hv o ho
          refine ⟨o', q1, q2, ?_⟩
          by_cases hd : o' = .dead
          · exact .inr (.inl hd)
          · refine .inr (.inr ⟨?_, fun b n _ hc => h'.caps b n hc⟩)
            rw [mV id (.inl hv)]; exact hpin id hv o' q1 hd
        · have := hF id hv
          rw [ho] at this; cases this
          have hlt : id < sm.length := by rw [hlen]; exact lt_of_getElem? ho
          exact ⟨_, List.getElem?_eq_getElem hlt, by simp [Like], .inl rfl⟩
      · exact ⟨o, by rw [newO id hv]; exact ho, Like.refl o, .inr (.inr ⟨mO id hv, fun b n _ hc => h'.caps b n hc⟩)⟩)
    (fun hk id o ho => by
      by_cases hv : V id
      · rw [newV id hv] at ho
        exact .inr (orel_lift hext hVV hv (hrefs id o hv ho) (h'.obj id o ho))
      · rw [newO id hv] at ho
        refine .inl ⟨ho, mO id hv, fun b hb hm => ?_⟩
        refine h'.frame b (h.blk id o b ho hm hb).1 (fun ⟨id0, o0, q1, q2, q3, q4⟩ => ?_)
        have := h.inj id0 id o0 o b q2 ho q3 hm q4 hb
        subst this
        exact hv (.inl q1))
  exact ⟨μ2, r, fun l v hl hv => arel_lift hext hVV hl hv⟩
end
end Go.Eng
end

/- Eng2F -/
section
set_option linter.unusedSimpArgs false
set_option linter.unusedVariables false
namespace Go.Eng
open Tree

def arrN (sto : List Ob) (id : Nat) : Bool := match sto[id]? with | some (.arr _ _) => true | _ => false
def varN (sto : List Ob) (id : Nat) : Bool := match sto[id]? with | some (.var _) => true | _ => false
def goneN : Option Nat → List Nat | some k => [k] | none => []
/-- What an effect changes of what was there. -/
def wEff (sto : List Ob) (e : Eff) : List Nat := e.ice.filter (arrN sto) ++ e.chg.map (·.1) ++ goneN e.gone
def icesFlat (sto : List Ob) : List (Nat × Option Ty) → Bool
  | [] => true
  | (_, none) :: r => icesFlat sto r
  | (id, some _) :: r => !varN sto id && icesFlat sto r
def someN : Ren → List Nat
  | [] => []
  | none :: r => someN r
  | some i :: r => i :: someN r
def wCall (sto : List Ob) (fs : FSpec) (args : List AV) : List Nat :=
  someN (fs.pre.ren sto args []) ++ (if fs.post.all flatT then [] else ((fs.pre.ices sto args []).map (·.1)).filter (arrN sto))
def callW (sto : List Ob) (fs : FSpec) (fid K : Nat) (args : List AV) : Tree (Out × List Nat) :=
  if Nat.ble (fs.post.objs.length - fs.roots) K && icesFlat sto (fs.pre.ices sto args []) then
    (callT sto fs fid args).bind fun out => match out with
      | .ok s v => leaf (.ok s v, wCall sto fs args)
      | .pan v => leaf (.pan v, [])
  else fail

def doOpW (E : Env) (fid K : Nat) (st : St) (o : Oper) : Tree (Out × List Nat) :=
  match o.op with
  | .call c => match c.callee with
    | .value f => match opd E.gl st.slots f with
      | .one (.clo g caps) => match findF E.funs g with
        | some fs => callW st.sto fs fid K (c.args.toList.map (opd E.gl st.slots) ++ caps.map fun id => AV.one (.ptr id 0))
        | none => fail
      | _ => fail
    | _ => (act E.P fid st.sto (opd E.gl st.slots) (opd1 E.gl st.slots) o.op).map fun ef => (.ok (ef.sto fid st.sto) ef.val, wEff st.sto ef)
  | _ => (act E.P fid st.sto (opd E.gl st.slots) (opd1 E.gl st.slots) o.op).map fun ef => (.ok (ef.sto fid st.sto) ef.val, wEff st.sto ef)

def stepW (E : Env) (ops : Array Oper) (fid K : Nat) (st : St) (o : Oper) : Tree (Out × List Nat) :=
  match o.guard with
  | none => doOpW E fid K st o
  | some (j, want) => match (ops[j]?).bind (·.dst) with
    | some d => match st.slots[d]? with
      | some (.one (.val .bool b)) => (match b == want with | true => doOpW E fid K st o | false => leaf (.ok st.sto (.tup []), []))
      | some (.tup []) => leaf (.ok st.sto (.tup []), [])
      | _ => fail
    | none => fail

/-! ### Likeness and what stays -/
theorem Like.trans' {a b c : Ob} (h : Like a b) (k : Like b c) : Like a c := by
  cases a <;> cases b <;> simp only [Like] at h <;> cases c <;> simp only [Like] at k ⊢ <;>
    first | exact h.elim | exact k.elim | trivial | exact ⟨h.1.trans k.1, by obtain ⟨rfl, h2⟩ := h; exact h2.trans k.2⟩

def LikeS (s s' : List Ob) : Prop := ∀ (id : Nat) (o : Ob), s[id]? = some o → ∃ o', s'[id]? = some o' ∧ Like o o'
theorem LikeS.refl (s : List Ob) : LikeS s s := fun _ o h => ⟨o, h, Like.refl o⟩
theorem LikeS.trans {a b c : List Ob} (h : LikeS a b) (k : LikeS b c) : LikeS a c := fun id o ho =>
  let ⟨_, h1, h2⟩ := h id o ho; let ⟨o2, k1, k2⟩ := k id _ h1; ⟨o2, k1, h2.trans' k2⟩

def chgOk : List Ob → List (Nat × Ob) → Prop
  | _, [] => True
  | s, (i, o) :: r => (∃ o0, s[i]? = some o0 ∧ Like o0 o) ∧ chgOk (s.set i o) r

theorem set_like {s : List Ob} {i : Nat} {o o0 : Ob} (h : s[i]? = some o0) (k : Like o0 o) : LikeS s (s.set i o) := by
  intro id x hx
  rw [List.getElem?_set]
  by_cases hi : i = id
  · subst hi
    rw [h] at hx; cases hx
    rw [if_pos rfl, if_pos (lt_of_getElem? h)]
    exact ⟨o, rfl, k⟩
  · rw [if_neg hi]; exact ⟨x, hx, Like.refl x⟩
theorem applyUpd_like : ∀ {l : List (Nat × Ob)} {s : List Ob}, chgOk s l → LikeS s (applyUpd s l)
  | [], s, _ => LikeS.refl s
  | (i, o) :: r, s, h => by
    obtain ⟨⟨o0, h1, h2⟩, h3⟩ := h
    exact (set_like h1 h2).trans (applyUpd_like h3)
theorem frz1_like (s : List Ob) (i : Nat) : LikeS s (frz1 s i) := by
  unfold frz1
  split
  · rename_i t xs h
    exact set_like h ⟨rfl, rfl⟩
  · exact LikeS.refl s
theorem frz_like : ∀ (ids : List Nat) (s : List Ob), LikeS s (frz s ids)
  | [], s => LikeS.refl s
  | i :: r, s => (frz1_like s i).trans (frz_like r _)
theorem kill_like (s : List Ob) (k : Option Nat) : LikeS s (kill s k) := by
  intro id o ho
  rw [kill_get]
  split
  · exact ⟨_, rfl, by cases o <;> simp [Like]⟩
  · exact ⟨o, ho, Like.refl o⟩
theorem applyUpd_other {id : Nat} : ∀ {l : List (Nat × Ob)} {s : List Ob}, id ∉ l.map (·.1) → (applyUpd s l)[id]? = s[id]?
  | [], _, _ => rfl
  | (i, o) :: r, s, h => by
    simp only [List.map_cons, List.mem_cons, not_or] at h
    rw [applyUpd, applyUpd_other h.2, List.getElem?_set, if_neg (fun e => h.1 e.symm)]
theorem frz_other {id : Nat} : ∀ {ids : List Nat} {s : List Ob}, (id ∈ ids → arrN s id = false) → (frz s ids)[id]? = s[id]?
  | [], _, _ => rfl
  | i :: r, s, h => by
    have e : (frz1 s i)[id]? = s[id]? := by
      unfold frz1
      split
      · rename_i t xs hs
        rw [List.getElem?_set, if_neg]
        intro e; subst e
        have := h (by simp)
        simp [arrN, hs] at this
      · rfl
    rw [frz, frz_other (ids := r), e]
    intro hr
    have := h (by simp [hr])
    unfold arrN at this ⊢
    rw [e]; exact this
theorem frz_free_back {fid : Nat} {s : List Ob} (h : FidOk s fid) (ids : List Nat) : FidOk (frz s ids) fid := fidOk_frz h ids

theorem eff_fid {s : List Ob} {fid : Nat} {e : Eff} (hf : FidOk s fid) (hc : chgOk (frz s e.ice) e.chg) (hfc : fid ∉ e.chg.map (·.1)) (hg : e.gone ≠ some fid) : FidOk (kill (applyUpd (frz s e.ice) e.chg) e.gone) fid := by
  have h1 := frz_free_back hf e.ice
  have hl : (kill (applyUpd (frz s e.ice) e.chg) e.gone).length = (frz s e.ice).length := by
    have : ∀ (x : List Ob) (k : Option Nat), (kill x k).length = x.length := fun x k => by cases k <;> simp [kill]
    rw [this, applyUpd_length]
  rcases h1 with h1 | h1
  · exact .inl (by rw [hl]; exact h1)
  · right
    rw [kill_get, if_neg (fun q => hg q.1), applyUpd_other hfc, h1]

/-- An effect leaves alone what it does not name. -/
theorem eff_other {s : List Ob} {fid id : Nat} {e : Eff} (hf : FidOk s fid) (hc : chgOk (frz s e.ice) e.chg) (hfc : fid ∉ e.chg.map (·.1)) (hg : e.gone ≠ some fid) (hid : id ≠ fid) (hw : id ∉ wEff s e) : (e.sto fid s)[id]? = s[id]? := by
  simp only [wEff, List.mem_append, not_or] at hw
  obtain ⟨⟨h1, h2⟩, h3⟩ := hw
  have hg' : ¬ (e.gone = some id ∧ id < (applyUpd (frz s e.ice) e.chg).length) := fun q => h3 (by rw [q.1]; simp [goneN])
  have base : (kill (applyUpd (frz s e.ice) e.chg) e.gone)[id]? = s[id]? := by
    rw [kill_get, if_neg hg', applyUpd_other h2, frz_other]
    intro hi
    cases hb : arrN s id with
    | false => rfl
    | true => exact absurd (List.mem_filter.2 ⟨hi, hb⟩) h1
  unfold Eff.sto
  dsimp only
  split
  · rw [place_get (eff_fid hf hc hfc hg), if_neg hid]; exact base
  · exact base

theorem eff_like {s : List Ob} {fid : Nat} {e : Eff} (hf : FidOk s fid) (hc : chgOk (frz s e.ice) e.chg) (hfc : fid ∉ e.chg.map (·.1)) (hg : e.gone ≠ some fid) : ∀ (id : Nat) (o : Ob), id ≠ fid → s[id]? = some o → ∃ o', (e.sto fid s)[id]? = some o' ∧ Like o o' := by
  intro id o hid ho
  have base : LikeS s (kill (applyUpd (frz s e.ice) e.chg) e.gone) := ((frz_like _ _).trans (applyUpd_like hc)).trans (kill_like _ _)
  unfold Eff.sto
  dsimp only
  split
  · rw [place_get (eff_fid hf hc hfc hg), if_neg hid]; exact base id o ho
  · exact base id o ho

/-! ### What operations write to -/
theorem storeL_chg {P : Program} {sto : List Ob} {t : TypeId} {x : Lf} {v : AV} {ef : Eff} (h : (storeL P sto t x v).run = some ef) : chgOk (frz sto ef.ice) ef.chg := by
  unfold storeL at h
  repeat' split at h
  all_goals first
    | (simp [Tree.run] at h; done)
    | (simp only [Tree.run, Option.some.injEq] at h; subst h
       refine ⟨?_, trivial⟩
       first
         | exact ⟨_, ‹sto[_]? = some (Ob.var _)›, trivial⟩
         | exact ⟨_, ‹(frz sto (idsAV v))[_]? = some (Ob.arr _ _)›, rfl, by simp⟩)
theorem appendL_chg {P : Program} {sto : List Ob} {fid : Nat} {t t' : TypeId} {s x : Lf} {ef : Eff} (h : (appendL P sto fid t t' s x).run = some ef) : chgOk (frz sto ef.ice) ef.chg := by
  unfold appendL at h
  repeat' split at h
  all_goals first
    | (simp [Tree.run] at h; done)
    | (obtain ⟨hg, h⟩ := run_grd h
       simp only [Tree.run, Option.some.injEq] at h; subst h; trivial)
    | (obtain ⟨hg, h⟩ := run_grd h
       simp only [Tree.run, Option.some.injEq] at h; subst h
       rename_i ho _ e _
       cases e
       simp only [decide_eq_true_eq] at hg
       refine ⟨⟨_, ho, rfl, ?_⟩, trivial⟩
       dsimp only at hg ⊢
       simp only [List.length_append, List.length_take, List.length_drop]
       omega)
theorem copyL_chg {P : Program} {sto : List Ob} {t : TypeId} {x y : Lf} {ef : Eff} (hob : ∀ id off len te xs, x = .sub id off len → sto[id]? = some (.arr te xs) → off + len ≤ List.length xs) (h : (copyL P sto t x y).run = some ef) : chgOk (frz sto ef.ice) ef.chg := by
  unfold copyL at h
  repeat' split at h
  all_goals first
    | (simp [Tree.run] at h; done)
    | (simp only [Tree.run, Option.some.injEq] at h; subst h
       rename_i ho _ e _
       cases e
       refine ⟨⟨_, ho, rfl, ?_⟩, trivial⟩
       dsimp only
       simp only [spl, List.length_append, List.length_take, List.length_drop]
       omega)
    | (simp only [Tree.run, Option.some.injEq] at h; subst h
       rename_i id off len _ _ xs ho _ e _
       cases e
       have := hob _ _ _ _ _ rfl ho
       refine ⟨⟨_, ho, rfl, ?_⟩, trivial⟩
       dsimp only
       simp only [spl, List.length_append, List.length_take, List.length_drop]
       omega)
end Go.Eng
end

/- Eng2G -/
section
set_option linter.unusedSimpArgs false
set_option linter.unusedVariables false
namespace Go.Eng
open Tree

theorem nil_chg {s : List Ob} {e : Eff} (h : e.chg = []) : chgOk (frz s e.ice) e.chg := by rw [h]; trivial

theorem boxL_chg {sto : List Ob} {fid : Nat} {v : AV} {ef : Eff} (h : (boxL sto fid v).run = some ef) : ef.chg = [] := by
  unfold boxL at h
  repeat' split at h
  all_goals first
    | (simp [Tree.run] at h; done)
    | (simp only [Tree.run, Option.some.injEq] at h; subst h; rfl)
theorem allocL_chg {P : Program} {fid : Nat} {t : TypeId} {ef : Eff} (h : (allocL P fid t).run = some ef) : ef.chg = [] := by
  unfold allocL at h
  repeat' split at h
  all_goals first
    | (simp [Tree.run] at h; done)
    | (simp only [Tree.run, Option.some.injEq] at h; subst h; rfl)
theorem buildSliceL_chg {P : Program} {sto : List Ob} {fid : Nat} {t : TypeId} {len : Nat} {ps : List (Nat × AV)} {ef : Eff} (h : (buildSliceL P sto fid t len ps).run = some ef) : ef.chg = [] := by
  unfold buildSliceL at h
  repeat' split at h
  all_goals first
    | (simp [Tree.run] at h; done)
    | (simp only [Tree.run, Option.some.injEq] at h; subst h; rfl)
theorem makeSliceL_chg {P : Program} {fid : Nat} {t : TypeId} {n c : Lf} {ef : Eff} (h : (makeSliceL P fid t n c).run = some ef) : ef.chg = [] := by
  unfold makeSliceL at h
  repeat' split at h
  all_goals first
    | (simp [Tree.run] at h; done)
    | (obtain ⟨_, h⟩ := run_grd h; simp only [Tree.run, Option.some.injEq] at h; subst h; rfl)
theorem convL_chg {P : Program} {sto : List Ob} {fid : Nat} {s d : TypeId} {x : Lf} {ef : Eff} (h : (convL P sto fid s d x).run = some ef) : ef.chg = [] := by
  unfold convL at h
  repeat' split at h
  all_goals first
    | (simp [Tree.run] at h; done)
    | (simp only [Tree.run, Option.some.injEq] at h; subst h; rfl)
    | (obtain ⟨_, h⟩ := run_grd h; simp only [Tree.run, Option.some.injEq] at h; subst h; rfl)

section
variable {E : Env} {P : Program} {C : Cx} {st : St} {a : Act} {w w' : World} {μ : Nat → Option Nat} {S : Nat → Prop} {sto : List Ob} {fid K : Nat}

theorem builtin_chg {b : Builtin} {ats : List TypeId} {xs : List Lf} {ef : Eff} (hx : ∀ id off len te ys, .sub id off len ∈ xs → sto[id]? = some (.arr te ys) → off + len ≤ List.length ys)
    (h : (builtinL P sto fid b ats xs).run = some ef) : chgOk (frz sto ef.ice) ef.chg := by
  unfold builtinL at h
  split at h
  · obtain ⟨_, _, rfl⟩ := map_some h; trivial
  · exact appendL_chg h
  · exact copyL_chg (fun id off len te ys he ho => hx id off len te ys (by simp [he]) ho) h
  · obtain ⟨_, _, rfl⟩ := map_some h; trivial
  · obtain ⟨_, _, rfl⟩ := map_some h; trivial
  · simp [Tree.run] at h

theorem act_chg {ρ : Operand → AV} {ρ1 : Operand → Lf} {op : Op} {ef : Eff} (hx : ∀ x id off len te ys, ρ1 x = .sub id off len → sto[id]? = some (.arr te ys) → off + len ≤ List.length ys)
    (h : (act P fid sto ρ ρ1 op).run = some ef) : chgOk (frz sto ef.ice) ef.chg := by
  unfold act at h
  split at h
  case h_4 => exact nil_chg (allocL_chg h)
  case h_5 => exact nil_chg (boxL_chg h)
  case h_7 => exact nil_chg (buildSliceL_chg h)
  case h_9 =>
    obtain ⟨e, h1, rfl⟩ := map_some h
    show chgOk (frz sto e.ice) e.chg
    exact storeL_chg h1
  case h_13 => exact nil_chg (convL_chg h)
  case h_15 => exact nil_chg (makeSliceL_chg h)
  case h_21 =>
    split at h
    · refine builtin_chg (fun id off len te ys hm ho => ?_) h
      obtain ⟨x, _, hx'⟩ := List.mem_map.1 hm
      exact hx x id off len te ys hx' ho
    · simp [Tree.run] at h
  all_goals first
    | (simp [Tree.run] at h; done)
    | (simp only [Tree.run, Option.some.injEq] at h; subst h; trivial)
    | (obtain ⟨_, _, rfl⟩ := map_some h; trivial)

theorem sub_le {gl : Globs} (hG : GlobOk C gl) (h : RelW P C st a w μ) (x : Operand) (id off len : Nat) (te : Ty) (ys : List te.El) (hx : opd1 gl st.slots x = .sub id off len) (ho : st.sto[id]? = some (.arr te ys)) : off + len ≤ List.length ys := by
  have := opd1_rel hG h x
  rw [hx] at this
  simp only [LRel, ho] at this
  exact this.1

theorem someN_mem {ren : Ren} {id : Nat} : id ∈ someN ren ↔ ∃ j : Nat, ren[j]? = some (some id) := by
  induction ren with
  | nil => simp [someN]
  | cons o r ih =>
    cases o with
    | none =>
      rw [someN, ih]
      constructor
      · rintro ⟨j, hj⟩; exact ⟨j + 1, by simpa using hj⟩
      · rintro ⟨j, hj⟩
        cases j with
        | zero => simp at hj
        | succ j => exact ⟨j, by simpa using hj⟩
    | some i =>
      rw [someN, List.mem_cons, ih]
      constructor
      · rintro (rfl | ⟨j, hj⟩)
        · exact ⟨0, rfl⟩
        · exact ⟨j + 1, by simpa using hj⟩
      · rintro ⟨j, hj⟩
        cases j with
        | zero => simp at hj; exact .inl hj.symm
        | succ j => exact .inr ⟨j, by simpa using hj⟩

theorem iceAll_other {id : Nat} : ∀ {l : List (Nat × Option Ty)} {s : List Ob}, icesFlat s l = true → (id ∈ l.map (·.1) → arrN s id = false) → (iceAll s l)[id]? = s[id]?
  | [], _, _, _ => rfl
  | (i, none) :: r, s, hf, h => by
    have e : ∀ k, k ≠ i ∨ arrN s k = false → (frz1 s i)[k]? = s[k]? := by
      intro k hk
      unfold frz1
      split
      · rename_i t xs hs
        rw [List.getElem?_set, if_neg]
        intro e; subst e
        rcases hk with hk | hk
        · exact hk rfl
        · simp [arrN, hs] at hk
      · rfl
    have hv : ∀ k, varN (frz1 s i) k = varN s k := by
      intro k
      by_cases hk : k ≠ i ∨ arrN s k = false
      · unfold varN; rw [e k hk]
      · have hki : k = i := by
          rcases Nat.decEq k i with h' | h'
          · exact absurd (.inl h') hk
          · exact h'
        subst hki
        clear e hk
        unfold varN frz1
        cases hs : s[k]? with
        | none => simp [hs]
        | some o => cases o <;> first | (simp only [hs]; done) | simp only [hs, List.getElem?_set, if_true, lt_of_getElem? hs]
    have hf' : ∀ (l : List (Nat × Option Ty)), icesFlat s l = true → icesFlat (frz1 s i) l = true := by
      intro l
      induction l with
      | nil => intro _; rfl
      | cons p r ih =>
        obtain ⟨k, o⟩ := p
        cases o with
        | none => intro hq; exact ih hq
        | some tb =>
          intro hq
          simp only [icesFlat, Bool.and_eq_true] at hq ⊢
          exact ⟨by rw [hv]; exact hq.1, ih hq.2⟩
    have hid : id ≠ i ∨ arrN s id = false := by
      rcases Nat.decEq id i with h' | h'
      · exact .inl h'
      · exact .inr (h (by simp [h']))
    rw [iceAll, iceAll_other (l := r) (hf' r hf), e id hid]
    intro hm
    have := h (by simp [hm])
    unfold arrN at this ⊢
    rw [e id (.inr (by unfold arrN; exact this))]; exact this
  | (i, some tb) :: r, s, hf, h => by
    simp only [icesFlat, Bool.and_eq_true, Bool.not_eq_true'] at hf
    have e : iceV s i tb = s := by
      unfold iceV
      split
      · rename_i ls ho
        have := hf.1
        simp [varN, ho] at this
      · rfl
    rw [iceAll, e]
    exact iceAll_other (l := r) hf.2 (fun hm => h (by simp [hm]))

theorem callT_ok {fs : FSpec} {args : List AV} {s : List Ob} {v : AV} (h : (callT sto fs fid args).run = some (.ok s v)) :
    ∃ (x : fs.pre.ty.El) (y : fs.post.ty.El), rootsOk fs.pre.objs fs.post.objs fs.roots = true ∧ fs.pre.get (fs.pre.ren sto args []) { slots := args, sto := iceAll sto (fs.pre.ices sto args []) } = some x ∧
      lensOk fs.pre.objs x.2 fs.post.objs y.2 fs.roots = true ∧
      s = backSto (if fs.post.all flatT then sto else iceAll sto (fs.pre.ices sto args [])) (fs.pre.ren sto args []) fs.roots fid (mkO fs.post.objs y.2) := by
  obtain ⟨pre, post, roots, pan, f⟩ := fs
  unfold callT at h
  split at h
  · rename_i hroots
    simp only [Bool.and_eq_true] at hroots
    split at h
    · rename_i x hx
      simp only [Tree.run] at h
      cases hy : f x with
      | none => rw [hy] at h; cases h
      | some r =>
        rw [hy, Option.bind_some] at h
        have fin : ∀ (y : post.ty.El), (match retAV (rho (pre.ren sto args []) roots fid) (mkS post.slots y.1) with
              | some v => grd (lensOk pre.objs x.2 post.objs y.2 roots) (leaf (Out.ok (backSto (if post.all flatT = true then sto else iceAll sto (pre.ices sto args [])) (pre.ren sto args []) roots fid (mkO post.objs y.2)) v))
              | none => fail).run = some (Out.ok s v) → lensOk pre.objs x.2 post.objs y.2 roots = true ∧
                s = backSto (if post.all flatT = true then sto else iceAll sto (pre.ices sto args [])) (pre.ren sto args []) roots fid (mkO post.objs y.2) := by
          intro y h
          generalize (if post.all flatT = true then sto else iceAll sto (pre.ices sto args [])) = s0 at h ⊢
          split at h
          · obtain ⟨h1, h⟩ := run_grd h
            simp only [Tree.run, Option.some.injEq, Out.ok.injEq] at h
            exact ⟨h1, h.1.symm⟩
          · simp [Tree.run] at h
        cases pan with
        | false =>
          obtain ⟨k1, k2⟩ := fin r h
          exact ⟨x, r, hroots.1, hx, k1, k2⟩
        | true =>
          cases r with
          | ok y =>
            obtain ⟨k1, k2⟩ := fin y h
            exact ⟨x, y, hroots.1, hx, k1, k2⟩
          | error v => simp [casT, Tree.run, exM] at h
    · simp [Tree.run] at h
  · simp [Tree.run] at h

/-- What is kept of the state where an operation has been. -/
def KeptBy (sto : List Ob) (fid K : Nat) (W : List Nat) (s : List Ob) : Prop :=
  (∀ (id : Nat) (o : Ob), inF fid K id = false → sto[id]? = some o → ∃ o', s[id]? = some o' ∧ Like o o') ∧
  ∀ id, id < sto.length → inF fid K id = false → id ∉ W → s[id]? = sto[id]?

theorem callW_spec {fs : FSpec} {args : List AV} {out : Out} {W : List Nat} (h : RelW P C st a w μ) (hF : FidsOk st.sto fid K) (hW : ∀ id ∈ W, inF fid K id = false) (hr : (callW st.sto fs fid K args).run = some (out, W)) :
    (callT st.sto fs fid args).run = some out ∧ fs.post.objs.length - fs.roots ≤ K ∧ ∀ s v, out = .ok s v → KeptBy st.sto fid K W s := by
  unfold callW at hr
  split at hr
  · rename_i hc
    simp only [Bool.and_eq_true] at hc
    obtain ⟨hk, hfl⟩ := hc
    have hk := Nat.le_of_ble_eq_true hk
    obtain ⟨out', h1, h2⟩ := run_bind_some hr
    cases out' with
    | pan v =>
      simp only [Tree.run, Option.some.injEq, Prod.mk.injEq] at h2
      obtain ⟨rfl, rfl⟩ := h2
      exact ⟨h1, hk, fun s v hq => by cases hq⟩
    | ok s v =>
      simp only [Tree.run, Option.some.injEq, Prod.mk.injEq] at h2
      obtain ⟨rfl, rfl⟩ := h2
      refine ⟨h1, hk, fun s' v' hq => ?_⟩
      cases hq
      obtain ⟨x, y, hroots, hx, hlens, hs⟩ := callT_ok h1
      unfold Shape.get at hx
      split at hx
      · rename_i hn
        simp only [Bool.and_eq_true] at hn
        replace hn := hn.1
        split at hx
        · rename_i x1 x2 e1 e2
          simp only [Option.some.injEq] at hx; subst hx
          generalize hsto0 : (if fs.post.all flatT = true then st.sto else iceAll st.sto (fs.pre.ices st.sto args [])) = sto0 at hs
          have hF0 : FidsOk sto0 fid K := by
            rw [← hsto0]; split
            · exact hF
            · exact hF.ice
          have hlen : (mkO fs.post.objs y.2).length = fs.post.objs.length := mkO_length
          have hF1 : FidsOk sto0 fid ((mkO fs.post.objs y.2).length - fs.roots) := by
            rw [hlen]
            rcases hF0 with hF0 | hF0
            · exact .inl hF0
            · exact .inr fun i hi => hF0 i (by omega)
          have hice : ∀ (id : Nat) (o : Ob), (iceAll st.sto (fs.pre.ices st.sto args []))[id]? = some o → o.mut = true → sto0[id]? = some o := by
            intro id o ho hm
            rw [← hsto0]; split
            · exact iceAll_mut ho hm
            · exact ho
          have hob : ∀ (j id : Nat), (fs.pre.ren st.sto args [])[j]? = some (some id) → ∃ (s : OSh) (y' : s.ty.El), fs.pre.objs[j]? = some s ∧ (mkO fs.pre.objs x2)[j]? = some (obOf s y') ∧
              ((∃ ls ss, s = .var ss ∧ sto0[id]? = some (.var ls)) ∨ (∃ t ys, s = .arr t ∧ sto0[id]? = some (.arr t ys) ∧ (mkO fs.pre.objs x2)[j]? = some (.arr t ys)) ∨ ∃ k v ys, s = .mp k v ∧ sto0[id]? = some (.mp k v ys)) := by
            intro j id hj
            obtain ⟨s, hs'⟩ := getOs_ren e2 hj
            obtain ⟨r', y', q1, q2, q3⟩ := getOs_sh e2 hs'
            rw [hj] at q1; cases q1
            refine ⟨s, y', hs', q3, ?_⟩
            cases s with
            | var ss =>
              simp only [getO] at q2
              split at q2
              · rename_i ls q; exact .inl ⟨ls, ss, rfl, hice _ _ q rfl⟩
              · cases q2
            | arr t => exact .inr (.inl ⟨t, y', rfl, hice _ _ (getO_arr q2) rfl, q3⟩)
            | mp k v => exact .inr (.inr ⟨k, v, y', rfl, hice _ _ (getO_mp q2) rfl⟩)
          have hmut : ∀ (j id : Nat), (fs.pre.ren st.sto args [])[j]? = some (some id) → ∃ o, sto0[id]? = some o ∧ o.mut = true := by
            intro j id hj
            obtain ⟨s, y', _, _, q⟩ := hob j id hj
            rcases q with ⟨ls, ss, _, q⟩ | ⟨t, ys, _, q, _⟩ | ⟨k, v, ys, _, q⟩
            · exact ⟨_, q, rfl⟩
            · exact ⟨_, q, rfl⟩
            · exact ⟨_, q, rfl⟩
          obtain ⟨g1, g2, g3⟩ := back_get hn hF1 hmut
          rw [← hs] at g1 g2 g3
          have hin : ∀ id, inF fid K id = false → ¬ (fid ≤ id ∧ id < fid + ((mkO fs.post.objs y.2).length - fs.roots)) := by
            rintro id hf ⟨q1, q2⟩
            rw [hlen] at q2
            have h2 : inF fid K id = true := inF_iff.2 ⟨q1, by omega⟩
            rw [h2] at hf; cases hf
          have get : ∀ id, inF fid K id = false → id ∉ someN (fs.pre.ren st.sto args []) → s[id]? = sto0[id]? := by
            intro id hf hn'
            exact g3 id (hin id hf) (fun j hj => hn' (someN_mem.2 ⟨j, hj⟩))
          have like0 : LikeS st.sto sto0 := by
            rw [← hsto0]; split
            · exact LikeS.refl _
            · intro id o ho
              obtain ⟨o', q1, q2, _⟩ := (h.iceAll (fs.pre.ices st.sto args [])).2.like id o ho
              exact ⟨o', q1, q2⟩
          refine ⟨fun id o hf ho => ?_, fun id _ hf hw => ?_⟩
          · by_cases hn' : id ∈ someN (fs.pre.ren st.sto args [])
            · obtain ⟨j, hj⟩ := someN_mem.1 hn'
              obtain ⟨_, q⟩ := g2 j id hj
              obtain ⟨o0, k1, k2⟩ := like0 id o ho
              refine ⟨_, q, k2.trans' ?_⟩
              split
              · rename_i hlt
                obtain ⟨s1, s2, p1, p2, p3⟩ := rootsOk_at hroots j hlt
                obtain ⟨y2, q3⟩ := mkO_at (x := y.2) p2
                rw [show (mkO fs.post.objs y.2).getD j .dead = obOf s2 y2 by simp [List.getD, q3]]
                obtain ⟨s', y', r1, r2, r3⟩ := hob j id hj
                rw [p1] at r1; cases r1
                rcases r3 with ⟨ls, ss, rfl, r3⟩ | ⟨t, ys, rfl, r3, r4⟩ | ⟨k, v, ys, rfl, r3⟩
                · rw [k1] at r3; cases r3
                  cases s2 <;> simp [rootLike] at p3
                  exact trivial
                · rw [k1] at r3; cases r3
                  cases s2 <;> simp only [rootLike, Bool.false_eq_true] at p3
                  rename_i t'
                  obtain ⟨⟨pe⟩, _⟩ := Option.isSome_iff_exists.1 p3
                  exact ⟨pe, lensOk_at hlens j hlt _ _ _ _ r4 q3⟩
                · rw [k1] at r3; cases r3
                  cases s2 <;> simp only [rootLike, Bool.false_eq_true] at p3
                  exact trivial
              · cases o0 <;> simp [Like]
            · rw [get id hf hn']
              exact like0 id o ho
          · simp only [wCall, List.mem_append, not_or] at hw
            rw [get id hf hw.1, ← hsto0]
            split
            · rfl
            · rename_i hnf
              refine iceAll_other hfl (fun hm => ?_)
              cases hb : arrN st.sto id with
              | false => rfl
              | true =>
                rw [if_neg hnf] at hw
                exact absurd (List.mem_filter.2 ⟨hm, hb⟩) hw.2
        · cases hx
      · cases hx
  · simp [Tree.run] at hr

theorem doOpW_spec {o : Oper} {out : Out} {W : List Nat} (hG : GlobOk C E.gl) (h : RelW E.P C st a w μ) (hF : FidsOk st.sto fid K) (hF1 : FidOk st.sto fid) (hK : K ≠ 0 ∨ fid = st.sto.length) (hW : ∀ id ∈ W, inF fid K id = false ∧ id < st.sto.length)
    (hr : (doOpW E fid K st o).run = some (out, W)) : ∀ s v, out = .ok s v → KeptBy st.sto fid K W s := by
  have plain : ((act E.P fid st.sto (opd E.gl st.slots) (opd1 E.gl st.slots) o.op).map fun ef => ((.ok (ef.sto fid st.sto) ef.val, wEff st.sto ef) : Out × List Nat)).run = some (out, W) → ∀ s v, out = .ok s v → KeptBy st.sto fid K W s := by
    intro hr s v hs
    obtain ⟨ef, h1, h2⟩ := map_some hr
    simp only [Prod.mk.injEq] at h2
    obtain ⟨rfl, rfl⟩ := h2
    cases hs
    have hc := act_chg (fun x id off len te ys hx ho => sub_le hG h x id off len te ys hx ho) h1
    have hnf : ∀ id ∈ wEff st.sto ef, id ≠ fid := by
      intro id hid e
      subst e
      obtain ⟨q1, q2⟩ := hW _ hid
      rcases hK with hK | hK
      · have : inF id K id = true := inF_iff.2 ⟨Nat.le_refl _, by omega⟩
        rw [this] at q1; cases q1
      · omega
    have hfc : fid ∉ ef.chg.map (·.1) := fun hm => hnf fid (by simp only [wEff, List.mem_append]; exact .inl (.inr hm)) rfl
    have hg : ef.gone ≠ some fid := fun hm => hnf fid (by simp only [wEff, List.mem_append]; exact .inr (by rw [hm]; simp [goneN])) rfl
    refine ⟨fun id o hf ho => ?_, fun id hlt hf hw => ?_⟩
    · have hid : id ≠ fid := by
        intro e; subst e
        rcases hK with hK | hK
        · have : inF id K id = true := inF_iff.2 ⟨Nat.le_refl _, by omega⟩
          rw [this] at hf; cases hf
        · have := lt_of_getElem? ho; omega
      exact eff_like hF1 hc hfc hg id o hid ho
    · by_cases hid : id = fid
      · subst hid
        rcases hK with hK | hK
        · have : inF id K id = true := inF_iff.2 ⟨Nat.le_refl _, by omega⟩
          rw [this] at hf; cases hf
        · omega
      · exact eff_other hF1 hc hfc hg hid hw
  unfold doOpW at hr
  split at hr
  · split at hr
    · split at hr
      · split at hr
        · exact (callW_spec h hF (fun id hid => (hW id hid).1) hr).2.2
        · simp [Tree.run] at hr
      · simp [Tree.run] at hr
    · exact plain hr
  · exact plain hr
end
end Go.Eng
end

/- Eng2H -/
section
set_option linter.unusedSimpArgs false
set_option linter.unusedVariables false
namespace Go.Eng
open Tree
section
variable {E : Env} {C : Cx} {st : St} {a : Act} {w w' : World} {μ : Nat → Option Nat} {ops : Array Oper} {fid K : Nat} {L R W : List Nat}

/-- What is asked of those who go on, the new value not yet laid into its slot. -/
def Nxt (P : Program) (C : Cx) (st : St) (a : Act) (dst : Option Nat) (out : Out) (next : Act → World → Prop) (Q : Exit → Act → World → Prop) : Prop :=
  match out with
  | .ok s v => ∀ u w' μ', RelW P C { st with sto := s } a w' μ' → ARel P (Sof C μ' s w') μ' s w' v u → next (a.put dst u) w'
  | .pan v => ∀ a' w', a'.defers = [] → Mem P C [] w' (fun _ => none) → Q (.panic [{ v := v, recovered := false }]) a' w'

theorem acted_nextD {P : Program} {o : Oper} {ef : Eff} {n : Next} {next : Act → World → Prop} {Q : Exit → Act → World → Prop} (hr : (execOp a.eval o).run P w = .ok n w') (hA : Acted P C st a fid ef n w')
    (hg : Nxt P C st a o.dst (.ok (ef.sto fid st.sto) ef.val) next Q) : o.wp P a w next Q := by
  obtain ⟨μ', r, h⟩ := hA
  unfold Oper.wp
  rw [hr]
  rcases h with ⟨v, rfl, hv⟩ | ⟨rfl, hv⟩
  · exact hg v _ μ' r hv
  · exact hg undef _ μ' r (by rw [hv]; trivial)

theorem does_nextD {P : Program} {o : Oper} {f : FuncId} {args : Array Value} {out : Out} {next : Act → World → Prop} {Q : Exit → Act → World → Prop} (hd : a.defers = []) (he : execOp a.eval o = callFunc f args)
    (h : Does P f args w (Behind P C st a out)) (hg : Nxt P C st a o.dst out next Q) : o.wp P a w next Q := by
  unfold Oper.wp
  rw [he]
  rcases h with ⟨v, w', h1, h2⟩ | ⟨h1, h2⟩
  · rw [h1]
    cases out with
    | ok sto av =>
      obtain ⟨μ', r, hv⟩ := h2
      exact hg v _ μ' r hv
    | pan pv => exact h2.elim
  · rw [h1]
    refine h2.mono (fun e w'' hb => ?_)
    cases out with
    | ok sto av =>
      cases e with
      | returned v =>
        obtain ⟨μ', r, hv⟩ := hb
        exact hg v _ μ' r hv
      | panicked chain => exact hb.elim
      | outgrown => exact hb.elim
    | pan pv =>
      cases e with
      | returned v => exact hb.elim
      | panicked chain =>
        obtain ⟨rfl, m⟩ := hb
        exact hg a w'' hd m
      | outgrown => exact hb.elim

theorem doOpW_sound {o : Oper} {out : Out} {next : Act → World → Prop} {Q : Exit → Act → World → Prop} (hE : E.OkAt C) (h : RelW E.P C st a w μ) (hF : FidsOk st.sto fid K) (hF1 : FidOk st.sto fid)
    (hW : ∀ id ∈ W, inF fid K id = false) (hr : (doOpW E fid K st o).run = some (out, W)) (hg : Nxt E.P C st a o.dst out next Q) : o.wp E.P a w next Q := by
  have plain : ((act E.P fid st.sto (opd E.gl st.slots) (opd1 E.gl st.slots) o.op).map fun ef => ((.ok (ef.sto fid st.sto) ef.val, wEff st.sto ef) : Out × List Nat)).run = some (out, W) → o.wp E.P a w next Q := by
    intro hr
    obtain ⟨ef, h1, h2⟩ := map_some hr
    simp only [Prod.mk.injEq] at h2
    obtain ⟨rfl, rfl⟩ := h2
    obtain ⟨n, w', q1, q2⟩ := act_sound hE.2 h hF1 h1
    exact acted_nextD q1 q2 hg
  unfold doOpW at hr
  split at hr
  · rename_i c hop
    split at hr
    · rename_i f hc
      split at hr
      · rename_i g caps hf
        split at hr
        · rename_i fs hfs
          obtain ⟨hr, hk, _⟩ := callW_spec h hF hW hr
          have hv := opd_rel hE.2 h f
          rw [hf] at hv
          obtain ⟨cv, hcv, k1, k2⟩ := hv
          obtain ⟨dst, op, ty, pos, after, guard⟩ := o
          obtain ⟨callee, args, ats⟩ := c
          simp only at hop hc
          subst hop hc
          have he : execOp a.eval { dst := dst, op := .call { callee := .value f, args := args, argTypes := ats }, type := ty, pos := pos, after := after, guard := guard } = callFunc g (args.map a.eval ++ cv) := by
            simp only [execOp, resolve]
            rw [hcv]
            simp [Deferred.ofValue, invoke]
          have hF' : FidsOk st.sto fid (fs.post.objs.length - fs.roots) := by
            rcases hF with hF | hF
            · exact .inl hF
            · exact .inr fun i hi => hF i (by omega)
          refine does_nextD h.defers he (call_sound (hE.1 g fs hfs) hE.2 h hF' ?_ ?_ hr) hg
          · simp [k1]
          · intro i av hi
            rw [List.getElem?_append] at hi
            split at hi
            · rename_i hlt
              rw [List.getElem?_map] at hi
              cases hx : args.toList[i]? with
              | none => rw [hx] at hi; cases hi
              | some x =>
                rw [hx] at hi
                simp only [Option.map_some, Option.some.injEq] at hi; subst hi
                have hx' : args[i]? = some x := by simpa using hx
                have : (args.map a.eval ++ cv).getD i undef = a.eval x := by
                  rw [Array.getD_eq_getD_getElem?, Array.getElem?_append_left (by simpa using hlt)]
                  simp [hx']
                rw [this]; exact opd_rel hE.2 h x
            · rename_i hge
              rw [List.getElem?_map] at hi
              simp only [List.length_map, Array.length_toList] at hi hge
              cases hx : caps[i - args.size]? with
              | none => rw [hx] at hi; cases hi
              | some id =>
                rw [hx] at hi
                simp only [Option.map_some, Option.some.injEq] at hi; subst hi
                obtain ⟨u, q1, q2⟩ := k2 _ _ hx
                have : (args.map a.eval ++ cv).getD i undef = u := by
                  rw [Array.getD_eq_getD_getElem?, Array.getElem?_append_right (by simpa using hge)]
                  simp [q1]
                rw [this]
                show LRel E.P (Sof C μ st.sto w) μ st.sto w (.ptr id 0) u
                simp only [LRel]
                split at q2
                · rename_i ho; simp only [ho]; exact q2
                · rename_i ho; simp only [ho]; exact q2
                · rename_i ho; simp only [ho]
                · exact q2.elim
        · simp [Tree.run] at hr
      · simp [Tree.run] at hr
    · exact plain hr
  · exact plain hr

theorem stepW_sound {o : Oper} {out : Out} {next : Act → World → Prop} {Q : Exit → Act → World → Prop} (hE : E.OkAt C) (h : RelW E.P C st a w μ) (hF : FidsOk st.sto fid K) (hF1 : FidOk st.sto fid)
    (hW : ∀ id ∈ W, inF fid K id = false) (hr : (stepW E ops fid K st o).run = some (out, W)) (hg : Nxt E.P C st a o.dst out next Q) :
    if Region.wanted o (yielded ops a.tmps) then o.wp E.P a w next Q ∨ (o.asks E.P a w ∧ LetsOut Q) else next (a.put o.dst undef) w := by
  have skip : ∀ {out W}, (leaf ((Out.ok st.sto (.tup []), []) : Out × List Nat)).run = some (out, W) → Nxt E.P C st a o.dst out next Q → next (a.put o.dst undef) w := by
    intro out W hr hg
    simp only [Tree.run, Option.some.injEq, Prod.mk.injEq] at hr
    obtain ⟨rfl, rfl⟩ := hr
    exact hg undef w μ h ⟨#[], rfl, rfl, fun i l hi => by simp at hi⟩
  unfold stepW at hr
  unfold Region.wanted
  split at hr
  · rename_i hgd
    simp only [hgd, if_true]
    exact .inl (doOpW_sound hE h hF hF1 hW hr hg)
  · rename_i j want hgd
    simp only [hgd]
    split at hr
    · rename_i d hd
      split at hr
      · rename_i b hs
        have hv : a.tmps.getD d undef = .bool b := lrel_bool.1 (show LRel E.P (Sof C μ st.sto w) μ st.sto w (.val .bool b) (a.tmps.getD d undef) from h.slot d _ hs)
        have hlt : d < a.tmps.size := by rw [h.slots]; exact lt_of_getElem? hs
        have hy : yielded ops a.tmps j = some b := by
          unfold yielded
          rw [hd]
          simp only [Option.bind_some]
          have : a.tmps[d]? = some (.bool b) := by
            rw [Array.getElem?_eq_getElem hlt]
            simpa [Array.getD, hlt] using hv
          rw [this]
        rw [hy]
        by_cases hb : b = want
        · subst hb
          simp only [beq_self_eq_true, if_true] at hr ⊢
          exact .inl (doOpW_sound hE h hF hF1 hW hr hg)
        · have h1 : (b == want) = false := by simpa using hb
          have h2 : (some b == some want) = false := by simpa using hb
          simp only [h1, h2, Bool.false_eq_true, if_false] at hr ⊢
          exact skip hr hg
      · rename_i hs
        obtain ⟨cs, hv, hz, _⟩ := h.slot d _ hs
        have hlt : d < a.tmps.size := by rw [h.slots]; exact lt_of_getElem? hs
        have hy : yielded ops a.tmps j = none := by
          unfold yielded
          rw [hd]
          simp only [Option.bind_some]
          have : a.tmps[d]? = some (.tuple cs) := by
            rw [Array.getElem?_eq_getElem hlt]
            simpa [Array.getD, hlt] using hv
          rw [this]
        rw [hy]
        have h2 : ((none : Option Bool) == some want) = false := rfl
        simp only [h2, Bool.false_eq_true, if_false]
        exact skip hr hg
      · simp [Tree.run] at hr
    · simp [Tree.run] at hr

theorem stepW_kept {o : Oper} {s : List Ob} {v : AV} (hG : GlobOk C E.gl) (h : RelW E.P C st a w μ) (hF : FidsOk st.sto fid K) (hF1 : FidOk st.sto fid) (hK : K ≠ 0 ∨ fid = st.sto.length) (hW : ∀ id ∈ W, inF fid K id = false ∧ id < st.sto.length)
    (hr : (stepW E ops fid K st o).run = some (.ok s v, W)) : KeptBy st.sto fid K W s := by
  have skip : ∀ {s v W}, (leaf ((Out.ok st.sto (.tup []), []) : Out × List Nat)).run = some (.ok s v, W) → KeptBy st.sto fid K W s := by
    intro s v W hr
    simp only [Tree.run, Option.some.injEq, Prod.mk.injEq, Out.ok.injEq] at hr
    obtain ⟨⟨rfl, rfl⟩, rfl⟩ := hr
    exact ⟨fun id o _ ho => ⟨o, ho, Like.refl o⟩, fun id _ _ _ => rfl⟩
  unfold stepW at hr
  split at hr
  · exact doOpW_spec hG h hF hF1 hK hW hr s v rfl
  · split at hr
    · split at hr
      · split at hr
        · exact doOpW_spec hG h hF hF1 hK hW hr s v rfl
        · exact skip hr
      · exact skip hr
      · simp [Tree.run] at hr
    · simp [Tree.run] at hr

/-! ### Checks -/
def upN : Nat → Nat → List Nat
  | 0, _ => []
  | n + 1, k => k :: upN n (k + 1)
theorem upN_mem {i : Nat} : ∀ {n k : Nat}, i ∈ upN n k ↔ k ≤ i ∧ i < k + n
  | 0, k => by simp [upN]
  | n + 1, k => by rw [upN, List.mem_cons, upN_mem (n := n)]; omega
def freeN (sto : List Ob) (k : Nat) : Bool := match sto[k]? with | some .free => true | _ => false
def heldN (sto : List Ob) (k : Nat) : Bool := match sto[k]? with | some .free => false | some _ => true | none => false
theorem freeN_iff {sto : List Ob} {k : Nat} : freeN sto k = true ↔ sto[k]? = some .free := by
  unfold freeN; split <;> simp_all
theorem heldN_iff {sto : List Ob} {k : Nat} : heldN sto k = true ↔ ∃ o, sto[k]? = some o ∧ o ≠ .free := by
  unfold heldN
  split
  · rename_i h; simp [h]
  · rename_i o h1 h2
    simp only [true_iff]
    exact ⟨o, h2, fun e => h1 e⟩
  · rename_i h; simp [h]
/-- May an operation work on these objects, and place new ones there? -/
def partOk (sto : List Ob) (R : List Nat) (fid K : Nat) : Bool :=
  R.all (fun id => !inF fid K id && heldN sto id) && (upN K fid).all (freeN sto) && (Nat.blt 0 K || Nat.beq fid sto.length)
def inV (R : List Nat) (fid K : Nat) (ids : List Nat) : Bool := ids.all fun k => memN k R || inF fid K k
def obOk (R : List Nat) (fid K : Nat) (sm : List Ob) (id : Nat) : Bool := match sm[id]? with | some o => inV R fid K (refsO o) | none => false
def outOk (R W : List Nat) (fid K len : Nat) : Out → Bool
  | .ok sm v => Nat.beq sm.length len && subN W R && R.all (obOk R fid K sm) && (upN K fid).all (obOk R fid K sm) && inV R fid K (refsA v)
  | .pan _ => subN W R

theorem inV_iff {ids : List Nat} : inV R fid K ids = true ↔ ∀ k ∈ ids, k ∈ R ∨ inF fid K k = true := by
  simp [inV, List.all_eq_true, Bool.or_eq_true, memN_iff]

theorem partOk_spec {sto : List Ob} (h : partOk sto R fid K = true) : (∀ id ∈ R, inF fid K id = false ∧ ∃ o, sto[id]? = some o ∧ o ≠ .free) ∧ (∀ id, inF fid K id = true → sto[id]? = some .free) ∧
    (K ≠ 0 ∨ fid = sto.length) := by
  simp only [partOk, Bool.and_eq_true, List.all_eq_true, Bool.not_eq_true', Bool.or_eq_true] at h
  obtain ⟨⟨h1, h2⟩, h3⟩ := h
  refine ⟨fun id hid => ⟨(h1 id hid).1, heldN_iff.1 (h1 id hid).2⟩, fun id hid => freeN_iff.1 (h2 id (upN_mem.2 (inF_iff.1 hid))), ?_⟩
  rcases h3 with h3 | h3
  · left; simp [Nat.blt] at h3; omega
  · right; exact Nat.eq_of_beq_eq_true h3

def PartNxt (P : Program) (C : Cx) (t : St) (dst : Option Nat) (W : List Nat) (fid K : Nat) (next : Act → World → Prop) (Q : Exit → Act → World → Prop) : Out → Prop
  | .ok sm v => ∀ a' w' μ', RelW P C { t with slots := setD t.slots dst v, sto := mergeS W fid K 0 t.sto sm } a' w' μ' → next a' w'
  | .pan v => ∀ a' w', a'.defers = [] → Mem P C [] w' (fun _ => none) → Q (.panic [{ v := v, recovered := false }]) a' w'

/-- What holds behind one operation of a region. -/
theorem part_step {t : St} {o : Oper} {out : Out} {next : Act → World → Prop} {Q : Exit → Act → World → Prop} (hE : E.OkAt C) (h : RelW E.P C t a w μ) (hp : partOk t.sto R fid K = true)
    (hr : (stepW E ops fid K (maskSt L R fid K t) o).run = some (out, W)) (ho : outOk R W fid K t.sto.length out = true)
    (hg : PartNxt E.P C t o.dst W fid K next Q out) :
    if Region.wanted o (yielded ops a.tmps) then o.wp E.P a w next Q ∨ (o.asks E.P a w ∧ LetsOut Q) else next (a.put o.dst undef) w := by
  obtain ⟨hR, hFr, hK⟩ := partOk_spec hp
  have hm := h.mask L hR hFr
  have hlen : (maskSt L R fid K t).sto.length = t.sto.length := maskS_length
  have get : ∀ id o, (inF fid K id = true ∧ o = .free ∨ inF fid K id = false ∧ id ∈ R) → t.sto[id]? = some o → (maskSt L R fid K t).sto[id]? = some o := by
    intro id o hc ho
    show (maskS R fid K 0 t.sto)[id]? = some o
    rw [maskS_get, Nat.zero_add, ho, Option.map_some]
    rcases hc with ⟨q1, rfl⟩ | ⟨q1, q2⟩
    · rw [if_pos q1]
    · rw [if_neg (by rw [q1]; simp), if_pos q2]
  have hF : FidsOk (maskSt L R fid K t).sto fid K := .inr fun i hi => get _ _ (.inl ⟨inF_iff.2 ⟨by omega, by omega⟩, rfl⟩) (hFr _ (inF_iff.2 ⟨by omega, by omega⟩))
  have hF1 : FidOk (maskSt L R fid K t).sto fid := by
    rcases hK with hK | hK
    · rcases hF with hF | hF
      · exact .inl hF
      · exact .inr (by simpa using hF 0 (by omega))
    · exact .inl (by rw [hlen]; exact hK)
  have hsub : ∀ id ∈ W, id ∈ R := by
    cases out with
    | ok sm v =>
      simp only [outOk, Bool.and_eq_true] at ho
      exact subN_iff.1 ho.1.1.1.2
    | pan v => exact subN_iff.1 ho
  have hW : ∀ id ∈ W, inF fid K id = false ∧ id < (maskSt L R fid K t).sto.length := fun id hid => by
    obtain ⟨q1, o, q2, _⟩ := hR id (hsub id hid)
    exact ⟨q1, by rw [hlen]; exact lt_of_getElem? q2⟩
  have hG' : GlobOk (maskCx C μ t w R (h.maskM R)) E.gl := fun g xs hg => h.glob hE.2 hg
  refine stepW_sound ⟨hE.1, hG'⟩ hm hF hF1 (fun id hid => (hW id hid).1) hr ?_
  cases out with
  | pan v =>
    intro a' w' hd m
    refine hg a' w' hd ⟨Nat.le_trans h.size m.size, m.os.trans h.os, m.tape.trans h.tape, m.output.trans h.output, fun b hb hno => ?_, fun id o b ho => by simp at ho, fun id id' o o' b ho => by simp at ho, fun id o ho => by simp at ho, fun b n hc => m.caps b n (h.caps b n hc)⟩
    rw [m.frame b (Nat.lt_of_lt_of_le hb h.size) (fun hmm => ?_)]
    · exact h.frame b hb hno
    · obtain ⟨id, o, _, q2, q3, q4⟩ := hmm
      rcases (h.blk id o b q2 q3 q4).2 with q | q
      · omega
      · exact hno q
  | ok sm v =>
    intro u w' μ' r hv
    have hk := stepW_kept hG' hm hF hF1 (by rw [hlen]; exact hK) hW hr
    simp only [outOk, Bool.and_eq_true, List.all_eq_true] at ho
    obtain ⟨⟨⟨⟨o1, o2⟩, o3⟩, o4⟩, o5⟩ := ho
    have o1 := Nat.eq_of_beq_eq_true o1
    obtain ⟨μ2, r2, lift⟩ := RelW.unmask (L := L) (W := W) (sm := sm) h hR hFr r o1
      (fun id hid o ho => by
        obtain ⟨q1, _⟩ := hR id hid
        exact hk.1 id o q1 (get id o (.inr ⟨q1, hid⟩) ho))
      (fun id hid hw => by
        obtain ⟨q1, o, q2, _⟩ := hR id hid
        have := hk.2 id (by rw [hlen]; exact lt_of_getElem? q2) q1 hw
        rw [this, get id o (.inr ⟨q1, hid⟩) q2, q2]) hsub
      (fun id o hid ho => by
        have : obOk R fid K sm id = true := by
          rcases hid with hid | hid
          · exact o3 id hid
          · exact o4 id (upN_mem.2 (inF_iff.1 hid))
        unfold obOk at this
        rw [ho] at this
        exact inV_iff.1 this)
    exact hg _ w' μ2 (setD_put { t with sto := mergeS W fid K 0 t.sto sm } o.dst v u r2 (lift v u (inV_iff.1 o5) hv))
end
end Go.Eng
end

/- Eng2K -/
section
set_option linter.unusedSimpArgs false
set_option linter.unusedVariables false
namespace Go.Eng
open Tree

/-- A store of which parts are covered up. -/
def Sub (m s : List Ob) : Prop := ∀ id : Nat, m[id]? = s[id]? ∨ m[id]? = some Ob.dead

def pureO : Op → Bool
  | .move _ | .assign _ | .pick _ _ _ | .load _ _ | .nilCheck _ | .binOp _ _ _ _ _ | .unOp _ _ _ | .fieldAddr _ _ _ | .indexAddr _ _ _ | .index _ _ _ | .extract _ _ | .slice _ _ _ _ _ | .build _ _ | .makeFunc _ _ _ => true
  | .call c => match c.callee with
    | .builtin .len | .builtin .min | .builtin .max => true
    | _ => false
  | _ => false

section
variable {P : Program} {m s : List Ob}

theorem alive_mono (hs : Sub m s) {l : Lf} (h : alive m l = true) : alive s l = true := by
  cases l with
  | vec id => simp only [alive] at h ⊢; rcases hs id with e | e <;> rw [e] at h <;> first | exact h | cases h
  | sub id _ _ => simp only [alive] at h ⊢; rcases hs id with e | e <;> rw [e] at h <;> first | exact h | cases h
  | ptr id _ => simp only [alive] at h ⊢; rcases hs id with e | e <;> rw [e] at h <;> first | exact h | cases h
  | eptr id _ _ => simp only [alive] at h ⊢; rcases hs id with e | e <;> rw [e] at h <;> first | exact h | cases h
  | mapr id => simp only [alive] at h ⊢; rcases hs id with e | e <;> rw [e] at h <;> first | exact h | cases h
  | _ => exact h
theorem leavesOf_mono (hs : Sub m s) {v : AV} {ls : List Lf} (h : leavesOf m v = some ls) : leavesOf s v = some ls := by
  unfold leavesOf at h ⊢
  split at h
  · exact h
  · split at h
    · rename_i ha
      simp only [alive_mono hs ha, if_true]
      exact h
    · cases h
  · exact h
  · cases h
theorem fillL_mono (hs : Sub m s) {place : Nat → Option (Nat × Nat)} : ∀ {ps : List (Nat × AV)} {ls r : List Lf}, fillL m place ls ps = some r → fillL s place ls ps = some r
  | [], _, _, h => h
  | (i, av) :: ps, ls, r, h => by
    simp only [fillL] at h ⊢
    split at h
    · cases h
    · split at h
      · rename_i vs hv
        simp only [leavesOf_mono hs hv]
        split at h
        · rename_i hc
          rw [if_pos hc]
          exact fillL_mono hs h
        · cases h
      · cases h
theorem buildL_mono (hs : Sub m s) {t : TypeId} {ps : List (Nat × AV)} {r : AV} (h : (buildL P m t ps).run = some r) : (buildL P s t ps).run = some r := by
  unfold buildL at h ⊢
  repeat' split at h
  all_goals first
    | (simp [Tree.run] at h; done)
    | (rename_i hfs _ pl hpl _ i hi _ z hz hc _ ls hl
       rw [fillL_mono hs hl, if_pos hc]; exact h)
theorem loadL_mono (hs : Sub m s) {t : TypeId} {x : Lf} {r : AV} (h : (loadL P m t x).run = some r) : (loadL P s t x).run = some r := by
  cases x with
  | ptr id off => simp only [loadL] at h ⊢; rcases hs id with e | e <;> rw [e] at h <;> first | exact h | cases h
  | eptr id i off => simp only [loadL] at h ⊢; rcases hs id with e | e <;> rw [e] at h <;> first | exact h | cases h
  | _ => exact h
theorem nilCheckL_mono (hs : Sub m s) {v r : AV} (h : (nilCheckL m v).run = some r) : (nilCheckL s v).run = some r := by
  cases v with
  | one l => cases l with
    | ptr id off => simp only [nilCheckL] at h ⊢; rcases hs id with e | e <;> rw [e] at h <;> first | exact h | cases h
    | eptr id i off => simp only [nilCheckL] at h ⊢; rcases hs id with e | e <;> rw [e] at h <;> first | exact h | cases h
    | val ty z => cases ty <;> exact h
    | _ => exact h
  | _ => exact h
theorem fieldAddrL_mono (hs : Sub m s) {t : TypeId} {f : Nat} {x r : Lf} (h : (fieldAddrL P m t f x).run = some r) : (fieldAddrL P s t f x).run = some r := by
  unfold fieldAddrL at h ⊢
  split at h
  · split at h
    · split at h
      · cases x with
        | ptr id off => dsimp only at h ⊢; rcases hs id with e | e <;> rw [e] at h <;> first | exact h | cases h
        | eptr id i off => dsimp only at h ⊢; rcases hs id with e | e <;> rw [e] at h <;> first | exact h | cases h
        | val ty z => cases ty <;> exact h
        | _ => exact h
      · cases h
    · cases h
  · cases h
theorem indexAddrL_mono (hs : Sub m s) {t : TypeId} {x y r : Lf} (h : (indexAddrL P m t x y).run = some r) : (indexAddrL P s t x y).run = some r := by
  unfold indexAddrL at h ⊢
  split at h
  · split at h
    · cases x with
      | vec id => dsimp only at h ⊢; rcases hs id with e | e <;> rw [e] at h <;> first | exact h | cases h
      | sub id _ _ => dsimp only at h ⊢; rcases hs id with e | e <;> rw [e] at h <;> first | exact h | cases h
      | val ty z => cases ty <;> exact h
      | _ => exact h
    · split at h
      · rename_i id
        rcases hs id with e | e <;> rw [e] at h <;> first | exact h | cases h
      · exact h
      · cases h
    · cases h
  · cases h
theorem lenL_mono (hs : Sub m s) {t : TypeId} {x r : Lf} (h : (lenL P m t x).run = some r) : (lenL P s t x).run = some r := by
  cases x with
  | vec id => simp only [lenL] at h ⊢; rcases hs id with e | e <;> rw [e] at h <;> first | exact h | (cases hu : P.underlying t with | none => rw [hu] at h; cases h | some d => rw [hu] at h; cases d <;> cases h)
  | sub id _ _ => simp only [lenL] at h ⊢; rcases hs id with e | e <;> rw [e] at h <;> first | exact h | (cases hu : P.underlying t with | none => rw [hu] at h; cases h | some d => rw [hu] at h; cases d <;> cases h)
  | val ty z => cases ty <;> exact h
  | _ => exact h
theorem sliceL_mono (hs : Sub m s) {t : TypeId} {x r : Lf} {lo hi mx : Option Lf} (h : (sliceL P m t x lo hi mx).run = some r) : (sliceL P s t x lo hi mx).run = some r := by
  unfold sliceL at h ⊢
  split at h
  · exact h
  · split at h
    · rename_i hm
      rw [if_pos hm]
      split at h
      · rename_i hc
        rw [if_pos hc]
        cases x with
        | vec id => dsimp only at h ⊢; rcases hs id with e | e <;> rw [e] at h <;> first | exact h | cases h
        | val ty z => cases ty <;> exact h
        | _ => exact h
      · cases h
    · rename_i hm
      rw [if_neg hm]
      cases x with
      | vec id => dsimp only at h ⊢; rcases hs id with e | e <;> rw [e] at h <;> first | exact h | cases h
      | sub id _ _ => dsimp only at h ⊢; rcases hs id with e | e <;> rw [e] at h <;> first | exact h | cases h
      | val ty z => cases ty <;> exact h
      | _ => exact h
  · split at h
    · rename_i id
      rcases hs id with e | e <;> rw [e] at h <;> first | exact h | cases h
    · cases h
  · cases h
theorem binL_mono (hs : Sub m s) {op : BinOp} {t : TypeId} {x y r : Lf} (h : (binL P m op t x y).run = some r) : (binL P s op t x y).run = some r := by
  unfold binL at h ⊢
  split at h
  case h_5 id off =>
    rcases hs id with e | e <;> rw [e] at h
    · exact h
    · cases hu : P.underlying t with
      | none => rw [hu] at h; cases h
      | some d => rw [hu] at h; cases d <;> cases h
  all_goals first
    | exact h
    | cases h
theorem binA_mono (hs : Sub m s) {op : BinOp} {t : TypeId} {x y : AV} {r : Lf} (h : (binA P m op t x y).run = some r) : (binA P s op t x y).run = some r := by
  unfold binA at h ⊢
  split at h
  · rename_i hc
    rw [if_pos hc]
    unfold eqAV at h ⊢
    split at h
    · rename_i xs ys hx hy
      rw [leavesOf_mono hs hx, leavesOf_mono hs hy]
      exact h
    · cases h
  · rename_i hc
    rw [if_neg hc]
    split at h
    · exact binL_mono hs h
    · cases h
theorem capsL_mono (hs : Sub m s) : ∀ {ls : List Lf} {ids : List Nat}, capsL m ls = some ids → capsL s ls = some ids
  | [], _, h => h
  | l :: r, ids, h => by
    cases l with
    | ptr id off =>
      simp only [capsL] at h ⊢
      rcases hs id with e | e
      · rw [e] at h
        split at h
        · split at h
          · rename_i h0
            rw [if_pos h0]
            split at h
            · rename_i l hl
              rw [capsL_mono hs hl]; exact h
            · cases h
          · cases h
        · cases h
      · rw [e] at h; cases h
    | _ => simp [capsL] at h
theorem makeFuncL_mono (hs : Sub m s) {fn : Fn} {n : Nat} {ls : List Lf} {r : Lf} (h : (makeFuncL m fn n ls).run = some r) : (makeFuncL s fn n ls).run = some r := by
  unfold makeFuncL at h ⊢
  split at h
  · split at h
    · rename_i l hl
      rw [capsL_mono hs hl]; exact h
    · cases h
  · cases h

theorem act_mono (hs : Sub m s) {op : Op} {fid fid' : Nat} {ρ ρ' : Operand → AV} {ρ1 ρ1' : Operand → Lf} {ef : Eff} (hp : pureO op = true) (h0 : ∀ x ∈ op.operands, ρ x = ρ' x) (h1 : ∀ x ∈ op.operands, ρ1 x = ρ1' x)
    (h : (act P fid m ρ ρ1 op).run = some ef) : (act P fid' s ρ' ρ1' op).run = some ef ∧ ∃ v, ef = valE v := by
  have fin : ∀ {t t' : Tree AV} {ef : Eff}, (∀ r, t.run = some r → t'.run = some r) → (t.map valE).run = some ef → (t'.map valE).run = some ef ∧ ∃ v, ef = valE v := by
    intro t t' ef ht h
    obtain ⟨v, k1, rfl⟩ := map_some h
    rw [run_map, ht v k1]
    exact ⟨rfl, v, rfl⟩
  have finL : ∀ {t t' : Tree Lf} {ef : Eff}, (∀ r, t.run = some r → t'.run = some r) → (t.map lfE).run = some ef → (t'.map lfE).run = some ef ∧ ∃ v, ef = valE v := by
    intro t t' ef ht h
    obtain ⟨v, k1, rfl⟩ := map_some h
    rw [run_map, ht v k1]
    exact ⟨rfl, .one v, rfl⟩
  cases op <;> simp only [pureO, Bool.false_eq_true] at hp <;> simp only [act] at h ⊢
  case move x => rw [h0 x (by simp [Op.operands])] at h; simp only [Tree.run, Option.some.injEq] at h; subst h; exact ⟨rfl, _, rfl⟩
  case assign x => rw [h0 x (by simp [Op.operands])] at h; simp only [Tree.run, Option.some.injEq] at h; subst h; exact ⟨rfl, _, rfl⟩
  case pick c x y =>
    rw [h1 c (by simp [Op.operands]), h0 x (by simp [Op.operands]), h0 y (by simp [Op.operands])] at h
    exact fin (fun _ h => h) h
  case build t ps =>
    have e : (ps.toList.map fun p => (p.1, ρ p.2)) = ps.toList.map fun p => (p.1, ρ' p.2) := List.map_congr_left fun p hp => by
      rw [h0 p.2 (by simp [Op.operands]; exact ⟨p.1, by simpa using hp⟩)]
    rw [e] at h
    exact fin (fun _ h => buildL_mono hs h) h
  case load t x => rw [h1 x (by simp [Op.operands])] at h; exact fin (fun _ h => loadL_mono hs h) h
  case nilCheck x => rw [h0 x (by simp [Op.operands])] at h; exact fin (fun _ h => nilCheckL_mono hs h) h
  case binOp op t x y ty => rw [h0 x (by simp [Op.operands]), h0 y (by simp [Op.operands])] at h; exact finL (fun _ h => binA_mono hs h) h
  case unOp op t x => rw [h1 x (by simp [Op.operands])] at h; exact finL (fun _ h => h) h
  case makeFunc fn first caps =>
    have e : caps.toList.map ρ1 = caps.toList.map ρ1' := List.map_congr_left fun x hx => h1 x (by simp [Op.operands]; exact .inr (by simpa using hx))
    rw [e] at h
    exact finL (fun _ h => makeFuncL_mono hs h) h
  case slice t x lo hi mx =>
    have e : ∀ (o : Option Operand), (∀ y, o = some y → y ∈ (Op.slice t x lo hi mx).operands) → o.map ρ1 = o.map ρ1' := fun o ho => by
      cases o with
      | none => rfl
      | some y => simp only [Option.map_some]; rw [h1 y (ho y rfl)]
    rw [h1 x (by simp [Op.operands]), e lo (fun y hy => by simp [Op.operands, hy]), e hi (fun y hy => by simp [Op.operands, hy]), e mx (fun y hy => by simp [Op.operands, hy])] at h
    exact finL (fun _ h => sliceL_mono hs h) h
  case fieldAddr t x f => rw [h1 x (by simp [Op.operands])] at h; exact finL (fun _ h => fieldAddrL_mono hs h) h
  case indexAddr t x i => rw [h1 x (by simp [Op.operands]), h1 i (by simp [Op.operands])] at h; exact finL (fun _ h => indexAddrL_mono hs h) h
  case index t x i => rw [h1 x (by simp [Op.operands]), h1 i (by simp [Op.operands])] at h; exact finL (fun _ h => h) h
  case extract x i => rw [h0 x (by simp [Op.operands])] at h; exact finL (fun _ h => h) h
  case call c =>
    obtain ⟨callee, args, ats⟩ := c
    cases callee <;> simp only [Bool.false_eq_true] at hp
    rename_i b
    have e : args.toList.map ρ1 = args.toList.map ρ1' := List.map_congr_left fun x hx => h1 x (by simp [Op.operands, Call.operands]; simpa using hx)
    simp only at h ⊢
    rw [e] at h
    generalize args.toList.map ρ1' = xs at h ⊢
    generalize ats.toList = ts at h ⊢
    cases b <;> simp only [Bool.false_eq_true] at hp
    · rcases ts with _ | ⟨t, _ | ⟨t2, ts⟩⟩ <;> rcases xs with _ | ⟨x, _ | ⟨x2, xs⟩⟩ <;> first
        | exact finL (fun _ h => lenL_mono hs h) h
        | (exfalso; revert h; simp [builtinL, Tree.run])
    all_goals
      first
        | exact finL (fun _ h => h) h
        | (simp only [builtinL] at h ⊢; exact finL (fun _ h => h) h)
end

section
variable {E : Env} {C : Cx} {a : Act} {w : World} {μ : Nat → Option Nat} {ops : Array Oper} {fid : Nat} {R W : List Nat}

theorem mask_sub (R : List Nat) (fid : Nat) (sto : List Ob) : Sub (maskS R fid 0 0 sto) sto := by
  intro id
  rw [maskS_get, Nat.zero_add]
  cases hs : sto[id]? with
  | none => exact .inl rfl
  | some o =>
    have hf : ¬ inF fid 0 id = true := fun q => by have := inF_iff.1 q; omega
    simp only [Option.map_some, hf, if_false]
    by_cases hr : id ∈ R
    · rw [if_pos hr]; exact .inl rfl
    · rw [if_neg hr]; exact .inr rfl

theorem opd_mask {gl : Globs} {t : St} {L : List Nat} {x : Operand} (hx : ∀ d, x = .tmp d → d ∈ L) : opd gl (maskL L 0 t.slots) x = opd gl t.slots x := by
  cases x with
  | tmp d =>
    simp only [opd, List.getD, maskL_get, Nat.zero_add, hx d rfl, if_true]
    cases t.slots[d]? <;> rfl
  | _ => rfl

/-- What an operation that changes nothing comes to. -/
theorem pure_out {t : St} {o : Oper} {out : Out} (hp : pureO o.op = true) {m : St} (hr : (stepW E ops fid 0 m o).run = some (out, W)) : W = [] ∧ ∃ v, out = .ok m.sto v := by
  have key : ∀ {out W}, (doOpW E fid 0 m o).run = some (out, W) → W = [] ∧ ∃ v, out = .ok m.sto v := by
    intro out W hr
    have plain : ((act E.P fid m.sto (opd E.gl m.slots) (opd1 E.gl m.slots) o.op).map fun ef => ((.ok (ef.sto fid m.sto) ef.val, wEff m.sto ef) : Out × List Nat)).run = some (out, W) → W = [] ∧ ∃ v, out = .ok m.sto v := by
      intro hr
      obtain ⟨ef, h1, h2⟩ := map_some hr
      obtain ⟨_, v, rfl⟩ := act_mono (s := m.sto) (fid' := fid) (fun id => .inl rfl) hp (fun _ _ => rfl) (fun _ _ => rfl) h1
      simp only [Prod.mk.injEq] at h2
      exact ⟨h2.2, v, h2.1⟩
    unfold doOpW at hr
    split at hr
    · rename_i c hop
      split at hr
      · rename_i f hc
        rw [hop] at hp
        simp [pureO, hc] at hp
      · exact plain hr
    · exact plain hr
  have skip : ∀ {out W}, (leaf ((Out.ok m.sto (.tup []), []) : Out × List Nat)).run = some (out, W) → W = [] ∧ ∃ v, out = .ok m.sto v := by
    intro out W hr
    simp only [Tree.run, Option.some.injEq, Prod.mk.injEq] at hr
    exact ⟨hr.2.symm, _, hr.1.symm⟩
  unfold stepW at hr
  split at hr
  · exact key hr
  · split at hr
    · split at hr
      · split at hr
        · exact key hr
        · exact skip hr
      · exact skip hr
      · simp [Tree.run] at hr
    · simp [Tree.run] at hr

theorem merge_nil {sto sm : List Ob} (h : sm.length = sto.length) : mergeS [] fid 0 0 sto sm = sto := by
  refine List.ext_getElem? fun i => ?_
  rw [mergeS_get h.symm, if_neg]
  rintro (q | q)
  · have := inF_iff.1 q; omega
  · cases q

theorem pure_step {t : St} {o : Oper} {out : Out} {next : Act → World → Prop} {Q : Exit → Act → World → Prop} (hE : E.OkAt C) (h : RelW E.P C t a w μ) (hp : pureO o.op = true)
    (hr : (stepW E ops fid 0 (maskSt (o.looksAt ops) R fid 0 t) o).run = some (out, W)) (hg : PartNxt E.P C t o.dst W fid 0 next Q out) :
    if Region.wanted o (yielded ops a.tmps) then o.wp E.P a w next Q ∨ (o.asks E.P a w ∧ LetsOut Q) else next (a.put o.dst undef) w := by
  obtain ⟨rfl, v0, hout⟩ := pure_out (t := t) hp hr
  have hlen : (maskSt (o.looksAt ops) R fid 0 t).sto.length = t.sto.length := maskS_length
  have hgo : ∀ v, out = .ok (maskSt (o.looksAt ops) R fid 0 t).sto v → ∀ a' w' μ', RelW E.P C { t with slots := setD t.slots o.dst v } a' w' μ' → next a' w' := by
    intro v hv a' w' μ' r
    subst hv
    refine hg a' w' μ' ?_
    rw [merge_nil hlen]; exact r
  have hop : ∀ x ∈ o.op.operands, ∀ d, x = .tmp d → d ∈ o.looksAt ops := by
    intro x hx d hd
    subst hd
    exact List.mem_append_left _ (List.mem_filterMap.2 ⟨.tmp d, by simpa using hx, rfl⟩)
  have doIt : ∀ {out}, (doOpW E fid 0 (maskSt (o.looksAt ops) R fid 0 t) o).run = some (out, []) → (∀ v, out = .ok (maskSt (o.looksAt ops) R fid 0 t).sto v → ∀ a' w' μ', RelW E.P C { t with slots := setD t.slots o.dst v } a' w' μ' → next a' w') → o.wp E.P a w next Q := by
    intro out hr hgo
    have plain : ((act E.P fid (maskSt (o.looksAt ops) R fid 0 t).sto (opd E.gl (maskSt (o.looksAt ops) R fid 0 t).slots) (opd1 E.gl (maskSt (o.looksAt ops) R fid 0 t).slots) o.op).map fun ef =>
        ((.ok (ef.sto fid (maskSt (o.looksAt ops) R fid 0 t).sto) ef.val, wEff (maskSt (o.looksAt ops) R fid 0 t).sto ef) : Out × List Nat)).run = some (out, []) → o.wp E.P a w next Q := by
      intro hr
      obtain ⟨ef, h1, h2⟩ := map_some hr
      obtain ⟨h3, v, rfl⟩ := act_mono (s := t.sto) (fid' := t.sto.length) (ρ' := opd E.gl t.slots) (ρ1' := opd1 E.gl t.slots) (mask_sub R fid t.sto) hp
        (fun x hx => opd_mask (hop x hx)) (fun x hx => by unfold opd1; rw [show (maskSt (o.looksAt ops) R fid 0 t).slots = maskL (o.looksAt ops) 0 t.slots from rfl, opd_mask (hop x hx)]) h1
      simp only [Prod.mk.injEq] at h2
      obtain ⟨n, w', q1, μ', q2, q3⟩ := act_sound hE.2 h (.inl rfl) h3
      have hfin : ∀ u, ARel E.P (Sof C μ' t.sto w') μ' t.sto w' v u → next (a.put o.dst u) w' := fun u hu =>
        hgo v h2.1 _ w' μ' (setD_put t o.dst v u q2 hu)
      unfold Oper.wp
      rw [q1]
      rcases q3 with ⟨u, rfl, hu⟩ | ⟨rfl, hv⟩
      · exact hfin u hu
      · exact hfin undef (by rw [show v = .one .junk from hv]; trivial)
    unfold doOpW at hr
    split at hr
    · rename_i c hop'
      split at hr
      · rename_i f hc
        rw [hop'] at hp
        simp [pureO, hc] at hp
      · exact plain hr
    · exact plain hr
  have skip : ∀ {out W}, (leaf ((Out.ok (maskSt (o.looksAt ops) R fid 0 t).sto (.tup []), []) : Out × List Nat)).run = some (out, W) →
      (∀ v, out = .ok (maskSt (o.looksAt ops) R fid 0 t).sto v → ∀ a' w' μ', RelW E.P C { t with slots := setD t.slots o.dst v } a' w' μ' → next a' w') → next (a.put o.dst undef) w := by
    intro out W hr hgo
    simp only [Tree.run, Option.some.injEq, Prod.mk.injEq] at hr
    exact hgo (.tup []) hr.1.symm _ w μ (setD_put t o.dst (.tup []) undef h ⟨#[], rfl, rfl, fun i l hi => by simp at hi⟩)
  unfold stepW at hr
  unfold Region.wanted
  split at hr
  · rename_i hgd
    simp only [hgd, if_true]
    exact .inl (doIt hr hgo)
  · rename_i j want hgd
    simp only [hgd]
    split at hr
    · rename_i d hd
      have hdL : d ∈ o.looksAt ops := List.mem_append_right _ (by simp [hgd, hd])
      have hsl : (maskSt (o.looksAt ops) R fid 0 t).slots[d]? = t.slots[d]? := by
        show (maskL (o.looksAt ops) 0 t.slots)[d]? = _
        rw [maskL_get, Nat.zero_add]
        simp only [hdL, if_true]
        cases t.slots[d]? <;> rfl
      rw [hsl] at hr
      split at hr
      · rename_i b hs
        have hv : a.tmps.getD d undef = .bool b := lrel_bool.1 (show LRel E.P (Sof C μ t.sto w) μ t.sto w (.val .bool b) (a.tmps.getD d undef) from h.slot d _ hs)
        have hlt : d < a.tmps.size := by rw [h.slots]; exact lt_of_getElem? hs
        have hy : yielded ops a.tmps j = some b := by
          unfold yielded
          rw [hd]
          simp only [Option.bind_some]
          have : a.tmps[d]? = some (.bool b) := by
            rw [Array.getElem?_eq_getElem hlt]
            simpa [Array.getD, hlt] using hv
          rw [this]
        rw [hy]
        by_cases hb : b = want
        · subst hb
          simp only [beq_self_eq_true, if_true] at hr ⊢
          exact .inl (doIt hr hgo)
        · have h1 : (b == want) = false := by simpa using hb
          have h2 : (some b == some want) = false := by simpa using hb
          simp only [h1, h2, Bool.false_eq_true, if_false] at hr ⊢
          exact skip hr hgo
      · rename_i hs
        obtain ⟨cs, hv, hz, _⟩ := h.slot d _ hs
        have hlt : d < a.tmps.size := by rw [h.slots]; exact lt_of_getElem? hs
        have hy : yielded ops a.tmps j = none := by
          unfold yielded
          rw [hd]
          simp only [Option.bind_some]
          have : a.tmps[d]? = some (.tuple cs) := by
            rw [Array.getElem?_eq_getElem hlt]
            simpa [Array.getD, hlt] using hv
          rw [this]
        rw [hy]
        have h2 : ((none : Option Bool) == some want) = false := rfl
        simp only [h2, Bool.false_eq_true, if_false]
        exact skip hr hgo
      · simp [Tree.run] at hr
    · simp [Tree.run] at hr
end
end Go.Eng
end
