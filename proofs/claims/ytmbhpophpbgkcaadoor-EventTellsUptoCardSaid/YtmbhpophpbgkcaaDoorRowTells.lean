/- haulagelaw24.EventTells returns true for every two events, and both read afterwards as they did before. Condition: what the two arguments read as is together of bulk at most 1048576 (the second form); the package variable utf.least holds what the program's text lays. -/
import Derived.Test.YtmbhpophpbgkcaaDoorCards
import Derived.Test.YtmbhpophpbgkcaaDoorTie
import Derived.Test.YtmbhpophpbgkcaaDoorLwT4
import Derived.WalkKit
import Derived.ProofKit
import Derived.OpenShut
import Derived.Deep.DeepHandedRow
import Derived.Lib.LaidTab
import Derived.Below
import Derived.ChangeSame
import Derived.Carry
set_option linter.unusedSimpArgs false
set_option linter.unusedVariables false
namespace Go.Proofs.YtmbhpophpbgkcaaDoor.eventTells
open Go.ChangeShapes Go.WideShapes Go.ChangeAt Go.RowKit Go.Eng

theorem own : ownKnob Tryd.prog.godebug = none := by kernel_rfl
theorem laidOut : laidOutB Tryd.prog = true := by kernel_rfl
theorem gTab : Tryd.prog.globalNamed "haulage/utf.least" = some 0 := by kernel_rfl
theorem gTabType : (Tryd.prog.globals[0]?).map (·.type) = some 159 := by kernel_rfl
theorem cells159 : Tryd.prog.cellsOf 159 = 5 := by kernel_rfl
theorem cells3 : Tryd.prog.cellsOf 3 = 1 := by kernel_rfl
theorem lay24 : layOk Tryd.prog 12 24 tEvent = true := by kernel_rfl
theorem read24 : Tryd.prog.readableRec 24 = true := by kernel_rfl
theorem lt24 : 24 < Tryd.prog.types.size := of_decide_eq_true (by kernel_rfl)

/-- What the row's list gives: the table's cells hold its five numbers. -/
theorem table {W : World} (h : laidMetH Tryd.prog Rows.eventTellsUptoRow.laid W) : Lib.TabIs Tryd.prog W "haulage/utf.least" .i64 [0, 0, 128, 2048, 65536] :=
  Lib.tabIs_of_head (rest := []) gTab gTabType Tryd.underlying159 Tryd.underlying3 cells3 cells159 h
theorem globals {W : World} (h : laidMetH Tryd.prog Rows.eventTellsUptoRow.laid W) : ∀ g xs, (g, xs) ∈ gl → g < W.heap.size ∧ ∀ (i : Nat) (x : Int), xs[i]? = some x → W.cell? ⟨g, i, none⟩ = some (.int .i64 x) ∧ IntKind.i64.min ≤ x ∧ x ≤ IntKind.i64.max := by
  intro g xs hg
  simp only [gl, List.mem_singleton, Prod.mk.injEq] at hg
  obtain ⟨rfl, rfl⟩ := hg
  have ht := table h
  refine ⟨(cell_spot (ht.cell gTab 0 (by decide))).2, fun i x hi => ?_⟩
  have hlt : i < 5 := by
    rcases Nat.lt_or_ge i 5 with q | q
    · exact q
    · rw [List.getElem?_eq_none (by simpa using q)] at hi; cases hi
  have hc := ht.cell gTab i hlt
  rw [List.getD_eq_getElem?_getD, hi] at hc
  refine ⟨hc, ?_⟩
  match i, hlt with
  | 0, _ => cases hi; decide
  | 1, _ => cases hi; decide
  | 2, _ => cases hi; decide
  | 3, _ => cases hi; decide
  | 4, _ => cases hi; decide

theorem bulk_ok {H : Type} : BulkOk (H := H) Rows.uptoBulk Rows.uptoBulkAll where
  one d := by
    cases d with
    | lit l => cases l <;> simp [Rows.uptoBulk]
    | _ => simp [Rows.uptoBulk]
  str l := by simp [Rows.uptoBulk]
  slice es sp := by simp only [Rows.uptoBulk]; omega
  agg ps := by simp [Rows.uptoBulk]
  cons d r := by simp [Rows.uptoBulkAll]

section
variable {H : Type} {enc : TypeId × Value → H} {P : Program}
/-- The row's last step where all that was there is as it was. -/
theorem post_of_below {f : Func} {s : ChangeSpec} {apart fresh handsOn again : Bool} {W W' : World} {args : Array Value} {v : Value} {ds gs : List (DataW H)} {before pa pv : List MemPlace}
    (hW : DataW.Whole enc P f.params.toList s.vars apart W args.toList ds gs before)
    (hres : ∀ (b : Nat) (sp : Nat → Bool) (hd : Bool), DataW.TrodAll enc P W' b sp hd f.resultTypes.toList (v.resultList f.resultTypes.size) (s.fn H (ds ++ gs)).results [])
    (hargs : ∀ sp : Nat → Bool, (∀ p ∈ before, sp p.block = true) → DataW.TrodAll enc P W' 0 sp true f.params.toList args.toList (s.fn H (ds ++ gs)).args pa)
    (hvars : ∀ sp : Nat → Bool, (∀ p ∈ before, sp p.block = true) → DataW.TrodVars enc P W' sp s.vars (s.fn H (ds ++ gs)).vars pv)
    (hps : before = pa ++ pv) (hb : Below W.heap.size W W')
    (hok : ∀ (j : Nat) (t : TypeId) (r : Value), f.resultTypes[j]? = some t → (v.resultList f.resultTypes.size)[j]? = some r → Value.okWide P W' .any 0 t r) :
    s.post enc P f apart fresh handsOn again W args v W' := by
  have hlt : ∀ p ∈ before, p.block < W.heap.size := fun p hp => hW.lt p hp
  have hold : ∀ p ∈ before, (fun b => decide (b < W.heap.size)) p.block = true := fun p hp => by simpa using hlt p hp
  refine ⟨ds, gs, before, [], pa, pv, hW, hres _ _ _, hargs _ hold, hvars _ hold, World.keptBut_mono (fun p hp => ⟨hp, ?_⟩) (hb.frame (· ∈ before)), fun _ => ?_⟩
  · rw [hps, List.mem_append] at hp
    exact Or.inr hp
  · obtain ⟨_, _, _, _, _, hz, hn⟩ := hW
    refine ⟨hok, _, _, ([] ++ pa) ++ pv, ⟨[] ++ pa, pv, trodAll_append (hargs _ (fun _ _ => rfl)) (hres _ _ _), hvars _ (fun _ _ => rfl), rfl, ?_, ?_⟩, ?_⟩
    · intro b off hp
      have hin : MemPlace.cell b off ∈ before := by rw [hps]; simpa using hp
      rw [hb.frozen (hlt _ hin)]
      exact hz b off hin
    · intro ha
      have := hn ha
      rw [hps] at this
      simpa using this
    · intro p hp _
      rw [hps]
      simpa using hp
end

def argsOf (a b : TEvent) : sp_4.pre.ty.El := ((a, (b, ())), ())
def resOf (b : Bool) : Rz sp_4.pan sp_4.post.ty.El := resB b
theorem slots_eq (a b : TEvent) : (sp_4.pre.build (argsOf a b)).slots = [.one (.val tEvent a), .one (.val tEvent b)] := by kernel_rfl
theorem f_eq (a b : TEvent) : sp_4.f (argsOf a b) = fn_4_EventTells a b := by kernel_rfl
theorem gives (a b : TEvent) (wa : wt tEvent a ≤ 1048576) (wb : wt tEvent b ≤ 1048576) : sp_4.f (argsOf a b) = some (resOf true) := (f_eq a b).trans (tells a b wa wb)
theorem res_eq (b : Bool) : toEx sp_4.pan (resOf b) = .ok (resB b) := rfl
theorem out_eq (b : Bool) : (sp_4.post.build (resB b : sp_4.post.ty.El)).slots = [.one (.val .bool b)] := by kernel_rfl
theorem post_true {C : Cx} {e : Ending} {W' : World} (h : Post Tryd.prog C sp_4 (fun _ => none) (toEx sp_4.pan (resOf true)) e W') : e = .returned (.bool true) ∧ ∃ sto μ', Mem Tryd.prog C sto W' μ' := by
  rw [res_eq] at h
  cases e with
  | returned v =>
    obtain ⟨μ', hm, hr, _⟩ := h
    refine ⟨?_, _, μ', hm⟩
    rw [out_eq] at hr
    obtain ⟨cs, h1, h2, h3⟩ := hr
    simp only [Rep, Ty.agg, Bool.false_eq_true, if_false] at h2 h3
    rw [h2] at h3
    rw [← (List.cons.inj h3).1]
  | panicked chain => exact absurd h (fun h => h)
  | _ => exact absurd h (fun h => h)
theorem hasBody : Tryd.f4.body.isSome = true := by kernel_rfl
theorem ownName : (Tryd.f4.name == "runtime.NumGoroutine") = false := by kernel_rfl
theorem noObjs : sp_4.pre.objs = [] := rfl

/-- A world of which the call knows the arguments alone: it hands back 'true', and nothing that was there has turned. -/
theorem told {W : World} {va vb : Value} {a b : TEvent} (hL : laidMetH Tryd.prog Rows.eventTellsUptoRow.laid W) (ha : VRep Tryd.prog (Old W) W tEvent a va) (hb : VRep Tryd.prog (Old W) W tEvent b vb) (wa : wt tEvent a ≤ 1048576) (wb : wt tEvent b ≤ 1048576) :
    Calls Tryd.prog 4 #[va, vb] W fun e W' => e = .returned (.bool true) ∧ Below W.heap.size W W' := by
  have hl : (#[va, vb] : Array Value).size = (sp_4.pre.build (argsOf a b)).slots.length := by rw [slots_eq]; rfl
  have hc := call_of_spec (args := #[va, vb]) s_4 Tryd.func4 hasBody ownName noObjs (globals hL) (gives a b wa wb) hl (fun i av hi => by
    rw [slots_eq] at hi
    match i, hi with
    | 0, hi => cases hi; exact ha
    | 1, hi => cases hi; exact hb
    | i + 2, hi => cases hi)
  refine hc.mono ?_
  rintro e W' ⟨C, h0, hM, hp⟩
  obtain ⟨h1, sto, μ', hm⟩ := post_true hp
  exact ⟨h1, below_of_mem hm h0 hM⟩

set_option maxRecDepth 100000 in
theorem contract (H : Type) (enc : TypeId × Value → H) (W : World) (base : Nat) (args : Array Value) (ds gs : List (DataW H)) (before : List MemPlace)
    (hval : ∀ (j : Nat) t v, Tryd.f4.params[j]? = some t → args[j]? = some v → Value.okWide Tryd.prog W .any base t v)
    (hW : DataW.Whole enc Tryd.prog Tryd.f4.params.toList Rows.eventTellsSpec.vars false W args.toList ds gs before) (hL : laidMetH Tryd.prog Rows.eventTellsUptoRow.laid W)
    (hk : Rows.uptoSmall H (ds ++ gs) = true) :
    Calls Tryd.prog 4 args W fun e W' => ∃ v, e = .returned v ∧ Rows.eventTellsSpec.post enc Tryd.prog Tryd.f4 false true false false W args v W' := by
  have hW' := hW
  obtain ⟨p, q, hA0, hV, rfl, hfz, hnd⟩ := hW
  have hA : DataW.TrodAll enc Tryd.prog W 0 (fun _ => true) true Tryd.f4.params.toList args.toList ds p := hA0
  rw [Tryd.params4] at hA hval
  obtain ⟨v0, v1, d0, d1, p0, p1, rfl, rfl, rfl, h0, h1⟩ := trodAll_two hA
  obtain ⟨rfl, rfl⟩ := trodVars_none hV
  have hb : Rows.uptoBulk d0 + (Rows.uptoBulk d1 + 0) ≤ 1048576 := by
    have := of_decide_eq_true hk
    simpa [Rows.uptoBulkAll] using this
  have hb0 : Rows.uptoBulk d0 ≤ 1048576 := Nat.le_trans (Nat.le_add_right _ _) hb
  have hb1 : Rows.uptoBulk d1 ≤ 1048576 := Nat.le_trans (Nat.le_trans (Nat.le_add_right _ _) (Nat.le_add_left _ _)) hb
  have o0 : Value.okWide Tryd.prog W .any base 24 v0 := hval 0 24 v0 (by simp) (by simp)
  have o1 : Value.okWide Tryd.prog W .any base 24 v1 := hval 1 24 v1 (by simp) (by simp)
  have k0 : Rows.uptoBulk d0 ≤ 4611686018427387904 := Nat.le_trans hb0 (by decide)
  have k1 : Rows.uptoBulk d1 ≤ 4611686018427387904 := Nat.le_trans hb1 (by decide)
  obtain ⟨a, ra, wa⟩ := arg_rep (β := Rows.uptoBulk) (βs := Rows.uptoBulkAll) bulk_ok lay24 o0 h0 k0
  obtain ⟨b, rb, wb⟩ := arg_rep (β := Rows.uptoBulk) (βs := Rows.uptoBulkAll) bulk_ok lay24 o1 h1 k1
  clear hA0
  simp only [List.append_nil] at hW'
  refine (told hL ra rb (Nat.le_trans (Nat.le_of_succ_le wa) hb0) (Nat.le_trans (Nat.le_of_succ_le wb) hb1)).mono fun e W' ⟨he, hbel⟩ => ?_
  subst he
  have hlt : ∀ x ∈ p0 ++ p1, x.block < W.heap.size := fun x hx => hW'.lt x hx
  exact ⟨_, rfl, post_of_below (pa := p0 ++ p1) (pv := []) hW' (fun _ _ _ => trodAll_cons_mk (shut_bool Tryd.underlying4 _) trodAll_mk0)
    (fun sp hs => trodAll_mk2 (WideElems.Trod_stays laidOut read24 lt24 h0 (fun x hx => hbel.same (hlt x (List.mem_append_left _ hx))) (fun x hx => hs x (List.mem_append_left _ hx)))
      (WideElems.Trod_stays laidOut read24 lt24 h1 (fun x hx => hbel.same (hlt x (List.mem_append_right _ hx))) (fun x hx => hs x (List.mem_append_right _ hx))))
    (fun _ _ => rfl) (by simp) hbel (ok_one (by kernel_rfl) rfl (okWide_bool_mk Tryd.underlying4 _))⟩

/-! ### The witness: two empty events -/
noncomputable def laidWorld (os : Os) : World :=
  { World.holding Tryd.prog os ⟨#[], #[], []⟩ with heap := (World.holding Tryd.prog os ⟨#[], #[], []⟩).heap.modify 0 fun
      | .cells _ t frozen => .cells #[.int .i64 0, .int .i64 0, .int .i64 128, .int .i64 2048, .int .i64 65536] t frozen
      | o => o }
def wArgs : Array Value := #[.agg #[.int .i64 0, .slice none 0 0], .agg #[.int .i64 0, .slice none 0 0]]
theorem laid_met (os : Os) : laidMet Tryd.prog Rows.eventTellsUptoRow.laid ((laidWorld os).forCall (fun _ _ => 0) ⟨#[], wArgs, []⟩).memory :=
  laidMet_of_run' 8 (by kernel_rfl) (by kernel_rfl)
theorem reads (os : Os) {H : Type} (enc : TypeId × Value → H) : ∃ places, DataW.whole enc Tryd.prog ((laidWorld os).forCall (fun _ _ => 0) ⟨#[], wArgs, []⟩).memory Tryd.f4.params.toList Rows.eventTellsSpec.vars false wArgs.toList 8 =
    some ([.agg [.lit (.int .i64 0), .nil], .agg [.lit (.int .i64 0), .nil]], [], places) :=
  ⟨[], by kernel_rfl⟩

set_option maxRecDepth 100000 in
theorem liftedUpto (os : Os) (started : os.Started) (H : Type) (enc : TypeId × Value → H) (F : Stop.Interp) :
    ReturnsInHanded {} Tryd.checked os 4 .any ((Rows.OpenSpec.upto Rows.eventTellsSpec).preRow enc Tryd.prog Tryd.f4 Rows.eventTellsUptoRow.domain false Rows.eventTellsUptoRow.laid) (((Rows.OpenSpec.upto Rows.eventTellsSpec).at F).post enc Tryd.prog Tryd.f4 false true false false) := by
  obtain ⟨places, hx⟩ := reads os enc
  refine returnsInHanded_of_row (C := Tryd.checked) (s := Rows.OpenSpec.upto Rows.eventTellsSpec) own started (by kernel_rfl) Tryd.func4
    (witness_row_at (enc := enc) (C := Tryd.checked) false (laidWorld os) wArgs rfl (by kernel_rfl) (by kernel_rfl) (by kernel_rfl)
      (OpenSpec.preRow_of_cond 8 hx (by kernel_rfl) (fun k hk => by cases hk; kernel_rfl) (by kernel_rfl) (laid_met os))) ?_
  intro W base args ds gs before hval hW _ hcond _ hL _ _
  exact contract H enc W base args ds gs before hval hW hL (hcond _ rfl)

theorem saidUpto : Rows.EventTellsUptoSaid :=
  OpenClaim.holds_of_cond 4 Tryd.f4 rfl rfl rfl rfl rfl rfl rfl ⟨rfl, rfl, rfl, rfl, rfl⟩ rfl rfl rfl rfl rfl (by kernel_rfl) Tryd.func4 (by kernel_rfl)
    (of_decide_eq_true (by kernel_rfl)) (by unfold Func.isWrapper; first | (rw [if_pos (by decide +kernel)]; kernel_rfl) | (rw [if_neg (by decide +kernel)]; exact ⟨rfl, rfl⟩))
    (fun os started H enc _ F => by rw [OpenClaim.pre_eq_preRow]; exact liftedUpto os started H enc F)

/-- No parameter wants a stand-in; the program's own looks are off: what the card asks. -/
theorem plain (f : FuncId) (fn : Func) (hf : Tryd.pinned.checked.prog.funcNamed "haulage/haulagelaw24.EventTells" = some f) (hfn : Tryd.pinned.checked.prog.funcs[f]? = some fn) :
    true = Tryd.pinned.checked.prog.looks [] ∧ ∀ (j : Nat) t, fn.params[j]? = some t → Tryd.pinned.checked.prog.wantsStandIn t = false := by
  obtain rfl : f = 4 := Option.some.inj ((show Tryd.prog.funcNamed "haulage/haulagelaw24.EventTells" = some 4 by kernel_rfl).symm.trans hf) |>.symm
  obtain rfl : fn = Tryd.f4 := (Option.some.inj (Tryd.func4.symm.trans hfn)).symm
  refine ⟨by kernel_rfl, fun j t ht => ?_⟩
  rw [Tryd.params4] at ht
  obtain rfl : t = 24 := by simpa using Array.mem_of_getElem? ht
  exact (show Tryd.prog.wantsStandIn 24 = false by kernel_rfl)

theorem proved : Rows.EventTellsUptoCardSaid :=
  Claim7.holds_tied_plain_at .later [] _ _ _ _ saidUpto (fun _ h => by cases h) (by kernel_rfl) (fun _ h => by cases h) eventTellsUpto_row_tie rfl ⟨rfl, rfl⟩ (by kernel_rfl) rfl plain (by kernel_rfl)
end Go.Proofs.YtmbhpophpbgkcaaDoor.eventTells
