/- The engine of these proofs, part 1: how programs of the model are read as functions of data. No condition. -/
import Derived.Below
import Derived.Calls
import Derived.Laws.Closers25b
import Derived.WideLaws
import Derived.Laws.Small
import Derived.Laws.Pointers
import Derived.Laws.StructEq
import Derived.Laws.Shifts
import Derived.Laws.Append
import Derived.Laws.BytesArg
import Derived.Laws.MakeOwn
import Derived.Lib.ConvBytes
/- EngA -/
section
namespace Go.Eng

/-- A node of a tree of keys, as Go lays it: keys, things, kids, a size. -/
inductive Node (α : Type) where
  | nil
  | mk (keys : List (List UInt8)) (list : List α) (kids : List (Node α)) (size : Int)

/-- Kinds of data. 'vec', 'map': owned places alone. 'fn': a pure function value. -/
inductive Ty where
  | int (k : IntKind) | bool | str | unit
  | pair (a b : Ty)
  | slice (t : Ty)
  | arr (n : Nat) (t : Ty)
  | fn (a b : Ty)
  | vec (t : Ty)
  | map (k v : Ty)
  | node (t : Ty)

abbrev Bytes := List UInt8

@[reducible] def Ty.El : Ty → Type
  | .int _ => Int
  | .bool => Bool
  | .str => Bytes
  | .unit => Unit
  | .pair a b => a.El × b.El
  | .slice t => List t.El
  | .arr _ t => List t.El
  | .fn a b => a.El → Option b.El
  | .vec t => List t.El
  | .map k v => List (k.El × v.El)
  | .node t => Node t.El

/-- How many cells a value has. -/
def Ty.size : Ty → Nat
  | .unit => 0
  | .pair a b => a.size + b.size
  | .arr n t => n * t.size
  | _ => 1

/-- Is a value of this kind an aggregate? -/
def Ty.agg : Ty → Bool
  | .unit | .pair _ _ | .arr _ _ => true
  | _ => false

/-- What every world that comes later keeps: the blocks of S. -/
def Ext (S S' : Nat → Prop) (w w' : World) : Prop := ∀ b, S b → b < w.heap.size → S' b ∧ w'.heap[b]? = w.heap[b]?

theorem Ext.refl (S : Nat → Prop) (w : World) : Ext S S w w := fun _ h _ => ⟨h, rfl⟩
theorem lt_of_heap_eq {w w' : World} {b : Nat} (h : w'.heap[b]? = w.heap[b]?) (hb : b < w.heap.size) : b < w'.heap.size := by
  rcases Nat.lt_or_ge b w'.heap.size with h' | h'
  · exact h'
  · rw [Array.getElem?_eq_none h', Array.getElem?_eq_getElem hb] at h; cases h
theorem Ext.trans {S S' S'' : Nat → Prop} {w w' w'' : World} (h : Ext S S' w w') (k : Ext S' S'' w' w'') : Ext S S'' w w'' :=
  fun b hb hlt => by
    obtain ⟨h1, h2⟩ := h b hb hlt
    obtain ⟨k1, k2⟩ := k b h1 (lt_of_heap_eq h2 hlt)
    exact ⟨k1, k2.trans h2⟩

/-- These cells lie in block b from off on. -/
def CellsAt (w : World) (b off : Nat) (cs : List Value) : Prop := ∀ j v, cs[j]? = some v → w.cell? ⟨b, off + j, none⟩ = some v

theorem cell?_ext {w w' : World} {a : Addr} (h : w'.heap[a.block]? = w.heap[a.block]?) : w'.cell? a = w.cell? a := by
  simp only [World.cell?, h]
theorem CellsAt.ext {w w' : World} {b off : Nat} {cs : List Value} (h : CellsAt w b off cs) (he : w'.heap[b]? = w.heap[b]?) : CellsAt w' b off cs :=
  fun j v hj => by rw [cell?_ext (a := ⟨b, off + j, none⟩) he]; exact h j v hj

/-- The results of a call as one value. -/
def packRet : List Value → Value
  | [v] => v
  | vs => .tuple vs.toArray

/-- The world behind a call that writes to nothing that was there. -/
def Quiet (w w' : World) : Prop := Go.RowKit.Below w.heap.size w w'

/-- A row of elements. -/
def RowRep {α : Type} (R : α → List Value → Prop) (sz : Nat) (S : Nat → Prop) (w : World) (xs : List α) (v : Value) : Prop :=
  ∃ a c, v = .slice a xs.length c ∧ xs.length ≤ c ∧ c ≤ 9223372036854775807 ∧
    (xs.length ≠ 0 → ∃ b off, a = some ⟨b, off, none⟩ ∧ S b ∧ b < w.heap.size ∧
      ∀ i (x : α), xs[i]? = some x → ∃ cs, R x cs ∧ cs.length = sz ∧ CellsAt w b (off + i * sz) cs)

def StrRep (x : Bytes) (vs : List Value) : Prop := ∃ b : ByteArray, vs = [.string b] ∧ b.data.toList = x ∧ b.size ≤ 4611686018427387904

/-- A node, of no more than so many storeys. -/
def NodeRep {α : Type} (R : α → List Value → Prop) (sz : Nat) (S : Nat → Prop) (w : World) : Nat → Node α → List Value → Prop
  | 0, _, _ => False
  | _ + 1, .nil, vs => vs = [.pointer none]
  | n + 1, .mk keys list kids size, vs => ∃ b o c0 c1 c2, vs = [.pointer (some ⟨b, o, none⟩)] ∧ S b ∧ b < w.heap.size ∧ CellsAt w b o [c0, c1, c2, .int .i64 size] ∧
      RowRep StrRep 1 S w keys c0 ∧ RowRep R sz S w list c1 ∧ RowRep (NodeRep R sz S w n) 1 S w kids c2 ∧ IntKind.i64.min ≤ size ∧ size ≤ IntKind.i64.max

/-- Data and the cells that hold it ('false'), or the values of a list of arguments ('true'). -/
def Rep (P : Program) : Bool → (t : Ty) → (S : Nat → Prop) → (w : World) → t.El → List Value → Prop
  | false, .int k, _, _, x, vs => vs = [.int k x] ∧ k.min ≤ x ∧ x ≤ k.max
  | false, .bool, _, _, x, vs => vs = [.bool x]
  | false, .str, _, _, x, vs => ∃ b : ByteArray, vs = [.string b] ∧ b.data.toList = x ∧ b.size ≤ 4611686018427387904
  | false, .slice t, S, w, xs, vs => ∃ a c, vs = [.slice a (List.length xs) c] ∧ List.length xs ≤ c ∧ c ≤ 9223372036854775807 ∧
      (List.length xs ≠ 0 → ∃ b off, a = some ⟨b, off, none⟩ ∧ S b ∧ b < w.heap.size ∧
        ∀ i (x : t.El), xs[i]? = some x → ∃ cs, Rep P false t S w x cs ∧ cs.length = t.size ∧ CellsAt w b (off + i * t.size) cs)
  | false, .unit, _, _, _, vs => vs = []
  | false, .pair a b, S, w, x, vs => ∃ c1 c2, vs = c1 ++ c2 ∧ c1.length = a.size ∧ c2.length = b.size ∧ Rep P false a S w x.1 c1 ∧ Rep P false b S w x.2 c2
  | false, .arr n t, S, w, xs, vs => List.length xs = n ∧ vs.length = n * t.size ∧
      ∀ i (x : t.El), xs[i]? = some x → Rep P false t S w x ((vs.drop (i * t.size)).take t.size)
  | false, .fn a b, S, w, g, vs => ∃ f cap, vs = [.func (.func f) #[] cap] ∧
      ∀ S' w', Ext S S' w w' → (∀ k, S' k → k < w'.heap.size) → ∀ x args, Rep P true a S' w' x args → ∀ y, g x = some y →
        Calls P f (args.toArray ++ cap) w' fun e w'' => ∃ rs, e = .returned (packRet rs) ∧ Quiet w' w'' ∧
          Rep P true b (fun k => (S' k ∨ w'.heap.size ≤ k) ∧ k < w''.heap.size) w'' y rs
  | false, .vec _, _, _, _, _ => False
  | false, .map _ _, _, _, _, _ => False
  | false, .node t, S, w, x, vs => ∃ n, NodeRep (fun (y : t.El) cs => Rep P false t S w y cs) t.size S w n x vs
  | true, .unit, _, _, _, vs => vs = []
  | true, .pair a b, S, w, x, vs => ∃ v r, vs = v :: r ∧ (∃ cs, cs.length = a.size ∧ Rep P false a S w x.1 cs ∧ (if a.agg then v = .agg cs.toArray else cs = [v])) ∧ Rep P true b S w x.2 r
  | true, _, _, _, _, _ => False

theorem Rep.length {P : Program} {S : Nat → Prop} {w : World} : ∀ {t : Ty} {x : t.El} {vs : List Value}, Rep P false t S w x vs → vs.length = t.size
  | .int _, _, _, h => by simp only [Rep] at h; simp [h.1, Ty.size]
  | .bool, _, _, h => by simp only [Rep] at h; simp [h, Ty.size]
  | .str, _, _, h => by simp only [Rep] at h; obtain ⟨b, h, _⟩ := h; simp [h, Ty.size]
  | .slice _, _, _, h => by simp only [Rep] at h; obtain ⟨a, c, h, _⟩ := h; simp [h, Ty.size]
  | .unit, _, _, h => by simp only [Rep] at h; simp [h, Ty.size]
  | .pair _ _, _, _, h => by simp only [Rep] at h; obtain ⟨c1, c2, h, h1, h2, _⟩ := h; simp [h, Ty.size, h1, h2]
  | .arr _ _, _, _, h => by simp only [Rep] at h; simp [Ty.size, h.2.1]
  | .fn _ _, _, _, h => by simp only [Rep] at h; obtain ⟨a, c, h, _⟩ := h; simp [h, Ty.size]
  | .vec _, _, _, h => by simp only [Rep] at h
  | .map _ _, _, _, h => by simp only [Rep] at h
  | .node _, x, _, h => by
    simp only [Rep] at h
    obtain ⟨n, h⟩ := h
    cases n with
    | zero => exact h.elim
    | succ n => cases x with
      | nil => simp only [NodeRep] at h; simp [h, Ty.size]
      | mk keys list kids size => simp only [NodeRep] at h; obtain ⟨b, o, c0, c1, c2, h, _⟩ := h; simp [h, Ty.size]

theorem RowRep.ext {α : Type} {R R' : α → List Value → Prop} {sz : Nat} {S S' : Nat → Prop} {w w' : World} (he : Ext S S' w w') (hR : ∀ x cs, R x cs → R' x cs) {xs : List α} {v : Value}
    (h : RowRep R sz S w xs v) : RowRep R' sz S' w' xs v := by
  obtain ⟨a, c, hv, hc, hm, hr⟩ := h
  refine ⟨a, c, hv, hc, hm, fun hn => ?_⟩
  obtain ⟨b, off, ha, hS, hlt, hx⟩ := hr hn
  obtain ⟨hS', hb⟩ := he b hS hlt
  refine ⟨b, off, ha, hS', lt_of_heap_eq hb hlt, fun i y hi => ?_⟩
  obtain ⟨cs, h1, h2, h3⟩ := hx i y hi
  exact ⟨cs, hR _ _ h1, h2, h3.ext hb⟩

theorem NodeRep.ext {α : Type} {R R' : α → List Value → Prop} {sz : Nat} {S S' : Nat → Prop} {w w' : World} (he : Ext S S' w w') (hR : ∀ x cs, R x cs → R' x cs) :
    ∀ {n : Nat} {x : Node α} {vs : List Value}, NodeRep R sz S w n x vs → NodeRep R' sz S' w' n x vs
  | 0, _, _, h => h.elim
  | n + 1, .nil, _, h => h
  | n + 1, .mk keys list kids size, vs, h => by
    simp only [NodeRep] at h ⊢
    obtain ⟨b, o, c0, c1, c2, hv, hS, hlt, hc, h0, h1, h2, h3⟩ := h
    obtain ⟨hS', hb⟩ := he b hS hlt
    exact ⟨b, o, c0, c1, c2, hv, hS', lt_of_heap_eq hb hlt, hc.ext hb, h0.ext he (fun _ _ h => h), h1.ext he hR, h2.ext he (fun _ _ h => NodeRep.ext he hR h), h3⟩

/-! ### A node's content -/
abbrev nodeBody (t : Ty) : Ty := .pair (.slice .str) (.pair (.slice t) (.pair (.slice (.node t)) (.pair (.int .i64) .unit)))
def nodeBox {α : Type} (x : List Bytes × List α × List (Node α) × Int × Unit) : Node α := .mk x.1 x.2.1 x.2.2.1 x.2.2.2.1
def nodeOpen {α : Type} : Node α → Option (List Bytes × List α × List (Node α) × Int × Unit)
  | .nil => none
  | .mk k l c s => some (k, l, c, s, ())
def Node.isNil {α : Type} : Node α → Bool
  | .nil => true
  | _ => false

theorem NodeRep.mono {α : Type} {R : α → List Value → Prop} {sz : Nat} {S : Nat → Prop} {w : World} : ∀ {n m : Nat} {x : Node α} {vs : List Value}, n ≤ m → NodeRep R sz S w n x vs → NodeRep R sz S w m x vs
  | 0, _, _, _, _, h => h.elim
  | n + 1, 0, _, _, hn, _ => by omega
  | n + 1, m + 1, .nil, _, _, h => h
  | n + 1, m + 1, .mk keys list kids size, vs, hn, h => by
    simp only [NodeRep] at h ⊢
    obtain ⟨b, o, c0, c1, c2, hv, hS, hlt, hc, h0, h1, ⟨a, c, h2, h3, h4, h5⟩, h6⟩ := h
    refine ⟨b, o, c0, c1, c2, hv, hS, hlt, hc, h0, h1, ⟨a, c, h2, h3, h4, fun hx => ?_⟩, h6⟩
    obtain ⟨b', off, k1, k2, k3, k4⟩ := h5 hx
    refine ⟨b', off, k1, k2, k3, fun i y hi => ?_⟩
    obtain ⟨cs, q1, q2, q3⟩ := k4 i y hi
    exact ⟨cs, NodeRep.mono (by omega) q1, q2, q3⟩

theorem rep_nil {P : Program} {t : Ty} {S : Nat → Prop} {w : World} {vs : List Value} : Rep P false (.node t) S w (.nil : Node t.El) vs ↔ vs = [.pointer none] := by
  simp only [Rep]
  constructor
  · rintro ⟨n, h⟩; cases n with
    | zero => exact h.elim
    | succ n => exact h
  · intro h; exact ⟨1, h⟩

theorem rep_open {P : Program} {t : Ty} {S : Nat → Prop} {w : World} {x : Node t.El} {y : (nodeBody t).El} {vs : List Value} (ho : nodeOpen x = some y) (h : Rep P false (.node t) S w x vs) :
    ∃ b o cs, vs = [.pointer (some ⟨b, o, none⟩)] ∧ S b ∧ b < w.heap.size ∧ Rep P false (nodeBody t) S w y cs ∧ CellsAt w b o cs := by
  simp only [Rep] at h
  obtain ⟨n, h⟩ := h
  cases n with
  | zero => exact h.elim
  | succ n => cases x with
    | nil => cases ho
    | mk keys list kids size =>
      simp only [nodeOpen, Option.some.injEq] at ho; subst ho
      simp only [NodeRep] at h
      obtain ⟨b, o, c0, c1, c2, hv, hS, hlt, hc, h0, h1, h2, h3, h4⟩ := h
      refine ⟨b, o, _, hv, hS, hlt, ?_, hc⟩
      simp only [Rep]
      refine ⟨[c0], [c1, c2, .int .i64 size], rfl, rfl, rfl, ?_, [c1], [c2, .int .i64 size], rfl, rfl, rfl, ?_, [c2], [.int .i64 size], rfl, rfl, rfl, ?_, [.int .i64 size], [], rfl, rfl, rfl, ⟨rfl, h3, h4⟩, rfl⟩
      · obtain ⟨a, c, rfl, k⟩ := h0
        exact ⟨a, c, rfl, k⟩
      · obtain ⟨a, c, rfl, k⟩ := h1
        exact ⟨a, c, rfl, k⟩
      · obtain ⟨a, c, rfl, k1, k2, k3⟩ := h2
        refine ⟨a, c, rfl, k1, k2, fun hx => ?_⟩
        obtain ⟨b', off, q1, q2, q3, q4⟩ := k3 hx
        refine ⟨b', off, q1, q2, q3, fun i y hi => ?_⟩
        obtain ⟨cs, r1, r2, r3⟩ := q4 i y hi
        exact ⟨cs, ⟨n, r1⟩, r2, r3⟩

theorem bound {α : Type} {p : Nat → α → Prop} (hm : ∀ n m x, n ≤ m → p n x → p m x) : ∀ {l : List α}, (∀ x ∈ l, ∃ n, p n x) → ∃ n, ∀ x ∈ l, p n x
  | [], _ => ⟨0, fun x h => by cases h⟩
  | a :: l, h => by
    obtain ⟨n, hn⟩ := h a (by simp)
    obtain ⟨m, hm'⟩ := bound hm (l := l) (fun x hx => h x (by simp [hx]))
    refine ⟨max n m, fun x hx => ?_⟩
    rcases List.mem_cons.1 hx with rfl | hx
    · exact hm n _ _ (Nat.le_max_left _ _) hn
    · exact hm m _ _ (Nat.le_max_right _ _) (hm' x hx)

theorem rep_box {P : Program} {t : Ty} {S : Nat → Prop} {w : World} {y : (nodeBody t).El} {b o : Nat} {cs : List Value} (hS : S b) (hlt : b < w.heap.size) (h : Rep P false (nodeBody t) S w y cs) (hc : CellsAt w b o cs) :
    Rep P false (.node t) S w (nodeBox y) [.pointer (some ⟨b, o, none⟩)] := by
  obtain ⟨keys, list, kids, size, _⟩ := y
  simp only [Rep] at h
  obtain ⟨_, _, rfl, _, _, ⟨a0, e0, rfl, r0⟩, _, _, rfl, _, _, ⟨a1, e1, rfl, r1⟩, _, _, rfl, _, _, ⟨a2, e2, rfl, r2, r3, r4⟩, _, _, rfl, _, _, ⟨rfl, h3, h4⟩, rfl⟩ := h
  simp only [Rep]
  by_cases hk : kids.length = 0
  · exact ⟨2, b, o, _, _, _, rfl, hS, hlt, hc, ⟨a0, e0, rfl, r0⟩, ⟨a1, e1, rfl, r1⟩, ⟨a2, e2, rfl, r2, r3, fun hx => absurd hk hx⟩, h3, h4⟩
  · obtain ⟨b', off, q1, q2, q3, q4⟩ := r4 hk
    obtain ⟨n, hn⟩ := bound (p := fun n (i : Nat) => ∀ (x : Node t.El), kids[i]? = some x → ∃ cs, NodeRep (fun (y : t.El) cs => Rep P false t S w y cs) t.size S w n x cs ∧ cs.length = 1 ∧ CellsAt w b' (off + i * 1) cs)
      (fun n m i hnm h x hx => let ⟨cs, k1, k2⟩ := h x hx; ⟨cs, k1.mono hnm, k2⟩) (l := List.range kids.length) (fun i hi => by
        rw [List.mem_range] at hi
        obtain ⟨cs, ⟨n, s1⟩, s2, s3⟩ := q4 i _ (List.getElem?_eq_getElem hi)
        exact ⟨n, fun x hx => by rw [List.getElem?_eq_getElem hi] at hx; cases hx; exact ⟨cs, s1, s2, s3⟩⟩)
    refine ⟨n + 1, b, o, _, _, _, rfl, hS, hlt, hc, ⟨a0, e0, rfl, r0⟩, ⟨a1, e1, rfl, r1⟩, ⟨a2, e2, rfl, r2, r3, fun _ => ⟨b', off, q1, q2, q3, fun i x hi => ?_⟩⟩, h3, h4⟩
    have hlt' : i < kids.length := by
      rcases Nat.lt_or_ge i kids.length with h' | h'
      · exact h'
      · rw [List.getElem?_eq_none h'] at hi; cases hi
    exact hn i (List.mem_range.2 hlt') x hi

theorem Rep.ext {P : Program} {S S' : Nat → Prop} {w w' : World} (he : Ext S S' w w') :
    ∀ {m : Bool} {t : Ty} {x : t.El} {vs : List Value}, Rep P m t S w x vs → Rep P m t S' w' x vs := by
  intro m t
  induction t generalizing m with
  | int k => intro x vs h; cases m <;> simp only [Rep] at h ⊢ <;> exact h
  | bool => intro x vs h; cases m <;> simp only [Rep] at h ⊢ <;> exact h
  | str => intro x vs h; cases m <;> simp only [Rep] at h ⊢ <;> exact h
  | unit => intro x vs h; cases m <;> simp only [Rep] at h ⊢ <;> exact h
  | vec t _ => intro x vs h; cases m <;> simp only [Rep] at h
  | map k v _ _ => intro x vs h; cases m <;> simp only [Rep] at h
  | slice t ih =>
    intro x vs h
    cases m
    · simp only [Rep] at h ⊢
      obtain ⟨a, c, hv, hc, hm, hr⟩ := h
      refine ⟨a, c, hv, hc, hm, fun hn => ?_⟩
      obtain ⟨b, off, ha, hS, hlt, hx⟩ := hr hn
      obtain ⟨hS', hb⟩ := he b hS hlt
      refine ⟨b, off, ha, hS', lt_of_heap_eq hb hlt, fun i y hi => ?_⟩
      obtain ⟨cs, h1, h2, h3⟩ := hx i y hi
      exact ⟨cs, ih h1, h2, h3.ext hb⟩
    · simp only [Rep] at h
  | node t ih =>
    intro x vs h
    cases m
    · simp only [Rep] at h ⊢
      obtain ⟨n, h⟩ := h
      exact ⟨n, h.ext he (fun _ _ h => ih h)⟩
    · simp only [Rep] at h
  | pair a b iha ihb =>
    intro x vs h
    cases m
    · simp only [Rep] at h ⊢
      obtain ⟨c1, c2, h0, h1, h2, h3, h4⟩ := h
      exact ⟨c1, c2, h0, h1, h2, iha h3, ihb h4⟩
    · simp only [Rep] at h ⊢
      obtain ⟨v, r, h0, ⟨cs, h1, h2, h3⟩, h4⟩ := h
      exact ⟨v, r, h0, ⟨cs, h1, iha h2, h3⟩, ihb h4⟩
  | arr n t ih =>
    intro x vs h
    cases m
    · simp only [Rep] at h ⊢
      exact ⟨h.1, h.2.1, fun i y hi => ih (h.2.2 i y hi)⟩
    · simp only [Rep] at h
  | fn a b _ _ =>
    intro x vs h
    cases m
    · simp only [Rep] at h ⊢
      obtain ⟨f, cap, hv, hc⟩ := h
      exact ⟨f, cap, hv, fun S2 w2 he2 hS2 => hc S2 w2 (he.trans he2) hS2⟩
    · simp only [Rep] at h
end Go.Eng
end

/- EngB -/
section
namespace Go.Eng

/-! ### Trees of outcomes: what a stretch of code may come to -/
inductive Tree (α : Type) : Type 1 where
  | leaf (a : α)
  | fail
  | ite (b : Bool) (t e : Tree α)
  | opt {β : Type} (o : Option β) (k : β → Tree α)
  | cas {ε β : Type} (o : Except ε β) (e : ε → Tree α) (k : β → Tree α)
/-- Of two ways out: what was right, or what was wrong. -/
def exM {ε β α : Type} (o : Except ε β) (e : ε → Option α) (k : β → Option α) : Option α := match o with | .ok x => k x | .error v => e v
theorem exM_ok {ε β α : Type} (x : β) (e : ε → Option α) (k : β → Option α) : exM (.ok x) e k = k x := rfl
theorem exM_error {ε β α : Type} (v : ε) (e : ε → Option α) (k : β → Option α) : exM (.error v) e k = e v := rfl
namespace Tree
def bind {α β : Type} : Tree α → (α → Tree β) → Tree β
  | .leaf a, f => f a
  | .fail, _ => .fail
  | .ite b t e, f => .ite b (t.bind f) (e.bind f)
  | .opt o k, f => .opt o fun x => (k x).bind f
  | .cas o e k, f => .cas o (fun v => (e v).bind f) fun x => (k x).bind f
def run {α : Type} : Tree α → Option α
  | .leaf a => some a
  | .fail => none
  | .ite b t e => if b = true then t.run else e.run
  | .opt o k => o.bind fun x => (k x).run
  | .cas o e k => exM o (fun v => (e v).run) fun x => (k x).run
theorem run_bind {α β : Type} (t : Tree α) (f : α → Tree β) : (t.bind f).run = t.run.bind fun x => (f x).run := by
  induction t with
  | leaf a => rfl
  | fail => rfl
  | ite b t e iht ihe => cases b <;> simp [bind, run, iht, ihe]
  | opt o k ih => cases o <;> simp [bind, run, ih]
  | cas o e k ihe ihk => cases o <;> simp [bind, run, exM, ihe, ihk]
/-- A grd: on, or fail. -/
def grd {α : Type} (b : Bool) (t : Tree α) : Tree α := .ite b t .fail
theorem run_grd {α : Type} {b : Bool} {t : Tree α} {x : α} (h : (grd b t).run = some x) : b = true ∧ t.run = some x := by
  cases b <;> simp [grd, run] at h ⊢; exact h
def map {α β : Type} (f : α → β) (t : Tree α) : Tree β := t.bind fun a => .leaf (f a)
theorem run_map {α β : Type} (f : α → β) (t : Tree α) : (t.map f).run = t.run.map f := by
  rw [map, run_bind]; cases t.run <;> rfl
end Tree

/-! ### Leaves, objects, states -/
inductive Lf where
  | junk
  | val (t : Ty) (x : t.El)
  | nilp
  | nils (t : Ty)
  | vec (id : Nat)
  | sub (id off len : Nat)
  | ptr (id off : Nat)
  | eptr (id i off : Nat)
  | pbox (t : Ty) (x : t.El) (off : Nat)
  | clo (f : FuncId) (caps : List Nat)
  | mapr (id : Nat)

/-- A slot's content: one leaf, an aggregate's cells, a call's results. -/
inductive AV where
  | one (l : Lf)
  | agg (ls : List Lf)
  | tup (ls : List Lf)

inductive Ob where
  | free
  | dead
  | var (ls : List Lf)
  | arr (t : Ty) (xs : List t.El)
  | fro (t : Ty) (xs : List t.El)
  | frv (t : Ty) (x : t.El)
  | mp (k v : Ty) (es : List (k.El × v.El))

def Ob.mut : Ob → Bool
  | .var _ | .arr _ _ | .mp _ _ _ => true
  | _ => false

structure St where
  slots : List AV
  sto : List Ob
  rts : List Nat := []
  known : List Nat := []

/-- What stays fixed through a call: the world as it was, the blocks that only were read, the blocks that may be written. -/
structure Cx where
  w0 : World
  S0 : Nat → Prop
  M0 : Nat → Prop
  hS : ∀ b, S0 b → b < w0.heap.size
  hM : ∀ b, M0 b → b < w0.heap.size ∧ ¬ S0 b
  pin : List (Option Nat) := []

/-- Package-level arrays of whole numbers that nobody writes to. -/
abbrev Globs := List (Nat × List Int)
def GlobOk (C : Cx) (gl : Globs) : Prop := ∀ g xs, (g, xs) ∈ gl → C.S0 g ∧ ∀ (i : Nat) (x : Int), xs[i]? = some x → C.w0.cell? ⟨g, i, none⟩ = some (.int .i64 x) ∧ IntKind.i64.min ≤ x ∧ x ≤ IntKind.i64.max

/-- The blocks that nobody writes to any more. -/
def Sof (C : Cx) (μ : Nat → Option Nat) (sto : List Ob) (w : World) (b : Nat) : Prop :=
  b < w.heap.size ∧ (C.S0 b ∨ C.M0 b ∨ C.w0.heap.size ≤ b) ∧ ∀ id o, sto[id]? = some o → o.mut = true → μ id ≠ some b

/-- Block b has at least n cells. -/
def CapAt (w : World) (b n : Nat) : Prop := ∃ cs e fz, w.heap[b]? = some (.cells cs e fz) ∧ n ≤ cs.size

/-- Data as one value. -/
def VRep (P : Program) (S : Nat → Prop) (w : World) (t : Ty) (x : t.El) (v : Value) : Prop :=
  ∃ cs, cs.length = t.size ∧ Rep P false t S w x cs ∧ (if t.agg then v = .agg cs.toArray else cs = [v])

theorem VRep.ext {P : Program} {S S' : Nat → Prop} {w w' : World} {t : Ty} {x : t.El} {v : Value} (he : Ext S S' w w') (h : VRep P S w t x v) : VRep P S' w' t x v := by
  obtain ⟨cs, h1, h2, h3⟩ := h
  exact ⟨cs, h1, h2.ext he, h3⟩

/-- A leaf and the value that it stands for. -/
def LRel (P : Program) (S : Nat → Prop) (μ : Nat → Option Nat) (sto : List Ob) (w : World) : Lf → Value → Prop
  | .junk, _ => True
  | .val t x, v => VRep P S w t x v
  | .nilp, v => v = .pointer none
  | .nils _, v => ∃ a, v = .slice a 0 0
  | .vec id, v => match sto[id]? with
    | some (.arr t xs) | some (.fro t xs) => (μ id = none ∧ List.length xs = 0 ∧ ∃ a, v = .slice a 0 0) ∨
        ∃ b c, μ id = some b ∧ v = .slice (some ⟨b, 0, none⟩) (List.length xs) c ∧ List.length xs ≤ c ∧ c ≤ 9223372036854775807 ∧ CapAt w b (c * t.size)
    | some .dead => True
    | _ => False
  | .sub id off len, v => match sto[id]? with
    | some (.arr t xs) | some (.fro t xs) => off + len ≤ List.length xs ∧ ∃ a c, v = .slice a len c ∧ len ≤ c ∧ List.length xs ≤ off + c ∧ c ≤ 9223372036854775807 ∧
        (c ≠ 0 → ∃ b, μ id = some b ∧ a = some ⟨b, off * t.size, none⟩ ∧ CapAt w b ((off + c) * t.size))
    | some .dead => True
    | _ => False
  | .ptr id off, v => match sto[id]? with
    | some (.var _) | some (.frv _ _) => ∃ b, μ id = some b ∧ v = .pointer (some ⟨b, off, none⟩)
    | some (.arr t xs) | some (.fro t xs) => ∃ b, μ id = some b ∧ v = .pointer (some ⟨b, off, none⟩) ∧ List.length xs ≤ 9223372036854775807 ∧ CapAt w b (List.length xs * t.size)
    | some .dead => True
    | _ => False
  | .eptr id i off, v => match sto[id]? with
    | some (.arr t xs) | some (.fro t xs) => i < List.length xs ∧ ∃ b, μ id = some b ∧ v = .pointer (some ⟨b, i * t.size + off, none⟩)
    | some .dead => True
    | _ => False
  | .pbox t x off, v => ∃ b o cs, v = .pointer (some ⟨b, o + off, none⟩) ∧ S b ∧ b < w.heap.size ∧ Rep P false t S w x cs ∧ CellsAt w b o cs
  | .clo f caps, v => ∃ cv : Array Value, v = .func (.func f) #[] cv ∧ cv.size = caps.length ∧
      ∀ (i id : Nat), caps[i]? = some id → ∃ u, cv[i]? = some u ∧ match sto[id]? with
        | some (.var _) | some (.frv _ _) => ∃ b, μ id = some b ∧ u = .pointer (some ⟨b, 0, none⟩)
        | some .dead => True
        | _ => False
  | .mapr id, v => match sto[id]? with
    | some (.mp _ _ _) => ∃ b, μ id = some b ∧ v = .map (some b)
    | some .dead => True
    | _ => False

/-- A cell's value is no aggregate. -/
def Value.single : Value → Bool
  | .agg _ | .tuple _ => false
  | _ => true

def ARel (P : Program) (S : Nat → Prop) (μ : Nat → Option Nat) (sto : List Ob) (w : World) : AV → Value → Prop
  | .one l, v => LRel P S μ sto w l v
  | .agg ls, v => ∃ cs : Array Value, v = .agg cs ∧ cs.size = ls.length ∧ ∀ (i : Nat) (l : Lf), ls[i]? = some l → ∃ u, cs[i]? = some u ∧ Value.single u = true ∧ LRel P S μ sto w l u
  | .tup ls, v => ∃ cs : Array Value, v = .tuple cs ∧ cs.size = ls.length ∧ ∀ (i : Nat) (l : Lf), ls[i]? = some l → ∃ u, cs[i]? = some u ∧ LRel P S μ sto w l u

/-- No cell of the first n is frozen. -/
def Unfrozen (fz : Nat × Nat) (n : Nat) : Prop := ∀ i, i < n → ¬ (fz.1 ≤ i ∧ i < fz.2)

/-- The elements lie in the cells, one behind the other. -/
def ArrAt (P : Program) (S : Nat → Prop) (w : World) (t : Ty) (xs : List t.El) (cs : Array Value) : Prop :=
  List.length xs ≤ 9223372036854775807 ∧ List.length xs * t.size ≤ cs.size ∧
    ∀ i (x : t.El), xs[i]? = some x → ∃ es, Rep P false t S w x es ∧ ∀ j v, es[j]? = some v → cs[i * t.size + j]? = some v

/-- The entries of a map, in order. -/
def EntRel (P : Program) (S : Nat → Prop) (w : World) (k v : Ty) (es : List (k.El × v.El)) (cs : Array MapEntry) : Prop :=
  cs.size = es.length ∧ ∀ (i : Nat) (p : k.El × v.El), es[i]? = some p → ∃ e : MapEntry, cs[i]? = some e ∧ VRep P S w k p.1 e.key ∧ VRep P S w v p.2 e.val

def ORel (P : Program) (S : Nat → Prop) (μ : Nat → Option Nat) (sto : List Ob) (w : World) (id : Nat) : Ob → Prop
  | .free | .dead => True
  | .var ls => ∃ b cs e fz, μ id = some b ∧ w.heap[b]? = some (.cells cs e fz) ∧ Unfrozen fz cs.size ∧ cs.size = ls.length ∧
      ∀ (i : Nat) (l : Lf), ls[i]? = some l → ∃ u, cs[i]? = some u ∧ Value.single u = true ∧ LRel P S μ sto w l u
  | .arr t xs => (μ id = none ∧ List.length xs = 0) ∨ ∃ b cs e fz, μ id = some b ∧ w.heap[b]? = some (.cells cs e fz) ∧ Unfrozen fz cs.size ∧ ArrAt P S w t xs cs
  | .fro t xs => (μ id = none ∧ List.length xs = 0) ∨ ∃ b cs e fz, μ id = some b ∧ S b ∧ w.heap[b]? = some (.cells cs e fz) ∧ ArrAt P S w t xs cs
  | .frv t x => ∃ b cs e fz es, μ id = some b ∧ S b ∧ w.heap[b]? = some (.cells cs e fz) ∧ Rep P false t S w x es ∧ CellsAt w b 0 es
  | .mp k v es => ∃ b cs clock, μ id = some b ∧ w.heap[b]? = some (.map cs clock) ∧ EntRel P S w k v es cs

structure RelW (P : Program) (C : Cx) (st : St) (a : Act) (w : World) (μ : Nat → Option Nat) : Prop where
  size : C.w0.heap.size ≤ w.heap.size
  os : w.os = C.w0.os
  tape : w.tape = C.w0.tape
  output : w.output = C.w0.output
  frame : ∀ b, b < C.w0.heap.size → ¬ C.M0 b → w.heap[b]? = C.w0.heap[b]?
  blk : ∀ id o b, st.sto[id]? = some o → o.mut = true → μ id = some b → b < w.heap.size ∧ (C.w0.heap.size ≤ b ∨ C.M0 b)
  inj : ∀ id id' o o' b, st.sto[id]? = some o → st.sto[id']? = some o' → o.mut = true → o'.mut = true → μ id = some b → μ id' = some b → id = id'
  obj : ∀ id o, st.sto[id]? = some o → ORel P (Sof C μ st.sto w) μ st.sto w id o
  slots : a.tmps.size = st.slots.length
  slot : ∀ i v, st.slots[i]? = some v → ARel P (Sof C μ st.sto w) μ st.sto w v (a.tmps.getD i undef)
  defers : a.defers = []
  root : ∀ (k id : Nat), st.rts[k]? = some id → ∃ o, st.sto[id]? = some o ∧ o ≠ .free ∧ (o = .dead ∨ C.pin[k]? = some (μ id))
  caps : ∀ b n, CapAt C.w0 b n → CapAt w b n

def Rel (P : Program) (C : Cx) (st : St) (a : Act) (w : World) : Prop := ∃ μ, RelW P C st a w μ

theorem RelW.known {P : Program} {C : Cx} {st : St} {a : Act} {w : World} {μ : Nat → Option Nat} (h : RelW P C st a w μ) (k : List Nat) : RelW P C { st with known := k } a w μ :=
  ⟨h.size, h.os, h.tape, h.output, h.frame, h.blk, h.inj, h.obj, h.slots, h.slot, h.defers, h.root, h.caps⟩
theorem RelW.glob {P : Program} {C : Cx} {st : St} {a : Act} {w : World} {μ : Nat → Option Nat} {gl : Globs} (h : RelW P C st a w μ) (hG : GlobOk C gl) {g : Nat} {xs : List Int} (hg : (g, xs) ∈ gl) :
    Sof C μ st.sto w g ∧ ∀ (i : Nat) (x : Int), xs[i]? = some x → w.cell? ⟨g, i, none⟩ = some (.int .i64 x) ∧ IntKind.i64.min ≤ x ∧ x ≤ IntKind.i64.max := by
  obtain ⟨h1, h2⟩ := hG g xs hg
  have hlt := C.hS g h1
  have hM : ¬ C.M0 g := fun q => (C.hM g q).2 h1
  have he := h.frame g hlt hM
  refine ⟨⟨Nat.lt_of_lt_of_le hlt h.size, .inl h1, fun id o ho hm hid => ?_⟩, fun i x hi => ?_⟩
  · rcases (h.blk id o g ho hm hid).2 with q | q
    · omega
    · exact hM q
  · rw [cell?_ext (a := ⟨g, i, none⟩) he]; exact h2 i x hi

/-! ### What is kept when the world and the objects move on -/
/-- Alike enough for whoever points there. -/
def Like : Ob → Ob → Prop
  | .dead, .dead => True
  | .free, _ => True
  | .var _, .var _ => True
  | .var _, .frv _ _ => True
  | .frv _ _, .frv _ _ => True
  | .arr t xs, .arr t' xs' => t = t' ∧ List.length xs = List.length xs'
  | .arr t xs, .fro t' xs' => t = t' ∧ List.length xs = List.length xs'
  | .fro t xs, .fro t' xs' => t = t' ∧ List.length xs = List.length xs'
  | .mp _ _ _, .mp _ _ _ => True
  | _, .dead => True
  | _, _ => False

structure Keeps (S S' : Nat → Prop) (μ μ' : Nat → Option Nat) (sto sto' : List Ob) (w w' : World) : Prop where
  ext : Ext S S' w w'
  like : ∀ id o, sto[id]? = some o → ∃ o', sto'[id]? = some o' ∧ Like o o' ∧ (o = .free ∨ o' = .dead ∨ (μ' id = μ id ∧ ∀ b n, μ id = some b → CapAt w b n → CapAt w' b n))

end Go.Eng
end

/- EngC -/
section
namespace Go.Eng
variable {P : Program} {S S' : Nat → Prop} {μ μ' : Nat → Option Nat} {sto sto' : List Ob} {w w' : World}

theorem LRel.keeps (hk : Keeps S S' μ μ' sto sto' w w') {l : Lf} {v : Value} (h : LRel P S μ sto w l v) : LRel P S' μ' sto' w' l v := by
  cases l with
  | junk => trivial
  | val t x => exact VRep.ext hk.ext h
  | nilp => exact h
  | nils t => exact h
  | vec id =>
    simp only [LRel] at h ⊢
    cases ho : sto[id]? with
    | none => simp [ho] at h
    | some o =>
      obtain ⟨o', ho', hl, hc⟩ := hk.like id o ho
      rw [ho']
      cases o <;> cases o' <;> simp only [ho, Like] at h hl ⊢ <;> first | exact h.elim | trivial | skip
      all_goals
        obtain ⟨rfl, hlen⟩ := hl
        simp only [reduceCtorEq, false_or] at hc
        rcases h with ⟨h1, h0, h2⟩ | ⟨b, c, h1, h2, h3, h4, h5⟩
        · exact .inl ⟨hc.1.trans h1, by omega, h2⟩
        · exact .inr ⟨b, c, hc.1.trans h1, by rw [← hlen]; exact h2, by omega, h4, hc.2 _ _ h1 h5⟩
  | sub id off len =>
    simp only [LRel] at h ⊢
    cases ho : sto[id]? with
    | none => simp [ho] at h
    | some o =>
      obtain ⟨o', ho', hl, hc⟩ := hk.like id o ho
      rw [ho']
      cases o <;> cases o' <;> simp only [ho, Like] at h hl ⊢ <;> first | exact h.elim | trivial | skip
      all_goals
        obtain ⟨rfl, hlen⟩ := hl
        simp only [reduceCtorEq, false_or] at hc
        obtain ⟨h0, a, c, h1, h2, h5, h3, h4⟩ := h
        refine ⟨by omega, a, c, h1, h2, by omega, h3, fun hn => ?_⟩
        obtain ⟨b, k1, k2, k3⟩ := h4 hn
        exact ⟨b, hc.1.trans k1, k2, hc.2 _ _ k1 k3⟩
  | ptr id off =>
    simp only [LRel] at h ⊢
    cases ho : sto[id]? with
    | none => simp [ho] at h
    | some o =>
      obtain ⟨o', ho', hl, hc⟩ := hk.like id o ho
      rw [ho']
      cases o <;> cases o' <;> simp only [ho, Like] at h hl ⊢ <;> first | exact h.elim | trivial | skip
      all_goals try
        (simp only [reduceCtorEq, false_or] at hc
         obtain ⟨b, h1, h2⟩ := h
         exact ⟨b, hc.1.trans h1, h2⟩)
      all_goals
        obtain ⟨rfl, hlen⟩ := hl
        simp only [reduceCtorEq, false_or] at hc
        obtain ⟨b, h1, h2, h3, h4⟩ := h
        rw [hlen] at h3 h4
        exact ⟨b, hc.1.trans h1, h2, h3, hc.2 _ _ h1 h4⟩
  | eptr id i off =>
    simp only [LRel] at h ⊢
    cases ho : sto[id]? with
    | none => simp [ho] at h
    | some o =>
      obtain ⟨o', ho', hl, hc⟩ := hk.like id o ho
      rw [ho']
      cases o <;> cases o' <;> simp only [ho, Like] at h hl ⊢ <;> first | exact h.elim | trivial | skip
      all_goals
        obtain ⟨rfl, hlen⟩ := hl
        simp only [reduceCtorEq, false_or] at hc
        obtain ⟨h0, b, h1, h2⟩ := h
        exact ⟨by omega, b, hc.1.trans h1, h2⟩
  | pbox t x off =>
    simp only [LRel] at h ⊢
    obtain ⟨b, o, cs, h1, h2, h3, h4, h5⟩ := h
    obtain ⟨k1, k2⟩ := hk.ext b h2 h3
    exact ⟨b, o, cs, h1, k1, lt_of_heap_eq k2 h3, h4.ext hk.ext, h5.ext k2⟩
  | clo f caps =>
    simp only [LRel] at h ⊢
    obtain ⟨cv, h1, h2, h3⟩ := h
    refine ⟨cv, h1, h2, fun i id hi => ?_⟩
    obtain ⟨u, hu, h4⟩ := h3 i id hi
    refine ⟨u, hu, ?_⟩
    cases ho : sto[id]? with
    | none => simp [ho] at h4
    | some o =>
      obtain ⟨o', ho', hl, hc⟩ := hk.like id o ho
      rw [ho']
      cases o <;> cases o' <;> simp only [ho, Like] at h4 hl ⊢ <;> first | exact h4.elim | trivial | skip
      all_goals
        simp only [reduceCtorEq, false_or] at hc
        obtain ⟨b, k1, k2⟩ := h4
        exact ⟨b, hc.1.trans k1, k2⟩
  | mapr id =>
    simp only [LRel] at h ⊢
    cases ho : sto[id]? with
    | none => simp [ho] at h
    | some o =>
      obtain ⟨o', ho', hl, hc⟩ := hk.like id o ho
      rw [ho']
      cases o <;> cases o' <;> simp only [ho, Like] at h hl ⊢ <;> first | exact h.elim | trivial | skip
      all_goals
        simp only [reduceCtorEq, false_or] at hc
        obtain ⟨b, h1, h2⟩ := h
        exact ⟨b, hc.1.trans h1, h2⟩

theorem ARel.keeps (hk : Keeps S S' μ μ' sto sto' w w') {l : AV} {v : Value} (h : ARel P S μ sto w l v) : ARel P S' μ' sto' w' l v := by
  cases l with
  | one l => exact LRel.keeps hk h
  | agg ls =>
    obtain ⟨cs, h1, h2, h3⟩ := h
    exact ⟨cs, h1, h2, fun i l hi => let ⟨u, k1, k2, k3⟩ := h3 i l hi; ⟨u, k1, k2, k3.keeps hk⟩⟩
  | tup ls =>
    obtain ⟨cs, h1, h2, h3⟩ := h
    exact ⟨cs, h1, h2, fun i l hi => let ⟨u, k1, k2⟩ := h3 i l hi; ⟨u, k1, k2.keeps hk⟩⟩

theorem ArrAt.ext {t : Ty} {xs : List t.El} {cs : Array Value} (he : Ext S S' w w') (h : ArrAt P S w t xs cs) : ArrAt P S' w' t xs cs :=
  ⟨h.1, h.2.1, fun i x hi => let ⟨es, k1, k2⟩ := h.2.2 i x hi; ⟨es, k1.ext he, k2⟩⟩

theorem EntRel.ext {k v : Ty} {es : List (k.El × v.El)} {cs : Array MapEntry} (he : Ext S S' w w') (h : EntRel P S w k v es cs) : EntRel P S' w' k v es cs :=
  ⟨h.1, fun i p hi => let ⟨e, k1, k2, k3⟩ := h.2 i p hi; ⟨e, k1, k2.ext he, k3.ext he⟩⟩

/-- An object whose own block is as it was. -/
theorem ORel.keeps (hk : Keeps S S' μ μ' sto sto' w w') {id : Nat} {o : Ob} (hμ : o.mut = true → μ' id = μ id) (hf : ((∃ t xs, o = .fro t xs) ∨ ∃ t x, o = .frv t x) → μ' id = μ id)
    (hb : ∀ b, μ id = some b → o.mut = true → w'.heap[b]? = w.heap[b]?) (hlt : ∀ b cs e fz, w.heap[b]? = some (Obj.cells cs e fz) → b < w.heap.size)
    (h : ORel P S μ sto w id o) : ORel P S' μ' sto' w' id o := by
  cases o with
  | free => trivial
  | dead => trivial
  | var ls =>
    obtain ⟨b, cs, e, fz, h1, h2, h3, h4, h5⟩ := h
    exact ⟨b, cs, e, fz, (hμ rfl).trans h1, (hb b h1 rfl).trans h2, h3, h4, fun i l hi => let ⟨u, k1, k2, k3⟩ := h5 i l hi; ⟨u, k1, k2, k3.keeps hk⟩⟩
  | arr t xs =>
    rcases h with ⟨h1, h2⟩ | ⟨b, cs, e, fz, h1, h2, h3, h4⟩
    · exact .inl ⟨(hμ rfl).trans h1, h2⟩
    · exact .inr ⟨b, cs, e, fz, (hμ rfl).trans h1, (hb b h1 rfl).trans h2, h3, h4.ext hk.ext⟩
  | fro t xs =>
    rcases h with ⟨h1, h2⟩ | ⟨b, cs, e, fz, h1, hS, h2, h4⟩
    · exact .inl ⟨(hf (.inl ⟨t, xs, rfl⟩)).trans h1, h2⟩
    · obtain ⟨k1, k2⟩ := hk.ext b hS (hlt _ _ _ _ h2)
      exact .inr ⟨b, cs, e, fz, (hf (.inl ⟨t, xs, rfl⟩)).trans h1, k1, k2.trans h2, h4.ext hk.ext⟩
  | frv t x =>
    obtain ⟨b, cs, e, fz, es, h1, hS, h2, h3, h4⟩ := h
    obtain ⟨k1, k2⟩ := hk.ext b hS (hlt _ _ _ _ h2)
    exact ⟨b, cs, e, fz, es, (hf (.inr ⟨t, x, rfl⟩)).trans h1, k1, k2.trans h2, h3.ext hk.ext, h4.ext k2⟩
  | mp k v es =>
    obtain ⟨b, cs, c, h1, h2, h3⟩ := h
    exact ⟨b, cs, c, (hμ rfl).trans h1, (hb b h1 rfl).trans h2, h3.ext hk.ext⟩

theorem lt_of_some {w : World} {b : Nat} {o : Obj} (h : w.heap[b]? = some o) : b < w.heap.size := by
  rcases Nat.lt_or_ge b w.heap.size with h' | h'
  · exact h'
  · rw [Array.getElem?_eq_none h'] at h; cases h
end Go.Eng
end

/- EngD -/
section
namespace Go.Eng
variable {P : Program} {C : Cx} {st : St} {a : Act} {w w' : World} {μ μ' : Nat → Option Nat} {sto' : List Ob}

theorem Like.refl (o : Ob) : Like o o := by cases o <;> simp [Like]

theorem Sof.ext (hblk : ∀ id o b, sto'[id]? = some o → o.mut = true → μ' id = some b → b < w'.heap.size ∧ (w.heap.size ≤ b ∨ ∃ id0 o0, st.sto[id0]? = some o0 ∧ o0.mut = true ∧ μ id0 = some b))
    (hheap : ∀ b, b < w.heap.size → (∀ id o, st.sto[id]? = some o → o.mut = true → μ id ≠ some b) → w'.heap[b]? = w.heap[b]?) :
    Ext (Sof C μ st.sto w) (Sof C μ' sto' w') w w' := by
  rintro b ⟨h1, h2, h3⟩ hlt
  have he := hheap b hlt h3
  refine ⟨⟨lt_of_heap_eq he hlt, h2, fun id o ho hm hb => ?_⟩, he⟩
  rcases (hblk id o b ho hm hb).2 with hge | ⟨id0, o0, k1, k2, k3⟩
  · omega
  · exact h3 id0 o0 k1 k2 k3

theorem RelW.move (h : RelW P C st a w μ) (hsz : w.heap.size ≤ w'.heap.size) (hos : w'.os = w.os) (htape : w'.tape = w.tape) (hout : w'.output = w.output)
    (hblk : ∀ id o b, sto'[id]? = some o → o.mut = true → μ' id = some b → b < w'.heap.size ∧ (w.heap.size ≤ b ∨ ∃ id0 o0, st.sto[id0]? = some o0 ∧ o0.mut = true ∧ μ id0 = some b))
    (hinj : ∀ id id' o o' b, sto'[id]? = some o → sto'[id']? = some o' → o.mut = true → o'.mut = true → μ' id = some b → μ' id' = some b → id = id')
    (hheap : ∀ b, b < w.heap.size → (∀ id o, st.sto[id]? = some o → o.mut = true → μ id ≠ some b) → w'.heap[b]? = w.heap[b]?)
    (hcaps : ∀ b n, CapAt w b n → CapAt w' b n)
    (hlike : ∀ id o, st.sto[id]? = some o → ∃ o', sto'[id]? = some o' ∧ Like o o' ∧ (o = .free ∨ o' = .dead ∨ (μ' id = μ id ∧ ∀ b n, μ id = some b → CapAt w b n → CapAt w' b n)))
    (hobj : Keeps (Sof C μ st.sto w) (Sof C μ' sto' w') μ μ' st.sto sto' w w' → ∀ id o', sto'[id]? = some o' →
      (st.sto[id]? = some o' ∧ μ' id = μ id ∧ ∀ b, μ id = some b → o'.mut = true → w'.heap[b]? = w.heap[b]?) ∨ ORel P (Sof C μ' sto' w') μ' sto' w' id o') :
    RelW P C { st with sto := sto' } a w' μ' ∧ Keeps (Sof C μ st.sto w) (Sof C μ' sto' w') μ μ' st.sto sto' w w' := by
  have hk : Keeps (Sof C μ st.sto w) (Sof C μ' sto' w') μ μ' st.sto sto' w w' := ⟨Sof.ext hblk hheap, hlike⟩
  refine ⟨{ size := Nat.le_trans h.size hsz, os := hos.trans h.os, tape := htape.trans h.tape, output := hout.trans h.output, frame := ?_, blk := ?_, inj := hinj,
            obj := ?_, slots := h.slots, slot := fun i v hi => (h.slot i v hi).keeps hk, defers := h.defers, root := ?_, caps := fun b n hc => hcaps b n (h.caps b n hc) }, hk⟩
  · intro b hb hM
    rw [hheap b (Nat.lt_of_lt_of_le hb h.size) (fun id o ho hm hid => ?_)]
    · exact h.frame b hb hM
    · rcases (h.blk id o b ho hm hid).2 with hge | hm0
      · omega
      · exact hM hm0
  · intro id o b ho hm hb
    obtain ⟨h1, h2⟩ := hblk id o b ho hm hb
    refine ⟨h1, ?_⟩
    rcases h2 with hge | ⟨id0, o0, k1, k2, k3⟩
    · exact .inl (Nat.le_trans h.size hge)
    · exact (h.blk id0 o0 b k1 k2 k3).2
  · intro id o' ho'
    rcases hobj hk id o' ho' with ⟨h1, h2, h3⟩ | hn
    · exact (h.obj id o' h1).keeps hk (fun _ => h2) (fun _ => h2) h3 (fun _ _ _ _ hx => lt_of_some hx)
    · exact hn
  · intro k id hk'
    obtain ⟨o, h1, h2, h3⟩ := h.root k id hk'
    obtain ⟨o', q1, q2, q3⟩ := hlike id o h1
    refine ⟨o', q1, ?_, ?_⟩
    · rintro rfl
      cases o <;> simp only [Like] at q2
      exact h2 rfl
    · rcases q3 with q3 | q3 | ⟨q3, _⟩
      · exact absurd q3 h2
      · exact .inl q3
      · rcases h3 with rfl | h4
        · cases o' <;> simp only [Like] at q2
          exact .inl rfl
        · exact .inr (by rw [q3]; exact h4)

theorem RelW.put {d : Nat} {x : AV} {v : Value} (h : RelW P C st a w μ) (hv : ARel P (Sof C μ st.sto w) μ st.sto w x v) :
    RelW P C { st with slots := st.slots.set d x } (a.put (some d) v) w μ :=
  { h with
    slots := by simp [Act.put, h.slots]
    slot := fun i y hi => by
      simp only [List.getElem?_set] at hi
      by_cases hd : d = i
      · subst hd
        simp only [if_true] at hi
        by_cases hl : d < st.slots.length
        · simp only [hl, if_true, Option.some.injEq] at hi
          subst hi
          have : (a.put (some d) v).tmps.getD d undef = v := by
            have hs : d < a.tmps.size := by rw [h.slots]; exact hl
            simp [Act.put, hs]
          rw [this]
          exact hv
        · simp [hl] at hi
      · simp only [hd, if_false] at hi
        have : (a.put (some d) v).tmps.getD i undef = a.tmps.getD i undef := by
          simp [Act.put, Array.getElem?_setIfInBounds_ne hd]
        rw [this]
        exact h.slot i y hi
    defers := by simpa [Act.put] using h.defers }

/-- A draw turns nothing. -/
theorem RelW.drew (h : RelW P C st a w μ) : RelW P C st a w.drew μ := by
  have := (h.move (w' := w.drew) (μ' := μ) (sto' := st.sto) (Nat.le_refl _) rfl rfl rfl
    (fun id o b h1 h2 h3 => ⟨(h.blk id o b h1 h2 h3).1, .inr ⟨id, o, h1, h2, h3⟩⟩) h.inj (fun _ _ _ => rfl) (fun _ _ hc => hc)
    (fun id o ho => ⟨o, ho, Like.refl o, .inr (.inr ⟨rfl, fun _ _ _ hc => hc⟩)⟩)
    (fun _ id o' ho' => .inl ⟨ho', rfl, fun _ _ _ => rfl⟩)).1
  simpa using this

/-! ### New objects' places -/
def place (sto : List Ob) (fid : Nat) (o : Ob) : List Ob := if fid < sto.length then sto.set fid o else sto ++ [o]

/-- The number that a new object gets: the next one, or a place that was kept free. -/
def FidOk (sto : List Ob) (fid : Nat) : Prop := fid = sto.length ∨ sto[fid]? = some .free
end Go.Eng
end

/- EngE -/
section
namespace Go.Eng

def Ty.eq? : (a b : Ty) → Option (PLift (a = b))
  | .int k, .int k' => if h : k = k' then some ⟨by rw [h]⟩ else none
  | .bool, .bool => some ⟨rfl⟩
  | .str, .str => some ⟨rfl⟩
  | .unit, .unit => some ⟨rfl⟩
  | .pair a b, .pair c d => match Ty.eq? a c, Ty.eq? b d with
    | some ⟨h⟩, some ⟨k⟩ => some ⟨by rw [h, k]⟩
    | _, _ => none
  | .slice a, .slice b => match Ty.eq? a b with | some ⟨h⟩ => some ⟨by rw [h]⟩ | none => none
  | .arr n a, .arr m b => match Ty.eq? a b with
    | some ⟨h⟩ => if k : n = m then some ⟨by rw [h, k]⟩ else none
    | none => none
  | .fn a b, .fn c d => match Ty.eq? a c, Ty.eq? b d with
    | some ⟨h⟩, some ⟨k⟩ => some ⟨by rw [h, k]⟩
    | _, _ => none
  | .node a, .node b => match Ty.eq? a b with | some ⟨h⟩ => some ⟨by rw [h]⟩ | none => none
  | .vec a, .vec b => match Ty.eq? a b with | some ⟨h⟩ => some ⟨by rw [h]⟩ | none => none
  | .map a b, .map c d => match Ty.eq? a c, Ty.eq? b d with
    | some ⟨h⟩, some ⟨k⟩ => some ⟨by rw [h, k]⟩
    | _, _ => none
  | _, _ => none

/-- A value of one kind as one of another kind that is the same. -/
def castEl {a b : Ty} (h : a = b) (x : a.El) : b.El := h ▸ x

def Ty.zero : (t : Ty) → t.El
  | .int _ => (0 : Int)
  | .bool => false
  | .str => []
  | .unit => ()
  | .pair a b => (a.zero, b.zero)
  | .slice _ => []
  | .arr n t => List.replicate n t.zero
  | .fn _ _ => fun _ => none
  | .vec _ => []
  | .map _ _ => []
  | .node _ => .nil

/-- A value's cells as leaves. -/
def split : (t : Ty) → t.El → List Lf
  | .unit, _ => []
  | .pair a b, x => split a x.1 ++ split b x.2
  | .arr _ t, xs => List.flatMap (split t) xs
  | t, x => [.val t x]

/-- The cells of a zero value. -/
def zeroLeaves : Ty → List Lf
  | .unit => []
  | .pair a b => zeroLeaves a ++ zeroLeaves b
  | .arr n t => (List.replicate n (zeroLeaves t)).flatten
  | .slice t => [.nils t]
  | t => [.val t t.zero]

/-- Constants that stand in the code. -/
def constLf : Value → Lf
  | .int k n => if decide (k.min ≤ n) && decide (n ≤ k.max) then .val (.int k) n else .junk
  | .bool b => .val .bool b
  | .string s => if decide (s.size ≤ 4611686018427387904) then .val .str s.data.toList else .junk
  | .pointer none => .nilp
  | .slice none 0 0 => .nils .unit
  | _ => .junk
def constAV : Value → AV
  | .agg cs => .agg (cs.toList.map constLf)
  | v => .one (constLf v)

section
variable {P : Program} {S : Nat → Prop} {μ : Nat → Option Nat} {sto : List Ob} {w : World}

theorem vrep_int {k : IntKind} {x : Int} {v : Value} : VRep P S w (.int k) x v ↔ v = .int k x ∧ k.min ≤ x ∧ x ≤ k.max := by
  simp only [VRep, Ty.agg, Ty.size, Rep, Bool.false_eq_true, if_false]
  constructor
  · rintro ⟨cs, _, ⟨h1, h2⟩, h3⟩; subst h3; simp at h1; exact ⟨h1, h2⟩
  · rintro ⟨h1, h2⟩; exact ⟨[v], rfl, ⟨by rw [h1], h2⟩, rfl⟩
theorem vrep_bool {x : Bool} {v : Value} : VRep P S w .bool x v ↔ v = .bool x := by
  simp only [VRep, Ty.agg, Ty.size, Rep, Bool.false_eq_true, if_false]
  constructor
  · rintro ⟨cs, _, h1, h3⟩; subst h3; simpa using h1
  · rintro h1; exact ⟨[v], rfl, by rw [h1], rfl⟩
theorem vrep_str {x : Bytes} {v : Value} : VRep P S w .str x v ↔ ∃ b : ByteArray, v = .string b ∧ b.data.toList = x ∧ b.size ≤ 4611686018427387904 := by
  simp only [VRep, Ty.agg, Ty.size, Rep, Bool.false_eq_true, if_false]
  constructor
  · rintro ⟨cs, _, ⟨b, h1, h2⟩, h3⟩; subst h3; simp at h1; exact ⟨b, h1, h2⟩
  · rintro ⟨b, h1, h2⟩; exact ⟨[v], rfl, ⟨b, by rw [h1], h2⟩, rfl⟩
/-- Of a kind that is no aggregate: one cell. -/
theorem vrep_one {t : Ty} {x : t.El} {v : Value} (ha : t.agg = false) : VRep P S w t x v ↔ Rep P false t S w x [v] := by
  simp only [VRep, ha, Bool.false_eq_true, if_false]
  constructor
  · rintro ⟨cs, _, h1, h3⟩; subst h3; exact h1
  · intro h; exact ⟨[v], h.length, h, rfl⟩

theorem lrel_const (v : Value) : LRel P S μ sto w (constLf v) v := by
  cases v with
  | int k n =>
    simp only [constLf]
    split
    · rename_i h; simp at h; exact vrep_int.2 ⟨rfl, h⟩
    · trivial
  | bool b => exact vrep_bool.2 rfl
  | string s =>
    simp only [constLf]
    split
    · rename_i h; simp at h; exact vrep_str.2 ⟨s, rfl, rfl, h⟩
    · trivial
  | pointer a => cases a <;> first | rfl | trivial
  | slice a n c => cases a <;> cases n <;> cases c <;> first | exact ⟨_, rfl⟩ | trivial
  | _ => trivial
theorem single_const {v : Value} (h : Value.single v = true) : constAV v = .one (constLf v) := by
  cases v <;> first | rfl | (simp [Value.single] at h)
end
end Go.Eng
end

/- EngF -/
section
namespace Go.Eng
open Tree

def intOp (op : BinOp) (k : IntKind) (a b : Int) : Tree Lf :=
  match op with
  | .add => leaf (.val (.int k) (k.wrap (a + b)))
  | .sub => leaf (.val (.int k) (k.wrap (a - b)))
  | .mul => leaf (.val (.int k) (k.wrap (a * b)))
  | .quo => grd (decide (b ≠ 0)) (leaf (.val (.int k) (k.wrap (a.tdiv b))))
  | .rem => grd (decide (b ≠ 0)) (leaf (.val (.int k) (a.tmod b)))
  | .and => leaf (.val (.int k) (bits .and k a b))
  | .or => leaf (.val (.int k) (bits .or k a b))
  | .xor => leaf (.val (.int k) (bits .xor k a b))
  | .andNot => leaf (.val (.int k) (bits .andNot k a b))
  | .shl => grd (decide (0 ≤ b)) (leaf (.val (.int k) (k.wrap (a * 2 ^ min b.toNat k.bits))))
  | .shr => grd (decide (0 ≤ b)) (leaf (.val (.int k) (a / 2 ^ min b.toNat k.bits)))
  | .eql => leaf (.val .bool (a == b))
  | .neq => leaf (.val .bool (a != b))
  | .lss => leaf (.val .bool (decide (a < b)))
  | .leq => leaf (.val .bool (decide (a ≤ b)))
  | .gtr => leaf (.val .bool (decide (a > b)))
  | .geq => leaf (.val .bool (decide (a ≥ b)))

def strOp (op : BinOp) (a b : Bytes) : Tree Lf :=
  match op with
  | .add => grd (decide (a.length + b.length ≤ 4611686018427387904)) (leaf (.val .str (a ++ b)))
  | .eql => leaf (.val .bool (a == b))
  | .neq => leaf (.val .bool (!(a == b)))
  | .lss => leaf (.val .bool (Op.bytesLess a b))
  | .leq => leaf (.val .bool (Op.bytesLess a b || a == b))
  | .gtr => leaf (.val .bool (!(Op.bytesLess a b || a == b)))
  | .geq => leaf (.val .bool (!(Op.bytesLess a b)))
  | _ => fail

def boolOp (op : BinOp) (a b : Bool) : Tree Lf :=
  match op with
  | .eql => leaf (.val .bool (a == b))
  | .neq => leaf (.val .bool (!(a == b)))
  | _ => fail

/-- A pointer held against nil: is it nil? -/
def nilOp (op : BinOp) (isNil : Bool) : Tree Lf :=
  match op with
  | .eql => leaf (.val .bool isNil)
  | .neq => leaf (.val .bool (!isNil))
  | _ => fail

def binL (P : Program) (sto : List Ob) (op : BinOp) (t : TypeId) : Lf → Lf → Tree Lf
  | .val (.int k) a, .val (.int k') b =>
    match op with
    | .shl | .shr => intOp op k a b
    | _ => if k = k' then intOp op k a b else fail
  | .val .str a, .val .str b => strOp op a b
  | .val .bool a, .val .bool b => match P.underlying t with | some .bool => boolOp op a b | _ => fail
  | .nilp, .nilp => match P.underlying t with | some (.pointer _) => nilOp op true | _ => fail
  | .ptr id _, .nilp => match P.underlying t, sto[id]? with | some (.pointer _), some (.var _) | some (.pointer _), some (.frv _ _) => nilOp op false | _, _ => fail
  | .pbox _ _ _, .nilp => match P.underlying t with | some (.pointer _) => nilOp op false | _ => fail
  | .val (.node _) x, .nilp => match P.underlying t with | some (.pointer _) => nilOp op x.isNil | _ => fail
  | _, _ => fail

section
variable {P : Program} {S : Nat → Prop} {μ : Nat → Option Nat} {sto : List Ob} {w : World}

theorem lrel_int {k : IntKind} {x : Int} {v : Value} : LRel P S μ sto w (.val (.int k) x) v ↔ v = .int k x ∧ k.min ≤ x ∧ x ≤ k.max := vrep_int
theorem lrel_bool {x : Bool} {v : Value} : LRel P S μ sto w (.val .bool x) v ↔ v = .bool x := vrep_bool
theorem lrel_str {x : Bytes} {v : Value} : LRel P S μ sto w (.val .str x) v ↔ ∃ b : ByteArray, v = .string b ∧ b.data.toList = x ∧ b.size ≤ 4611686018427387904 := vrep_str

theorem min_le_zero (k : IntKind) : k.min ≤ 0 := by cases k <;> decide
theorem zero_le_max (k : IntKind) : 0 ≤ k.max := by cases k <;> decide

theorem tmod_within {k : IntKind} {a b : Int} (h : k.min ≤ a ∧ a ≤ k.max) : k.min ≤ a.tmod b ∧ a.tmod b ≤ k.max := by
  have h0 := min_le_zero k
  have h1 := zero_le_max k
  have e := Int.natAbs_tmod a b
  have l := Nat.mod_le a.natAbs b.natAbs
  rcases (by omega : 0 ≤ a ∨ a < 0) with ha | ha
  · have h2 : 0 ≤ a.tmod b := Int.tmod_nonneg b ha
    omega
  · have e2 : (-a).tmod b = -(a.tmod b) := Int.neg_tmod a b
    have h2 : 0 ≤ (-a).tmod b := Int.tmod_nonneg b (by omega)
    omega

theorem shr_within {k : IntKind} {a : Int} (n : Nat) (h : k.min ≤ a ∧ a ≤ k.max) : k.min ≤ a / 2 ^ n ∧ a / 2 ^ n ≤ k.max := by
  have h0 := min_le_zero k
  have h1 := zero_le_max k
  have hc : (0 : Int) < 2 ^ n := Int.pow_pos (by omega)
  generalize (2 : Int) ^ n = c at *
  rcases (by omega : 0 ≤ a ∨ a < 0) with ha | ha
  · have h2 : 0 ≤ a / c := Int.ediv_nonneg ha (by omega)
    have h3 : a / c ≤ a := Int.ediv_le_self _ ha
    omega
  · have h2 : a ≤ a / c := by
      rw [Int.le_ediv_iff_mul_le hc]
      have := Int.mul_le_mul_of_nonpos_left (a := a) (b := c) (c := 1) (by omega) (by omega)
      omega
    have h3 : a / c < 0 := Int.ediv_neg_of_neg_of_pos ha hc
    omega

theorem intOp_sound {op : BinOp} {k k' : IntKind} {a b : Int} {t : TypeId} {l : Lf} (ha : k.min ≤ a ∧ a ≤ k.max) (hk : op = .shl ∨ op = .shr ∨ k' = k)
    (h : (intOp op k a b).run = some l) : ∃ v, (binOp op t (.int k a) (.int k' b)).run P w = .ok v w ∧ LRel P S μ sto w l v := by
  cases op <;> simp only [reduceCtorEq, false_or, true_or] at hk <;> (try subst hk) <;> simp only [intOp, grd, Tree.run] at h
  case shl =>
    split at h <;> simp at h
    rename_i hb; simp at hb
    subst h
    exact ⟨_, by simp [binOp_shl, shift_shl_any _ _ _ _ hb], lrel_int.2 ⟨rfl, wrap_within k _⟩⟩
  case shr =>
    split at h <;> simp at h
    rename_i hb; simp at hb
    subst h
    exact ⟨_, by simp [binOp_shr, shift_shr_any _ _ _ _ hb], lrel_int.2 ⟨rfl, shr_within _ ha⟩⟩
  case quo =>
    split at h <;> simp at h
    rename_i hb; simp at hb
    subst h
    exact ⟨_, by simp [binOp_quo, Op.intDiv, hb], lrel_int.2 ⟨rfl, wrap_within _ _⟩⟩
  case rem =>
    split at h <;> simp at h
    rename_i hb; simp at hb
    subst h
    exact ⟨_, by simp [binOp_rem, Op.intDiv, hb], lrel_int.2 ⟨rfl, tmod_within ha⟩⟩
  case add => simp at h; subst h; exact ⟨_, by simp [binOp_add, Op.intArith], lrel_int.2 ⟨rfl, wrap_within _ _⟩⟩
  case sub => simp at h; subst h; exact ⟨_, by simp [binOp_sub, Op.intArith], lrel_int.2 ⟨rfl, wrap_within _ _⟩⟩
  case mul => simp at h; subst h; exact ⟨_, by simp [binOp_mul, Op.intArith], lrel_int.2 ⟨rfl, wrap_within _ _⟩⟩
  case and => simp at h; subst h; exact ⟨_, by simp [binOp_and, intBits_and], lrel_int.2 ⟨rfl, bits_within _ _ _ _⟩⟩
  case or => simp at h; subst h; exact ⟨_, by simp [binOp_or, intBits_or], lrel_int.2 ⟨rfl, bits_within _ _ _ _⟩⟩
  case xor => simp at h; subst h; exact ⟨_, by simp [binOp_xor, intBits_xor], lrel_int.2 ⟨rfl, bits_within _ _ _ _⟩⟩
  case andNot => simp at h; subst h; exact ⟨_, by simp [binOp_andNot, intBits_andNot], lrel_int.2 ⟨rfl, bits_within _ _ _ _⟩⟩
  case eql => simp at h; subst h; exact ⟨_, by simp [binOp_eql], lrel_bool.2 rfl⟩
  case neq => simp at h; subst h; exact ⟨_, by simp [binOp_neq], lrel_bool.2 rfl⟩
  case lss => simp at h; subst h; exact ⟨_, by simp [binOp_lss], lrel_bool.2 rfl⟩
  case leq => simp at h; subst h; exact ⟨_, by simp [binOp_leq], lrel_bool.2 rfl⟩
  case gtr => simp at h; subst h; exact ⟨_, by simp [binOp_gtr], lrel_bool.2 rfl⟩
  case geq => simp at h; subst h; exact ⟨_, by simp [binOp_geq], lrel_bool.2 rfl⟩

theorem strOp_sound {op : BinOp} {x y : ByteArray} {t : TypeId} {l : Lf} (h : (strOp op x.data.toList y.data.toList).run = some l) :
    ∃ v, (binOp op t (.string x) (.string y)).run P w = .ok v w ∧ LRel P S μ sto w l v := by
  have e : binOp op t (.string x) (.string y) = Op.stringOp op x y := by cases op <;> rfl
  rw [e]
  cases op <;> simp only [strOp, grd, Tree.run, reduceCtorEq] at h
  case add =>
    split at h <;> simp at h
    rename_i hb; simp at hb
    subst h
    refine ⟨.string (x ++ y), ?_, lrel_str.2 ⟨_, rfl, by simp, ?_⟩⟩
    · have hs : ¬ (((x.size + y.size : Nat) : Int) > IntKind.i64.max) := by
        have : IntKind.i64.max = 9223372036854775807 := by decide
        have h1 : x.size = x.data.size := rfl
        have h2 : y.size = y.data.size := rfl
        omega
      simp only [Op.stringOp, hs, if_false]; rfl
    · have h1 : x.size = x.data.size := rfl
      have h2 : y.size = y.data.size := rfl
      rw [ByteArray.size_append]; omega
  all_goals
    simp at h; subst h
    exact ⟨_, by simp [Op.stringOp, ByteArray.toList_eq]; first | done | rfl, lrel_bool.2 rfl⟩

theorem boolOp_sound {op : BinOp} {x y : Bool} {t : TypeId} {l : Lf} (ht : P.underlying t = some .bool) (h : (boolOp op x y).run = some l) :
    ∃ v, (binOp op t (.bool x) (.bool y)).run P w = .ok v w ∧ LRel P S μ sto w l v := by
  cases op <;> simp only [boolOp, Tree.run, reduceCtorEq] at h
  case eql => simp at h; subst h; exact ⟨_, run_eql_bool w t x y ht, lrel_bool.2 rfl⟩
  case neq => simp at h; subst h; exact ⟨_, run_neq_bool w t x y ht, lrel_bool.2 rfl⟩

theorem nilOp_sound {op : BinOp} {p : Option Addr} {t e : TypeId} {l : Lf} (ht : P.underlying t = some (.pointer e)) (h : (nilOp op p.isNone).run = some l) :
    ∃ v, (binOp op t (.pointer p) (.pointer none)).run P w = .ok v w ∧ LRel P S μ sto w l v := by
  have ht' : P.underlying t = some (.pointer (P.pointee t)) := by simp [Program.pointee, ht]
  cases op <;> simp only [nilOp, Tree.run, reduceCtorEq] at h
  case eql => simp at h; subst h; exact ⟨_, run_eql_pointer_nil w t p ht', lrel_bool.2 rfl⟩
  case neq => simp only [Option.some.injEq] at h; subst h; exact ⟨_, run_neq_pointer_nil w t p ht', lrel_bool.2 rfl⟩

theorem binL_sound {op : BinOp} {t : TypeId} {x y : Lf} {u v : Value} {l : Lf} (hx : LRel P S μ sto w x u) (hy : LRel P S μ sto w y v)
    (h : (binL P sto op t x y).run = some l) : ∃ r, (binOp op t u v).run P w = .ok r w ∧ LRel P S μ sto w l r := by
  unfold binL at h
  split at h
  · rename_i k a k' b
    obtain ⟨rfl, ha⟩ := lrel_int.1 hx
    obtain ⟨rfl, hb⟩ := lrel_int.1 hy
    split at h
    · exact intOp_sound ha (by simp) h
    · exact intOp_sound ha (by simp) h
    · split at h
      · rename_i hk; exact intOp_sound ha (.inr (.inr hk.symm)) h
      · simp [Tree.run] at h
  · obtain ⟨p, rfl, rfl, _⟩ := lrel_str.1 hx
    obtain ⟨q, rfl, rfl, _⟩ := lrel_str.1 hy
    exact strOp_sound h
  · obtain rfl := lrel_bool.1 hx
    obtain rfl := lrel_bool.1 hy
    split at h
    · rename_i ht; exact boolOp_sound ht h
    · simp [Tree.run] at h
  · obtain rfl : u = .pointer none := hx
    obtain rfl : v = .pointer none := hy
    split at h
    · rename_i ht; exact nilOp_sound (p := none) ht h
    · simp [Tree.run] at h
  · rename_i id off
    obtain rfl : v = .pointer none := hy
    split at h
    · rename_i ht ho
      simp only [LRel, ho] at hx
      obtain ⟨b, _, rfl⟩ := hx
      exact nilOp_sound (p := some _) ht h
    · rename_i ht ho
      simp only [LRel, ho] at hx
      obtain ⟨b, _, rfl⟩ := hx
      exact nilOp_sound (p := some _) ht h
    · simp [Tree.run] at h
  · obtain ⟨b, o, cs, rfl, _⟩ := hx
    obtain rfl : v = .pointer none := hy
    split at h
    · rename_i ht; exact nilOp_sound (p := some _) ht h
    · simp [Tree.run] at h
  · rename_i te x
    obtain rfl : v = .pointer none := hy
    have hx := (vrep_one rfl).1 hx
    split at h
    · rename_i ht
      cases x with
      | nil =>
        have hx := rep_nil.1 hx
        simp only [List.cons.injEq, and_true] at hx; subst hx
        exact nilOp_sound (p := none) ht h
      | mk k l c s =>
        obtain ⟨b, o, cs, hv, _⟩ := rep_open rfl hx
        simp only [List.cons.injEq, and_true] at hv; subst hv
        exact nilOp_sound (p := some _) ht h
    · simp [Tree.run] at h
  · simp [Tree.run] at h
end
end Go.Eng
end

/- EngG -/
section
set_option linter.unusedSimpArgs false
set_option linter.unusedVariables false
namespace Go.Eng
open Tree

/-- A type's number of cells. -/
def szOf (P : Program) (t : TypeId) : Option Nat := (P.info? t).map (·.size)
def aggOf (P : Program) (t : TypeId) : Bool := match P.underlying t with | some (.struct _) | some (.array _ _) => true | _ => false

/-- No results of a call that was left out. -/
def ntA : AV → Tree AV
  | .tup _ => fail
  | v => leaf v
theorem ntA_some {v r : AV} (h : (ntA v).run = some r) : r = v := by
  cases v <;> simp only [ntA, Tree.run, Option.some.injEq, reduceCtorEq] at h <;> exact h.symm
def pickL (b : Lf) (x y : AV) : Tree AV := match b with | .val .bool c => .ite c (ntA x) (ntA y) | _ => fail

def unL (op : UnOp) : Lf → Tree Lf
  | .val (.int k) a => match op with
    | .neg => leaf (.val (.int k) (k.wrap (0 - a)))
    | .xor => leaf (.val (.int k) (bits .xor k (if k.signed then -1 else k.max) a))
    | _ => fail
  | .val .bool b => match op with | .not => leaf (.val .bool (!b)) | _ => fail
  | _ => fail

def fieldAddrL (P : Program) (sto : List Ob) (s : TypeId) (f : Nat) (x : Lf) : Tree Lf :=
  match P.underlying s with
  | some (.struct fs) => match fs[f]? with
    | some fd => match szOf P fd.type with
      | some (_ + 1) => match x with
        | .val (.node te) x => opt (nodeOpen x) fun y => leaf (.pbox (nodeBody te) y fd.offset)
        | .ptr id off => match sto[id]? with | some (.var _) | some (.frv _ _) => leaf (.ptr id (off + fd.offset)) | _ => fail
        | .eptr id i off => match sto[id]? with | some (.arr _ _) | some (.fro _ _) => leaf (.eptr id i (off + fd.offset)) | _ => fail
        | .pbox t x off => leaf (.pbox t x (off + fd.offset))
        | _ => fail
      | _ => fail
    | none => fail
  | _ => fail

/-- An index within bounds. -/
def inB (i : Int) (n : Nat) : Bool := decide (0 ≤ i) && decide (i < n)

def indexAddrL (P : Program) (sto : List Ob) (t : TypeId) (x : Lf) : Lf → Tree Lf
  | .val (.int _) i => match P.underlying t with
    | some (.slice e) => match x with
      | .val (.slice te) xs => if szOf P e = some te.size then grd (inB i (List.length xs)) (leaf (.pbox te (List.getD xs i.toNat te.zero) 0)) else fail
      | .vec id => match sto[id]? with
        | some (.arr te xs) | some (.fro te xs) => if szOf P e = some te.size then grd (inB i (List.length xs)) (leaf (.eptr id i.toNat 0)) else fail
        | _ => fail
      | .sub id off len => match sto[id]? with
        | some (.arr te xs) | some (.fro te xs) => if szOf P e = some te.size then grd (inB i len) (leaf (.eptr id (off + i.toNat) 0)) else fail
        | _ => fail
      | _ => fail
    | some (.array n e) => match x with
      | .ptr id 0 => match sto[id]? with
        | some (.arr te xs) | some (.fro te xs) => if szOf P e = some te.size then grd (inB i n) (grd (inB i (List.length xs)) (leaf (.eptr id i.toNat 0))) else fail
        | _ => fail
      | .pbox (.arr m te) xs 0 => if szOf P e = some te.size ∧ m = n then grd (inB i n) (leaf (.pbox te (List.getD xs i.toNat te.zero) 0)) else fail
      | _ => fail
    | _ => fail
  | _ => fail

def indexL (P : Program) (t : TypeId) (x : Lf) : Lf → Tree Lf
  | .val (.int _) i => match P.underlying t, x with
    | some .string, .val .str s => grd (inB i (List.length s)) (leaf (.val (.int .u8) (((List.getD s i.toNat 0).toNat : Nat) : Int)))
    | _, _ => fail
  | _ => fail

def lenL (P : Program) (sto : List Ob) (t : TypeId) : Lf → Tree Lf
  | .val .str s => match P.underlying t with | some .string => leaf (.val (.int .i64) ((List.length s : Nat) : Int)) | _ => fail
  | .val (.slice _) xs => match P.underlying t with | some (.slice _) => leaf (.val (.int .i64) ((List.length xs : Nat) : Int)) | _ => fail
  | .nils _ => match P.underlying t with | some (.slice _) => leaf (.val (.int .i64) 0) | _ => fail
  | .vec id => match P.underlying t, sto[id]? with
    | some (.slice _), some (.arr _ xs) | some (.slice _), some (.fro _ xs) => leaf (.val (.int .i64) ((List.length xs : Nat) : Int))
    | _, _ => fail
  | .sub id _ len => match P.underlying t, sto[id]? with
    | some (.slice _), some (.arr _ _) | some (.slice _), some (.fro _ _) => leaf (.val (.int .i64) ((len : Nat) : Int))
    | _, _ => fail
  | _ => fail

section
variable {P : Program} {S : Nat → Prop} {μ : Nat → Option Nat} {sto : List Ob} {w : World}

theorem run_sizeOf {t : TypeId} {n : Nat} (h : szOf P t = some n) : (sizeOf t).run P w = .ok n w := by
  simp only [szOf, Option.map_eq_some_iff] at h
  obtain ⟨i, hi, rfl⟩ := h
  simp [sizeOf, typeInfo, hi]

theorem addr_add (b o n : Nat) : (⟨b, o, none⟩ : Addr).add n = ⟨b, o + n, none⟩ := by
  unfold Addr.add; split <;> simp_all

theorem unL_sound {op : UnOp} {x l : Lf} {u : Value} (hx : LRel P S μ sto w x u) (h : (unL op x).run = some l) :
    ∃ v, (Op.unary op u).run P w = .ok v w ∧ LRel P S μ sto w l v := by
  unfold unL at h
  split at h
  · obtain ⟨rfl, ha⟩ := lrel_int.1 hx
    split at h
    · simp [Tree.run] at h; subst h
      exact ⟨_, by simp [Op.unary, Op.intArith], lrel_int.2 ⟨rfl, by simpa using wrap_within _ _⟩⟩
    · simp [Tree.run] at h; subst h
      exact ⟨_, by simp only [Op.unary]; rw [intBits_xor]; rfl, lrel_int.2 ⟨rfl, bits_within _ _ _ _⟩⟩
    · simp [Tree.run] at h
  · obtain rfl := lrel_bool.1 hx
    split at h
    · simp only [Tree.run, Option.some.injEq] at h; subst h
      exact ⟨_, by simp [Op.unary], lrel_bool.2 rfl⟩
    · simp [Tree.run] at h
  · simp [Tree.run] at h

theorem fieldAddrL_sound {s : TypeId} {f : Nat} {x l : Lf} {u : Value} (hx : LRel P S μ sto w x u) (h : (fieldAddrL P sto s f x).run = some l) :
    ∃ v, (Instr.fieldAt s u f).run P w = .ok v w ∧ LRel P S μ sto w l v := by
  unfold fieldAddrL at h
  split at h
  · rename_i fs hs
    split at h
    · rename_i fd hfd
      split at h
      · rename_i n hn
        have key : ∀ b o, (Instr.fieldAt s (.pointer (some ⟨b, o, none⟩)) f).run P w = .ok (.pointer (some ⟨b, o + fd.offset, none⟩)) w := by
          intro b o
          simp [Instr.fieldAt, run_underlying hs, hfd, Instr.sureAddr, fieldPlace, run_sizeOf hn, addr_add]
        split at h
        · rename_i te x
          simp only [Tree.run] at h
          cases ho : nodeOpen x with
          | none => rw [ho] at h; cases h
          | some y =>
            rw [ho] at h
            simp only [Option.bind_some, Tree.run, Option.some.injEq] at h; subst h
            obtain ⟨b, o, cs, hv, hS, hlt, hr, hc⟩ := rep_open ho ((vrep_one rfl).1 hx)
            simp only [List.cons.injEq, and_true] at hv; subst hv
            exact ⟨_, key _ _, b, o, cs, rfl, hS, hlt, hr, hc⟩
        · rename_i id off
          split at h
          all_goals first
            | (simp [Tree.run] at h; done)
            | (rename_i ho
               simp [Tree.run] at h; subst h
               simp only [LRel, ho] at hx ⊢
               obtain ⟨b, hb, rfl⟩ := hx
               exact ⟨_, key _ _, b, hb, rfl⟩)
        · rename_i id i off
          split at h
          all_goals first
            | (simp [Tree.run] at h; done)
            | (rename_i ho
               simp [Tree.run] at h; subst h
               simp only [LRel, ho] at hx ⊢
               obtain ⟨hi, b, hb, rfl⟩ := hx
               exact ⟨_, key _ _, hi, b, hb, by rw [Nat.add_assoc]⟩)
        · simp [Tree.run] at h; subst h
          obtain ⟨b, o, cs, rfl, hr⟩ := hx
          exact ⟨_, key _ _, b, o, cs, by rw [Nat.add_assoc], hr⟩
        · simp [Tree.run] at h
      · simp [Tree.run] at h
    · simp [Tree.run] at h
  · simp [Tree.run] at h

theorem inB_iff {i : Int} {n : Nat} : inB i n = true ↔ 0 ≤ i ∧ i < n := by simp [inB]

theorem run_indexAt_slice' {t e : TypeId} {b o len cap sz : Nat} {k : IntKind} {i : Int} (ht : P.underlying t = some (.slice e)) (hs : szOf P e = some sz) (hi : 0 ≤ i ∧ i < len) :
    (Instr.indexAt t (.slice (some ⟨b, o, none⟩) len cap) (.int k i)).run P w = .ok (.pointer (some ⟨b, o + i.toNat * sz, none⟩)) w := by
  simp [Instr.indexAt, asIntOf, run_underlying ht, run_sizeOf hs, hi, addr_add]

theorem run_indexAt_array' {t e : TypeId} {b o n sz : Nat} {k : IntKind} {i : Int} (ht : P.underlying t = some (.array n e)) (hs : szOf P e = some sz) (hi : 0 ≤ i ∧ i < n) :
    (Instr.indexAt t (.pointer (some ⟨b, o, none⟩)) (.int k i)).run P w = .ok (.pointer (some ⟨b, o + i.toNat * sz, none⟩)) w := by
  simp [Instr.indexAt, asIntOf, run_underlying ht, run_sizeOf hs, hi, addr_add, Instr.sureAddr]

theorem getD_some {α : Type} {xs : List α} {i : Nat} (d : α) (h : i < xs.length) : xs[i]? = some (xs.getD i d) := by
  simp [List.getD, List.getElem?_eq_getElem h]

theorem indexAddrL_sound {t : TypeId} {x y l : Lf} {u v : Value} (hx : LRel P S μ sto w x u) (hy : LRel P S μ sto w y v) (h : (indexAddrL P sto t x y).run = some l) :
    ∃ r, (Instr.indexAt t u v).run P w = .ok r w ∧ LRel P S μ sto w l r := by
  unfold indexAddrL at h
  split at h
  · rename_i k i
    obtain ⟨rfl, _⟩ := lrel_int.1 hy
    split at h
    · rename_i e ht
      split at h
      · rename_i te xs
        split at h
        · rename_i hs
          obtain ⟨hi, h⟩ := run_grd h
          rw [inB_iff] at hi
          simp [Tree.run] at h; subst h
          have hv := (vrep_one rfl).1 hx
          simp only [Rep] at hv
          obtain ⟨a, c, hu, hc, hm, hr⟩ := hv
          simp at hu; subst hu
          obtain ⟨b, off, rfl, hS, hlt, hel⟩ := hr (by omega)
          obtain ⟨cs, h1, h2, h3⟩ := hel i.toNat _ (getD_some te.zero (by omega))
          exact ⟨_, run_indexAt_slice' ht hs hi, b, off + i.toNat * te.size, cs, rfl, hS, hlt, h1, h3⟩
        · simp [Tree.run] at h
      · rename_i id
        split at h
        all_goals first
          | (simp [Tree.run] at h; done)
          | (rename_i te xs ho
             split at h
             · rename_i hs
               obtain ⟨hi, h⟩ := run_grd h
               rw [inB_iff] at hi
               simp [Tree.run] at h; subst h
               simp only [LRel, ho] at hx ⊢
               rcases hx with ⟨_, h0, _⟩ | ⟨b, c, hb, rfl, _⟩
               · omega
               · exact ⟨_, run_indexAt_slice' ht hs hi, by omega, b, hb, by simp⟩
             · simp [Tree.run] at h)
      · rename_i id off len
        split at h
        all_goals first
          | (simp [Tree.run] at h; done)
          | (rename_i te xs ho
             split at h
             · rename_i hs
               obtain ⟨hi, h⟩ := run_grd h
               rw [inB_iff] at hi
               simp [Tree.run] at h; subst h
               simp only [LRel, ho] at hx ⊢
               obtain ⟨hle, a, c, rfl, hc, _, _, hr⟩ := hx
               obtain ⟨b, hb, rfl, _⟩ := hr (by omega)
               exact ⟨_, run_indexAt_slice' ht hs hi, by omega, b, hb, by rw [Nat.add_mul]; simp⟩
             · simp [Tree.run] at h)
      · simp [Tree.run] at h
    · rename_i n e ht
      split at h
      · rename_i id
        split at h
        all_goals first
          | (simp [Tree.run] at h; done)
          | (rename_i te xs ho
             split at h
             · rename_i hs
               obtain ⟨hi, h⟩ := run_grd h
               rw [inB_iff] at hi
               obtain ⟨hj, h⟩ := run_grd h
               rw [inB_iff] at hj
               simp [Tree.run] at h; subst h
               simp only [LRel, ho] at hx ⊢
               obtain ⟨b, hb, rfl, _⟩ := hx
               exact ⟨_, run_indexAt_array' ht hs hi, by omega, b, hb, by simp⟩
             · simp [Tree.run] at h)
      · rename_i m te xs
        split at h
        · rename_i hs
          obtain ⟨hs, rfl⟩ := hs
          obtain ⟨hi, h⟩ := run_grd h
          rw [inB_iff] at hi
          simp [Tree.run] at h; subst h
          obtain ⟨b, o, cs, rfl, hS, hlt, hr, hc⟩ := hx
          simp only [Rep] at hr
          obtain ⟨hlen, hcs, hel⟩ := hr
          refine ⟨_, run_indexAt_array' ht hs hi, b, o + i.toNat * te.size, _, rfl, hS, hlt, hel i.toNat _ (getD_some te.zero (by omega)), fun j v hj => ?_⟩
          rw [List.getElem?_take] at hj
          split at hj
          · rw [List.getElem?_drop] at hj
            have := hc _ _ hj
            rw [← this]; congr 2; omega
          · cases hj
        · simp [Tree.run] at h
      · simp [Tree.run] at h
    · simp [Tree.run] at h
  · simp [Tree.run] at h

theorem indexL_sound {t : TypeId} {x y l : Lf} {u v : Value} (hx : LRel P S μ sto w x u) (hy : LRel P S μ sto w y v) (h : (indexL P t x y).run = some l) :
    ∃ r, (Instr.index t u v).run P w = .ok r w ∧ LRel P S μ sto w l r := by
  unfold indexL at h
  split at h
  · rename_i k i
    obtain ⟨rfl, _⟩ := lrel_int.1 hy
    split at h
    · rename_i s ht
      obtain ⟨hi, h⟩ := run_grd h
      rw [inB_iff] at hi
      simp only [Tree.run, Option.some.injEq] at h; subst h
      obtain ⟨b, rfl, rfl, _⟩ := lrel_str.1 hx
      have hlt : i.toNat < b.data.toList.length := by omega
      have hb : b[i.toNat]? = some (b.data.toList.getD i.toNat 0) := by
        have h1 : i.toNat < b.size := by simpa using hlt
        have h2 : i.toNat < b.data.size := h1
        rw [getElem?_pos b i.toNat h1]
        have h3 : b[i.toNat] = b.data[i.toNat] := rfl
        rw [h3]
        simp [List.getD, Array.getElem?_eq_getElem h2]
      generalize hz : b.data.toList.getD i.toNat 0 = z at *
      refine ⟨.int .u8 ((z.toNat : Nat) : Int), by simp [Instr.index, asIntOf, run_underlying ht, hi.1, hb], lrel_int.2 ⟨rfl, ?_⟩⟩
      have := z.toNat_lt
      have h1 : IntKind.u8.min = 0 := by decide
      have h2 : IntKind.u8.max = 255 := by decide
      omega
    · simp [Tree.run] at h
  · simp [Tree.run] at h
end
end Go.Eng
end

/- EngH -/
section
set_option linter.unusedSimpArgs false
set_option linter.unusedVariables false
namespace Go.Eng
open Tree

def cut {α : Type} (lo hi : Option Nat) (xs : List α) : List α :=
  match lo, hi with
  | none, none => xs
  | none, some h => xs.take h
  | some l, none => xs.drop l
  | some l, some h => (xs.take h).drop l
theorem cut_eq {α : Type} (lo hi : Option Nat) (xs : List α) : cut lo hi xs = (xs.take (hi.getD xs.length)).drop (lo.getD 0) := by
  cases lo <;> cases hi <;> simp [cut]

/-- A bound: none, or a number between 0 and n. -/
def bndT {α : Type} (o : Option Lf) (n : Nat) (k : Option Nat → Tree α) : Tree α :=
  match o with
  | none => k none
  | some (.val (.int _) i) => grd (decide (0 ≤ i) && decide (i ≤ n)) (k (some i.toNat))
  | _ => fail

def zeroI : Option Lf → Bool | some (.val (.int _) i) => decide (i = 0) | _ => false

def sliceL (P : Program) (sto : List Ob) (t : TypeId) (x : Lf) (lo hi mx : Option Lf) : Tree Lf :=
  match P.underlying t with
  | some .string => match x, mx with
    | .val .str s, none => bndT hi (List.length s) fun h => bndT lo (h.getD (List.length s)) fun l => leaf (.val .str (cut l h s))
    | _, _ => fail
  | some (.slice e) =>
    if mx.isSome then
      if lo.isNone && zeroI hi && zeroI mx && (szOf P e).isSome then
        match x with
        | .val (.slice te) _ => leaf (.nils te)
        | .vec id => match sto[id]? with | some (.arr te _) | some (.fro te _) => leaf (.nils te) | _ => fail
        | _ => fail
      else fail
    else match x with
      | .val (.slice te) xs => if szOf P e = some te.size then
          bndT hi (List.length xs) fun h => bndT lo (h.getD (List.length xs)) fun l => leaf (.val (.slice te) (cut l h xs)) else fail
      | .vec id => match sto[id]? with
        | some (.arr te xs) | some (.fro te xs) => if szOf P e = some te.size then
          bndT hi (List.length xs) fun h => bndT lo (h.getD (List.length xs)) fun l => leaf (.sub id (l.getD 0) (h.getD (List.length xs) - l.getD 0)) else fail
        | _ => fail
      | .sub id off len => match sto[id]? with
        | some (.arr te xs) | some (.fro te xs) => if szOf P e = some te.size then
          bndT hi len fun h => bndT lo (h.getD len) fun l => leaf (.sub id (off + l.getD 0) (h.getD len - l.getD 0)) else fail
        | _ => fail
      | _ => fail
  | some (.array n e) => match x, mx with
    | .ptr id 0, none => match sto[id]? with
      | some (.arr te xs) => if szOf P e = some te.size then
          grd (decide (List.length xs = n)) (bndT hi n fun h => bndT lo (h.getD n) fun l => leaf (.sub id (l.getD 0) (h.getD n - l.getD 0))) else fail
      | _ => fail
    | _, _ => fail
  | _ => fail

section
variable {P : Program} {S : Nat → Prop} {μ : Nat → Option Nat} {sto : List Ob} {w : World}

def LRelO (P : Program) (S : Nat → Prop) (μ : Nat → Option Nat) (sto : List Ob) (w : World) : Option Lf → Option Value → Prop
  | none, none => True
  | some l, some v => LRel P S μ sto w l v
  | _, _ => False

theorem bndT_run {α : Type} {o : Option Lf} {u : Option Value} {n : Nat} {k : Option Nat → Tree α} {r : α} (ho : LRelO P S μ sto w o u) (h : (bndT o n k).run = some r) :
    (o = none ∧ u = none ∧ (k none).run = some r) ∨ ∃ q i, u = some (.int q i) ∧ 0 ≤ i ∧ i ≤ n ∧ (k (some i.toNat)).run = some r := by
  unfold bndT at h
  split at h
  · cases u <;> simp [LRelO] at ho
    exact .inl ⟨rfl, rfl, h⟩
  · rename_i q i
    cases u with
    | none => simp [LRelO] at ho
    | some v =>
      simp only [LRelO] at ho
      obtain ⟨rfl, _⟩ := lrel_int.1 ho
      obtain ⟨hb, h⟩ := run_grd h
      simp at hb
      exact .inr ⟨q, i, rfl, hb.1, hb.2, h⟩
  · simp [Tree.run] at h

theorem run_sliceBound {q : IntKind} {i : Int} {y : Nat} {c : BoundsCode} (h : 0 ≤ i ∧ i ≤ y) : (Instr.sliceBound (.int q i) y c).run P w = .ok i.toNat w := by
  simp [Instr.sliceBound, asIntOf, h]

/-- Both bounds at once: what the machine reckons. -/
theorem bnds_run {α : Type} {lo hi : Option Lf} {ul uh : Option Value} {isS : Bool} {n cap : Nat} {k : Option Nat → Option Nat → Tree α} {r : α} (hcap : n ≤ cap)
    (hlo : LRelO P S μ sto w lo ul) (hhi : LRelO P S μ sto w hi uh) (h : (bndT hi n fun h => bndT lo (h.getD n) fun l => k l h).run = some r) :
    ∃ l h', (Instr.sliceBounds isS n cap ul uh none).run P w = .ok (l.getD 0, h'.getD n, cap) w ∧ l.getD 0 ≤ h'.getD n ∧ h'.getD n ≤ n ∧ (k l h').run = some r := by
  rcases bndT_run hhi h with ⟨rfl, rfl, h⟩ | ⟨q, i, rfl, h0, h1, h⟩
  · rcases bndT_run hlo h with ⟨rfl, rfl, h⟩ | ⟨q2, j, rfl, k0, k1, h⟩
    · exact ⟨none, none, by simp [Instr.sliceBounds], by simp, by simp, h⟩
    · refine ⟨some j.toNat, none, ?_, ?_, by simp, h⟩
      · simp at k1; simp [Instr.sliceBounds, run_sliceBound ⟨k0, k1⟩]
      · simp at k1 ⊢; omega
  · have hc : i ≤ (cap : Int) := by omega
    rcases bndT_run hlo h with ⟨rfl, rfl, h⟩ | ⟨q2, j, rfl, k0, k1, h⟩
    · exact ⟨none, some i.toNat, by simp [Instr.sliceBounds, run_sliceBound ⟨h0, hc⟩], by simp, by simp; omega, h⟩
    · simp at k1
      refine ⟨some j.toNat, some i.toNat, ?_, by simp; omega, by simp; omega, h⟩
      have k2 : j ≤ ((i.toNat : Nat) : Int) := by omega
      simp [Instr.sliceBounds, run_sliceBound ⟨h0, hc⟩, run_sliceBound ⟨k0, k2⟩]

theorem ba_extract (b : ByteArray) (l h : Nat) : (b.extract l h).data.toList = (b.data.toList.take h).drop l := by
  rw [ByteArray.data_extract, Array.toList_extract, List.extract_eq_take_drop, List.drop_take]

theorem run_sliceAt_slice {t e : TypeId} {a : Option Addr} {len cap l h m sz : Nat} {ul uh um : Option Value} (ht : P.underlying t = some (.slice e)) (hs : szOf P e = some sz)
    (hb : (Instr.sliceBounds true len cap ul uh um).run P w = .ok (l, h, m) w) :
    (Instr.sliceAt t (.slice a len cap) ul uh um).run P w = .ok (.slice (if m = l then a else a.map (·.add (l * sz))) (h - l) (m - l)) w := by
  simp [Instr.sliceAt, Instr.slice, run_underlying ht, hb, run_sizeOf hs]

theorem zeroI_some {o : Option Lf} {u : Option Value} (hz : zeroI o = true) (h : LRelO P S μ sto w o u) : ∃ q, u = some (.int q 0) := by
  unfold zeroI at hz
  split at hz
  · rename_i q i
    simp at hz
    cases u with
    | none => simp [LRelO] at h
    | some v =>
      simp only [LRelO] at h
      obtain ⟨rfl, _⟩ := lrel_int.1 h
      exact ⟨q, by rw [hz]⟩
  · cases hz

theorem sliceL_sound {t : TypeId} {x l : Lf} {lo hi mx : Option Lf} {u : Value} {ul uh um : Option Value} (hx : LRel P S μ sto w x u)
    (hlo : LRelO P S μ sto w lo ul) (hhi : LRelO P S μ sto w hi uh) (hmx : LRelO P S μ sto w mx um) (h : (sliceL P sto t x lo hi mx).run = some l) :
    ∃ r, (Instr.sliceAt t u ul uh um).run P w = .ok r w ∧ LRel P S μ sto w l r := by
  unfold sliceL at h
  split at h
  · rename_i ht
    split at h
    · rename_i s
      obtain ⟨b, rfl, rfl, hb⟩ := lrel_str.1 hx
      cases um <;> simp only [LRelO] at hmx
      obtain ⟨l', h', hr, h1, h2, h⟩ := bnds_run (P := P) (w := w) (isS := false) (Nat.le_refl _) hlo hhi h
      simp only [Tree.run, Option.some.injEq] at h; subst h
      have hsz : b.data.toList.length = b.size := by simp
      rw [hsz] at hr h1 h2
      refine ⟨.string (b.extract (l'.getD 0) (h'.getD b.size)), by simp [Instr.sliceAt, Instr.slice, run_underlying ht, hr], lrel_str.2 ⟨_, rfl, ?_, ?_⟩⟩
      · rw [ba_extract, cut_eq, hsz]
      · have e1 : (b.extract (l'.getD 0) (h'.getD b.size)).size = (b.extract (l'.getD 0) (h'.getD b.size)).data.toList.length := by rw [Array.length_toList]; rfl
        rw [e1, ba_extract]
        have e2 : ((b.data.toList.take (h'.getD b.size)).drop (l'.getD 0)).length ≤ b.data.toList.length := by simp; omega
        rw [hsz] at e2
        omega
    · simp [Tree.run] at h
  · rename_i e ht
    split at h
    · split at h
      · rename_i hz
        simp only [Bool.and_eq_true] at hz
        obtain ⟨⟨⟨z1, z2⟩, z3⟩, z4⟩ := hz
        obtain ⟨sz, hs⟩ := Option.isSome_iff_exists.1 z4
        cases lo with
        | some _ => simp at z1
        | none =>
        cases ul <;> simp only [LRelO] at hlo
        obtain ⟨q, rfl⟩ : ∃ q, uh = some (.int q 0) := zeroI_some z2 hhi
        obtain ⟨q', rfl⟩ : ∃ q, um = some (.int q 0) := zeroI_some z3 hmx
        have hb : ∀ len cap, (Instr.sliceBounds true len cap none (some (.int q 0)) (some (.int q' 0))).run P w = .ok (0, 0, 0) w := by
          intro len cap
          have e1 : (Instr.sliceBound (.int q' 0) cap .slice3Acap).run P w = .ok 0 w := run_sliceBound ⟨by omega, by omega⟩
          have e2 : (Instr.sliceBound (.int q 0) 0 .slice3B).run P w = .ok 0 w := run_sliceBound ⟨by omega, by omega⟩
          simp [Instr.sliceBounds, e1, e2]
        have key : ∀ a len cap, (Instr.sliceAt t (.slice a len cap) none (some (.int q 0)) (some (.int q' 0))).run P w = .ok (.slice a 0 0) w := by
          intro a len cap
          have := run_sliceAt_slice (a := a) ht hs (hb len cap)
          simpa using this
        split at h
        · simp only [Tree.run, Option.some.injEq] at h; subst h
          have hv := (vrep_one rfl).1 hx
          simp only [Rep] at hv
          obtain ⟨a, c, hu, _⟩ := hv
          simp at hu; subst hu
          exact ⟨_, key _ _ _, a, rfl⟩
        · split at h
          all_goals first
            | (simp [Tree.run] at h; done)
            | (rename_i ho
               simp only [Tree.run, Option.some.injEq] at h; subst h
               simp only [LRel, ho] at hx
               rcases hx with ⟨_, h0, a, rfl⟩ | ⟨b, c, hb, rfl, hc, hm, hcap⟩
               · exact ⟨_, key _ _ _, a, rfl⟩
               · exact ⟨_, key _ _ _, _, rfl⟩)
        · simp [Tree.run] at h
      · simp [Tree.run] at h
    · rename_i hmx0
      have hm0 : mx = none := by cases mx <;> simp at hmx0 ⊢
      subst hm0
      cases um <;> simp only [LRelO] at hmx
      split at h
      · rename_i te xs
        split at h
        · rename_i hs
          have hv := (vrep_one rfl).1 hx
          simp only [Rep] at hv
          obtain ⟨a, c, hu, hc, hm, hr⟩ := hv
          simp at hu; subst hu
          obtain ⟨l', h', hb, h1, h2, h⟩ := bnds_run (P := P) (w := w) (isS := true) hc hlo hhi h
          simp only [Tree.run, Option.some.injEq] at h; subst h
          refine ⟨_, run_sliceAt_slice ht hs hb, (vrep_one rfl).2 ?_⟩
          simp only [Rep]
          generalize hL : l'.getD 0 = L at *
          generalize hH : h'.getD (List.length xs) = H at *
          have hcut : cut l' h' xs = (xs.take H).drop L := by rw [cut_eq, hL, hH]
          rw [hcut]
          have hlen : ((xs.take H).drop L).length = H - L := by simp; omega
          refine ⟨_, c - L, by rw [hlen], by rw [hlen]; omega, by omega, fun hn => ?_⟩
          rw [hlen] at hn
          obtain ⟨b, off, rfl, hS, hlt, hel⟩ := hr (by omega)
          have hcL : c ≠ L := by omega
          refine ⟨b, off + L * te.size, by simp [hcL, addr_add], hS, hlt, fun i x hi => ?_⟩
          rw [List.getElem?_drop, List.getElem?_take] at hi
          split at hi
          · obtain ⟨cs, k1, k2, k3⟩ := hel _ _ hi
            exact ⟨cs, k1, k2, by rw [show off + L * te.size + i * te.size = off + (L + i) * te.size by rw [Nat.add_mul]; omega]; exact k3⟩
          · cases hi
        · simp [Tree.run] at h
      · rename_i id
        split at h
        all_goals first
          | (simp [Tree.run] at h; done)
          | (rename_i te xs ho
             split at h
             · rename_i hs
               simp only [LRel, ho] at hx
               rcases hx with ⟨_, h0, a, rfl⟩ | ⟨b, c, hb, rfl, hc, hm, hcap⟩
               · rw [h0] at h
                 obtain ⟨l', h', hb, h1, h2, h⟩ := bnds_run (P := P) (w := w) (isS := true) (Nat.le_refl 0) hlo hhi h
                 simp only [Tree.run, Option.some.injEq] at h; subst h
                 have e2 : h'.getD 0 = 0 := by omega
                 have e1 : l'.getD 0 = 0 := by omega
                 rw [e1, e2] at hb
                 refine ⟨_, run_sliceAt_slice ht hs hb, ?_⟩
                 rw [e1, e2]
                 simp only [LRel, ho]
                 exact ⟨by omega, a, 0, by simp, by omega, by omega, by omega, fun h => by omega⟩
               · obtain ⟨l', h', hb', h1, h2, h⟩ := bnds_run (P := P) (w := w) (isS := true) hc hlo hhi h
                 simp only [Tree.run, Option.some.injEq] at h; subst h
                 refine ⟨_, run_sliceAt_slice ht hs hb', ?_⟩
                 simp only [LRel, ho]
                 refine ⟨by omega, _, c - l'.getD 0, rfl, by omega, by omega, by omega, fun hn => ⟨b, hb, ?_, ?_⟩⟩
                 · have : c ≠ l'.getD 0 := by omega
                   simp [this, addr_add]
                 · rw [show l'.getD 0 + (c - l'.getD 0) = c by omega]; exact hcap
             · simp [Tree.run] at h)
      · rename_i id off len
        split at h
        all_goals first
          | (simp [Tree.run] at h; done)
          | (rename_i te xs ho
             split at h
             · rename_i hs
               simp only [LRel, ho] at hx
               obtain ⟨hle, a, c, rfl, hc, hxc, hm, hr⟩ := hx
               obtain ⟨l', h', hb', h1, h2, h⟩ := bnds_run (P := P) (w := w) (isS := true) hc hlo hhi h
               simp only [Tree.run, Option.some.injEq] at h; subst h
               refine ⟨_, run_sliceAt_slice ht hs hb', ?_⟩
               simp only [LRel, ho]
               refine ⟨by omega, _, c - l'.getD 0, rfl, by omega, by omega, by omega, fun hn => ?_⟩
               obtain ⟨b, hb, rfl, hcap⟩ := hr (by omega)
               refine ⟨b, hb, ?_, ?_⟩
               · have : c ≠ l'.getD 0 := by omega
                 simp [this, addr_add, Nat.add_mul]
               · rw [show off + l'.getD 0 + (c - l'.getD 0) = off + c by omega]; exact hcap
             · simp [Tree.run] at h)
      · simp [Tree.run] at h
  · rename_i n e ht
    split at h
    · rename_i id
      cases um <;> simp only [LRelO] at hmx
      split at h
      · rename_i te xs ho
        split at h
        · rename_i hs
          obtain ⟨hn, h⟩ := run_grd h
          simp at hn
          simp only [LRel, ho] at hx
          obtain ⟨b, hb, rfl, hmax, hcap⟩ := hx
          obtain ⟨l', h', hb', h1, h2, h⟩ := bnds_run (P := P) (w := w) (isS := false) (Nat.le_refl n) hlo hhi h
          simp only [Tree.run, Option.some.injEq] at h; subst h
          refine ⟨.slice (some (if n = l'.getD 0 then ⟨b, 0, none⟩ else ⟨b, l'.getD 0 * te.size, none⟩)) (h'.getD n - l'.getD 0) (n - l'.getD 0), ?_, ?_⟩
          · simp only [Instr.sliceAt, Sem.run_bind, run_underlying ht, Result.andThen_ok, Instr.sureAddr, Sem.run_pure, hb', run_sizeOf hs, addr_add]
            split <;> simp
          · simp only [LRel, ho]
            refine ⟨by omega, _, n - l'.getD 0, rfl, by omega, by omega, ?_, fun hn' => ?_⟩
            · omega
            · refine ⟨b, hb, ?_, ?_⟩
              · have : n ≠ l'.getD 0 := by omega
                simp [this]
              · rw [show l'.getD 0 + (n - l'.getD 0) = List.length xs by omega]; exact hcap
        · simp [Tree.run] at h
      · simp [Tree.run] at h
    · simp [Tree.run] at h
  · simp [Tree.run] at h

theorem lenL_sound {t ty : TypeId} {x l : Lf} {u : Value} (hx : LRel P S μ sto w x u) (h : (lenL P sto t x).run = some l) :
    ∃ r, (Builtin.len_ #[t] ty #[u]).run P w = .ok r w ∧ LRel P S μ sto w l r := by
  have im : IntKind.i64.min = -9223372036854775808 := by decide
  have iM : IntKind.i64.max = 9223372036854775807 := by decide
  unfold lenL at h
  split at h
  · split at h
    · rename_i ht
      simp only [Tree.run, Option.some.injEq] at h; subst h
      obtain ⟨b, rfl, rfl, hb⟩ := lrel_str.1 hx
      have hsz : b.data.toList.length = b.size := by rw [Array.length_toList]; rfl
      exact ⟨.int .i64 (b.size : Nat), by simp [Builtin.len_, run_underlying ht, goInt], lrel_int.2 ⟨by rw [hsz], by rw [hsz]; omega⟩⟩
    · simp [Tree.run] at h
  · split at h
    · rename_i ht
      simp only [Tree.run, Option.some.injEq] at h; subst h
      have hv := (vrep_one rfl).1 hx
      simp only [Rep] at hv
      obtain ⟨a, c, hu, hc, hm, hr⟩ := hv
      simp at hu; subst hu
      exact ⟨_, by simp [Builtin.len_, run_underlying ht, goInt]; first | done | rfl, lrel_int.2 ⟨rfl, by omega⟩⟩
    · simp [Tree.run] at h
  · split at h
    · rename_i ht
      simp only [Tree.run, Option.some.injEq] at h; subst h
      obtain ⟨a, rfl⟩ := hx
      exact ⟨_, by simp [Builtin.len_, run_underlying ht, goInt]; first | done | rfl, lrel_int.2 ⟨rfl, by omega⟩⟩
    · simp [Tree.run] at h
  · split at h
    all_goals first
      | (simp [Tree.run] at h; done)
      | (rename_i ht ho
         simp only [Tree.run, Option.some.injEq] at h; subst h
         simp only [LRel, ho] at hx
         rcases hx with ⟨_, h0, a, rfl⟩ | ⟨b, c, hb, rfl, hc, hm, hcap⟩
         · exact ⟨.int .i64 0, by simp [Builtin.len_, run_underlying ht, goInt], lrel_int.2 ⟨by rw [h0]; rfl, by omega⟩⟩
         · exact ⟨_, by simp [Builtin.len_, run_underlying ht, goInt]; first | done | rfl, lrel_int.2 ⟨rfl, by omega⟩⟩)
  · split at h
    all_goals first
      | (simp [Tree.run] at h; done)
      | (rename_i ht ho
         simp only [Tree.run, Option.some.injEq] at h; subst h
         simp only [LRel, ho] at hx
         obtain ⟨hle, a, c, rfl, hc, hxc, hm, hr⟩ := hx
         exact ⟨_, by simp [Builtin.len_, run_underlying ht, goInt]; first | done | rfl, lrel_int.2 ⟨rfl, by omega⟩⟩)
  · simp [Tree.run] at h
end
end Go.Eng
end

/- EngI -/
section
set_option linter.unusedSimpArgs false
set_option linter.unusedVariables false
namespace Go.Eng
variable {P : Program} {C : Cx} {st : St} {a : Act} {w w' : World} {μ : Nat → Option Nat}

def upd (μ : Nat → Option Nat) (id : Nat) (m : Option Nat) : Nat → Option Nat := fun i => if i = id then m else μ i
theorem upd_same (μ : Nat → Option Nat) (id : Nat) (m : Option Nat) : upd μ id m id = m := by simp [upd]
theorem upd_other {μ : Nat → Option Nat} {id i : Nat} {m : Option Nat} (h : i ≠ id) : upd μ id m i = μ i := by simp [upd, h]

theorem place_get {sto : List Ob} {fid : Nat} (h : FidOk sto fid) (o : Ob) (id : Nat) : (place sto fid o)[id]? = if id = fid then some o else sto[id]? := by
  unfold place
  rcases h with h | h
  · subst h
    simp only [Nat.lt_irrefl, if_false]
    by_cases hid : id = sto.length
    · subst hid; simp
    · simp only [hid, if_false]
      rcases Nat.lt_or_ge id sto.length with hlt | hge
      · rw [List.getElem?_append_left hlt]
      · rw [List.getElem?_append_right hge, List.getElem?_eq_none hge]
        have : id - sto.length ≠ 0 := by omega
        obtain ⟨n, hn⟩ := Nat.exists_eq_succ_of_ne_zero this
        rw [hn]; rfl
  · have hlt : fid < sto.length := by
      rcases Nat.lt_or_ge fid sto.length with h' | h'
      · exact h'
      · rw [List.getElem?_eq_none h'] at h; cases h
    simp only [hlt, if_true, List.getElem?_set]
    by_cases hid : fid = id
    · subst hid; simp
    · have : ¬ id = fid := fun e => hid e.symm
      simp [hid, this]

/-- An object's state without those that were given up. -/
def kill (sto : List Ob) : Option Nat → List Ob
  | none => sto
  | some k => sto.set k .dead

theorem kill_get (sto : List Ob) (k : Option Nat) (id : Nat) : (kill sto k)[id]? = if k = some id ∧ id < sto.length then some .dead else sto[id]? := by
  cases k with
  | none => simp [kill]
  | some k =>
    simp only [kill, List.getElem?_set]
    by_cases h : k = id
    · subst h
      by_cases hl : k < sto.length
      · simp [hl]
      · simp [hl, List.getElem?_eq_none (Nat.le_of_not_lt hl)]
    · have : ¬ (some k = some id ∧ id < sto.length) := by simp [h]
      simp [h, this]

theorem lt_of_getElem? {α : Type} {l : List α} {i : Nat} {x : α} (h : l[i]? = some x) : i < l.length := by
  rcases Nat.lt_or_ge i l.length with h' | h'
  · exact h'
  · rw [List.getElem?_eq_none h'] at h; cases h

theorem capAt_keep (h : ∀ b, b < w.heap.size → w'.heap[b]? = w.heap[b]?) (b n : Nat) (hc : CapAt w b n) : CapAt w' b n := by
  obtain ⟨cs, e, fz, h1, h2⟩ := hc
  refine ⟨cs, e, fz, (h b ?_).trans h1, h2⟩
  rcases Nat.lt_or_ge b w.heap.size with h' | h'
  · exact h'
  · rw [Array.getElem?_eq_none h'] at h1; cases h1

/-- A new object; one may be given up for it, whose block may be the new one's. -/
theorem RelW.fresh (h : RelW P C st a w μ) {fid : Nat} (hfid : FidOk st.sto fid) {ob : Ob} {kid : Option Nat} {m : Option Nat}
    (hkid : ∀ k, kid = some k → ∃ o, st.sto[k]? = some o ∧ o ≠ .free)
    (hsz : w.heap.size ≤ w'.heap.size) (hos : w'.os = w.os) (htape : w'.tape = w.tape) (hout : w'.output = w.output)
    (hheap : ∀ b, b < w.heap.size → (∀ k o, kid = some k → st.sto[k]? = some o → o.mut = true → μ k ≠ some b) → w'.heap[b]? = w.heap[b]?)
    (hcaps : ∀ b n, CapAt w b n → CapAt w' b n)
    (hm : ∀ b, m = some b → b < w'.heap.size ∧ (w.heap.size ≤ b ∨ ∃ k o, kid = some k ∧ st.sto[k]? = some o ∧ o.mut = true ∧ μ k = some b))
    (hob : Keeps (Sof C μ st.sto w) (Sof C (upd μ fid m) (place (kill st.sto kid) fid ob) w') μ (upd μ fid m) st.sto (place (kill st.sto kid) fid ob) w w' →
      ORel P (Sof C (upd μ fid m) (place (kill st.sto kid) fid ob) w') (upd μ fid m) (place (kill st.sto kid) fid ob) w' fid ob) :
    RelW P C { st with sto := place (kill st.sto kid) fid ob } a w' (upd μ fid m) ∧
      Keeps (Sof C μ st.sto w) (Sof C (upd μ fid m) (place (kill st.sto kid) fid ob) w') μ (upd μ fid m) st.sto (place (kill st.sto kid) fid ob) w w' := by
  have hkf : ∀ k, kid = some k → k ≠ fid := by
    intro k hk he
    obtain ⟨o, ho, hne⟩ := hkid k hk
    subst he
    rcases hfid with hf | hf
    · have := lt_of_getElem? ho; omega
    · rw [hf] at ho; exact hne (Option.some.inj ho).symm
  have hlen : (kill st.sto kid).length = st.sto.length := by cases kid <;> simp [kill]
  have hfid' : FidOk (kill st.sto kid) fid := by
    rcases hfid with hf | hf
    · exact .inl (by rw [hlen]; exact hf)
    · refine .inr ?_
      rw [kill_get]
      have : ¬ (kid = some fid ∧ fid < st.sto.length) := fun e => hkf fid e.1 rfl
      simp [this, hf]
  have get : ∀ id, (place (kill st.sto kid) fid ob)[id]? = if id = fid then some ob else if kid = some id ∧ id < st.sto.length then some .dead else st.sto[id]? := by
    intro id; rw [place_get hfid', kill_get]
  -- a live mutable object of the new state, other than the new one, is an old one
  have old : ∀ (id : Nat) (o : Ob) (_b : Nat), id ≠ fid → (place (kill st.sto kid) fid ob)[id]? = some o → o.mut = true → st.sto[id]? = some o ∧ kid ≠ some id := by
    intro id o b hne ho hmut
    rw [get, if_neg hne] at ho
    split at ho
    · cases ho; cases hmut
    · rename_i hk
      exact ⟨ho, fun e => hk ⟨e, lt_of_getElem? ho⟩⟩
  refine h.move hsz hos htape hout ?_ ?_ ?_ hcaps ?_ ?_
  · intro id o b ho hmut hb
    by_cases hid : id = fid
    · subst hid
      rw [upd_same] at hb
      obtain ⟨h1, h2⟩ := hm b hb
      refine ⟨h1, ?_⟩
      rcases h2 with h2 | ⟨k, o', k1, k2, k3, k4⟩
      · exact .inl h2
      · exact .inr ⟨k, o', k2, k3, k4⟩
    · obtain ⟨h1, h2⟩ := old id o b hid ho hmut
      rw [upd_other hid] at hb
      exact ⟨Nat.lt_of_lt_of_le (h.blk id o b h1 hmut hb).1 hsz, .inr ⟨id, o, h1, hmut, hb⟩⟩
  · intro id id' o o' b ho ho' hmut hmut' hb hb'
    by_cases hid : id = fid <;> by_cases hid' : id' = fid
    · rw [hid, hid']
    · subst hid
      rw [upd_same] at hb
      obtain ⟨k1, k2⟩ := old id' o' b hid' ho' hmut'
      rw [upd_other hid'] at hb'
      rcases (hm b hb).2 with hge | ⟨k, o2, q1, q2, q3, q4⟩
      · have := (h.blk id' o' b k1 hmut' hb').1; omega
      · have := h.inj id' k o' o2 b k1 q2 hmut' q3 hb' q4
        exact absurd (this ▸ q1) k2
    · subst hid'
      rw [upd_same] at hb'
      obtain ⟨k1, k2⟩ := old id o b hid ho hmut
      rw [upd_other hid] at hb
      rcases (hm b hb').2 with hge | ⟨k, o2, q1, q2, q3, q4⟩
      · have := (h.blk id o b k1 hmut hb).1; omega
      · have := h.inj id k o o2 b k1 q2 hmut q3 hb q4
        exact absurd (this ▸ q1) k2
    · obtain ⟨k1, k2⟩ := old id o b hid ho hmut
      obtain ⟨k1', k2'⟩ := old id' o' b hid' ho' hmut'
      rw [upd_other hid] at hb
      rw [upd_other hid'] at hb'
      exact h.inj id id' o o' b k1 k1' hmut hmut' hb hb'
  · intro b hb hn
    exact hheap b hb (fun k o hk ho hmut => hn k o ho hmut)
  · intro id o ho
    rw [get]
    by_cases hid : id = fid
    · subst hid
      refine ⟨ob, by simp, ?_⟩
      rcases hfid with hf | hf
      · have := lt_of_getElem? ho; omega
      · rw [hf] at ho; cases ho
        exact ⟨by simp [Like], .inl rfl⟩
    · rw [if_neg hid]
      by_cases hk : kid = some id ∧ id < st.sto.length
      · rw [if_pos hk]
        exact ⟨.dead, rfl, by cases o <;> simp [Like], .inr (.inl rfl)⟩
      · rw [if_neg hk]
        refine ⟨o, ho, Like.refl o, ?_⟩
        have live : ∀ b, μ id = some b → (∀ k o2, kid = some k → st.sto[k]? = some o2 → o2.mut = true → μ k ≠ some b) → b < w.heap.size → ∀ n, CapAt w b n → CapAt w' b n := by
          intro b hb hno hlt n hc
          obtain ⟨cs, e, fz, h1, h2⟩ := hc
          exact ⟨cs, e, fz, (hheap b hlt hno).trans h1, h2⟩
        have hmutc : o.mut = true → ∀ b n, μ id = some b → CapAt w b n → CapAt w' b n := fun hmut b n hb hc =>
          live b hb (fun k o2 q1 q2 q3 q4 => by
            have := h.inj id k o o2 b ho q2 hmut q3 hb q4
            exact hk ⟨this ▸ q1, lt_of_getElem? ho⟩) (h.blk id o b ho hmut hb).1 n hc
        cases o with
        | free => exact .inl rfl
        | dead => exact .inr (.inl rfl)
        | var ls => exact .inr (.inr ⟨upd_other hid, hmutc rfl⟩)
        | arr t xs => exact .inr (.inr ⟨upd_other hid, hmutc rfl⟩)
        | mp k v es => exact .inr (.inr ⟨upd_other hid, hmutc rfl⟩)
        | fro t xs =>
          refine .inr (.inr ⟨upd_other hid, fun b n hb hc => ?_⟩)
          rcases h.obj id _ ho with ⟨h1, _⟩ | ⟨b', cs, e, fz, h1, hS, h2, _⟩
          · rw [h1] at hb; cases hb
          · rw [h1] at hb; cases hb
            exact live b h1 (fun k o2 q1 q2 q3 q4 => hS.2.2 k o2 q2 q3 q4) hS.1 n hc
        | frv t x =>
          refine .inr (.inr ⟨upd_other hid, fun b n hb hc => ?_⟩)
          obtain ⟨b', cs, e, fz, es, h1, hS, h2, _⟩ := h.obj id _ ho
          rw [h1] at hb; cases hb
          exact live b h1 (fun k o2 q1 q2 q3 q4 => hS.2.2 k o2 q2 q3 q4) hS.1 n hc
  · intro hk id o' ho'
    by_cases hid : id = fid
    · subst hid
      rw [get, if_pos rfl] at ho'
      cases ho'
      exact .inr (hob hk)
    · rw [get, if_neg hid] at ho'
      split at ho'
      · cases ho'; exact .inr trivial
      · rename_i hk'
        refine .inl ⟨ho', upd_other hid, fun b hb hmut => ?_⟩
        refine hheap b (h.blk id o' b ho' hmut hb).1 (fun k o hk1 hk2 hk3 hk4 => ?_)
        have := h.inj id k o' o b ho' hk2 hmut hk3 hb hk4
        exact hk' ⟨this ▸ hk1, lt_of_getElem? ho'⟩
end Go.Eng
end

/- EngJ -/
section
set_option linter.unusedSimpArgs false
set_option linter.unusedVariables false
namespace Go.Eng
variable {P : Program} {C : Cx} {st : St} {a : Act} {w w' : World} {μ : Nat → Option Nat}

theorem RelW.upd (h : RelW P C st a w μ) {id : Nat} {ob ob' : Ob} (ho : st.sto[id]? = some ob) (hmut : ob.mut = true) (hmut' : ob'.mut = true) (hl : Like ob ob')
    (hsz : w'.heap.size = w.heap.size) (hos : w'.os = w.os) (htape : w'.tape = w.tape) (hout : w'.output = w.output)
    (hheap : ∀ b, μ id ≠ some b → w'.heap[b]? = w.heap[b]?) (hcap : ∀ b n, μ id = some b → CapAt w b n → CapAt w' b n)
    (hob : Keeps (Sof C μ st.sto w) (Sof C μ (st.sto.set id ob') w') μ μ st.sto (st.sto.set id ob') w w' →
      ORel P (Sof C μ (st.sto.set id ob') w') μ (st.sto.set id ob') w' id ob') :
    RelW P C { st with sto := st.sto.set id ob' } a w' μ ∧ Keeps (Sof C μ st.sto w) (Sof C μ (st.sto.set id ob') w') μ μ st.sto (st.sto.set id ob') w w' := by
  have hlt := lt_of_getElem? ho
  have get : ∀ i, (st.sto.set id ob')[i]? = if i = id then some ob' else st.sto[i]? := by
    intro i
    rw [List.getElem?_set]
    by_cases hi : id = i
    · subst hi; simp [hlt]
    · have : ¬ i = id := fun e => hi e.symm
      simp [hi, this]
  have old : ∀ (i : Nat) (o : Ob), (st.sto.set id ob')[i]? = some o → o.mut = true → ∃ o', st.sto[i]? = some o' ∧ o'.mut = true := by
    intro i o hi hm
    rw [get] at hi
    by_cases he : i = id
    · subst he; exact ⟨ob, ho, hmut⟩
    · rw [if_neg he] at hi; exact ⟨o, hi, hm⟩
  have hcaps : ∀ b n, CapAt w b n → CapAt w' b n := by
    intro b n hc
    by_cases hb : μ id = some b
    · exact hcap b n hb hc
    · obtain ⟨cs, e, fz, h1, h2⟩ := hc
      exact ⟨cs, e, fz, (hheap b hb).trans h1, h2⟩
  refine h.move (Nat.le_of_eq hsz.symm) hos htape hout ?_ ?_ ?_ hcaps ?_ ?_
  · intro i o b hi hm hb
    obtain ⟨o', k1, k2⟩ := old i o hi hm
    exact ⟨by rw [hsz]; exact (h.blk i o' b k1 k2 hb).1, .inr ⟨i, o', k1, k2, hb⟩⟩
  · intro i i' o o' b hi hi' hm hm' hb hb'
    obtain ⟨o2, k1, k2⟩ := old i o hi hm
    obtain ⟨o3, k3, k4⟩ := old i' o' hi' hm'
    exact h.inj i i' o2 o3 b k1 k3 k2 k4 hb hb'
  · intro b hb hn
    exact hheap b (hn id ob ho hmut)
  · intro i o hi
    rw [get]
    by_cases he : i = id
    · subst he
      rw [if_pos rfl]
      rw [ho] at hi; cases hi
      exact ⟨ob', rfl, hl, .inr (.inr ⟨rfl, hcap⟩)⟩
    · rw [if_neg he]
      refine ⟨o, hi, Like.refl o, ?_⟩
      by_cases hm : o.mut = true
      · refine .inr (.inr ⟨rfl, fun b n hb hc => ?_⟩)
        obtain ⟨cs, e, fz, h1, h2⟩ := hc
        exact ⟨cs, e, fz, (hheap b (fun hb' => he (h.inj i id o ob b hi ho hm hmut hb hb'))).trans h1, h2⟩
      · cases o with
        | free => exact .inl rfl
        | dead => exact .inr (.inl rfl)
        | var ls => simp [Ob.mut] at hm
        | arr t xs => simp [Ob.mut] at hm
        | mp k v es => simp [Ob.mut] at hm
        | fro t xs =>
          refine .inr (.inr ⟨rfl, fun b n hb hc => ?_⟩)
          rcases h.obj i _ hi with ⟨h1, _⟩ | ⟨b', cs, e, fz, h1, hS, h2, _⟩
          · rw [h1] at hb; cases hb
          · rw [h1] at hb; cases hb
            obtain ⟨cs, e, fz, q1, q2⟩ := hc
            exact ⟨cs, e, fz, (hheap b (fun hb' => hS.2.2 id ob ho hmut hb')).trans q1, q2⟩
        | frv t x =>
          refine .inr (.inr ⟨rfl, fun b n hb hc => ?_⟩)
          obtain ⟨b', cs, e, fz, es, h1, hS, h2, _⟩ := h.obj i _ hi
          rw [h1] at hb; cases hb
          obtain ⟨cs, e, fz, q1, q2⟩ := hc
          exact ⟨cs, e, fz, (hheap b (fun hb' => hS.2.2 id ob ho hmut hb')).trans q1, q2⟩
  · intro hk i o' hi
    rw [get] at hi
    by_cases he : i = id
    · subst he
      rw [if_pos rfl] at hi; cases hi
      exact .inr (hob hk)
    · rw [if_neg he] at hi
      exact .inl ⟨hi, rfl, fun b hb hm => hheap b (fun hb' => he (h.inj i id o' ob b hi ho hm hmut hb hb'))⟩

/-- Nobody writes to it any more. -/
def frz1 (sto : List Ob) (id : Nat) : List Ob := match sto[id]? with | some (.arr t xs) => sto.set id (.fro t xs) | _ => sto
def frz (sto : List Ob) : List Nat → List Ob
  | [] => sto
  | i :: r => frz (frz1 sto i) r

theorem RelW.frz1 (h : RelW P C st a w μ) (id : Nat) : RelW P C { st with sto := frz1 st.sto id } a w μ ∧
    Keeps (Sof C μ st.sto w) (Sof C μ (Eng.frz1 st.sto id) w) μ μ st.sto (Eng.frz1 st.sto id) w w := by
  unfold Eng.frz1
  split
  · rename_i t xs ho
    have hlt := lt_of_getElem? ho
    have get : ∀ i, (st.sto.set id (.fro t xs))[i]? = if i = id then some (.fro t xs) else st.sto[i]? := by
      intro i
      rw [List.getElem?_set]
      by_cases hi : id = i
      · subst hi; simp [hlt]
      · have : ¬ i = id := fun e => hi e.symm
        simp [hi, this]
    have old : ∀ (i : Nat) (o : Ob), (st.sto.set id (.fro t xs))[i]? = some o → o.mut = true → i ≠ id ∧ st.sto[i]? = some o := by
      intro i o hi hm
      rw [get] at hi
      by_cases he : i = id
      · subst he; rw [if_pos rfl] at hi; cases hi; simp [Ob.mut] at hm
      · rw [if_neg he] at hi; exact ⟨he, hi⟩
    refine h.move (Nat.le_refl _) rfl rfl rfl ?_ ?_ (fun _ _ _ => rfl) (fun _ _ hc => hc) ?_ ?_
    · intro i o b hi hm hb
      obtain ⟨_, k⟩ := old i o hi hm
      exact ⟨(h.blk i o b k hm hb).1, .inr ⟨i, o, k, hm, hb⟩⟩
    · intro i i' o o' b hi hi' hm hm' hb hb'
      exact h.inj i i' o o' b (old i o hi hm).2 (old i' o' hi' hm').2 hm hm' hb hb'
    · intro i o hi
      rw [get]
      by_cases he : i = id
      · subst he
        rw [ho] at hi; cases hi
        exact ⟨_, if_pos rfl, ⟨rfl, rfl⟩, .inr (.inr ⟨rfl, fun _ _ _ hc => hc⟩)⟩
      · rw [if_neg he]
        exact ⟨o, hi, Like.refl o, .inr (.inr ⟨rfl, fun _ _ _ hc => hc⟩)⟩
    · intro hk i o' hi
      rw [get] at hi
      by_cases he : i = id
      · subst he
        rw [if_pos rfl] at hi; cases hi
        refine .inr ?_
        rcases h.obj i _ ho with h1 | ⟨b, cs, e, fz, h1, h2, h3, h4⟩
        · exact .inl h1
        · refine .inr ⟨b, cs, e, fz, h1, ⟨(lt_of_some h2), ?_, fun i' o2 k1 k2 k3 => ?_⟩, h2, h4.ext hk.ext⟩
          · rcases (h.blk i _ b ho rfl h1).2 with hge | hm
            · exact .inr (.inr hge)
            · exact .inr (.inl hm)
          · obtain ⟨q1, q2⟩ := old i' o2 k1 k2
            exact q1 (h.inj i' i o2 _ b q2 ho k2 rfl k3 h1)
      · rw [if_neg he] at hi
        exact .inl ⟨hi, rfl, fun _ _ _ => rfl⟩
  · exact ⟨h, ⟨Ext.refl _ _, fun i o hi => ⟨o, hi, Like.refl o, .inr (.inr ⟨rfl, fun _ _ _ hc => hc⟩)⟩⟩⟩

theorem RelW.frz : ∀ (ids : List Nat) {st : St}, RelW P C st a w μ → RelW P C { st with sto := frz st.sto ids } a w μ
  | [], _, h => h
  | i :: r, st, h => RelW.frz r (st := { st with sto := Eng.frz1 st.sto i }) (h.frz1 i).1

theorem Keeps.trans {S S' S'' : Nat → Prop} {μ μ' μ'' : Nat → Option Nat} {sto sto' sto'' : List Ob} {w w' w'' : World} (h : Keeps S S' μ μ' sto sto' w w') (k : Keeps S' S'' μ' μ'' sto' sto'' w' w'') :
    Keeps S S'' μ μ'' sto sto'' w w'' := by
  refine ⟨h.ext.trans k.ext, fun id o ho => ?_⟩
  obtain ⟨o', h1, h2, h3⟩ := h.like id o ho
  obtain ⟨o'', k1, k2, k3⟩ := k.like id o' h1
  refine ⟨o'', k1, ?_, ?_⟩
  · cases o <;> cases o' <;> cases o'' <;> simp only [Like] at h2 k2 ⊢ <;> first | trivial | exact h2.elim | exact k2.elim | (obtain ⟨rfl, q1⟩ := h2; obtain ⟨rfl, q2⟩ := k2; exact ⟨rfl, q1.trans q2⟩)
  · rcases h3 with h3 | h3 | ⟨h3, h4⟩
    · exact .inl h3
    · subst h3
      refine .inr (.inl ?_)
      cases o'' <;> simp only [Like] at k2 <;> first | rfl | exact k2.elim
    · rcases k3 with k3 | k3 | ⟨k3, k4⟩
      · subst k3
        refine .inl ?_
        cases o <;> simp only [Like] at h2 <;> first | rfl | exact h2.elim
      · exact .inr (.inl k3)
      · exact .inr (.inr ⟨k3.trans h3, fun b n hb hc => k4 b n (h3.trans hb) (h4 b n hb hc)⟩)

theorem frz_keeps : ∀ (ids : List Nat) {st : St}, RelW P C st a w μ → Keeps (Sof C μ st.sto w) (Sof C μ (Eng.frz st.sto ids) w) μ μ st.sto (Eng.frz st.sto ids) w w
  | [], st, h => ⟨Ext.refl _ _, fun i o hi => ⟨o, hi, Like.refl o, .inr (.inr ⟨rfl, fun _ _ _ hc => hc⟩)⟩⟩
  | i :: r, st, h => (h.frz1 i).2.trans (frz_keeps r (st := { st with sto := Eng.frz1 st.sto i }) (h.frz1 i).1)

/-! ### Cells, one behind the other -/
/-- Cells with others from off on. -/
def splice (cs : Array Value) (off : Nat) : List Value → Array Value
  | [] => cs
  | v :: r => splice (cs.setIfInBounds off v) (off + 1) r

theorem splice_size (cs : Array Value) (off : Nat) (vs : List Value) : (splice cs off vs).size = cs.size := by
  induction vs generalizing cs off with
  | nil => rfl
  | cons v r ih => simp [splice, ih]

theorem splice_get (vs : List Value) : ∀ (cs : Array Value) (off i : Nat), off + vs.length ≤ cs.size →
    (splice cs off vs)[i]? = if off ≤ i ∧ i < off + vs.length then vs[i - off]? else cs[i]? := by
  induction vs with
  | nil => intro cs off i _; simp [splice]; intro h1 h2; omega
  | cons v r ih =>
    intro cs off i h
    simp only [List.length_cons] at h
    rw [splice, ih _ _ _ (by simp; omega)]
    by_cases h1 : off + 1 ≤ i ∧ i < off + 1 + r.length
    · rw [if_pos h1, if_pos (by simp; omega)]
      have : i - off = (i - (off + 1)) + 1 := by omega
      rw [this]; rfl
    · rw [if_neg h1]
      by_cases h2 : i = off
      · subst h2
        rw [if_pos (by simp)]
        simp [Array.getElem?_setIfInBounds]
        omega
      · rw [if_neg (by simp; omega), Array.getElem?_setIfInBounds_ne (fun e => h2 e.symm)]

def wset (w : World) (b : Nat) (o : Obj) : World := { w with heap := w.heap.setIfInBounds b o }
theorem wset_same {w : World} {b : Nat} {o : Obj} (h : b < w.heap.size) : (wset w b o).heap[b]? = some o := by simp [wset, h]
theorem wset_other {w : World} {b i : Nat} {o : Obj} (h : i ≠ b) : (wset w b o).heap[i]? = w.heap[i]? := by
  simp [wset, Array.getElem?_setIfInBounds_ne (fun e => h e.symm)]
theorem wset_wset (w : World) (b : Nat) (o o' : Obj) : wset (wset w b o) b o' = wset w b o' := by
  simp only [wset, Array.setIfInBounds_setIfInBounds]
theorem wset_self {w : World} {b : Nat} {o : Obj} (h : w.heap[b]? = some o) : wset w b o = w := by
  have hlt := lt_of_some h
  rw [Array.getElem?_eq_getElem hlt] at h
  simp only [Option.some.injEq] at h
  subst h
  simp [wset, Array.setIfInBounds, hlt]

theorem setCell_wset {w : World} {b off : Nat} {cs : Array Value} {e : TypeId} {fz : Nat × Nat} {v : Value} (h : w.heap[b]? = some (.cells cs e fz)) :
    w.setCell ⟨b, off, none⟩ v = wset w b (.cells (cs.setIfInBounds off v) e fz) := by
  have hlt := lt_of_some h
  unfold World.setCell wset
  congr 1
  apply Array.ext_getElem?
  intro i
  rw [Array.getElem?_modify]
  by_cases hi : b = i
  · subst hi
    have h' : w.heap[b] = .cells cs e fz := by rw [Array.getElem?_eq_getElem hlt] at h; exact Option.some.inj h
    simp [hlt, h']
  · simp [hi]

theorem run_storeCells {b : Nat} {e : TypeId} {fz : Nat × Nat} (vs : List Value) : ∀ {w : World} {cs : Array Value} {off : Nat} (i : Nat), w.heap[b]? = some (.cells cs e fz) → Unfrozen fz cs.size →
    off + i + vs.length ≤ cs.size → (∀ v ∈ vs, Value.single v = true) →
    (storeCells ⟨b, off, none⟩ vs i).run P w = .ok () (wset w b (.cells (splice cs (off + i) vs) e fz)) := by
  induction vs with
  | nil => intro w cs off i h _ _ _; simp [storeCells, splice, wset_self h]
  | cons v r ih =>
    intro w cs off i h hu hle hs
    simp only [List.length_cons] at hle
    have h1 : (store ((⟨b, off, none⟩ : Addr).add i) v).run P w = .ok () (wset w b (.cells (cs.setIfInBounds (off + i) v) e fz)) := by
      have hv : v.oneCell' = true := by
        have := hs v (by simp)
        cases v <;> simp_all [Value.single, Value.oneCell']
      rw [addr_add, run_store P w _ v _ hv]
      have hc : w.cell? ⟨b, off + i, none⟩ = some cs[off + i] := by
        simp [World.cell?, h, Array.getElem?_eq_getElem (show off + i < cs.size by omega)]
      have hf : w.frozen? ⟨b, off + i, none⟩ = false := by
        have := hu (off + i) (by omega)
        simp only [World.frozen?, h]
        simp only [Bool.and_eq_false_imp, decide_eq_true_eq, decide_eq_false_iff_not]
        intro h1 h2; exact this ⟨h1, h2⟩
      simp only [hc, hf]
      rw [setCell_wset h]; rfl
    simp only [storeCells, Sem.run_bind, h1, Result.andThen_ok]
    have := ih (w := wset w b (.cells (cs.setIfInBounds (off + i) v) e fz)) (cs := cs.setIfInBounds (off + i) v) (off := off) (i + 1)
      (wset_same (lt_of_some h)) (by simpa using hu) (by simp; omega) (fun u hu' => hs u (by simp [hu']))
    rw [this, wset_wset]
    rfl

theorem run_loadCells {b : Nat} {cs : Array Value} {e : TypeId} {fz : Nat × Nat} {w : World} {off : Nat} (h : w.heap[b]? = some (.cells cs e fz)) : ∀ (n i : Nat) (acc : Array Value), off + i + n ≤ cs.size →
    (loadCellsFrom ⟨b, off, none⟩ i n acc).run P w = .ok (acc ++ ((cs.toList.drop (off + i)).take n).toArray) w := by
  intro n
  induction n with
  | zero => intro i acc _; simp [loadCellsFrom]
  | succ n ih =>
    intro i acc hle
    have hc : w.cell? ((⟨b, off, none⟩ : Addr).add i) = some cs[off + i] := by
      rw [addr_add]
      simp [World.cell?, h, Array.getElem?_eq_getElem (show off + i < cs.size by omega)]
    simp only [loadCellsFrom, Sem.run_bind, run_load, hc, Result.andThen_ok]
    rw [ih (i + 1) _ (by omega)]
    congr 1
    rw [← Array.toList_inj]
    have hd : cs.toList.drop (off + i) = cs[off + i] :: cs.toList.drop (off + (i + 1)) := by
      rw [List.drop_eq_getElem_cons (by simp; omega)]; rfl
    simp [hd]
end Go.Eng
end

/- EngK -/
section
set_option linter.unusedSimpArgs false
set_option linter.unusedVariables false
namespace Go.Eng

def castO {a b : Ty} : Option (PLift (a = b)) → Option (a.El → b.El)
  | some ⟨h⟩ => some (castEl h)
  | none => none
def eq0 (off : Nat) (a b : Ty) : Option (PLift (a = b)) := if off = 0 then Ty.eq? a b else none

/-- The part of kind 'want' that lies from a cell on. -/
def comp (want : Ty) : (t : Ty) → Nat → Option (t.El → want.El)
  | .pair a b, off =>
    match castO (eq0 off (.pair a b) want) with
    | some f => some f
    | none => if off < a.size then (match comp want a off with | some f => some fun x => f x.1 | none => none)
      else (match comp want b (off - a.size) with | some f => some fun x => f x.2 | none => none)
  | t, off => castO (eq0 off t want)

/-- Data with another part from a cell on. -/
def updc (want : Ty) : (t : Ty) → Nat → Option (want.El → t.El → t.El)
  | .pair a b, off =>
    match castO (eq0 off want (.pair a b)) with
    | some f => some fun y _ => f y
    | none => if off < a.size then (match updc want a off with | some f => some fun y x => (f y x.1, x.2) | none => none)
      else (match updc want b (off - a.size) with | some f => some fun y x => (x.1, f y x.2) | none => none)
  | t, off => match castO (eq0 off want t) with | some f => some fun y _ => f y | none => none

/-- A node out of its content. -/
def boxN (t tb : Ty) (x : tb.El) : Option t.El := match t with
  | .node t' => match Ty.eq? tb (nodeBody t') with | some ⟨h⟩ => some (nodeBox (castEl h x) : Node t'.El) | none => none
  | _ => none

/-- One cell's leaf as data. -/
def packL (sto : List Ob) (t : Ty) : Lf → Option t.El
  | .val t' x => match Ty.eq? t' t with | some ⟨h⟩ => some (castEl h x) | none => none
  | .nils _ => match t with | .slice t' => some ([] : List t'.El) | _ => none
  | .vec id => match sto[id]? with
    | some (.fro t' xs) => match Ty.eq? (.slice t') t with | some ⟨h⟩ => some (castEl h xs) | none => none
    | _ => none
  | .sub id off len => match sto[id]? with
    | some (.fro t' xs) => match Ty.eq? (.slice t') t with | some ⟨h⟩ => some (castEl (a := .slice t') h ((xs.drop off).take len)) | none => none
    | _ => none
  | .nilp => match t with | .node t' => some (Node.nil : Node t'.El) | _ => none
  | .ptr id off => match sto[id]? with
    | some (.frv tb x) => if off = 0 then boxN t tb x else none
    | _ => none
  | .pbox tb x off => if off = 0 then boxN t tb x else none
  | _ => none

def pack (sto : List Ob) : (t : Ty) → List Lf → Option (t.El × List Lf)
  | .unit, ls => some ((), ls)
  | .pair a b, ls => match pack sto a ls with
    | some (x, r) => match pack sto b r with
      | some (y, r') => some ((x, y), r')
      | none => none
    | none => none
  | .arr _ _, _ => none
  | t, l :: r => match packL sto t l with | some x => some (x, r) | none => none
  | _, [] => none

def packAV (sto : List Ob) (t : Ty) : AV → Option t.El
  | .one (.val t' x) => match Ty.eq? t' t with | some ⟨h⟩ => some (castEl h x) | none => none
  | .one l => if t.agg then none else packL sto t l
  | .agg ls => if t.agg then (match pack sto t ls with | some (x, []) => some x | _ => none) else none
  | .tup _ => none

def idsL : Lf → List Nat
  | .vec id => [id]
  | .sub id _ _ => [id]
  | _ => []
def idsAV : AV → List Nat
  | .one l => idsL l
  | .agg ls => ls.flatMap idsL
  | .tup ls => ls.flatMap idsL

section
variable {P : Program} {S : Nat → Prop} {μ : Nat → Option Nat} {sto : List Ob} {w : World}

theorem rep_cast {a b : Ty} (h : a = b) {x : a.El} {m : Bool} {vs : List Value} (hr : Rep P m a S w x vs) : Rep P m b S w (castEl h x) vs := by subst h; exact hr
theorem vrep_cast {a b : Ty} (h : a = b) {x : a.El} {v : Value} (hr : VRep P S w a x v) : VRep P S w b (castEl h x) v := by subst h; exact hr
theorem lrel_cast {a b : Ty} (h : a = b) {x : a.El} {v : Value} (hr : LRel P S μ sto w (.val a x) v) : LRel P S μ sto w (.val b (castEl h x)) v := by subst h; exact hr

theorem castO_some {a b : Ty} {o : Option (PLift (a = b))} {f : a.El → b.El} (h : castO o = some f) : ∃ e : a = b, f = castEl e ∧ o = some ⟨e⟩ := by
  cases o with
  | none => cases h
  | some p => obtain ⟨e⟩ := p; simp only [castO, Option.some.injEq] at h; exact ⟨e, h.symm, rfl⟩
theorem eq0_some {off : Nat} {a b : Ty} {p : PLift (a = b)} (h : eq0 off a b = some p) : off = 0 := by
  unfold eq0 at h
  split at h
  · assumption
  · cases h

theorem comp_leaf {want t : Ty} {off : Nat} {f : t.El → want.El} {x : t.El} {cs : List Value} (h : castO (eq0 off t want) = some f) (hr : Rep P false t S w x cs) :
    Rep P false want S w (f x) ((cs.drop off).take want.size) := by
  obtain ⟨e, rfl, ho⟩ := castO_some h
  obtain rfl := eq0_some ho
  subst e
  rw [List.drop_zero, ← hr.length, List.take_length]
  exact hr

theorem comp_sound {want : Ty} : ∀ {t : Ty} {off : Nat} {f : t.El → want.El} {x : t.El} {cs : List Value}, comp want t off = some f → Rep P false t S w x cs →
    Rep P false want S w (f x) ((cs.drop off).take want.size) := by
  intro t
  induction t with
  | pair a b iha ihb =>
    intro off f x cs h hr
    unfold comp at h
    split at h
    · rename_i g hg
      simp only [Option.some.injEq] at h; subst h
      exact comp_leaf hg hr
    · simp only [Rep] at hr
      obtain ⟨c1, c2, rfl, l1, l2, r1, r2⟩ := hr
      split at h
      · rename_i hlt
        split at h
        · rename_i g hg
          simp only [Option.some.injEq] at h; subst h
          have := iha hg r1
          have hfit : off + want.size ≤ a.size := by
            have := this.length
            simp at this
            omega
          rw [List.drop_append_of_le_length (by omega), List.take_append_of_le_length (by simp; omega)]
          exact this
        · cases h
      · rename_i hge
        split at h
        · rename_i g hg
          simp only [Option.some.injEq] at h; subst h
          have := ihb hg r2
          rw [List.drop_append, List.drop_of_length_le (by omega), List.nil_append, l1]
          exact this
        · cases h
  | _ => intro off f x cs h hr; exact comp_leaf (by simpa only [comp] using h) hr

theorem updc_leaf {want t : Ty} {off : Nat} {f : want.El → t.El} {x : t.El} {y : want.El} {cs ds : List Value} (h : castO (eq0 off want t) = some f)
    (hr : Rep P false t S w x cs) (hd : Rep P false want S w y ds) : Rep P false t S w (f y) (cs.take off ++ ds ++ cs.drop (off + want.size)) ∧ off + want.size ≤ t.size := by
  obtain ⟨e, rfl, ho⟩ := castO_some h
  obtain rfl := eq0_some ho
  subst e
  refine ⟨?_, by omega⟩
  rw [List.take_zero, List.nil_append, Nat.zero_add, ← hr.length, List.drop_length, List.append_nil]
  exact hd

theorem updc_sound {want : Ty} : ∀ {t : Ty} {off : Nat} {f : want.El → t.El → t.El} {x : t.El} {y : want.El} {cs ds : List Value}, updc want t off = some f → Rep P false t S w x cs → Rep P false want S w y ds →
    Rep P false t S w (f y x) (cs.take off ++ ds ++ cs.drop (off + want.size)) ∧ off + want.size ≤ t.size := by
  intro t
  have leaf : ∀ {t : Ty} {off : Nat} {f : want.El → t.El → t.El} {x : t.El} {y : want.El} {cs ds : List Value},
      (match castO (eq0 off want t) with | some f => some fun y _ => f y | none => none) = some f → Rep P false t S w x cs → Rep P false want S w y ds →
      Rep P false t S w (f y x) (cs.take off ++ ds ++ cs.drop (off + want.size)) ∧ off + want.size ≤ t.size := by
    intro t off f x y cs ds h hr hd
    split at h
    · rename_i g hg
      simp only [Option.some.injEq] at h; subst h
      exact updc_leaf hg hr hd
    · cases h
  induction t with
  | pair a b iha ihb =>
    intro off f x y cs ds h hr hd
    unfold updc at h
    split at h
    · rename_i g hg
      simp only [Option.some.injEq] at h; subst h
      exact updc_leaf hg hr hd
    · simp only [Rep] at hr
      obtain ⟨c1, c2, rfl, l1, l2, r1, r2⟩ := hr
      split at h
      · rename_i hlt
        split at h
        · rename_i g hg
          simp only [Option.some.injEq] at h; subst h
          obtain ⟨k1, k2⟩ := iha hg r1 hd
          refine ⟨?_, by simp only [Ty.size]; omega⟩
          simp only [Rep]
          refine ⟨_, c2, ?_, k1.length, l2, k1, r2⟩
          rw [List.take_append_of_le_length (by omega), List.drop_append_of_le_length (by omega)]
          simp
        · cases h
      · rename_i hge
        split at h
        · rename_i g hg
          simp only [Option.some.injEq] at h; subst h
          obtain ⟨k1, k2⟩ := ihb hg r2 hd
          refine ⟨?_, by simp only [Ty.size]; omega⟩
          simp only [Rep]
          refine ⟨c1, _, ?_, l1, k1.length, r1, k1⟩
          rw [List.take_append, List.take_of_length_le (by omega), l1, List.drop_append, List.drop_of_length_le (by omega), List.nil_append, l1]
          rw [show off + want.size - a.size = off - a.size + want.size by omega]
          simp
        · cases h
  | _ => intro off f x y cs ds h hr hd; exact leaf (by simpa only [updc] using h) hr hd

theorem boxN_sound {t tb : Ty} {x : tb.El} {y : t.El} {b o : Nat} {cs : List Value} (h : boxN t tb x = some y) (hS : S b) (hlt : b < w.heap.size) (hr : Rep P false tb S w x cs) (hc : CellsAt w b o cs) :
    Rep P false t S w y [.pointer (some ⟨b, o, none⟩)] := by
  unfold boxN at h
  split at h
  · split at h
    · rename_i e _
      simp only [Option.some.injEq] at h; subst h
      exact rep_box hS hlt (rep_cast e hr) hc
    · cases h
  · cases h

theorem packL_sound {t : Ty} {l : Lf} {v : Value} {x : t.El} (hob : ∀ id o, sto[id]? = some o → ORel P S μ sto w id o) (ht : t.agg = false) (hl : LRel P S μ sto w l v)
    (h : packL sto t l = some x) : Rep P false t S w x [v] := by
  have arrs : ∀ {id : Nat} {t' : Ty} {xs : List t'.El} {b : Nat}, sto[id]? = some (.fro t' xs) → μ id = some b →
      S b ∧ b < w.heap.size ∧ ∀ i (y : t'.El), xs[i]? = some y → ∃ cs, Rep P false t' S w y cs ∧ cs.length = t'.size ∧ CellsAt w b (i * t'.size) cs := by
    intro id t' xs b ho hb
    rcases hob id _ ho with ⟨h1, _⟩ | ⟨b', cs, e, fz, h1, hS, h2, h3⟩
    · rw [h1] at hb; cases hb
    · rw [h1] at hb; cases hb
      refine ⟨hS, lt_of_some h2, fun i y hi => ?_⟩
      obtain ⟨es, k1, k2⟩ := h3.2.2 i y hi
      exact ⟨es, k1, k1.length, fun j v hj => by simp only [World.cell?, h2]; exact k2 j v hj⟩
  unfold packL at h
  split at h
  · split at h
    · rename_i e _
      simp only [Option.some.injEq] at h; subst h
      subst e
      exact (vrep_one ht).1 hl
    · cases h
  · split at h
    · simp only [Option.some.injEq] at h; subst h
      obtain ⟨a, rfl⟩ := hl
      simp only [Rep]
      exact ⟨a, 0, rfl, by simp, by omega, fun hn => absurd rfl hn⟩
    · cases h
  · rename_i id
    split at h
    · rename_i t' xs ho
      split at h
      · rename_i e _
        simp only [Option.some.injEq] at h; subst h
        subst e
        simp only [LRel, ho] at hl
        simp only [castEl, Rep]
        rcases hl with ⟨_, h0, a, rfl⟩ | ⟨b, c, hb, rfl, hc, hm, _⟩
        · exact ⟨a, 0, by rw [h0], by omega, by omega, fun hn => absurd h0 hn⟩
        · obtain ⟨k1, k2, k3⟩ := arrs ho hb
          exact ⟨_, c, rfl, hc, hm, fun _ => ⟨b, 0, rfl, k1, k2, fun i y hi => by simpa using k3 i y hi⟩⟩
      · cases h
    · cases h
  · rename_i id off len
    split at h
    · rename_i t' xs ho
      split at h
      · rename_i e _
        simp only [Option.some.injEq] at h; subst h
        subst e
        simp only [LRel, ho] at hl
        simp only [castEl, Rep]
        obtain ⟨hle, a, c, rfl, hc, _, hm, hr⟩ := hl
        have hlen : ((xs.drop off).take len).length = len := by simp; omega
        refine ⟨a, c, by rw [hlen], by rw [hlen]; exact hc, hm, fun hn => ?_⟩
        rw [hlen] at hn
        obtain ⟨b, hb, rfl, _⟩ := hr (by omega)
        obtain ⟨k1, k2, k3⟩ := arrs ho hb
        refine ⟨b, off * t'.size, rfl, k1, k2, fun i y hi => ?_⟩
        rw [List.getElem?_take] at hi
        split at hi
        · rw [List.getElem?_drop] at hi
          obtain ⟨cs, q1, q2, q3⟩ := k3 _ _ hi
          exact ⟨cs, q1, q2, by rw [← Nat.add_mul]; exact q3⟩
        · cases hi
      · cases h
    · cases h
  · split at h
    · simp only [Option.some.injEq] at h; subst h
      obtain rfl : v = .pointer none := hl
      exact rep_nil.2 rfl
    · cases h
  · rename_i id off
    split at h
    · rename_i tb y ho
      split at h
      · rename_i h0
        subst h0
        simp only [LRel, ho] at hl
        obtain ⟨b, hb, rfl⟩ := hl
        obtain ⟨b', cs, e, fz, es, q1, hS, q2, q3, q4⟩ := hob id _ ho
        rw [hb] at q1; cases q1
        exact boxN_sound h hS (lt_of_some q2) q3 q4
      · cases h
    · cases h
  · rename_i tb y off
    split at h
    · rename_i h0
      subst h0
      obtain ⟨b, o, cs, rfl, hS, hlt, hr, hc⟩ := hl
      exact boxN_sound h hS hlt hr hc
    · cases h
  · cases h

/-- Leaves and the cells that they stand for. -/
def Cells (P : Program) (S : Nat → Prop) (μ : Nat → Option Nat) (sto : List Ob) (w : World) : List Lf → List Value → Prop
  | [], [] => True
  | l :: ls, v :: vs => (Value.single v = true ∧ LRel P S μ sto w l v) ∧ Cells P S μ sto w ls vs
  | _, _ => False

theorem cells_iff : ∀ {ls : List Lf} {vs : List Value}, Cells P S μ sto w ls vs ↔ vs.length = ls.length ∧ ∀ (i : Nat) (l : Lf), ls[i]? = some l → ∃ u, vs[i]? = some u ∧ Value.single u = true ∧ LRel P S μ sto w l u
  | [], [] => by simp [Cells]
  | [], v :: vs => by simp [Cells]
  | l :: ls, [] => by simp [Cells]
  | l :: ls, v :: vs => by
    simp only [Cells, cells_iff (ls := ls) (vs := vs), List.length_cons, Nat.add_right_cancel_iff]
    constructor
    · rintro ⟨h1, h2, h3⟩
      refine ⟨h2, fun i x hi => ?_⟩
      cases i with
      | zero => simp at hi; subst hi; exact ⟨v, rfl, h1⟩
      | succ i => exact h3 i x hi
    · rintro ⟨h1, h2⟩
      refine ⟨?_, h1, fun i x hi => h2 (i + 1) x hi⟩
      obtain ⟨u, k1, k2⟩ := h2 0 l rfl
      simp at k1; subst k1; exact k2

theorem pack_sound (hob : ∀ id o, sto[id]? = some o → ORel P S μ sto w id o) : ∀ {t : Ty} {ls r : List Lf} {cs : List Value} {x : t.El}, Cells P S μ sto w ls cs → pack sto t ls = some (x, r) →
    ∃ c1 c2, cs = c1 ++ c2 ∧ Rep P false t S w x c1 ∧ Cells P S μ sto w r c2 := by
  have one : ∀ {t : Ty} {ls r : List Lf} {cs : List Value} {x : t.El}, t.agg = false → Cells P S μ sto w ls cs →
      (match ls with | l :: r => (match packL sto t l with | some x => some (x, r) | none => none) | [] => none) = some (x, r) → ∃ c1 c2, cs = c1 ++ c2 ∧ Rep P false t S w x c1 ∧ Cells P S μ sto w r c2 := by
    intro t ls r cs x ht hc h
    cases ls with
    | nil => cases h
    | cons l ls' =>
      cases cs with
      | nil => exact hc.elim
      | cons v cs' =>
        simp only at h
        split at h
        · rename_i y hy
          simp only [Option.some.injEq, Prod.mk.injEq] at h
          obtain ⟨rfl, rfl⟩ := h
          exact ⟨[v], cs', rfl, packL_sound hob ht hc.1.2 hy, hc.2⟩
        · cases h
  intro t
  induction t with
  | unit =>
    intro ls r cs x hc h
    unfold pack at h
    have h2 : ls = r := congrArg Prod.snd (Option.some.inj h)
    subst h2
    exact ⟨[], cs, rfl, by simp only [Rep], hc⟩
  | pair a b iha ihb =>
    intro ls r cs x hc h
    unfold pack at h
    split at h
    · rename_i y r1 h1
      split at h
      · rename_i z r2 h2
        simp only [Option.some.injEq, Prod.mk.injEq] at h
        obtain ⟨rfl, rfl⟩ := h
        obtain ⟨c1, c2, rfl, k1, k2⟩ := iha hc h1
        obtain ⟨c3, c4, rfl, k3, k4⟩ := ihb k2 h2
        refine ⟨c1 ++ c3, c4, by simp, ?_, k4⟩
        simp only [Rep]
        exact ⟨c1, c3, rfl, k1.length, k3.length, k1, k3⟩
      · cases h
    · cases h
  | arr n t _ => intro ls r cs x hc h; simp [pack] at h
  | int k => intro ls r cs x hc h; exact one rfl hc (by cases ls <;> exact h)
  | bool => intro ls r cs x hc h; exact one rfl hc (by cases ls <;> exact h)
  | str => intro ls r cs x hc h; exact one rfl hc (by cases ls <;> exact h)
  | slice t _ => intro ls r cs x hc h; exact one rfl hc (by cases ls <;> exact h)
  | fn a b _ _ => intro ls r cs x hc h; exact one rfl hc (by cases ls <;> exact h)
  | vec t _ => intro ls r cs x hc h; exact one rfl hc (by cases ls <;> exact h)
  | map k v _ _ => intro ls r cs x hc h; exact one rfl hc (by cases ls <;> exact h)
  | node t _ => intro ls r cs x hc h; exact one rfl hc (by cases ls <;> exact h)

theorem cells_of_arel {ls : List Lf} {v : Value} (h : ARel P S μ sto w (.agg ls) v) : ∃ cs : Array Value, v = .agg cs ∧ Cells P S μ sto w ls cs.toList := by
  obtain ⟨cs, h1, h2, h3⟩ := h
  refine ⟨cs, h1, cells_iff.2 ⟨by simp [h2], fun i l hi => ?_⟩⟩
  obtain ⟨u, k1, k2⟩ := h3 i l hi
  exact ⟨u, by simpa using k1, k2⟩

theorem packAV_sound {t : Ty} {x : t.El} {av : AV} {v : Value} (hob : ∀ id o, sto[id]? = some o → ORel P S μ sto w id o) (hv : ARel P S μ sto w av v) (h : packAV sto t av = some x) : VRep P S w t x v := by
  unfold packAV at h
  split at h
  · split at h
    · rename_i e _
      simp only [Option.some.injEq] at h; subst h
      exact vrep_cast e hv
    · cases h
  · split at h
    · cases h
    · rename_i ht
      have ht : t.agg = false := by simpa using ht
      exact (vrep_one ht).2 (packL_sound hob ht hv h)
  · split at h
    · rename_i ht
      split at h
      · rename_i y hy
        simp only [Option.some.injEq] at h; subst h
        obtain ⟨cs, rfl, hc⟩ := cells_of_arel hv
        obtain ⟨c1, c2, k1, k2, k3⟩ := pack_sound hob hc hy
        cases c2 with
        | cons _ _ => exact k3.elim
        | nil =>
        rw [List.append_nil] at k1
        exact ⟨c1, k2.length, k2, by rw [if_pos ht, ← k1]⟩
      · cases h
    · cases h
  · cases h
end
end Go.Eng
end

/- EngL -/
section
set_option linter.unusedSimpArgs false
set_option linter.unusedVariables false
namespace Go.Eng
open Tree

/-- What an operation does: objects that nobody writes to any more, objects with new contents, one that is given up, a new one, the value. -/
structure Eff where
  ice : List Nat := []
  chg : List (Nat × Ob) := []
  gone : Option Nat := none
  fresh : Option Ob := none
  val : AV := .one .junk

def applyUpd (sto : List Ob) : List (Nat × Ob) → List Ob
  | [] => sto
  | (i, o) :: r => applyUpd (sto.set i o) r
def Eff.sto (e : Eff) (fid : Nat) (s : List Ob) : List Ob :=
  let s1 := kill (applyUpd (frz s e.ice) e.chg) e.gone
  match e.fresh with | some o => place s1 fid o | none => s1
def commit (st : St) (dst : Option Nat) (fid : Nat) (e : Eff) : St :=
  { slots := match dst with | some d => st.slots.set d e.val | none => st.slots
    sto := e.sto fid st.sto }

/-- A type as a kind of data. -/
def tyOf (P : Program) : Nat → TypeId → Option Ty
  | 0, _ => none
  | n + 1, t => match P.underlying t with
    | some (.int k) => some (.int k)
    | some .bool => some .bool
    | some .string => some .str
    | some (.slice e) => match tyOf P n e with | some te => some (.slice te) | none => none
    | some (.array m e) => match tyOf P n e with | some te => some (.arr m te) | none => none
    | some (.pointer e) => match P.underlying e with
      | some (.struct fs) => match fs.toList with
        | [_, l, c, _] => match P.underlying l.type, P.underlying c.type with
          | some (.slice le), some (.slice ce) => if ce == t then (match tyOf P n le with | some te => some (.node te) | none => none) else none
          | _, _ => none
        | _ => none
      | _ => none
    | some (.struct fs) => fs.toList.foldr (fun f acc => match tyOf P n f.type, acc with | some a, some b => some (.pair a b) | _, _ => none) (some .unit)
    | _ => none

def tyAt (P : Program) (t : TypeId) : Option Ty := tyOf P 12 t

/-- A type that a value of one kind may be loaded or stored by. -/
def fits (P : Program) (t : TypeId) (want : Ty) : Bool := (P.underlying t).isSome && decide (szOf P t = some want.size) && decide (aggOf P t = want.agg) && decide (0 < want.size)

def loadL (P : Program) (sto : List Ob) (t : TypeId) : Lf → Tree AV
  | .ptr id off => match sto[id]? with
    | some (.var ls) => if (P.underlying t).isSome then
        (if aggOf P t then (match szOf P t with | some n => if off + n ≤ ls.length then leaf (.agg ((ls.drop off).take n)) else fail | none => fail)
          else (match ls[off]? with | some l => leaf (.one l) | none => fail)) else fail
    | some (.frv te y) => match tyAt P t with
      | some want => if fits P t want then (match comp want te off with | some f => leaf (.one (.val want (f y))) | none => fail) else fail
      | none => fail
    | _ => fail
  | .eptr id i off => match sto[id]? with
    | some (.arr te xs) | some (.fro te xs) => match tyAt P t with
      | some want => if fits P t want then (match comp want te off with | some f => leaf (.one (.val want (f (List.getD xs i te.zero)))) | none => fail) else fail
      | none => fail
    | _ => fail
  | .pbox te y off => match tyAt P t with
    | some want => if fits P t want then (match comp want te off with | some f => leaf (.one (.val want (f y))) | none => fail) else fail
    | none => fail
  | _ => fail

/-- Cells of typed data, as leaves; not of arrays. -/
def splitO : (t : Ty) → t.El → Option (List Lf)
  | .unit, _ => some []
  | .pair a b, x => match splitO a x.1, splitO b x.2 with | some l, some r => some (l ++ r) | _, _ => none
  | .arr _ _, _ => none
  | t, x => some [.val t x]

/-- Does a leaf still say what it points to? -/
def alive (sto : List Ob) : Lf → Bool
  | .junk => false
  | .vec id | .sub id _ _ | .ptr id _ | .eptr id _ _ | .mapr id => match sto[id]? with | some .dead => false | some .free => false | some _ => true | none => false
  | _ => true

def leavesOf (sto : List Ob) : AV → Option (List Lf)
  | .one (.val t y) => splitO t y
  | .one l => if alive sto l then some [l] else none
  | .agg ls => some ls
  | .tup _ => none

def storeL (P : Program) (sto : List Ob) (t : TypeId) (x : Lf) (v : AV) : Tree Eff :=
  match x with
  | .ptr id off => match sto[id]? with
    | some (.var ls) => match leavesOf sto v with
      | some vs => if szOf P t = some vs.length ∧ off + vs.length ≤ ls.length then leaf { chg := [(id, .var (ls.take off ++ vs ++ ls.drop (off + vs.length)))] } else fail
      | none => fail
    | _ => fail
  | .eptr id i off => match (frz sto (idsAV v))[id]? with
    | some (.arr te xs) => match tyAt P t with
      | some want => if fits P t want then
          (match packAV (frz sto (idsAV v)) want v, updc want te off with
            | some y, some f => leaf { ice := idsAV v, chg := [(id, .arr te (xs.set i (f y (List.getD xs i te.zero))))] }
            | _, _ => fail) else fail
      | none => fail
    | _ => fail
  | _ => fail

section
variable {P : Program} {C : Cx} {st : St} {a : Act} {w w' : World} {μ : Nat → Option Nat} {S : Nat → Prop} {sto : List Ob}

theorem run_isAgg {t : TypeId} (h : (P.underlying t).isSome = true) : (isAgg t).run P w = .ok (aggOf P t) w := by
  obtain ⟨d, hd⟩ := Option.isSome_iff_exists.1 h
  unfold isAgg aggOf
  simp only [Sem.run_bind, run_underlying hd, Result.andThen_ok, hd]
  cases d <;> rfl

theorem run_loadVar_agg {t : TypeId} {b off n : Nat} {cs : Array Value} {e : TypeId} {fz : Nat × Nat} (hu : (P.underlying t).isSome = true) (ha : aggOf P t = true) (hn : szOf P t = some n)
    (hb : w.heap[b]? = some (.cells cs e fz)) (hle : off + n ≤ cs.size) : (Instr.loadAt t (.pointer (some ⟨b, off, none⟩))).run P w = .ok (.agg ((cs.toList.drop off).take n).toArray) w := by
  have h := run_loadCells (P := P) (off := off) hb n 0 #[] (by omega)
  simp only [Nat.add_zero] at h
  simp only [Instr.loadAt, Instr.sureAddr, Sem.run_bind, Sem.run_pure, Result.andThen_ok, loadVar, run_isAgg hu, ha, if_true, run_sizeOf hn, loadCells, h]
  simp

theorem run_loadVar_one {t : TypeId} {b off : Nat} {v : Value} (hu : (P.underlying t).isSome = true) (ha : aggOf P t = false) (hc : w.cell? ⟨b, off, none⟩ = some v) :
    (Instr.loadAt t (.pointer (some ⟨b, off, none⟩))).run P w = .ok v w := by
  simp only [Instr.loadAt, Instr.sureAddr, Sem.run_bind, Sem.run_pure, Result.andThen_ok, loadVar, run_isAgg hu, ha]
  simp [hc]

theorem capAt_cells {b off : Nat} {ds : List Value} (hc : CellsAt w b off ds) (hn : ds ≠ []) : ∃ cs e fz, w.heap[b]? = some (Obj.cells cs e fz) ∧ off + ds.length ≤ cs.size := by
  have hl : ds.length - 1 < ds.length := by cases ds with | nil => exact absurd rfl hn | cons => simp
  have h := hc (ds.length - 1) _ (List.getElem?_eq_getElem hl)
  simp only [World.cell?] at h
  split at h
  · rename_i cs e fz hb
    simp at h
    have h2 : off + (ds.length - 1) < cs.size := by
      rcases Nat.lt_or_ge (off + (ds.length - 1)) cs.size with h' | h'
      · exact h'
      · rw [Array.getElem?_eq_none h'] at h; cases h
    exact ⟨cs, e, fz, hb, by omega⟩
  · cases h
/-- Typed data that lies somewhere, loaded. -/
theorem run_load_typed {t : TypeId} {want : Ty} {x : want.El} {b off : Nat} {ds : List Value} (hf : fits P t want = true) (hr : Rep P false want S w x ds) (hc : CellsAt w b off ds) :
    ∃ v, (Instr.loadAt t (.pointer (some ⟨b, off, none⟩))).run P w = .ok v w ∧ VRep P S w want x v := by
  simp only [fits, Bool.and_eq_true, decide_eq_true_eq] at hf
  obtain ⟨⟨⟨hu, hs⟩, ha⟩, hpos⟩ := hf
  have hl := hr.length
  have hb := capAt_cells hc (by intro h0; rw [h0] at hl; simp at hl; omega)
  cases hag : want.agg with
  | true =>
    rw [hag] at ha
    obtain ⟨cs, e, fz, h1, h2⟩ := hb
    refine ⟨_, run_loadVar_agg hu ha hs h1 (by omega), ds, hl, hr, ?_⟩
    rw [if_pos hag]
    congr 2
    apply List.ext_getElem?
    intro i
    rw [List.getElem?_take]
    split
    · rename_i hi
      rw [List.getElem?_drop]
      have h3 := hc i _ (List.getElem?_eq_getElem (show i < ds.length by omega))
      simp only [World.cell?, h1] at h3
      rw [List.getElem?_eq_getElem (show i < ds.length by omega), ← h3]
      simp
    · rename_i hi
      rw [List.getElem?_eq_none (by omega)]
  | false =>
    rw [hag] at ha
    match ds, hl with
    | [], hl => simp [Ty.size] at hl; cases want <;> simp [Ty.size, Ty.agg] at hl hag
    | [d], _ => exact ⟨d, run_loadVar_one hu ha (hc 0 d rfl), (vrep_one hag).2 hr⟩
    | d :: d' :: r, hl => cases want <;> simp [Ty.size, Ty.agg] at hl hag


theorem loadL_sound {t : TypeId} {x : Lf} {u : Value} {r : AV} (hob : ∀ id o, sto[id]? = some o → ORel P S μ sto w id o) (hx : LRel P S μ sto w x u) (h : (loadL P sto t x).run = some r) :
    ∃ v, (Instr.loadAt t u).run P w = .ok v w ∧ ARel P S μ sto w r v := by
  unfold loadL at h
  split at h
  · rename_i id off
    split at h
    · rename_i ls ho
      simp only [LRel, ho] at hx
      obtain ⟨b, hb, rfl⟩ := hx
      obtain ⟨b', cs, e, fz, h1, h2, h3, h4, h5⟩ := hob id _ ho
      rw [hb] at h1; cases h1
      split at h
      · rename_i hu
        split at h
        · rename_i ha
          split at h
          · rename_i n hn
            split at h
            · rename_i hle
              simp only [Tree.run, Option.some.injEq] at h; subst h
              refine ⟨_, run_loadVar_agg hu ha hn h2 (by omega), _, rfl, ?_, fun i l hi => ?_⟩
              · simp; omega
              · rw [List.getElem?_take] at hi
                split at hi
                · rename_i hlt
                  rw [List.getElem?_drop] at hi
                  obtain ⟨v, k1, k2, k3⟩ := h5 _ _ hi
                  refine ⟨v, ?_, k2, k3⟩
                  simp [List.getElem?_take, hlt, k1]
                · cases hi
            · simp [Tree.run] at h
          · simp [Tree.run] at h
        · rename_i ha
          split at h
          · rename_i l hl
            simp only [Tree.run, Option.some.injEq] at h; subst h
            obtain ⟨v, k1, k2, k3⟩ := h5 _ _ hl
            exact ⟨v, run_loadVar_one hu (by simpa using ha) (by simp [World.cell?, h2, k1]), k3⟩
          · simp [Tree.run] at h
      · simp [Tree.run] at h
    · rename_i te y ho
      split at h
      · rename_i want _
        split at h
        · rename_i hf
          split at h
          · rename_i f hc
            simp only [Tree.run, Option.some.injEq] at h; subst h
            simp only [LRel, ho] at hx
            obtain ⟨b, hb, rfl⟩ := hx
            obtain ⟨b', cs, e, fz, es, q1, hS, q2, hr, hcs⟩ := hob id _ ho
            rw [hb] at q1; cases q1
            refine run_load_typed hf (comp_sound hc hr) (fun j v hj => ?_)
            rw [List.getElem?_take] at hj
            split at hj
            · rw [List.getElem?_drop] at hj
              have := hcs _ _ hj
              rw [← this, Nat.zero_add]
            · cases hj
          · simp [Tree.run] at h
        · simp [Tree.run] at h
      · simp [Tree.run] at h
    · simp [Tree.run] at h
  · rename_i id i off
    split at h
    all_goals first
      | (simp [Tree.run] at h; done)
      | (rename_i te xs ho
         split at h
         · rename_i want _
           split at h
           · rename_i hf
             split at h
             · rename_i f hc
               simp only [Tree.run, Option.some.injEq] at h; subst h
               simp only [LRel, ho] at hx
               obtain ⟨hi, b, hb, rfl⟩ := hx
               rcases hob id _ ho with ⟨h1, _⟩ | h6
               · rw [h1] at hb; cases hb
               · obtain ⟨cs, e, fz, h2, h3⟩ : ∃ cs e fz, w.heap[b]? = some (Obj.cells cs e fz) ∧ ArrAt P S w te xs cs := by
                   first
                     | (obtain ⟨b', cs, e, fz, q1, q2, _, q3⟩ := h6
                        rw [hb] at q1; cases q1
                        exact ⟨cs, e, fz, q2, q3⟩)
                     | (obtain ⟨b', cs, e, fz, q1, _, q2, q3⟩ := h6
                        rw [hb] at q1; cases q1
                        exact ⟨cs, e, fz, q2, q3⟩)
                 obtain ⟨es, k1, k2⟩ := h3.2.2 i _ (getD_some te.zero hi)
                 refine run_load_typed hf (comp_sound hc k1) (fun j v hj => ?_)
                 rw [List.getElem?_take] at hj
                 split at hj
                 · rw [List.getElem?_drop] at hj
                   have := k2 _ _ hj
                   simp only [World.cell?, h2]
                   rw [← this]
                   simp only [Nat.add_assoc, Option.isSome_none, Bool.false_eq_true, if_false]
                 · cases hj
             · simp [Tree.run] at h
           · simp [Tree.run] at h
         · simp [Tree.run] at h)
  · rename_i te y off
    split at h
    · rename_i want _
      split at h
      · rename_i hf
        split at h
        · rename_i f hc
          simp only [Tree.run, Option.some.injEq] at h; subst h
          obtain ⟨b, o, cs, rfl, hS, hlt, hr, hcs⟩ := hx
          refine run_load_typed hf (comp_sound hc hr) (fun j v hj => ?_)
          rw [List.getElem?_take] at hj
          split at hj
          · rw [List.getElem?_drop] at hj
            have := hcs _ _ hj
            rw [← this, Nat.add_assoc]
          · cases hj
        · simp [Tree.run] at h
      · simp [Tree.run] at h
    · simp [Tree.run] at h
  · simp [Tree.run] at h
end
end Go.Eng
end

/- EngM -/
section
set_option linter.unusedSimpArgs false
set_option linter.unusedVariables false
namespace Go.Eng
open Tree
variable {P : Program} {C : Cx} {st : St} {a : Act} {w w' : World} {μ : Nat → Option Nat} {S : Nat → Prop} {sto : List Ob}

theorem rep_single {t : Ty} {x : t.El} {v : Value} (ht : t.agg = false) (h : Rep P false t S w x [v]) : Value.single v = true := by
  cases t <;> simp only [Ty.agg, Bool.true_eq_false] at ht <;> simp only [Rep] at h
  · simp at h; rw [h.1]; rfl
  · simp at h; rw [h]; rfl
  · obtain ⟨b, h, _⟩ := h; simp at h; rw [h]; rfl
  · obtain ⟨a, c, h, _⟩ := h; simp at h; rw [h]; rfl
  · obtain ⟨a, c, h, _⟩ := h; simp at h; rw [h]; rfl
  · obtain ⟨n, h⟩ := h
    cases n with
    | zero => exact h.elim
    | succ n => cases x with
      | nil => simp only [NodeRep, List.cons.injEq, and_true] at h; rw [h]; rfl
      | mk k l c s => obtain ⟨b, o, c0, c1, c2, h, _⟩ := h; simp only [List.cons.injEq, and_true] at h; rw [h]; rfl

theorem lrel_single {l : Lf} {v : Value} (hl : ∀ t x, l = .val t x → t.agg = false) (ha : alive sto l = true) (h : LRel P S μ sto w l v) : Value.single v = true := by
  cases l with
  | junk => simp [alive] at ha
  | val t x => exact rep_single (hl t x rfl) ((vrep_one (hl t x rfl)).1 h)
  | nilp => rw [h]; rfl
  | nils t => obtain ⟨a, rfl⟩ := h; rfl
  | pbox t x o => obtain ⟨b, o, cs, rfl, _⟩ := h; rfl
  | clo f caps => obtain ⟨cv, rfl, _⟩ := h; rfl
  | vec id =>
    simp only [alive, LRel] at ha h
    cases ho : sto[id]? with
    | none => simp [ho] at ha
    | some o =>
      cases o <;> simp only [ho] at ha h <;> first | cases ha | exact h.elim | skip
      all_goals
        rcases h with ⟨_, _, a, rfl⟩ | ⟨b, c, _, rfl, _⟩ <;> rfl
  | sub id off len =>
    simp only [alive, LRel] at ha h
    cases ho : sto[id]? with
    | none => simp [ho] at ha
    | some o =>
      cases o <;> simp only [ho] at ha h <;> first | cases ha | exact h.elim | skip
      all_goals
        obtain ⟨_, a, c, rfl, _⟩ := h; rfl
  | ptr id off =>
    simp only [alive, LRel] at ha h
    cases ho : sto[id]? with
    | none => simp [ho] at ha
    | some o =>
      cases o <;> simp only [ho] at ha h <;> first | cases ha | exact h.elim | skip
      · obtain ⟨b, _, rfl⟩ := h; rfl
      all_goals
        obtain ⟨b, _, rfl, _⟩ := h; rfl
  | eptr id i off =>
    simp only [alive, LRel] at ha h
    cases ho : sto[id]? with
    | none => simp [ho] at ha
    | some o =>
      cases o <;> simp only [ho] at ha h <;> first | cases ha | exact h.elim | skip
      all_goals
        obtain ⟨_, b, _, rfl⟩ := h; rfl
  | mapr id =>
    simp only [alive, LRel] at ha h
    cases ho : sto[id]? with
    | none => simp [ho] at ha
    | some o =>
      cases o <;> simp only [ho] at ha h <;> first | cases ha | exact h.elim | skip
      obtain ⟨b, _, rfl⟩ := h; rfl

theorem cells_append {l1 l2 : List Lf} {c1 c2 : List Value} (h1 : Cells P S μ sto w l1 c1) (h2 : Cells P S μ sto w l2 c2) : Cells P S μ sto w (l1 ++ l2) (c1 ++ c2) := by
  induction l1 generalizing c1 with
  | nil => cases c1 with
    | nil => exact h2
    | cons => exact h1.elim
  | cons l ls ih => cases c1 with
    | nil => exact h1.elim
    | cons c cs => exact ⟨h1.1, ih h1.2⟩
theorem cells_take {ls : List Lf} {cs : List Value} (h : Cells P S μ sto w ls cs) (n : Nat) : Cells P S μ sto w (ls.take n) (cs.take n) := by
  induction ls generalizing cs n with
  | nil => cases cs with
    | nil => simp [Cells]
    | cons => exact h.elim
  | cons l ls ih => cases cs with
    | nil => exact h.elim
    | cons c cs => cases n with
      | zero => simp [Cells]
      | succ n => exact ⟨h.1, ih h.2 n⟩
theorem cells_drop {ls : List Lf} {cs : List Value} (h : Cells P S μ sto w ls cs) (n : Nat) : Cells P S μ sto w (ls.drop n) (cs.drop n) := by
  induction ls generalizing cs n with
  | nil => cases cs with
    | nil => simp [Cells]
    | cons => exact h.elim
  | cons l ls ih => cases cs with
    | nil => exact h.elim
    | cons c cs => cases n with
      | zero => exact h
      | succ n => exact ih h.2 n
theorem cells_length {ls : List Lf} {cs : List Value} (h : Cells P S μ sto w ls cs) : cs.length = ls.length := (cells_iff.1 h).1

theorem splitO_sound : ∀ {t : Ty} {x : t.El} {cs : List Value} {ls : List Lf}, Rep P false t S w x cs → splitO t x = some ls → Cells P S μ sto w ls cs := by
  intro t
  have one : ∀ {t : Ty} {x : t.El} {cs : List Value} {ls : List Lf}, t.agg = false → Rep P false t S w x cs → some [Lf.val t x] = some ls → Cells P S μ sto w ls cs := by
    intro t x cs ls ht hr h
    simp only [Option.some.injEq] at h; subst h
    have hl := hr.length
    match cs, hl with
    | [], hl => cases t <;> simp [Ty.size, Ty.agg] at hl ht
    | [c], _ => exact ⟨⟨rep_single ht hr, (vrep_one ht).2 hr⟩, trivial⟩
    | c :: d :: r, hl => cases t <;> simp [Ty.size, Ty.agg] at hl ht
  induction t with
  | unit => intro x cs ls hr h; simp only [splitO, Option.some.injEq] at h; subst h; simp only [Rep] at hr; subst hr; trivial
  | pair a b iha ihb =>
    intro x cs ls hr h
    unfold splitO at h
    split at h
    · rename_i l r hl hr'
      simp only [Option.some.injEq] at h; subst h
      simp only [Rep] at hr
      obtain ⟨c1, c2, rfl, _, _, r1, r2⟩ := hr
      exact cells_append (iha r1 hl) (ihb r2 hr')
    · cases h
  | arr n t _ => intro x cs ls hr h; simp [splitO] at h
  | int k => intro x cs ls hr h; exact one rfl hr h
  | bool => intro x cs ls hr h; exact one rfl hr h
  | str => intro x cs ls hr h; exact one rfl hr h
  | slice t _ => intro x cs ls hr h; exact one rfl hr h
  | fn a b _ _ => intro x cs ls hr h; exact one rfl hr h
  | vec t _ => intro x cs ls hr h; exact one rfl hr h
  | map k v _ _ => intro x cs ls hr h; exact one rfl hr h
  | node t _ => intro x cs ls hr h; exact one rfl hr h

theorem cells_one {v : Value} (h : Value.single v = true) : v.cells.toList = [v] := by cases v <;> first | rfl | cases h

theorem leavesOf_sound {av : AV} {v : Value} {ls : List Lf} (hv : ARel P S μ sto w av v) (h : leavesOf sto av = some ls) : Cells P S μ sto w ls v.cells.toList := by
  unfold leavesOf at h
  split at h
  · rename_i t y
    obtain ⟨cs, h1, h2, h3⟩ := hv
    have hc := splitO_sound (μ := μ) (sto := sto) h2 h
    cases ht : t.agg with
    | true => rw [ht, if_pos rfl] at h3; subst h3; simpa [Value.cells] using hc
    | false =>
      simp only [ht, Bool.false_eq_true, if_false] at h3; subst h3
      rw [cells_one (rep_single ht h2)]
      exact hc
  · rename_i l hl
    split at h
    · rename_i ha
      simp only [Option.some.injEq] at h; subst h
      have hs := lrel_single (fun t x e => absurd e (hl t x)) ha hv
      rw [cells_one hs]
      exact ⟨⟨hs, hv⟩, trivial⟩
    · cases h
  · rename_i ls'
    simp only [Option.some.injEq] at h; subst h
    obtain ⟨cs, rfl, hc⟩ := cells_of_arel hv
    exact hc
  · cases h

theorem run_storeAt {t : TypeId} {b off n : Nat} {v : Value} {cs : Array Value} {e : TypeId} {fz : Nat × Nat} (hn : szOf P t = some n) (hv : v.cells.size = n)
    (hb : w.heap[b]? = some (.cells cs e fz)) (hu : Unfrozen fz cs.size) (hle : off + n ≤ cs.size) (hs : ∀ u ∈ v.cells.toList, Value.single u = true) :
    (Instr.storeAt t (.pointer (some ⟨b, off, none⟩)) v).run P w = .ok () (wset w b (.cells (splice cs off v.cells.toList) e fz)) := by
  have h := run_storeCells (P := P) (w := w) v.cells.toList 0 hb hu (off := off) (by simp [hv]; omega) hs
  simp only [Nat.add_zero] at h
  simp only [Instr.storeAt, Instr.sureAddr, Sem.run_bind, Sem.run_pure, Result.andThen_ok, storeVar, run_sizeOf hn, hv, ne_eq, not_true, if_false, h]

theorem splice_toList (cs : Array Value) (off : Nat) (vs : List Value) (h : off + vs.length ≤ cs.size) :
    (splice cs off vs).toList = cs.toList.take off ++ vs ++ cs.toList.drop (off + vs.length) := by
  apply List.ext_getElem?
  intro i
  rw [Array.getElem?_toList, splice_get vs cs off i h]
  by_cases h1 : i < off
  · rw [if_neg (by omega), List.append_assoc, List.getElem?_append_left (by simp; omega), List.getElem?_take, if_pos h1, Array.getElem?_toList]
  · by_cases h2 : i < off + vs.length
    · rw [if_pos (by omega), List.append_assoc, List.getElem?_append_right (by simp; omega), List.getElem?_append_left (by simp; omega)]
      congr 1; simp; omega
    · rw [if_neg (by omega), List.getElem?_append_right (by simp; omega), List.getElem?_drop, Array.getElem?_toList]
      congr 1; simp; omega

theorem ORel.cells {id : Nat} {ls : List Lf} (h : ORel P S μ sto w id (.var ls)) : ∃ b cs e fz, μ id = some b ∧ w.heap[b]? = some (.cells cs e fz) ∧ Unfrozen fz cs.size ∧ Cells P S μ sto w ls cs.toList := by
  obtain ⟨b, cs, e, fz, h1, h2, h3, h4, h5⟩ := h
  exact ⟨b, cs, e, fz, h1, h2, h3, cells_iff.2 ⟨by simpa using h4, fun i l hi => let ⟨u, k1, k2⟩ := h5 i l hi; ⟨u, by simpa using k1, k2⟩⟩⟩
theorem orel_var {id b : Nat} {ls : List Lf} {cs : Array Value} {e : TypeId} {fz : Nat × Nat} (h1 : μ id = some b) (h2 : w.heap[b]? = some (.cells cs e fz)) (h3 : Unfrozen fz cs.size)
    (h4 : Cells P S μ sto w ls cs.toList) : ORel P S μ sto w id (.var ls) := by
  obtain ⟨k1, k2⟩ := cells_iff.1 h4
  exact ⟨b, cs, e, fz, h1, h2, h3, by simpa using k1, fun i l hi => let ⟨u, q1, q2⟩ := k2 i l hi; ⟨u, by simpa using q1, q2⟩⟩

theorem Cells.keeps {S' : Nat → Prop} {μ' : Nat → Option Nat} {sto' : List Ob} (hk : Keeps S S' μ μ' sto sto' w w') : ∀ {ls : List Lf} {vs : List Value}, Cells P S μ sto w ls vs → Cells P S' μ' sto' w' ls vs
  | [], [], _ => trivial
  | [], _ :: _, h => h.elim
  | _ :: _, [], h => h.elim
  | _ :: _, _ :: _, h => ⟨⟨h.1.1, h.1.2.keeps hk⟩, Cells.keeps hk h.2⟩

theorem cells_singles : ∀ {ls : List Lf} {vs : List Value}, Cells P S μ sto w ls vs → ∀ u ∈ vs, Value.single u = true
  | [], [], _ => by simp
  | [], _ :: _, h => h.elim
  | _ :: _, [], h => h.elim
  | _ :: _, v :: vs, h => by
    intro u hu
    rcases List.mem_cons.1 hu with rfl | hu
    · exact h.1.1
    · exact cells_singles h.2 u hu

theorem capAt_wset {b n : Nat} {cs cs' : Array Value} {e : TypeId} {fz : Nat × Nat} (hb : w.heap[b]? = some (.cells cs e fz)) (hs : cs'.size = cs.size) (h : CapAt w b n) : CapAt (wset w b (.cells cs' e fz)) b n := by
  obtain ⟨cs2, e2, fz2, h1, h2⟩ := h
  rw [hb] at h1; cases h1
  exact ⟨cs', e, fz, wset_same (lt_of_some hb), by omega⟩

theorem ArrAt.set {t : Ty} {xs : List t.El} {cs : Array Value} {i off : Nat} {z : t.El} {es ds : List Value} (h : ArrAt P S w t xs cs) (hi : i < xs.length)
    (hes : ∀ j v, es[j]? = some v → cs[i * t.size + j]? = some v) (hel : es.length = t.size) (hfit : off + ds.length ≤ t.size)
    (hz : Rep P false t S w z (es.take off ++ ds ++ es.drop (off + ds.length))) : ArrAt P S w t (xs.set i z) (splice cs (i * t.size + off) ds) := by
  obtain ⟨h1, h2, h3⟩ := h
  have hb : i * t.size + t.size ≤ cs.size := by
    have : (i + 1) * t.size ≤ xs.length * t.size := Nat.mul_le_mul_right _ hi
    rw [Nat.add_mul, Nat.one_mul] at this
    omega
  have hsp : ∀ k, (splice cs (i * t.size + off) ds)[k]? = if i * t.size + off ≤ k ∧ k < i * t.size + off + ds.length then ds[k - (i * t.size + off)]? else cs[k]? :=
    fun k => splice_get ds cs _ k (by omega)
  refine ⟨by simpa using h1, by simp only [List.length_set]; rw [splice_size]; exact h2, fun j x hj => ?_⟩
  rw [List.getElem?_set] at hj
  by_cases hij : i = j
  · subst hij
    simp only [if_true, hi, Option.some.injEq] at hj
    subst hj
    refine ⟨_, hz, fun k v hk => ?_⟩
    rw [hsp]
    by_cases k1 : k < off
    · rw [if_neg (by omega)]
      rw [List.append_assoc, List.getElem?_append_left (by simp; omega), List.getElem?_take, if_pos k1] at hk
      exact hes k v hk
    · by_cases k2 : k < off + ds.length
      · rw [if_pos (by omega)]
        rw [List.append_assoc, List.getElem?_append_right (by simp; omega), List.getElem?_append_left (by simp; omega)] at hk
        rw [← hk]; congr 1; simp; omega
      · rw [if_neg (by omega)]
        rw [List.getElem?_append_right (by simp; omega), List.getElem?_drop] at hk
        refine hes k v ?_
        rw [← hk]; congr 1; simp; omega
  · rw [if_neg hij] at hj
    obtain ⟨fs, q1, q2⟩ := h3 j x hj
    refine ⟨fs, q1, fun k v hk => ?_⟩
    have hk1 : k < t.size := by
      have := lt_of_getElem? hk
      rw [q1.length] at this; exact this
    rw [hsp, if_neg]
    · exact q2 k v hk
    · rcases Nat.lt_or_gt_of_ne hij with hlt | hgt
      · have : (i + 1) * t.size ≤ j * t.size := Nat.mul_le_mul_right _ hlt
        rw [Nat.add_mul, Nat.one_mul] at this
        omega
      · have : (j + 1) * t.size ≤ i * t.size := Nat.mul_le_mul_right _ hgt
        rw [Nat.add_mul, Nat.one_mul] at this
        omega

theorem vrep_cells {t : Ty} {x : t.El} {v : Value} (h : VRep P S w t x v) : Rep P false t S w x v.cells.toList := by
  obtain ⟨cs, h1, h2, h3⟩ := h
  cases ht : t.agg with
  | true => rw [ht, if_pos rfl] at h3; subst h3; simpa [Value.cells] using h2
  | false =>
    simp only [ht, Bool.false_eq_true, if_false] at h3; subst h3
    rw [cells_one (rep_single ht h2)]; exact h2

theorem rep_singles : ∀ {t : Ty} {x : t.El} {cs : List Value}, Rep P false t S w x cs → ∀ u ∈ cs, Value.single u = true := by
  intro t
  have one : ∀ {t : Ty} {x : t.El} {cs : List Value}, t.agg = false → Rep P false t S w x cs → ∀ u ∈ cs, Value.single u = true := by
    intro t x cs ht hr
    have hl := hr.length
    match cs, hl with
    | [], hl => simp
    | [c], _ => intro u hu; simp at hu; subst hu; exact rep_single ht hr
    | c :: d :: r, hl => cases t <;> simp [Ty.size, Ty.agg] at hl ht
  induction t with
  | unit => intro x cs hr; simp only [Rep] at hr; subst hr; simp
  | pair a b iha ihb =>
    intro x cs hr
    simp only [Rep] at hr
    obtain ⟨c1, c2, rfl, _, _, r1, r2⟩ := hr
    intro u hu
    rcases List.mem_append.1 hu with h | h
    · exact iha r1 u h
    · exact ihb r2 u h
  | arr n t ih =>
    intro xs cs hr u hu
    simp only [Rep] at hr
    obtain ⟨h1, h2, h3⟩ := hr
    obtain ⟨k, hk⟩ := List.getElem?_of_mem hu
    have hlt := lt_of_getElem? hk
    rw [h2] at hlt
    have hpos : 0 < t.size := by
      rcases Nat.eq_zero_or_pos t.size with h0 | h0
      · rw [h0, Nat.mul_zero] at hlt; omega
      · exact h0
    have hdiv : k / t.size < n := (Nat.div_lt_iff_lt_mul hpos).2 hlt
    have := ih (h3 (k / t.size) _ (getD_some t.zero (by omega)))
    refine this u ?_
    refine List.mem_of_getElem? (i := k % t.size) ?_
    rw [List.getElem?_take, if_pos (Nat.mod_lt _ hpos), List.getElem?_drop, Nat.mul_comm, Nat.div_add_mod]
    exact hk
  | int k => intro x cs hr; exact one rfl hr
  | bool => intro x cs hr; exact one rfl hr
  | str => intro x cs hr; exact one rfl hr
  | slice t _ => intro x cs hr; exact one rfl hr
  | fn a b _ _ => intro x cs hr; exact one rfl hr
  | vec t _ => intro x cs hr; exact one rfl hr
  | map k v _ _ => intro x cs hr; exact one rfl hr
  | node t _ => intro x cs hr; exact one rfl hr

theorem storeL_sound {t : TypeId} {x : Lf} {u v : Value} {av : AV} {ef : Eff} (h : RelW P C st a w μ) (hx : LRel P (Sof C μ st.sto w) μ st.sto w x u) (hv : ARel P (Sof C μ st.sto w) μ st.sto w av v)
    (hr : (storeL P st.sto t x av).run = some ef) (fid : Nat) : ∃ w', (Instr.storeAt t u v).run P w = .ok () w' ∧ RelW P C { st with sto := ef.sto fid st.sto } a w' μ := by
  unfold storeL at hr
  split at hr
  · rename_i id off
    split at hr
    · rename_i ls ho
      split at hr
      · rename_i vs hvs
        split at hr
        · rename_i hc
          obtain ⟨hn, hle⟩ := hc
          simp only [Tree.run, Option.some.injEq] at hr; subst hr
          simp only [LRel, ho] at hx
          obtain ⟨b, hb, rfl⟩ := hx
          obtain ⟨b', cs, e, fz, h1, h2, h3, h4⟩ := (h.obj id _ ho).cells
          rw [hb] at h1; cases h1
          have hcv := leavesOf_sound hv hvs
          have hlen := cells_length hcv
          have hlen2 := cells_length h4
          have hsz : v.cells.size = vs.length := by simpa using hlen
          have hcs : cs.size = ls.length := by simpa using hlen2
          refine ⟨_, run_storeAt hn hsz h2 h3 (by omega) (cells_singles hcv), ?_⟩
          refine (h.upd (w' := wset w b (.cells (splice cs off v.cells.toList) e fz)) ho rfl rfl (ob' := .var (ls.take off ++ vs ++ ls.drop (off + vs.length))) (by simp [Like]) (by simp [wset]) rfl rfl rfl
            (fun b' hb' => wset_other (i := b') (b := b) (fun e => hb' (by rw [e]; exact hb))) (fun b' n hb' hc => ?_) (fun hk => ?_)).1
          · rw [hb] at hb'; cases hb'
            exact capAt_wset h2 (splice_size _ _ _) hc
          · refine orel_var hb (wset_same (lt_of_some h2)) (by rw [splice_size]; exact h3) ?_
            rw [splice_toList _ _ _ (by rw [hlen]; omega), hlen]
            exact cells_append (cells_append (cells_take (h4.keeps hk) _) (hcv.keeps hk)) (cells_drop (h4.keeps hk) _)
        · simp [Tree.run] at hr
      · simp [Tree.run] at hr
    · simp [Tree.run] at hr
  · rename_i id i off
    split at hr
    · rename_i te xs ho
      split at hr
      · rename_i want _
        split at hr
        · rename_i hf
          split at hr
          · rename_i y f hy hfu
            simp only [Tree.run, Option.some.injEq] at hr; subst hr
            have hz := h.frz (idsAV av)
            have hkz : Keeps (Sof C μ st.sto w) (Sof C μ (frz st.sto (idsAV av)) w) μ μ st.sto (frz st.sto (idsAV av)) w w := frz_keeps _ h
            have hx' := hx.keeps hkz
            have hv' := packAV_sound hz.obj (hv.keeps hkz) hy
            simp only [LRel, ho] at hx'
            obtain ⟨hi, b, hb, rfl⟩ := hx'
            rcases hz.obj id _ ho with ⟨h1, _⟩ | ⟨b', cs, e, fz, h1, h2, h3, h4⟩
            · rw [h1] at hb; cases hb
            · rw [hb] at h1; cases h1
              have hrv := vrep_cells hv'
              have hlen := hrv.length
              simp only [fits, Bool.and_eq_true, decide_eq_true_eq] at hf
              obtain ⟨⟨⟨hu, hs⟩, ha⟩, hpos⟩ := hf
              obtain ⟨es, k1, k2⟩ := h4.2.2 i _ (getD_some te.zero hi)
              obtain ⟨q1, q2⟩ := updc_sound hfu k1 hrv
              have hb2 : i * te.size + te.size ≤ cs.size := by
                have : (i + 1) * te.size ≤ xs.length * te.size := Nat.mul_le_mul_right _ hi
                rw [Nat.add_mul, Nat.one_mul] at this
                have := h4.2.1
                omega
              refine ⟨_, run_storeAt hs (by simpa using hlen) h2 h3 (by omega) (rep_singles hrv), ?_⟩
              refine (hz.upd (w' := wset w b (.cells (splice cs (i * te.size + off) v.cells.toList) e fz)) (st := { st with sto := frz st.sto (idsAV av) }) ho rfl rfl (ob' := .arr te (xs.set i (f y (xs.getD i te.zero)))) ⟨rfl, by simp⟩ (by simp [wset]) rfl rfl rfl
                (fun b' hb' => wset_other (i := b') (b := b) (fun e => hb' (by rw [e]; exact hb))) (fun b' n hb' hc => ?_) (fun hk => ?_)).1
              · rw [hb] at hb'; cases hb'
                exact capAt_wset h2 (splice_size _ _ _) hc
              · refine .inr ⟨b, _, e, fz, hb, wset_same (lt_of_some h2), by rw [splice_size]; exact h3, ?_⟩
                refine (h4.ext hk.ext).set hi k2 k1.length (by rw [hlen]; exact q2) ?_
                rw [hlen]
                exact q1.ext hk.ext
          · simp [Tree.run] at hr
        · simp [Tree.run] at hr
      · simp [Tree.run] at hr
    · simp [Tree.run] at hr
  · simp [Tree.run] at hr
end Go.Eng
end

/- EngN -/
section
set_option linter.unusedSimpArgs false
set_option linter.unusedVariables false
namespace Go.Eng
open Tree
variable {P : Program} {C : Cx} {st : St} {a : Act} {w w' : World} {μ : Nat → Option Nat} {S : Nat → Prop} {sto : List Ob}

/-- Elements that lie in a list of cells, one behind the other. -/
def ElsIn (P : Program) (S : Nat → Prop) (w : World) (t : Ty) (xs : List t.El) (cs : List Value) : Prop :=
  ∀ i (x : t.El), xs[i]? = some x → ∃ es, Rep P false t S w x es ∧ ∀ j v, es[j]? = some v → cs[i * t.size + j]? = some v

theorem ElsIn.ext {S' : Nat → Prop} {t : Ty} {xs : List t.El} {cs : List Value} (he : Ext S S' w w') (h : ElsIn P S w t xs cs) : ElsIn P S' w' t xs cs :=
  fun i x hi => let ⟨es, k1, k2⟩ := h i x hi; ⟨es, k1.ext he, k2⟩

theorem ArrAt.els {t : Ty} {xs : List t.El} {cs : Array Value} (h : ArrAt P S w t xs cs) : ElsIn P S w t xs (cs.toList.take (xs.length * t.size)) := by
  intro i x hi
  obtain ⟨es, k1, k2⟩ := h.2.2 i x hi
  refine ⟨es, k1, fun j v hj => ?_⟩
  have h1 := lt_of_getElem? hj
  rw [k1.length] at h1
  have h2 : (i + 1) * t.size ≤ xs.length * t.size := Nat.mul_le_mul_right _ (lt_of_getElem? hi)
  rw [Nat.add_mul, Nat.one_mul] at h2
  rw [List.getElem?_take, if_pos (by omega), Array.getElem?_toList]
  exact k2 j v hj

theorem arrAt_of {t : Ty} {xs : List t.El} {A R : List Value} (hx : ElsIn P S w t xs A) (hA : A.length = xs.length * t.size) (hb : xs.length ≤ 9223372036854775807) : ArrAt P S w t xs (A ++ R).toArray := by
  refine ⟨hb, by simp; omega, fun i x hi => ?_⟩
  obtain ⟨es, k1, k2⟩ := hx i x hi
  refine ⟨es, k1, fun j v hj => ?_⟩
  have := k2 j v hj
  simp only [List.getElem?_toArray]
  rw [List.getElem?_append_left (lt_of_getElem? this)]
  exact this

theorem ElsIn.append {t : Ty} {xs ys : List t.El} {A B : List Value} (hx : ElsIn P S w t xs A) (hy : ElsIn P S w t ys B) (hA : A.length = xs.length * t.size) : ElsIn P S w t (xs ++ ys) (A ++ B) := by
  intro i x hi
  by_cases hlt : i < xs.length
  · rw [List.getElem?_append_left hlt] at hi
    obtain ⟨es, k1, k2⟩ := hx i x hi
    refine ⟨es, k1, fun j v hj => ?_⟩
    have := k2 j v hj
    rw [List.getElem?_append_left (lt_of_getElem? this)]; exact this
  · rw [List.getElem?_append_right (by omega)] at hi
    obtain ⟨es, k1, k2⟩ := hy _ x hi
    refine ⟨es, k1, fun j v hj => ?_⟩
    have := k2 j v hj
    have e : i * t.size = xs.length * t.size + (i - xs.length) * t.size := by rw [← Nat.add_mul]; congr 1; omega
    rw [List.getElem?_append_right (by rw [hA, e]; omega), hA, e]
    rw [show xs.length * t.size + (i - xs.length) * t.size + j - xs.length * t.size = (i - xs.length) * t.size + j by omega]
    exact this

/-- Elements' cells, one behind the other. -/
theorem els_flat {t : Ty} : ∀ {xs : List t.El} {css : List (List Value)}, css.length = xs.length → (∀ (i : Nat) (x : t.El), xs[i]? = some x → ∃ es, css[i]? = some es ∧ Rep P false t S w x es) →
    ElsIn P S w t xs css.flatten ∧ css.flatten.length = xs.length * t.size
  | [], [], _, _ => ⟨fun i x hi => by simp at hi, by simp⟩
  | [], _ :: _, h, _ => by simp at h
  | _ :: _, [], h, _ => by simp at h
  | x :: xs, es :: css, h, hr => by
    obtain ⟨es', h1, h2⟩ := hr 0 x rfl
    simp only [List.getElem?_cons_zero, Option.some.injEq] at h1; subst h1
    obtain ⟨k1, k2⟩ := els_flat (xs := xs) (css := css) (by simpa using h) (fun i y hi => by simpa using hr (i + 1) y (by simpa using hi))
    have hl := h2.length
    constructor
    · have h0 : ElsIn P S w t [x] es := by
        intro i y hi
        cases i with
        | zero => simp at hi; subst hi; exact ⟨es, h2, fun j v hj => by simpa using hj⟩
        | succ i => simp at hi
      simpa using h0.append k1 (by simp [hl])
    · simp [k2, hl, Nat.add_mul]; omega

/-- A block's elements may all be loaded. -/
theorem run_firstCells {t : Ty} {xs : List t.El} {b off n sz : Nat} {c : Nat} {cs : Array Value} {e : TypeId} {fz : Nat × Nat} (hb : w.heap[b]? = some (.cells cs e fz)) (hle : off + n * sz ≤ cs.size) :
    (Builtin.firstCells sz n (.slice (some ⟨b, off, none⟩) xs.length c)).run P w = .ok ((cs.toList.drop off).take (n * sz)).toArray w := by
  have h := run_loadCells (P := P) (off := off) hb (n * sz) 0 #[] (by omega)
  simp only [Nat.add_zero] at h
  simp [Builtin.firstCells, loadCells, h]

/-- What is appended or copied: a slice's elements, a text's bytes. -/
def elemsOf (sto : List Ob) (te : Ty) : Lf → Option (List te.El)
  | .val (.slice t') xs => match Ty.eq? t' te with | some ⟨h⟩ => some (h ▸ xs) | none => none
  | .val .str s => match Ty.eq? (.int .u8) te with | some ⟨h⟩ => some (h ▸ (s.map fun b => ((b.toNat : Nat) : Int))) | none => none
  | .nils _ => some []
  | .vec id => match sto[id]? with
    | some (.arr t' xs) | some (.fro t' xs) => match Ty.eq? t' te with | some ⟨h⟩ => some (h ▸ xs) | none => none
    | _ => none
  | .sub id off len => match sto[id]? with
    | some (.arr t' xs) | some (.fro t' xs) => match Ty.eq? t' te with | some ⟨h⟩ => some (h ▸ ((xs.drop off).take len)) | none => none
    | _ => none
  | _ => none

theorem elsIn_sub {t : Ty} {xs : List t.El} {cs : List Value} {off len : Nat} (h : ElsIn P S w t xs cs) (hle : off + len ≤ xs.length) :
    ElsIn P S w t ((xs.drop off).take len) ((cs.drop (off * t.size)).take (len * t.size)) := by
  intro i x hi
  rw [List.getElem?_take] at hi
  split at hi
  · rename_i hlt
    rw [List.getElem?_drop] at hi
    obtain ⟨es, k1, k2⟩ := h _ x hi
    refine ⟨es, k1, fun j v hj => ?_⟩
    have h1 := lt_of_getElem? hj
    rw [k1.length] at h1
    have h2 : (i + 1) * t.size ≤ len * t.size := Nat.mul_le_mul_right _ hlt
    rw [Nat.add_mul, Nat.one_mul] at h2
    rw [List.getElem?_take, if_pos (by omega), List.getElem?_drop]
    have := k2 j v hj
    rw [Nat.add_mul] at this
    rw [← this]; congr 1; omega
  · cases hi

theorem bytes_els (b : ByteArray) : (Builtin.lenOf (.string b)).run P w = .ok (b.data.toList.map fun b => ((b.toNat : Nat) : Int)).length w ∧
    ∀ n, n ≤ (b.data.toList.map fun b => ((b.toNat : Nat) : Int)).length → ∃ B : Array Value, (Builtin.firstCells (Ty.int .u8).size n (.string b)).run P w = .ok B w ∧ B.size = n * (Ty.int .u8).size ∧
      ElsIn P S w (.int .u8) ((b.data.toList.map fun b => ((b.toNat : Nat) : Int)).take n) B.toList := by
  have hsz : b.data.toList.length = b.size := by rw [Array.length_toList]; rfl
  refine ⟨by simp only [Builtin.lenOf, Sem.run_pure, List.length_map, hsz], fun n hn => ?_⟩
  rw [List.length_map, hsz] at hn
  have ex := ba_extract b 0 n
  have h2 : (b.extract 0 n).data.size = n := by
    rw [← Array.length_toList, ex, List.drop_zero, List.length_take, hsz]; omega
  refine ⟨((b.extract 0 n).data.map fun c => Value.int .u8 ((c.toNat : Nat) : Int)), by simp [Builtin.firstCells], by rw [Array.size_map, h2]; simp [Ty.size], ?_⟩
  intro i x hi
  rw [List.getElem?_take] at hi
  split at hi
  · rename_i hin
    simp only [List.getElem?_map, Option.map_eq_some_iff] at hi
    obtain ⟨c, hc, rfl⟩ := hi
    have hlt := c.toNat_lt
    have h1 : IntKind.u8.min = 0 := by decide
    have h3 : IntKind.u8.max = 255 := by decide
    refine ⟨[.int .u8 ((c.toNat : Nat) : Int)], ?_, fun j v hj => ?_⟩
    · simp only [Rep]
      exact ⟨by first | rfl | trivial, by show IntKind.u8.min ≤ ((c.toNat : Nat) : Int); rw [h1]; omega, by show ((c.toNat : Nat) : Int) ≤ IntKind.u8.max; rw [h3]; omega⟩
    · cases j with
      | succ j => simp at hj
      | zero =>
        simp only [List.getElem?_cons_zero, Option.some.injEq] at hj; subst hj
        simp only [Array.toList_map, List.getElem?_map, ex, Ty.size, Nat.mul_one, Nat.add_zero, List.drop_zero, List.getElem?_take, if_pos hin]
        rw [hc]; rfl
  · cases hi

theorem elemsOf_sound {te : Ty} {x : Lf} {u : Value} {ys : List te.El} (hob : ∀ id o, sto[id]? = some o → ORel P S μ sto w id o) (hpos : 0 < te.size) (hx : LRel P S μ sto w x u) (h : elemsOf sto te x = some ys) :
    (Builtin.lenOf u).run P w = .ok ys.length w ∧ ∀ n, n ≤ ys.length → ∃ B : Array Value, (Builtin.firstCells te.size n u).run P w = .ok B w ∧ B.size = n * te.size ∧ ElsIn P S w te (ys.take n) B.toList := by
  have row : ∀ {id : Nat} {t' : Ty} {xs : List t'.El}, (ORel P S μ sto w id (.arr t' xs) ∨ ORel P S μ sto w id (.fro t' xs)) → ∀ b, μ id = some b →
      ∃ cs e fz, w.heap[b]? = some (Obj.cells cs e fz) ∧ ArrAt P S w t' xs cs := by
    intro id t' xs h b hb
    rcases h with h | h
    · rcases h with ⟨h1, _⟩ | ⟨b', cs, e, fz, q1, q2, _, q3⟩
      · rw [h1] at hb; cases hb
      · rw [hb] at q1; cases q1; exact ⟨cs, e, fz, q2, q3⟩
    · rcases h with ⟨h1, _⟩ | ⟨b', cs, e, fz, q1, _, q2, q3⟩
      · rw [h1] at hb; cases hb
      · rw [hb] at q1; cases q1; exact ⟨cs, e, fz, q2, q3⟩
  have vecs : ∀ {id : Nat} {t' : Ty} {xs : List t'.El} {u : Value}, 0 < t'.size → (ORel P S μ sto w id (.arr t' xs) ∨ ORel P S μ sto w id (.fro t' xs)) →
      ((μ id = none ∧ List.length xs = 0 ∧ ∃ a, u = .slice a 0 0) ∨ ∃ b c, μ id = some b ∧ u = .slice (some ⟨b, 0, none⟩) (List.length xs) c ∧ List.length xs ≤ c ∧ c ≤ 9223372036854775807 ∧ CapAt w b (c * t'.size)) →
      (Builtin.lenOf u).run P w = .ok xs.length w ∧ ∀ n, n ≤ xs.length → ∃ B : Array Value, (Builtin.firstCells t'.size n u).run P w = .ok B w ∧ B.size = n * t'.size ∧ ElsIn P S w t' (xs.take n) B.toList := by
    intro id t' xs u hpos ho hu
    rcases hu with ⟨_, h0, a, rfl⟩ | ⟨b, c, hb, rfl, _⟩
    · refine ⟨by simp [Builtin.lenOf, h0], fun n hn => ?_⟩
      have : n = 0 := by omega
      subst this
      refine ⟨#[], ?_, by simp, fun i x hi => by simp at hi⟩
      cases a <;> simp [Builtin.firstCells, loadCells, loadCellsFrom]
    · refine ⟨by simp [Builtin.lenOf], fun n hn => ?_⟩
      obtain ⟨cs, e, fz, q2, q3⟩ := row ho b hb
      have hle : n * t'.size ≤ xs.length * t'.size := Nat.mul_le_mul_right _ hn
      have := q3.2.1
      refine ⟨_, run_firstCells q2 (by omega), by simp; omega, ?_⟩
      have h1 := elsIn_sub (off := 0) (len := n) q3.els (by omega)
      simp only [Nat.zero_mul, List.drop_zero] at h1 ⊢
      rw [List.take_take, Nat.min_eq_left hle] at h1
      exact h1
  have subs : ∀ {id off len : Nat} {t' : Ty} {xs : List t'.El} {u : Value}, 0 < t'.size → (ORel P S μ sto w id (.arr t' xs) ∨ ORel P S μ sto w id (.fro t' xs)) →
      (off + len ≤ List.length xs ∧ ∃ a c, u = .slice a len c ∧ len ≤ c ∧ List.length xs ≤ off + c ∧ c ≤ 9223372036854775807 ∧ (c ≠ 0 → ∃ b, μ id = some b ∧ a = some ⟨b, off * t'.size, none⟩ ∧ CapAt w b ((off + c) * t'.size))) →
      (Builtin.lenOf u).run P w = .ok ((xs.drop off).take len).length w ∧ ∀ n, n ≤ ((xs.drop off).take len).length → ∃ B : Array Value, (Builtin.firstCells t'.size n u).run P w = .ok B w ∧ B.size = n * t'.size ∧ ElsIn P S w t' (((xs.drop off).take len).take n) B.toList := by
    intro id off len t' xs u hpos ho hu
    obtain ⟨hle, a, c, rfl, hc, _, _, hr⟩ := hu
    have hlen : ((xs.drop off).take len).length = len := by simp; omega
    rw [hlen]
    refine ⟨by simp [Builtin.lenOf], fun n hn => ?_⟩
    rcases Nat.eq_zero_or_pos n with h0 | h0
    · subst h0
      refine ⟨#[], ?_, by simp, fun i x hi => by simp at hi⟩
      cases a <;> simp [Builtin.firstCells, loadCells, loadCellsFrom]
    · obtain ⟨b, hb, rfl, _⟩ := hr (by omega)
      obtain ⟨cs, e, fz, q2, q3⟩ := row ho b hb
      have h3 : (off + n) * t'.size ≤ xs.length * t'.size := Nat.mul_le_mul_right _ (by omega)
      rw [Nat.add_mul] at h3
      have := q3.2.1
      refine ⟨((cs.toList.drop (off * t'.size)).take (n * t'.size)).toArray, ?_, by simp; omega, ?_⟩
      · have h := run_loadCells (P := P) (off := off * t'.size) q2 (n * t'.size) 0 #[] (by omega)
        simp only [Nat.add_zero] at h
        simp [Builtin.firstCells, loadCells, h]
      · have h1 := elsIn_sub (off := off) (len := n) q3.els (by omega)
        rw [List.take_take, Nat.min_eq_left (by omega)]
        intro i x hi
        obtain ⟨es, k1, k2⟩ := h1 i x hi
        refine ⟨es, k1, fun j v hj => ?_⟩
        have := k2 j v hj
        simp only [List.getElem?_take, List.getElem?_drop] at this ⊢
        split at this
        · rename_i hlt
          rw [if_pos hlt]
          split at this
          · exact this
          · cases this
        · cases this
  unfold elemsOf at h
  split at h
  · rename_i t' xs
    split at h
    · rename_i e _
      simp only [Option.some.injEq] at h; subst h
      subst e
      have hv := (vrep_one rfl).1 hx
      simp only [Rep] at hv
      obtain ⟨a, c, hu, hc, hm, hr⟩ := hv
      simp at hu; subst hu
      refine ⟨by simp [Builtin.lenOf], fun n hn => ?_⟩
      rcases Nat.eq_zero_or_pos n with h0 | h0
      · subst h0
        refine ⟨#[], ?_, by simp, fun i x hi => by simp at hi⟩
        cases a <;> simp [Builtin.firstCells, loadCells, loadCellsFrom]
      · change n ≤ List.length xs at hn
        obtain ⟨b, off, rfl, hS, hlt, hel⟩ := hr (by omega)
        obtain ⟨ds, d1, d2, d3⟩ := hel (n - 1) _ (getD_some t'.zero (by omega))
        obtain ⟨cs, e, fz, q1, q2⟩ := capAt_cells d3 (by intro h0; rw [h0] at d2; simp at d2; omega)
        have hsz : (n - 1) * t'.size + t'.size = n * t'.size := by rw [← Nat.succ_mul]; congr 1; omega
        refine ⟨((cs.toList.drop off).take (n * t'.size)).toArray, ?_, by simp; omega, ?_⟩
        · have h := run_loadCells (P := P) (off := off) q1 (n * t'.size) 0 #[] (by omega)
          simp only [Nat.add_zero] at h
          simp [Builtin.firstCells, loadCells, h]
        · intro i x hi
          rw [List.getElem?_take] at hi
          split at hi
          · rename_i hin
            obtain ⟨es, k1, k2, k3⟩ := hel i x hi
            refine ⟨es, k1, fun j v hj => ?_⟩
            have h1 := lt_of_getElem? hj
            have h2 : (i + 1) * t'.size ≤ n * t'.size := Nat.mul_le_mul_right _ hin
            rw [Nat.add_mul, Nat.one_mul] at h2
            have := k3 j v hj
            simp only [World.cell?, q1] at this
            simp only [List.getElem?_take, List.getElem?_drop]
            rw [if_pos (by omega), Array.getElem?_toList]
            rw [← this]; simp [Nat.add_assoc]
          · cases hi
    · cases h
  · rename_i s
    split at h
    · rename_i e _
      simp only [Option.some.injEq] at h; subst h
      subst e
      obtain ⟨b, rfl, rfl, hb⟩ := lrel_str.1 hx
      exact bytes_els b
    · cases h
  · simp only [Option.some.injEq] at h; subst h
    obtain ⟨a, rfl⟩ := hx
    refine ⟨by simp [Builtin.lenOf], fun n hn => ?_⟩
    have : n = 0 := by simpa using hn
    subst this
    refine ⟨#[], ?_, by simp, fun i x hi => by simp at hi⟩
    cases a <;> simp [Builtin.firstCells, loadCells, loadCellsFrom]
  · split at h
    all_goals first
      | (cases h; done)
      | (rename_i ho
         split at h
         · rename_i e _
           simp only [Option.some.injEq] at h; subst h
           subst e
           simp only [LRel, ho] at hx
           first
             | exact vecs hpos (.inl (hob _ _ ho)) hx
             | exact vecs hpos (.inr (hob _ _ ho)) hx
         · cases h)
  · split at h
    all_goals first
      | (cases h; done)
      | (rename_i ho
         split at h
         · rename_i e _
           simp only [Option.some.injEq] at h; subst h
           subst e
           simp only [LRel, ho] at hx
           first
             | exact subs hpos (.inl (hob _ _ ho)) hx
             | exact subs hpos (.inr (hob _ _ ho)) hx
         · cases h)
  · cases h
end Go.Eng
end

/- EngO -/
section
set_option linter.unusedSimpArgs false
set_option linter.unusedVariables false
namespace Go.Eng
open Tree

/-- A type that rows may be made of. -/
def rowOk (P : Program) (e : TypeId) (te : Ty) : Bool :=
  decide (szOf P e = some te.size) && decide (0 < te.size) && (match P.info? e with | some i => decide (i.bytes ≤ 4096) && (match i.zero with | some z => decide (z.cells.size = te.size) | none => false) | none => false)

def seqTy (P : Program) (t : TypeId) : Bool := match P.underlying t with | some (.slice _) | some .string => true | _ => false

def appendL (P : Program) (sto : List Ob) (fid : Nat) (t t' : TypeId) (s x : Lf) : Tree Eff :=
  match P.underlying t with
  | some (.slice e) => match tyAt P e with
    | some te => if rowOk P e te && seqTy P t' then
        match elemsOf sto te x with
        | some ys => match s with
          | .nils _ => grd (decide (ys.length ≤ 4294967296)) (leaf { fresh := some (.arr te ys), val := .one (.vec fid) })
          | .vec id => match sto[id]? with
            | some (.arr te' xs) => match Ty.eq? te' te with
              | some ⟨h⟩ => grd (decide ((h ▸ xs : List te.El).length + ys.length ≤ 4294967296)) (leaf { gone := some id, fresh := some (.arr te ((h ▸ xs : List te.El) ++ ys)), val := .one (.vec fid) })
              | none => fail
            | _ => fail
          | .sub id off len => match sto[id]? with
            | some (.arr te' xs) => match Ty.eq? te' te with
              | some ⟨h⟩ => grd (decide (off + len + ys.length ≤ (h ▸ xs : List te.El).length))
                  (leaf { chg := [(id, .arr te ((h ▸ xs : List te.El).take (off + len) ++ ys ++ (h ▸ xs : List te.El).drop (off + len + ys.length)))], val := .one (.sub id off (len + ys.length)) })
              | none => fail
            | _ => fail
          | _ => fail
        | none => fail
      else fail
    | none => fail
  | _ => fail

section
variable {P : Program} {C : Cx} {st : St} {a : Act} {w w' : World} {μ : Nat → Option Nat} {S : Nat → Prop} {sto : List Ob}

theorem rowOk_spec {e : TypeId} {te : Ty} (h : rowOk P e te = true) : ∃ i z, P.info? e = some i ∧ i.size = te.size ∧ 0 < te.size ∧ i.bytes ≤ 4096 ∧ i.zero = some z ∧ z.cells.size = te.size := by
  unfold rowOk at h
  simp only [Bool.and_eq_true, decide_eq_true_eq] at h
  obtain ⟨⟨h1, h2⟩, h3⟩ := h
  split at h3
  · rename_i i hi
    simp only [szOf, hi, Option.map_some, Option.some.injEq] at h1
    simp only [Bool.and_eq_true, decide_eq_true_eq] at h3
    obtain ⟨h3, h4⟩ := h3
    split at h4
    · rename_i z hz
      exact ⟨i, z, hi, h1, h2, h3, hz, by simpa using h4⟩
    · cases h4
  · cases h3

theorem seqTy_spec {t : TypeId} (h : seqTy P t = true) : (∃ e, P.underlying t = some (.slice e)) ∨ P.underlying t = some .string := by
  unfold seqTy at h
  split at h
  · rename_i e ht; exact .inl ⟨e, ht⟩
  · rename_i ht; exact .inr ht
  · cases h

/-- There is room. -/
theorem run_append_room {t t' ty e : TypeId} {sz n len cap : Nat} {base : Option Addr} {x : Value} {B : Array Value} (ht : P.underlying t = some (.slice e)) (ht' : seqTy P t' = true) (hs : szOf P e = some sz)
    (hn : (Builtin.lenOf x).run P w = .ok n w) (hB : (Builtin.firstCells sz n x).run P w = .ok B w) (hle : len + n ≤ cap) (hw : match base with | some a => (storeCells (a.add (len * sz)) B.toList).run P w = .ok () w' | none => w' = w) :
    (Builtin.append_ #[t, t'] ty #[.slice base len cap, x]).run P w = .ok (.slice base (len + n) cap) w' := by
  rcases seqTy_spec ht' with ⟨e', u⟩ | u <;> cases base
  · subst hw; simp [Builtin.append_, run_underlying ht, run_underlying u, run_sizeOf hs, hn, hle, hB]
  · simp only at hw; simp [Builtin.append_, run_underlying ht, run_underlying u, run_sizeOf hs, hn, hle, hB, hw]
  · subst hw; simp [Builtin.append_, run_underlying ht, run_underlying u, run_sizeOf hs, hn, hle, hB]
  · simp only at hw; simp [Builtin.append_, run_underlying ht, run_underlying u, run_sizeOf hs, hn, hle, hB, hw]

/-- There is none: a new row. -/
theorem run_append_grow {t t' ty e : TypeId} {i : TypeInfo} {z : Value} {sz n len cap : Nat} {base : Option Addr} {x : Value} {A B : Array Value} (ht : P.underlying t = some (.slice e)) (ht' : seqTy P t' = true)
    (hi : P.info? e = some i) (hs : i.size = sz) (hz : i.zero = some z) (hzs : z.cells.size = sz) (hby : i.bytes ≤ 4096)
    (hn : (Builtin.lenOf x).run P w = .ok n w) (hA : (Builtin.firstCells sz len (.slice base len cap)).run P w.drew = .ok A w.drew) (hB : (Builtin.firstCells sz n x).run P w.drew = .ok B w.drew)
    (hgt : cap < len + n) (hlim : len + n ≤ 4294967296) :
    ∃ c R, len + n ≤ c ∧ c ≤ 9223372036854775807 ∧ R.size = (c - (len + n)) * sz ∧
      (Builtin.append_ #[t, t'] ty #[.slice base len cap, x]).run P w = .ok (.slice (some ⟨w.heap.size, 0, none⟩) (len + n) c) (w.drew.alloc (.cells (A ++ B ++ R) e)) := by
  have h1 : ¬ (len + n ≤ cap) := by omega
  have h2 : ¬ (((len + n : Nat) : Int) > IntKind.i64.max) := by
    have : IntKind.i64.max = 9223372036854775807 := by decide
    omega
  have h3 : ¬ (Builtin.nextslicecap (len + n) cap * i.bytes > 2 ^ 48) := by
    have := growslice_fits (need := len + n) (old := cap) (bytes := i.bytes) hgt (by
      have : (len + n) * i.bytes ≤ 4294967296 * 4096 := Nat.mul_le_mul hlim hby
      omega)
    omega
  have h4 : (Question.appendCap (len + n) cap e).forced = false := rfl
  refine ⟨(Question.appendCap (len + n) cap e).cut (w.tape w.drawn (.appendCap (len + n) cap e)), Builtin.zeroCells z.cells ((Question.appendCap (len + n) cap e).cut (w.tape w.drawn (.appendCap (len + n) cap e)) - (len + n)), ?_, ?_, ?_, ?_⟩
  · simp [Question.cut]
  · simp only [Question.cut]
    have : w.tape w.drawn (.appendCap (len + n) cap e) % (2 ^ 63 - (len + n)) < 2 ^ 63 - (len + n) := Nat.mod_lt _ (by omega)
    omega
  · simp [Builtin.zeroCells, hzs]
  · subst hs
    have h2' : ¬ (9223372036854775807 < ((len : Int) + (n : Int))) := by omega
    have h3' : ¬ (281474976710656 < Builtin.nextslicecap (len + n) cap * i.bytes) := by omega
    rcases seqTy_spec ht' with ⟨e', u⟩ | u
    · simp [Builtin.append_, run_underlying ht, run_underlying u, sizeOf, typeInfo, zeroValue, hi, hz, hn, h1, h2', h3', Question.forced, hA, hB, newRow]
    · simp [Builtin.append_, run_underlying ht, run_underlying u, sizeOf, typeInfo, zeroValue, hi, hz, hn, h1, h2', h3', Question.forced, hA, hB, newRow]

theorem Keeps.drew (S : Nat → Prop) (μ : Nat → Option Nat) (sto : List Ob) (w : World) : Keeps S S μ μ sto sto w w.drew :=
  ⟨fun b h _ => ⟨h, rfl⟩, fun id o ho => ⟨o, ho, Like.refl o, .inr (.inr ⟨rfl, fun _ _ _ hc => hc⟩)⟩⟩

theorem elsIn_singles {t : Ty} {xs : List t.El} {cs : List Value} (h : ElsIn P S w t xs cs) (hl : cs.length = xs.length * t.size) : ∀ u ∈ cs, Value.single u = true := by
  intro u hu
  obtain ⟨k, hk⟩ := List.getElem?_of_mem hu
  have hlt := lt_of_getElem? hk
  rw [hl] at hlt
  have hpos : 0 < t.size := by
    rcases Nat.eq_zero_or_pos t.size with h0 | h0
    · rw [h0, Nat.mul_zero] at hlt; omega
    · exact h0
  have hdiv : k / t.size < xs.length := (Nat.div_lt_iff_lt_mul hpos).2 hlt
  obtain ⟨es, k1, k2⟩ := h (k / t.size) _ (getD_some t.zero hdiv)
  have hm := Nat.mod_lt k hpos
  have h2 := k2 (k % t.size) _ (List.getElem?_eq_getElem (by rw [k1.length]; exact hm))
  rw [Nat.mul_comm, Nat.div_add_mod, hk, Option.some.injEq] at h2
  subst h2
  exact rep_singles k1 _ (List.getElem_mem _)

theorem unfrozen_zero (n : Nat) : Unfrozen (0, 0) n := fun i _ h => by omega

theorem alloc_new (w : World) (o : Obj) : (w.alloc o).heap[w.heap.size]? = some o := by
  show (w.heap.push o)[w.heap.size]? = _
  rw [Array.getElem?_push, if_pos rfl]

/-- A new row in a new block. -/
theorem RelW.newArr (h : RelW P C st a w μ) {fid : Nat} (hfid : FidOk st.sto fid) {te : Ty} {zs : List te.El} {kid : Option Nat} {e : TypeId} {Z : List Value} {R : Array Value} {c : Nat}
    (hkid : ∀ k, kid = some k → ∃ o, st.sto[k]? = some o ∧ o ≠ .free) (hz : ElsIn P (Sof C μ st.sto w) w te zs Z) (hZ : Z.length = zs.length * te.size) (hc : zs.length ≤ c) (hcm : c ≤ 9223372036854775807)
    (hR : R.size = (c - zs.length) * te.size) :
    RelW P C { st with sto := place (kill st.sto kid) fid (.arr te zs) } a (w.alloc (.cells (Z.toArray ++ R) e)) (Eng.upd μ fid (some w.heap.size)) ∧
      LRel P (Sof C (Eng.upd μ fid (some w.heap.size)) (place (kill st.sto kid) fid (.arr te zs)) (w.alloc (.cells (Z.toArray ++ R) e))) (Eng.upd μ fid (some w.heap.size)) (place (kill st.sto kid) fid (.arr te zs))
        (w.alloc (.cells (Z.toArray ++ R) e)) (.vec fid) (.slice (some ⟨w.heap.size, 0, none⟩) zs.length c) := by
  have hnew : (w.alloc (.cells (Z.toArray ++ R) e)).heap[w.heap.size]? = some (.cells (Z.toArray ++ R) e) := alloc_new w _
  obtain ⟨r, hk⟩ := h.fresh (w' := w.alloc (.cells (Z.toArray ++ R) e)) (m := some w.heap.size) (ob := .arr te zs) hfid hkid (by simp) rfl rfl rfl
    (fun b hb _ => Go.RowKit.Below.heap_alloc _ _ _ hb) (capAt_keep fun b hb => Go.RowKit.Below.heap_alloc _ _ _ hb) (fun b hb => by cases hb; exact ⟨by simp, .inl (Nat.le_refl _)⟩)
    (fun hk => .inr ⟨w.heap.size, _, e, (0, 0), Eng.upd_same _ _ _, hnew, unfrozen_zero _, by
      have := arrAt_of (R := R.toList) (hz.ext hk.ext) hZ (by omega)
      rw [show (Z ++ R.toList).toArray = Z.toArray ++ R by apply Array.ext'; simp] at this
      exact this⟩)
  refine ⟨r, ?_⟩
  have hob := r.slots
  have get : (place (kill st.sto kid) fid (.arr te zs))[fid]? = some (.arr te zs) := by
    have hfid' : FidOk (kill st.sto kid) fid := by
      have hlen : (kill st.sto kid).length = st.sto.length := by cases kid <;> simp [kill]
      rcases hfid with hf | hf
      · exact .inl (by rw [hlen]; exact hf)
      · refine .inr ?_
        rw [kill_get]
        have : ¬ (kid = some fid ∧ fid < st.sto.length) := fun q => by
          obtain ⟨o, ho, hne⟩ := hkid fid q.1
          rw [hf] at ho; cases ho; exact hne rfl
        simp [this, hf]
    rw [place_get hfid']; simp
  simp only [LRel, get]
  refine .inr ⟨w.heap.size, c, Eng.upd_same _ _ _, rfl, hc, hcm, _, e, (0, 0), hnew, ?_⟩
  rw [Array.size_append, List.size_toArray, hZ, hR, ← Nat.add_mul]
  exact Nat.mul_le_mul_right _ (by omega)

theorem fidOk_kill {sto : List Ob} {fid : Nat} {kid : Option Nat} (hfid : FidOk sto fid) (hkid : ∀ k, kid = some k → ∃ o, sto[k]? = some o ∧ o ≠ .free) : FidOk (kill sto kid) fid := by
  have hlen : (kill sto kid).length = sto.length := by cases kid <;> simp [kill]
  rcases hfid with hf | hf
  · exact .inl (by rw [hlen]; exact hf)
  · refine .inr ?_
    rw [kill_get]
    have : ¬ (kid = some fid ∧ fid < sto.length) := fun q => by
      obtain ⟨o, ho, hne⟩ := hkid fid q.1
      rw [hf] at ho; cases ho; exact hne rfl
    simp [this, hf]

theorem empty_firstCells {sz c : Nat} {base : Option Addr} : (Builtin.firstCells sz 0 (.slice base 0 c)).run P w = .ok #[] w := by
  cases base <;> simp [Builtin.firstCells, loadCells, loadCellsFrom]

/-- append to nothing. -/
theorem append_nil {fid : Nat} {t t' ty e : TypeId} {te : Ty} {kid : Option Nat} {a0 : Option Addr} {v : Value} {ys : List te.El} (h : RelW P C st a w μ) (hfid : FidOk st.sto fid)
    (hkid : ∀ k, kid = some k → ∃ o, st.sto[k]? = some o ∧ o ≠ .free) (ht : P.underlying t = some (.slice e)) (ht' : seqTy P t' = true) (hrow : rowOk P e te = true) (hlim : ys.length ≤ 4294967296)
    (hel : ∀ w', w' = w ∨ w' = w.drew → (Builtin.lenOf v).run P w' = .ok ys.length w' ∧ ∃ B : Array Value, (Builtin.firstCells te.size ys.length v).run P w' = .ok B w' ∧ B.size = ys.length * te.size ∧ ElsIn P (Sof C μ st.sto w') w' te ys B.toList) :
    ∃ r w' μ', (Builtin.append_ #[t, t'] ty #[.slice a0 0 0, v]).run P w = .ok r w' ∧ RelW P C { st with sto := place (kill st.sto kid) fid (.arr te ys) } a w' μ' ∧
      LRel P (Sof C μ' (place (kill st.sto kid) fid (.arr te ys)) w') μ' (place (kill st.sto kid) fid (.arr te ys)) w' (.vec fid) r := by
  obtain ⟨i, z, hi, hsz, hpos, hby, hz, hzs⟩ := rowOk_spec hrow
  have hso : szOf P e = some te.size := by simp [szOf, hi, hsz]
  obtain ⟨hlen, B, hB, hBs, hBe⟩ := hel w (.inl rfl)
  rcases Nat.eq_zero_or_pos ys.length with h0 | h0
  · have hB0 : B = #[] := Array.eq_empty_of_size_eq_zero (by rw [hBs, h0]; simp)
    subst hB0
    have hrun := run_append_room (w' := w) (t' := t') (ty := ty) (len := 0) (cap := 0) (base := a0) ht ht' hso hlen hB (by omega) (by cases a0 <;> simp [storeCells])
    rw [h0] at hrun
    obtain ⟨r, hk⟩ := h.fresh (w' := w) (m := none) (ob := .arr te ys) hfid hkid (Nat.le_refl _) rfl rfl rfl (fun _ _ _ => rfl) (fun _ _ hc => hc) (fun b hb => by cases hb) (fun hk => .inl ⟨upd_same _ _ _, h0⟩)
    refine ⟨_, w, _, hrun, r, ?_⟩
    simp only [LRel, place_get (fidOk_kill hfid hkid), if_true]
    exact .inl ⟨upd_same _ _ _, h0, a0, rfl⟩
  · have hd := h.drew
    obtain ⟨_, B', hB', hBs', hBe'⟩ := hel w.drew (.inr rfl)
    obtain ⟨c, R, hc1, hc2, hR, hrun⟩ := run_append_grow (w := w) (t' := t') (ty := ty) (len := 0) (cap := 0) (base := a0) ht ht' hi hsz hz hzs hby hlen empty_firstCells hB' (by omega) (by omega)
    rw [Nat.zero_add] at hc1 hR hrun
    obtain ⟨r, hl⟩ := hd.newArr (e := e) hfid hkid hBe' (by simpa using hBs') hc1 hc2 hR
    have e3 : B'.toList.toArray ++ R = #[] ++ B' ++ R := by simp
    rw [e3] at r hl
    exact ⟨_, _, _, hrun, r, hl⟩

/-- append to a row of the call's own. -/
theorem append_vec {fid id : Nat} {t t' ty e : TypeId} {te : Ty} {v : Value} {b c : Nat} {xs ys : List te.El} (h : RelW P C st a w μ) (hfid : FidOk st.sto fid) (ho : st.sto[id]? = some (.arr te xs))
    (hb : μ id = some b) (hc : xs.length ≤ c) (hcap : CapAt w b (c * te.size)) (hcm : c ≤ 9223372036854775807)
    (ht : P.underlying t = some (.slice e)) (ht' : seqTy P t' = true) (hrow : rowOk P e te = true) (hlim : xs.length + ys.length ≤ 4294967296)
    (hel : ∀ w', w' = w ∨ w' = w.drew → (Builtin.lenOf v).run P w' = .ok ys.length w' ∧ ∃ B : Array Value, (Builtin.firstCells te.size ys.length v).run P w' = .ok B w' ∧ B.size = ys.length * te.size ∧ ElsIn P (Sof C μ st.sto w') w' te ys B.toList) :
    ∃ r w' μ', (Builtin.append_ #[t, t'] ty #[.slice (some ⟨b, 0, none⟩) xs.length c, v]).run P w = .ok r w' ∧ RelW P C { st with sto := place (kill st.sto (some id)) fid (.arr te (xs ++ ys)) } a w' μ' ∧
      LRel P (Sof C μ' (place (kill st.sto (some id)) fid (.arr te (xs ++ ys))) w') μ' (place (kill st.sto (some id)) fid (.arr te (xs ++ ys))) w' (.vec fid) r := by
  obtain ⟨i, z, hi, hsz, hpos, hby, hz, hzs⟩ := rowOk_spec hrow
  have hso : szOf P e = some te.size := by simp [szOf, hi, hsz]
  have hkid : ∀ k, some id = some k → ∃ o, st.sto[k]? = some o ∧ o ≠ .free := fun k hk => by cases hk; exact ⟨_, ho, by simp⟩
  rcases h.obj id _ ho with ⟨h1, _⟩ | ⟨b', cs, e0, fz, q1, q2, q3, q4⟩
  · rw [h1] at hb; cases hb
  rw [hb] at q1; cases q1
  obtain ⟨hlen, B, hB, hBs, hBe⟩ := hel w (.inl rfl)
  have hcapc : c * te.size ≤ cs.size := by
    obtain ⟨cs2, e2, fz2, k1, k2⟩ := hcap
    rw [q2] at k1; cases k1; exact k2
  by_cases hle : xs.length + ys.length ≤ c
  · have hfit : (xs.length + ys.length) * te.size ≤ c * te.size := Nat.mul_le_mul_right _ hle
    rw [Nat.add_mul] at hfit
    have hBl : B.toList.length = ys.length * te.size := by simpa using hBs
    have hst : (storeCells ((⟨b, 0, none⟩ : Addr).add (xs.length * te.size)) B.toList).run P w = .ok () (wset w b (.cells (splice cs (xs.length * te.size) B.toList) e0 fz)) := by
      have := run_storeCells (P := P) (w := w) B.toList (off := xs.length * te.size) 0 q2 q3 (by rw [hBl]; omega) (elsIn_singles hBe hBl)
      simpa [addr_add] using this
    have hrun := run_append_room (t' := t') (ty := ty) (base := some ⟨b, 0, none⟩) ht ht' hso hlen hB hle hst
    obtain ⟨r, hk⟩ := h.fresh (w' := wset w b (.cells (splice cs (xs.length * te.size) B.toList) e0 fz)) (m := some b) (ob := .arr te (xs ++ ys)) (kid := some id) hfid hkid (by simp [wset]) rfl rfl rfl
      (fun b' hb' hn => wset_other (i := b') (b := b) (fun e => hn id _ rfl ho rfl (by rw [hb, e])))
      (fun b' n hc' => by
        by_cases hbb : b' = b
        · subst hbb; exact capAt_wset q2 (splice_size _ _ _) hc'
        · obtain ⟨cs1, e1, fz1, p1, p2⟩ := hc'
          exact ⟨cs1, e1, fz1, (wset_other (i := b') (b := b) hbb).trans p1, p2⟩)
      (fun b' hb' => by cases hb'; exact ⟨by simp only [wset, Array.size_setIfInBounds]; exact lt_of_some q2, .inr ⟨id, _, rfl, ho, rfl, hb⟩⟩)
      (fun hk => .inr ⟨b, _, e0, fz, upd_same _ _ _, wset_same (lt_of_some q2), by rw [splice_size]; exact q3, by
        have hA : (cs.toList.take (xs.length * te.size)).length = xs.length * te.size := by simp; omega
        have hz := ((q4.els).ext hk.ext).append (hBe.ext hk.ext) hA
        have := arrAt_of (R := cs.toList.drop (xs.length * te.size + B.toList.length)) hz (by simp only [List.length_append, hA, hBl, Nat.add_mul]) (by simp; omega)
        have e2 : (cs.toList.take (xs.length * te.size) ++ B.toList ++ cs.toList.drop (xs.length * te.size + B.toList.length)).toArray = splice cs (xs.length * te.size) B.toList := by
          apply Array.ext'
          rw [splice_toList _ _ _ (by rw [hBl]; omega)]
        rw [e2] at this
        exact this⟩)
    refine ⟨_, _, _, hrun, r, ?_⟩
    simp only [LRel, place_get (fidOk_kill hfid hkid), if_true]
    refine .inr ⟨b, c, upd_same _ _ _, by simp, by simpa using hle, hcm, _, e0, fz, wset_same (lt_of_some q2), by rw [splice_size]; exact hcapc⟩
  · have hd := h.drew
    obtain ⟨_, B', hB', hBs', hBe'⟩ := hel w.drew (.inr rfl)
    have hbnd := q4.2.1
    have hA : (Builtin.firstCells te.size xs.length (.slice (some ⟨b, 0, none⟩) xs.length c)).run P w.drew = .ok ((cs.toList.drop 0).take (xs.length * te.size)).toArray w.drew :=
      run_firstCells (w := w.drew) (xs := xs) q2 (by omega)
    obtain ⟨c', R, hc1, hc2, hR, hrun⟩ := run_append_grow (w := w) (t' := t') (ty := ty) (base := some ⟨b, 0, none⟩) ht ht' hi hsz hz hzs hby hlen hA hB' (by omega) hlim
    have hAl : (cs.toList.take (xs.length * te.size)).length = xs.length * te.size := by simp; omega
    obtain ⟨r, hl⟩ := hd.newArr (e := e) (zs := xs ++ ys) (kid := some id) (Z := cs.toList.take (xs.length * te.size) ++ B'.toList) hfid hkid ((ElsIn.ext (show Ext (Sof C μ st.sto w) (Sof C μ st.sto w.drew) w w.drew from fun b hb _ => ⟨hb, rfl⟩) q4.els).append hBe' hAl)
      (by simp only [List.length_append, hAl, Array.length_toList, hBs', Nat.add_mul]) (by simpa using hc1) hc2 (by simpa using hR)
    have e3 : (cs.toList.take (xs.length * te.size) ++ B'.toList).toArray ++ R = ((cs.toList.drop 0).take (xs.length * te.size)).toArray ++ B' ++ R := by
      apply Array.ext'; simp
    rw [e3] at r hl
    rw [List.length_append] at hl
    exact ⟨_, _, _, hrun, r, hl⟩

theorem set_self {α : Type} {l : List α} {i : Nat} {x : α} (h : l[i]? = some x) : l.set i x = l := by
  apply List.ext_getElem?
  intro j
  rw [List.getElem?_set]
  by_cases hij : i = j
  · subst hij; rw [if_pos rfl, if_pos (lt_of_getElem? h), h]
  · simp [hij]

theorem ArrAt.splice {te : Ty} {xs ys : List te.El} {cs : Array Value} {B : List Value} {k : Nat} (h : ArrAt P S w te xs cs) (hy : ElsIn P S w te ys B) (hk : k + ys.length ≤ xs.length) (hB : B.length = ys.length * te.size) :
    ArrAt P S w te (xs.take k ++ ys ++ xs.drop (k + ys.length)) (Eng.splice cs (k * te.size) B) := by
  obtain ⟨h1, h2, h3⟩ := h
  have hfit : (k + ys.length) * te.size ≤ xs.length * te.size := Nat.mul_le_mul_right _ hk
  rw [Nat.add_mul] at hfit
  have hl : (xs.take k ++ ys ++ xs.drop (k + ys.length)).length = xs.length := by simp; omega
  refine ⟨by rw [hl]; exact h1, by rw [hl, splice_size]; exact h2, fun i x hi => ?_⟩
  have hsp : ∀ q, (Eng.splice cs (k * te.size) B)[q]? = if k * te.size ≤ q ∧ q < k * te.size + B.length then B[q - k * te.size]? else cs[q]? := fun q => splice_get B cs _ q (by rw [hB]; omega)
  have old : ∀ (x : te.El), xs[i]? = some x → (i < k ∨ k + ys.length ≤ i) → ∃ es, Rep P false te S w x es ∧ ∀ j v, es[j]? = some v → (Eng.splice cs (k * te.size) B)[i * te.size + j]? = some v := by
    intro x hx hor
    obtain ⟨es, k1, k2⟩ := h3 i x hx
    refine ⟨es, k1, fun j v hj => ?_⟩
    have hj1 := lt_of_getElem? hj
    rw [k1.length] at hj1
    rw [hsp, if_neg]
    · exact k2 j v hj
    · rcases hor with hlt | hge
      · have : (i + 1) * te.size ≤ k * te.size := Nat.mul_le_mul_right _ hlt
        rw [Nat.add_mul, Nat.one_mul] at this
        omega
      · have : (k + ys.length) * te.size ≤ i * te.size := Nat.mul_le_mul_right _ hge
        rw [Nat.add_mul] at this
        omega
  by_cases c1 : i < k
  · rw [List.append_assoc, List.getElem?_append_left (by simp; omega), List.getElem?_take, if_pos c1] at hi
    exact old x hi (.inl c1)
  · by_cases c2 : i < k + ys.length
    · rw [List.append_assoc, List.getElem?_append_right (by simp; omega), List.getElem?_append_left (by simp; omega)] at hi
      have e1 : (xs.take k).length = k := by simp; omega
      rw [e1] at hi
      obtain ⟨es, k1, k2⟩ := hy _ x hi
      refine ⟨es, k1, fun j v hj => ?_⟩
      have := k2 j v hj
      have hlt := lt_of_getElem? this
      have e2 : i * te.size = k * te.size + (i - k) * te.size := by rw [← Nat.add_mul]; congr 1; omega
      rw [hsp, if_pos (by rw [e2]; omega), e2]
      rw [show k * te.size + (i - k) * te.size + j - k * te.size = (i - k) * te.size + j by omega]
      exact this
    · rw [List.getElem?_append_right (by simp; omega), List.getElem?_drop] at hi
      refine old x ?_ (.inr (by omega))
      rw [← hi]; congr 1; simp; omega

/-- append: what it says. -/
theorem appendL_sound {fid : Nat} {t t' ty : TypeId} {s x : Lf} {u v : Value} {ef : Eff} (h : RelW P C st a w μ) (hfid : FidOk st.sto fid)
    (hs : LRel P (Sof C μ st.sto w) μ st.sto w s u) (hx : LRel P (Sof C μ st.sto w) μ st.sto w x v) (hr : (appendL P st.sto fid t t' s x).run = some ef) :
    ∃ r w' μ', (Builtin.append_ #[t, t'] ty #[u, v]).run P w = .ok r w' ∧ RelW P C { st with sto := ef.sto fid st.sto } a w' μ' ∧ ARel P (Sof C μ' (ef.sto fid st.sto) w') μ' (ef.sto fid st.sto) w' ef.val r := by
  unfold appendL at hr
  split at hr
  · rename_i e ht
    split at hr
    · rename_i te _
      split at hr
      · rename_i hok
        simp only [Bool.and_eq_true] at hok
        obtain ⟨hrow, ht'⟩ := hok
        obtain ⟨i, z, hi, hsz, hpos, hby, hz, hzs⟩ := rowOk_spec hrow
        have hso : szOf P e = some te.size := by simp [szOf, hi, hsz]
        split at hr
        · rename_i ys hys
          have hel : ∀ w', w' = w ∨ w' = w.drew → (Builtin.lenOf v).run P w' = .ok ys.length w' ∧ ∃ B : Array Value, (Builtin.firstCells te.size ys.length v).run P w' = .ok B w' ∧ B.size = ys.length * te.size ∧
              ElsIn P (Sof C μ st.sto w') w' te ys B.toList := by
            intro w' hw'
            rcases hw' with rfl | rfl
            · obtain ⟨hlen, hel⟩ := elemsOf_sound h.obj hpos hx hys
              obtain ⟨B, h1, h2, h3⟩ := hel ys.length (Nat.le_refl _)
              rw [List.take_length] at h3
              exact ⟨hlen, B, h1, h2, h3⟩
            · obtain ⟨hlen, hel⟩ := elemsOf_sound h.drew.obj hpos (hx.keeps (Keeps.drew _ _ _ _)) hys
              obtain ⟨B, h1, h2, h3⟩ := hel ys.length (Nat.le_refl _)
              rw [List.take_length] at h3
              exact ⟨hlen, B, h1, h2, h3⟩
          split at hr
          · obtain ⟨hlim, hr⟩ := run_grd hr
            simp only [decide_eq_true_eq] at hlim
            simp only [Tree.run, Option.some.injEq] at hr; subst hr
            obtain ⟨a0, rfl⟩ := hs
            exact append_nil (kid := none) h hfid (fun k hk => by cases hk) ht ht' hrow hlim hel
          · rename_i id
            split at hr
            · rename_i te' xs ho
              split at hr
              · rename_i e' _
                subst e'
                obtain ⟨hlim, hr⟩ := run_grd hr
                simp only [decide_eq_true_eq] at hlim
                simp only [Tree.run, Option.some.injEq] at hr; subst hr
                have hkid : ∀ k, some id = some k → ∃ o, st.sto[k]? = some o ∧ o ≠ .free := fun k hk => by cases hk; exact ⟨_, ho, by simp⟩
                simp only [LRel, ho] at hs
                rcases hs with ⟨_, h0, a0, rfl⟩ | ⟨b, c, hb, rfl, hc, hcm, hcap⟩
                · obtain rfl : xs = [] := List.eq_nil_of_length_eq_zero h0
                  exact append_nil (kid := some id) h hfid hkid ht ht' hrow (by simpa using hlim) hel
                · exact append_vec h hfid ho hb hc hcap hcm ht ht' hrow hlim hel
              · simp [Tree.run] at hr
            · simp [Tree.run] at hr
          · rename_i id off len
            split at hr
            · rename_i te' xs ho
              split at hr
              · rename_i e' _
                subst e'
                obtain ⟨hlim, hr⟩ := run_grd hr
                simp only [decide_eq_true_eq] at hlim
                simp only [Tree.run, Option.some.injEq] at hr; subst hr
                change off + len + ys.length ≤ xs.length at hlim
                simp only [LRel, ho] at hs
                obtain ⟨hle, a1, c, rfl, hc, hxc, hcm, hs2⟩ := hs
                obtain ⟨hlen, B, hB, hBs, hBe⟩ := hel w (.inl rfl)
                have hBl : B.toList.length = ys.length * te'.size := by simpa using hBs
                by_cases h0 : ys.length = 0
                · obtain rfl : ys = [] := List.eq_nil_of_length_eq_zero h0
                  have hB0 : B = #[] := Array.eq_empty_of_size_eq_zero (by rw [hBs]; simp)
                  subst hB0
                  have hrun := run_append_room (w' := w) (t' := t') (ty := ty) (base := a1) ht ht' hso hlen hB (show len + 0 ≤ c by omega) (by cases a1 <;> simp [storeCells])
                  have e1 : xs.take (off + len) ++ [] ++ xs.drop (off + len + ([] : List te'.El).length) = xs := by simp
                  have e2 : st.sto.set id (.arr te' xs) = st.sto := set_self ho
                  refine ⟨_, w, μ, hrun, ?_, ?_⟩
                  · simp only [Eff.sto, frz, applyUpd, kill, e1, e2]; exact h
                  · simp only [Eff.sto, frz, applyUpd, kill, e1, e2, ARel, LRel, ho]
                    exact ⟨by simpa using hle, a1, c, rfl, by simpa using hc, hxc, hcm, hs2⟩
                · obtain ⟨b, hb, rfl, _⟩ := hs2 (by omega)
                  rcases h.obj id _ ho with ⟨h1, _⟩ | ⟨b', cs, e0, fz, q1, q2, q3, q4⟩
                  · rw [h1] at hb; cases hb
                  rw [hb] at q1; cases q1
                  have hfit : (off + len + ys.length) * te'.size ≤ xs.length * te'.size := Nat.mul_le_mul_right _ hlim
                  rw [Nat.add_mul] at hfit
                  have hcs := q4.2.1
                  have hst : (storeCells ((⟨b, off * te'.size, none⟩ : Addr).add (len * te'.size)) B.toList).run P w = .ok () (wset w b (.cells (splice cs ((off + len) * te'.size) B.toList) e0 fz)) := by
                    have := run_storeCells (P := P) (w := w) B.toList (off := (off + len) * te'.size) 0 q2 q3 (by rw [hBl]; omega) (elsIn_singles hBe hBl)
                    rw [addr_add, ← Nat.add_mul]
                    simpa using this
                  have hrun := run_append_room (t' := t') (ty := ty) (base := some ⟨b, off * te'.size, none⟩) ht ht' hso hlen hB (show len + ys.length ≤ c by omega) hst
                  obtain ⟨r, hk⟩ := h.upd (w' := wset w b (.cells (splice cs ((off + len) * te'.size) B.toList) e0 fz)) ho rfl rfl
                    (ob' := .arr te' (xs.take (off + len) ++ ys ++ xs.drop (off + len + ys.length))) ⟨rfl, by simp; omega⟩ (by simp [wset]) rfl rfl rfl
                    (fun b' hb' => wset_other (i := b') (b := b) (fun e => hb' (by rw [e]; exact hb))) (fun b' n hb' hc' => by rw [hb] at hb'; cases hb'; exact capAt_wset q2 (splice_size _ _ _) hc')
                    (fun hk => .inr ⟨b, _, e0, fz, hb, wset_same (lt_of_some q2), by rw [splice_size]; exact q3, (q4.ext hk.ext).splice (hBe.ext hk.ext) hlim hBl⟩)
                  refine ⟨_, _, _, hrun, r, ?_⟩
                  simp only [Eff.sto, frz, applyUpd, kill, ARel, LRel, List.getElem?_set, if_true, lt_of_getElem? ho]
                  refine ⟨by simp; omega, _, c, rfl, by omega, by simp; omega, hcm, fun _ => ⟨b, hb, rfl, _, e0, fz, wset_same (lt_of_some q2), ?_⟩⟩
                  rw [splice_size]
                  obtain ⟨b2, hb2, _, cs2, e2, fz2, k1, k2⟩ := hs2 (by omega)
                  rw [hb] at hb2; cases hb2
                  rw [q2] at k1; cases k1
                  exact k2
              · simp [Tree.run] at hr
            · simp [Tree.run] at hr
          · simp [Tree.run] at hr
        · simp [Tree.run] at hr
      · simp [Tree.run] at hr
    · simp [Tree.run] at hr
  · simp [Tree.run] at hr
end
end Go.Eng
end

/- EngP -/
section
set_option linter.unusedSimpArgs false
set_option linter.unusedVariables false
namespace Go.Eng
open Tree

def spl {α : Type} (xs ys : List α) (k : Nat) : List α := xs.take k ++ ys ++ xs.drop (k + ys.length)

def copyL (P : Program) (sto : List Ob) (t : TypeId) (x y : Lf) : Tree Eff :=
  match P.underlying t with
  | some (.slice e) => match tyAt P e with
    | some te => if rowOk P e te then
        match elemsOf sto te y with
        | some ys => match x with
          | .vec id => match sto[id]? with
            | some (.arr te' xs) => match Ty.eq? te' te with
              | some ⟨h⟩ => leaf { chg := [(id, .arr te (spl (h ▸ xs : List te.El) (ys.take (h ▸ xs : List te.El).length) 0))], val := .one (.val (.int .i64) ((min ys.length (h ▸ xs : List te.El).length : Nat) : Int)) }
              | none => fail
            | _ => fail
          | .sub id off len => match sto[id]? with
            | some (.arr te' xs) => match Ty.eq? te' te with
              | some ⟨h⟩ => leaf { chg := [(id, .arr te (spl (h ▸ xs : List te.El) (ys.take len) off))], val := .one (.val (.int .i64) ((min ys.length len : Nat) : Int)) }
              | none => fail
            | _ => fail
          | _ => fail
        | none => fail
      else fail
    | none => fail
  | _ => fail

/-- A variable that a value is laid into. -/
def boxL (sto : List Ob) (fid : Nat) (v : AV) : Tree Eff :=
  match v with
  | .one (.val (.arr n te) xs) => if 0 < te.size ∧ n ≤ 4294967296 then leaf { fresh := some (.arr te xs), val := .one (.ptr fid 0) } else fail
  | v => match leavesOf sto v with
    | some vs => leaf { fresh := some (.var vs), val := .one (.ptr fid 0) }
    | none => fail

/-- A zero value's leaves, with their kinds. -/
def retype : List Lf → List Ty → List Lf
  | l :: ls, t :: ts => (match l, t with | .nils _, .slice te => .nils te | .nilp, .node te => .val (.node te) .nil | l, _ => l) :: retype ls ts
  | ls, _ => ls
def flatTys : Ty → List Ty
  | .unit => []
  | .pair a b => flatTys a ++ flatTys b
  | t => [t]

/-- Is a cell the zero value of a kind? -/
def zero1 : Ty → Value → Bool
  | .int k, .int k' n => decide (k = k') && decide (n = 0)
  | .bool, .bool b => !b
  | .str, .string s => decide (s.size = 0)
  | .slice _, .slice none 0 0 => true
  | .node _, .pointer none => true
  | _, _ => false

/-- The zero value of a kind, read off a type's zero cells. -/
def zeroRep : (t : Ty) → List Value → Option (List Value)
  | .unit, vs => some vs
  | .pair a b, vs => match zeroRep a vs with | some r => zeroRep b r | none => none
  | t, v :: r => if zero1 t v then some r else none
  | _, [] => none

/-- n times the zero value of a kind. -/
def zeroN (te : Ty) : Nat → List Value → Bool
  | 0, vs => vs.isEmpty
  | n + 1, vs => match zeroRep te vs with | some r => zeroN te n r | none => false

def zeroOk (P : Program) (e : TypeId) (te : Ty) : Bool := match P.info? e with
  | some i => match i.zero with | some z => (match zeroRep te z.cells.toList with | some [] => true | _ => false) | none => false
  | none => false

def newVarTy (P : Program) (t : TypeId) : List Ty := match tyAt P t with | some ty => flatTys ty | none => []

def allocL (P : Program) (fid : Nat) (t : TypeId) : Tree Eff :=
  match tyAt P t with
  | some (.arr n te) => if 0 < te.size ∧ n ≤ 4294967296 then (match P.info? t with
      | some i => match i.zero with
        | some z => if zeroN te n z.cells.toList then leaf { fresh := some (.arr te (List.replicate n te.zero)), val := .one (.ptr fid 0) } else fail
        | none => fail
      | none => fail) else fail
  | _ => match P.info? t with
    | some i => match i.zero with
      | some z => if z.cells.all Value.single then
          leaf { fresh := some (.var (retype (z.cells.toList.map constLf) (newVarTy P t))), val := .one (.ptr fid 0) } else fail
      | none => fail
    | none => fail
section
variable {P : Program} {C : Cx} {st : St} {a : Act} {w w' : World} {μ : Nat → Option Nat} {S : Nat → Prop} {sto : List Ob}

theorem RelW.spliceArr {id b k : Nat} {te : Ty} {xs ys : List te.El} {B : List Value} (h : RelW P C st a w μ) (ho : st.sto[id]? = some (.arr te xs)) (hb : μ id = some b)
    (hy : ElsIn P (Sof C μ st.sto w) w te ys B) (hB : B.length = ys.length * te.size) (hk : k + ys.length ≤ xs.length) :
    ∃ w', (storeCells ⟨b, k * te.size, none⟩ B).run P w = .ok () w' ∧ RelW P C { st with sto := st.sto.set id (.arr te (spl xs ys k)) } a w' μ := by
  rcases h.obj id _ ho with ⟨h1, _⟩ | ⟨b', cs, e0, fz, q1, q2, q3, q4⟩
  · rw [h1] at hb; cases hb
  rw [hb] at q1; cases q1
  have hfit : (k + ys.length) * te.size ≤ xs.length * te.size := Nat.mul_le_mul_right _ hk
  rw [Nat.add_mul] at hfit
  have hcs := q4.2.1
  refine ⟨wset w b (.cells (Eng.splice cs (k * te.size) B) e0 fz), ?_, ?_⟩
  · have := run_storeCells (P := P) (w := w) B (off := k * te.size) 0 q2 q3 (by rw [hB]; omega) (elsIn_singles hy hB)
    simpa using this
  · exact (h.upd (w' := wset w b (.cells (Eng.splice cs (k * te.size) B) e0 fz)) ho rfl rfl
      (ob' := .arr te (spl xs ys k)) ⟨rfl, by simp [spl]; omega⟩ (by simp [wset]) rfl rfl rfl
      (fun b' hb' => wset_other (i := b') (b := b) (fun e => hb' (by rw [e]; exact hb))) (fun b' n hb' hc' => by rw [hb] at hb'; cases hb'; exact capAt_wset q2 (splice_size _ _ _) hc')
      (fun hk' => .inr ⟨b, _, e0, fz, hb, wset_same (lt_of_some q2), by rw [splice_size]; exact q3, (q4.ext hk'.ext).splice (hy.ext hk'.ext) hk hB⟩)).1

theorem copyL_sound {t t' ty : TypeId} {x y : Lf} {u v : Value} {ef : Eff} (fid : Nat) (h : RelW P C st a w μ)
    (hx : LRel P (Sof C μ st.sto w) μ st.sto w x u) (hy : LRel P (Sof C μ st.sto w) μ st.sto w y v) (hr : (copyL P st.sto t x y).run = some ef) :
    ∃ r w', (Builtin.copy_ #[t, t'] ty #[u, v]).run P w = .ok r w' ∧ RelW P C { st with sto := ef.sto fid st.sto } a w' μ ∧ ARel P (Sof C μ (ef.sto fid st.sto) w') μ (ef.sto fid st.sto) w' ef.val r := by
  have im : IntKind.i64.min = -9223372036854775808 := by decide
  have iM : IntKind.i64.max = 9223372036854775807 := by decide
  unfold copyL at hr
  split at hr
  · rename_i e ht
    split at hr
    · rename_i te _
      split at hr
      · rename_i hrow
        obtain ⟨i, z, hi, hsz, hpos, hby, hz, hzs⟩ := rowOk_spec hrow
        have hso : szOf P e = some te.size := by simp [szOf, hi, hsz]
        split at hr
        · rename_i ys hys
          obtain ⟨hlen, hel⟩ := elemsOf_sound h.obj hpos hy hys
          have run : ∀ {w' : World} {base : Option Addr} {len c n : Nat} {B : Array Value}, n = min ys.length len → (Builtin.firstCells te.size n v).run P w = .ok B w →
              (match base with | some a => (storeCells a B.toList).run P w = .ok () w' | none => w' = w) → (Builtin.copy_ #[t, t'] ty #[.slice base len c, v]).run P w = .ok (goInt n) w' := by
            intro w' base len c n B hn hB hw
            subst hn
            cases base with
            | none => subst hw; simp [Builtin.copy_, run_underlying ht, hlen, run_sizeOf hso, hB]
            | some ad => simp only at hw; simp [Builtin.copy_, run_underlying ht, hlen, run_sizeOf hso, hB, hw]
          have nothing : ∀ {id : Nat} {te' : Ty} {xs : List te'.El} {base : Option Addr} {len c k : Nat} {zs : List te'.El}, st.sto[id]? = some (.arr te' xs) → min ys.length len = 0 → zs = xs →
              ∃ r w', (Builtin.copy_ #[t, t'] ty #[.slice base len c, v]).run P w = .ok r w' ∧ RelW P C { st with sto := st.sto.set id (.arr te' zs) } a w' μ ∧
                r = .int .i64 ((min ys.length len : Nat) : Int) := by
            intro id te' xs base len c k zs ho h0 hz
            subst hz
            obtain ⟨B, hB, hBs, _⟩ := hel 0 (by omega)
            have hB0 : B = #[] := Array.eq_empty_of_size_eq_zero (by rw [hBs]; simp)
            subst hB0
            refine ⟨_, w, run (w' := w) (n := 0) h0.symm hB (by cases base <;> simp [storeCells]), ?_, by rw [h0]; rfl⟩
            rw [set_self ho]; exact h
          have some_ : ∀ {id b off : Nat} {xs : List te.El} {len c : Nat}, st.sto[id]? = some (.arr te xs) → μ id = some b → off + len ≤ xs.length →
              ∃ r w', (Builtin.copy_ #[t, t'] ty #[.slice (some ⟨b, off * te.size, none⟩) len c, v]).run P w = .ok r w' ∧ RelW P C { st with sto := st.sto.set id (.arr te (spl xs (ys.take len) off)) } a w' μ ∧
                r = .int .i64 ((min ys.length len : Nat) : Int) := by
            intro id b off xs len c ho hb hle
            obtain ⟨B, hB, hBs, hBe⟩ := hel (min ys.length len) (by omega)
            have e1 : ys.take (min ys.length len) = ys.take len := by rw [Nat.min_comm, ← List.take_take, List.take_length]
            rw [e1] at hBe
            have e2 : (ys.take len).length = min ys.length len := by rw [List.length_take]; omega
            obtain ⟨w', hst, r⟩ := h.spliceArr ho hb hBe (by rw [e2]; simpa using hBs) (k := off) (by rw [e2]; omega)
            exact ⟨_, w', run (w' := w') rfl hB hst, r, rfl⟩
          split at hr
          · rename_i id
            split at hr
            · rename_i te' xs ho
              split at hr
              · rename_i e' _
                subst e'
                simp only [Tree.run, Option.some.injEq] at hr; subst hr
                simp only [LRel, ho] at hx
                have hbnd : xs.length ≤ 9223372036854775807 := by
                  rcases hx with ⟨_, h0, a0, _⟩ | ⟨b, c, hb, _, hc, hcm, hcap⟩ <;> omega
                obtain ⟨r, w', h1, h2, h3⟩ : ∃ r w', (Builtin.copy_ #[t, t'] ty #[u, v]).run P w = .ok r w' ∧ RelW P C { st with sto := st.sto.set id (.arr te' (spl xs (ys.take xs.length) 0)) } a w' μ ∧
                    r = .int .i64 ((min ys.length xs.length : Nat) : Int) := by
                  rcases hx with ⟨_, h0, a0, rfl⟩ | ⟨b, c, hb, rfl, hc, hcm, hcap⟩
                  · rw [h0]
                    obtain rfl : xs = [] := List.eq_nil_of_length_eq_zero h0
                    exact nothing (k := 0) ho (by simp) (by simp [spl])
                  · have := some_ (c := c) ho hb (off := 0) (len := xs.length) (by omega)
                    simpa using this
                subst h3
                exact ⟨_, w', h1, h2, vrep_int.2 ⟨rfl, by omega⟩⟩
              · simp [Tree.run] at hr
            · simp [Tree.run] at hr
          · rename_i id off len
            split at hr
            · rename_i te' xs ho
              split at hr
              · rename_i e' _
                subst e'
                simp only [Tree.run, Option.some.injEq] at hr; subst hr
                simp only [LRel, ho] at hx
                obtain ⟨hle, a1, c, rfl, hc, hxc, hcm, hs2⟩ := hx
                obtain ⟨r, w', h1, h2, h3⟩ : ∃ r w', (Builtin.copy_ #[t, t'] ty #[.slice a1 len c, v]).run P w = .ok r w' ∧ RelW P C { st with sto := st.sto.set id (.arr te' (spl xs (ys.take len) off)) } a w' μ ∧
                    r = .int .i64 ((min ys.length len : Nat) : Int) := by
                  by_cases h0 : len = 0
                  · subst h0
                    exact nothing (k := 0) ho (by simp) (by simp [spl])
                  · obtain ⟨b, hb, rfl, _⟩ := hs2 (by omega)
                    exact some_ ho hb hle
                subst h3
                exact ⟨_, w', h1, h2, vrep_int.2 ⟨rfl, by omega⟩⟩
              · simp [Tree.run] at hr
            · simp [Tree.run] at hr
          · simp [Tree.run] at hr
        · simp [Tree.run] at hr
      · simp [Tree.run] at hr
    · simp [Tree.run] at hr
  · simp [Tree.run] at hr

theorem zero1_sound {t : Ty} {v : Value} (h : zero1 t v = true) : ∀ S w, Rep P false t S w t.zero [v] := by
  intro S w
  cases t <;> cases v <;> simp only [zero1, Bool.false_eq_true] at h
  · simp only [Bool.and_eq_true, decide_eq_true_eq] at h
    obtain ⟨rfl, rfl⟩ := h
    simp only [Rep]
    exact ⟨by first | rfl | trivial, min_le_zero _, zero_le_max _⟩
  · simp at h; subst h
    simp only [Rep]; rfl
  · rename_i s
    simp only [decide_eq_true_eq] at h
    simp only [Rep]
    have h0 : s.data.size = 0 := h
    have h1 : s.data.toList.length = 0 := by rw [Array.length_toList]; exact h0
    exact ⟨s, rfl, List.eq_nil_of_length_eq_zero h1, by omega⟩
  · rename_i a n c
    cases a <;> cases n <;> cases c <;> simp only [zero1, Bool.false_eq_true] at h
    simp only [Rep, Ty.zero]
    exact ⟨none, 0, rfl, by simp, by omega, fun hn => absurd rfl hn⟩
  · rename_i a
    cases a <;> simp only [zero1, Bool.false_eq_true] at h
    exact rep_nil.2 rfl

theorem zeroRep_sound : ∀ {t : Ty} {vs r : List Value}, zeroRep t vs = some r → ∃ c, vs = c ++ r ∧ ∀ S w, Rep P false t S w t.zero c := by
  intro t
  have one : ∀ {t : Ty} {vs r : List Value}, (match vs with | v :: r => (if zero1 t v then some r else none) | [] => none) = some r → ∃ c, vs = c ++ r ∧ ∀ S w, Rep P false t S w t.zero c := by
    intro t vs r h
    cases vs with
    | nil => cases h
    | cons v r1 =>
      simp only at h
      split at h
      · rename_i hz
        simp only [Option.some.injEq] at h; subst h
        exact ⟨[v], rfl, zero1_sound hz⟩
      · cases h
  induction t with
  | unit => intro vs r h; simp only [zeroRep, Option.some.injEq] at h; subst h; exact ⟨[], rfl, fun S w => by simp only [Rep]⟩
  | pair a b iha ihb =>
    intro vs r h
    simp only [zeroRep] at h
    split at h
    · rename_i r1 h1
      obtain ⟨c1, rfl, k1⟩ := iha h1
      obtain ⟨c2, rfl, k2⟩ := ihb h
      refine ⟨c1 ++ c2, by simp, fun S w => ?_⟩
      simp only [Rep]
      exact ⟨c1, c2, rfl, (k1 S w).length, (k2 S w).length, k1 S w, k2 S w⟩
    · cases h
  | _ => intro vs r h; exact one (by cases vs <;> exact h)

theorem zeroN_sound {te : Ty} : ∀ {n : Nat} {vs : List Value}, zeroN te n vs = true → ∃ css : List (List Value), vs = css.flatten ∧ css.length = n ∧ ∀ c ∈ css, ∀ S w, Rep P false te S w te.zero c
  | 0, vs, h => ⟨[], by simpa [zeroN] using h, rfl, by simp⟩
  | n + 1, vs, h => by
    simp only [zeroN] at h
    split at h
    · rename_i r hr
      obtain ⟨c, rfl, k⟩ := zeroRep_sound (P := P) hr
      obtain ⟨css, rfl, k1, k2⟩ := zeroN_sound h
      refine ⟨c :: css, by simp, by simp [k1], fun d hd => ?_⟩
      rcases List.mem_cons.1 hd with rfl | hd
      · exact k
      · exact k2 d hd
    · cases h

theorem els_zero {te : Ty} {n : Nat} {css : List (List Value)} (hl : css.length = n) (hz : ∀ c ∈ css, ∀ S w, Rep P false te S w te.zero c) :
    ElsIn P S w te (List.replicate n te.zero) css.flatten ∧ css.flatten.length = n * te.size := by
  have := els_flat (P := P) (S := S) (w := w) (t := te) (xs := List.replicate n te.zero) (css := css) (by simp [hl]) (fun i x hi => by
    rw [List.getElem?_replicate] at hi
    split at hi
    · rename_i hlt
      simp only [Option.some.injEq] at hi; subst hi
      exact ⟨css[i], List.getElem?_eq_getElem (by omega), hz _ (List.getElem_mem _) S w⟩
    · cases hi)
  simpa using this

theorem lrel_retype : ∀ {ls : List Lf} {ts : List Ty} {vs : List Value}, Cells P S μ sto w ls vs → Cells P S μ sto w (retype ls ts) vs
  | [], ts, vs, h => by cases ts <;> exact h
  | l :: ls, [], vs, h => h
  | l :: ls, t :: ts, [], h => h.elim
  | l :: ls, t :: ts, v :: vs, h => by
    refine ⟨⟨h.1.1, ?_⟩, lrel_retype h.2⟩
    split
    · exact h.1.2
    · have h2 := h.1.2
      refine (vrep_one rfl).2 ?_
      obtain rfl : v = .pointer none := h2
      exact rep_nil.2 rfl
    · exact h.1.2

/-- A new variable. -/
theorem RelW.newVar (h : RelW P C st a w μ) {fid : Nat} (hfid : FidOk st.sto fid) {ls : List Lf} {cs : Array Value} {e : TypeId} (hc : Cells P (Sof C μ st.sto w) μ st.sto w ls cs.toList) :
    RelW P C { st with sto := place st.sto fid (.var ls) } a (w.alloc (.cells cs e)) (Eng.upd μ fid (some w.heap.size)) ∧
      LRel P (Sof C (Eng.upd μ fid (some w.heap.size)) (place st.sto fid (.var ls)) (w.alloc (.cells cs e))) (Eng.upd μ fid (some w.heap.size)) (place st.sto fid (.var ls)) (w.alloc (.cells cs e))
        (.ptr fid 0) (.pointer (some ⟨w.heap.size, 0, none⟩)) := by
  obtain ⟨r, hk⟩ := h.fresh (w' := w.alloc (.cells cs e)) (m := some w.heap.size) (ob := .var ls) (kid := none) hfid (fun k hk => by cases hk) (by simp) rfl rfl rfl
    (fun b hb _ => Go.RowKit.Below.heap_alloc _ _ _ hb) (capAt_keep fun b hb => Go.RowKit.Below.heap_alloc _ _ _ hb) (fun b hb => by cases hb; exact ⟨by simp, .inl (Nat.le_refl _)⟩)
    (fun hk => orel_var (upd_same _ _ _) (alloc_new w _) (unfrozen_zero _) (hc.keeps hk))
  refine ⟨r, ?_⟩
  simp only [LRel, place_get hfid, if_true]
  exact ⟨_, upd_same _ _ _, rfl⟩

/-- A new array variable. -/
theorem RelW.newArrVar (h : RelW P C st a w μ) {fid : Nat} (hfid : FidOk st.sto fid) {te : Ty} {xs : List te.El} {cs : Array Value} {e : TypeId} (hx : ElsIn P (Sof C μ st.sto w) w te xs cs.toList)
    (hl : cs.size = xs.length * te.size) (hb : xs.length ≤ 9223372036854775807) :
    RelW P C { st with sto := place st.sto fid (.arr te xs) } a (w.alloc (.cells cs e)) (Eng.upd μ fid (some w.heap.size)) ∧
      LRel P (Sof C (Eng.upd μ fid (some w.heap.size)) (place st.sto fid (.arr te xs)) (w.alloc (.cells cs e))) (Eng.upd μ fid (some w.heap.size)) (place st.sto fid (.arr te xs)) (w.alloc (.cells cs e))
        (.ptr fid 0) (.pointer (some ⟨w.heap.size, 0, none⟩)) := by
  obtain ⟨r, hk⟩ := h.fresh (w' := w.alloc (.cells cs e)) (m := some w.heap.size) (ob := .arr te xs) (kid := none) hfid (fun k hk => by cases hk) (by simp) rfl rfl rfl
    (fun b hb _ => Go.RowKit.Below.heap_alloc _ _ _ hb) (capAt_keep fun b hb => Go.RowKit.Below.heap_alloc _ _ _ hb) (fun b hb => by cases hb; exact ⟨by simp, .inl (Nat.le_refl _)⟩)
    (fun hk => .inr ⟨w.heap.size, cs, e, (0, 0), upd_same _ _ _, alloc_new w _, unfrozen_zero _, by
      have := arrAt_of (R := []) (hx.ext hk.ext) (by simpa using hl) hb
      simpa using this⟩)
  refine ⟨r, ?_⟩
  simp only [LRel, place_get hfid, if_true]
  exact ⟨_, upd_same _ _ _, rfl, hb, cs, e, (0, 0), alloc_new w _, by omega⟩

theorem boxL_sound {fid : Nat} {e : TypeId} {v : Value} {av : AV} {ef : Eff} (h : RelW P C st a w μ) (hfid : FidOk st.sto fid) (hv : ARel P (Sof C μ st.sto w) μ st.sto w av v) (hr : (boxL st.sto fid av).run = some ef) :
    ∃ r w' μ', (Instr.box e v).run P w = .ok r w' ∧ RelW P C { st with sto := ef.sto fid st.sto } a w' μ' ∧ ARel P (Sof C μ' (ef.sto fid st.sto) w') μ' (ef.sto fid st.sto) w' ef.val r := by
  have hrun : (Instr.box e v).run P w = .ok (.pointer (some ⟨w.heap.size, 0, none⟩)) (w.alloc (.cells v.cells e)) := by simp [Instr.box, newVar, newRow]
  unfold boxL at hr
  split at hr
  · rename_i n te xs
    split at hr
    · rename_i hpos
      simp only [Tree.run, Option.some.injEq] at hr; subst hr
      have hc := vrep_cells hv
      simp only [Rep] at hc
      obtain ⟨h1, h2, h3⟩ := hc
      refine ⟨_, _, _, hrun, h.newArrVar (xs := xs) hfid (fun i x hi => ⟨_, h3 i x hi, fun j u hj => ?_⟩) (by simpa [h1] using h2) ?_⟩
      · rw [List.getElem?_take] at hj
        split at hj
        · rw [List.getElem?_drop] at hj; exact hj
        · cases hj
      · omega
    · simp [Tree.run] at hr
  · split at hr
    · rename_i vs hvs
      simp only [Tree.run, Option.some.injEq] at hr; subst hr
      exact ⟨_, _, _, hrun, h.newVar hfid (leavesOf_sound hv hvs)⟩
    · simp [Tree.run] at hr

theorem cells_const : ∀ {vs : List Value}, vs.all Value.single = true → Cells P S μ sto w (vs.map constLf) vs
  | [], _ => trivial
  | v :: vs, h => by
    simp only [List.all_cons, Bool.and_eq_true] at h
    exact ⟨⟨h.1, lrel_const v⟩, cells_const h.2⟩

theorem allocL_sound {fid : Nat} {t : TypeId} {old : Value} {ef : Eff} (h : RelW P C st a w μ) (hfid : FidOk st.sto fid) (hr : (allocL P fid t).run = some ef) :
    ∃ r w' μ', (Instr.alloc t true old).run P w = .ok r w' ∧ RelW P C { st with sto := ef.sto fid st.sto } a w' μ' ∧ ARel P (Sof C μ' (ef.sto fid st.sto) w') μ' (ef.sto fid st.sto) w' ef.val r := by
  have hrun : ∀ {i : TypeInfo} {z : Value}, P.info? t = some i → i.zero = some z → (Instr.alloc t true old).run P w = .ok (.pointer (some ⟨w.heap.size, 0, none⟩)) (w.alloc (.cells z.cells t)) := by
    intro i z hi hz
    simp [Instr.alloc, zeroValue, typeInfo, hi, hz, newVar, newRow]
  unfold allocL at hr
  split at hr
  · rename_i n te _
    split at hr
    · rename_i hpos
      split at hr
      · rename_i i hi
        split at hr
        · rename_i z hz
          split at hr
          · rename_i hzn
            simp only [Tree.run, Option.some.injEq] at hr; subst hr
            obtain ⟨css, k1, k2, k3⟩ := zeroN_sound (P := P) hzn
            obtain ⟨q1, q2⟩ := els_zero (S := Sof C μ st.sto w) (w := w) k2 k3
            rw [← k1] at q1 q2
            exact ⟨_, _, _, hrun hi hz, h.newArrVar (xs := List.replicate n te.zero) hfid q1 (by simpa using q2) (by simp; omega)⟩
          · simp [Tree.run] at hr
        · simp [Tree.run] at hr
      · simp [Tree.run] at hr
    · simp [Tree.run] at hr
  · split at hr
    · rename_i i hi
      split at hr
      · rename_i z hz
        split at hr
        · rename_i hs
          simp only [Tree.run, Option.some.injEq] at hr; subst hr
          exact ⟨_, _, _, hrun hi hz, h.newVar hfid (lrel_retype (cells_const (by simpa using hs)))⟩
        · simp [Tree.run] at hr
      · simp [Tree.run] at hr
    · simp [Tree.run] at hr
end
end Go.Eng
end

/- EngQ -/
section
set_option linter.unusedSimpArgs false
set_option linter.unusedVariables false
namespace Go.Eng
open Tree

def placesOf (P : Program) : List Field → Option (List (Nat × Nat))
  | [] => some []
  | f :: fs => match szOf P f.type, placesOf P fs with | some n, some r => some ((f.offset, n) :: r) | _, _ => none

def fillL (sto : List Ob) (place : Nat → Option (Nat × Nat)) : List Lf → List (Nat × AV) → Option (List Lf)
  | ls, [] => some ls
  | ls, (i, av) :: r => match place i with
    | none => none
    | some (off, size) => match leavesOf sto av with
      | some vs => if vs.length = size ∧ off + vs.length ≤ ls.length then fillL sto place (ls.take off ++ vs ++ ls.drop (off + vs.length)) r else none
      | none => none

def buildL (P : Program) (sto : List Ob) (t : TypeId) (parts : List (Nat × AV)) : Tree AV :=
  match P.underlying t with
  | some (.struct fs) => match placesOf P fs.toList with
    | some pl => match P.info? t with
      | some i => match i.zero with
        | some z => if z.cells.all Value.single then
            (match fillL sto (fun j => pl[j]?) (retype (z.cells.toList.map constLf) (newVarTy P t)) parts with | some ls => leaf (.agg ls) | none => fail) else fail
        | none => fail
      | none => fail
    | none => fail
  | _ => fail

/-- Parts of a row, each at its place, none left out. -/
def rowParts (sto : List Ob) (te : Ty) : Nat → List (Nat × AV) → Option (List te.El)
  | _, [] => some []
  | k, (i, av) :: r => if i = k then (match packAV sto te av, rowParts sto te (k + 1) r with | some x, some xs => some (x :: xs) | _, _ => none) else none

def buildSliceL (P : Program) (sto : List Ob) (fid : Nat) (t : TypeId) (len : Nat) (parts : List (Nat × AV)) : Tree Eff :=
  match P.underlying t with
  | some (.slice e) => match tyAt P e with
    | some te => if rowOk P e te && decide (parts.length = len) && decide (len * te.size ≤ 16777216) then
        (match rowParts (frz sto (parts.flatMap fun p => idsAV p.2)) te 0 parts with
          | some xs => leaf { ice := parts.flatMap fun p => idsAV p.2, fresh := some (.arr te xs), val := .one (.vec fid) }
          | none => fail) else fail
    | none => fail
  | _ => fail

def makeB (i j : Int) : Bool := decide (0 ≤ i) && decide (i ≤ j) && decide (j ≤ 4294967296)

def makeSliceL (P : Program) (fid : Nat) (t : TypeId) (n c : Lf) : Tree Eff :=
  match P.underlying t with
  | some (.slice e) => match tyAt P e with
    | some te => if rowOk P e te && zeroOk P e te then
        match n, c with
        | .val (.int _) i, .val (.int _) j => grd (makeB i j) (leaf { fresh := some (.arr te (List.replicate (Int.toNat i) te.zero)), val := .one (.vec fid) })
        | _, _ => fail
      else fail
    | none => fail
  | _ => fail

section
variable {P : Program} {C : Cx} {st : St} {a : Act} {w w' : World} {μ : Nat → Option Nat} {S : Nat → Prop} {sto : List Ob}

theorem run_places : ∀ {l : List Field} {pl : List (Nat × Nat)}, placesOf P l = some pl → (l.mapM fun f => Prod.mk f.offset <$> sizeOf f.type : Sem (List (Nat × Nat))).run P w = .ok pl w
  | [], pl, h => by simp only [placesOf, Option.some.injEq] at h; subst h; simp
  | f :: fs, pl, h => by
    simp only [placesOf] at h
    split at h
    · rename_i n r hn hr
      simp only [Option.some.injEq] at h; subst h
      simp [run_sizeOf hn, run_places hr]
    · cases h

theorem foldl_splice (vs : List Value) : ∀ (cs : Array Value) (off k : Nat), (vs.zipIdx k).foldl (fun cs p => cs.setIfInBounds (off + p.2) p.1) cs = splice cs (off + k) vs := by
  induction vs with
  | nil => intro cs off k; rfl
  | cons v r ih => intro cs off k; simp only [List.zipIdx_cons, List.foldl_cons, splice]; rw [ih, Nat.add_assoc]

theorem fillL_sound {place : Nat → Option (Nat × Nat)} : ∀ {parts : List (Nat × AV)} {vals : List (Nat × Value)} {ls r : List Lf} {cs : Array Value}, Cells P S μ sto w ls cs.toList →
    vals.length = parts.length → (∀ (i : Nat) (p : Nat × AV), parts[i]? = some p → ∃ v, vals[i]? = some (p.1, v) ∧ ARel P S μ sto w p.2 v) → fillL sto place ls parts = some r →
    ∃ ds, Instr.fill place cs vals = some ds ∧ Cells P S μ sto w r ds.toList
  | [], vals, ls, r, cs, hc, hl, _, h => by
    cases vals with
    | nil => simp only [fillL, Option.some.injEq] at h; subst h; exact ⟨cs, rfl, hc⟩
    | cons _ _ => simp at hl
  | (i, av) :: parts, vals, ls, r, cs, hc, hl, hp, h => by
    cases vals with
    | nil => simp at hl
    | cons p vals =>
      obtain ⟨v, h1, h2⟩ := hp 0 (i, av) rfl
      simp only [List.getElem?_cons_zero, Option.some.injEq] at h1; subst h1
      simp only [fillL] at h
      split at h
      · cases h
      · rename_i off size hpl
        split at h
        · rename_i vs hvs
          split at h
          · rename_i hfit
            have hcv := leavesOf_sound h2 hvs
            have l1 := cells_length hcv
            have l2 := cells_length hc
            simp only [Array.length_toList] at l1 l2
            obtain ⟨ds, k1, k2⟩ := fillL_sound (cs := splice cs off v.cells.toList) (by
              rw [splice_toList _ _ _ (by simp; omega)]
              have := cells_append (cells_append (cells_take hc off) hcv) (cells_drop hc (off + vs.length))
              simpa [l1] using this) (by simpa using hl) (fun j q hq => hp (j + 1) q hq) h
            refine ⟨ds, ?_, k2⟩
            simp only [Instr.fill, hpl]
            have hno : ¬ ((v.cells.size ≠ size || off + v.cells.size > cs.size) = true) := by simp; omega
            rw [if_neg hno]
            have hfo : v.cells.zipIdx.foldl (fun cs (c, j) => cs.setIfInBounds (off + j) c) cs = splice cs off v.cells.toList := by
              rw [← Array.foldl_toList, Array.toList_zipIdx]
              exact foldl_splice v.cells.toList cs off 0
            rw [hfo]; exact k1
          · cases h
        · cases h

theorem buildL_sound {t : TypeId} {parts : List (Nat × AV)} {vals : Array (Nat × Value)} {r : AV} (hl : vals.size = parts.length)
    (hp : ∀ (i : Nat) (p : Nat × AV), parts[i]? = some p → ∃ v, vals[i]? = some (p.1, v) ∧ ARel P S μ sto w p.2 v) (h : (buildL P sto t parts).run = some r) :
    ∃ v, (Instr.build t vals).run P w = .ok v w ∧ ARel P S μ sto w r v := by
  unfold buildL at h
  split at h
  · rename_i fs ht
    split at h
    · rename_i pl hpl
      split at h
      · rename_i i hi
        split at h
        · rename_i z hz
          split at h
          · rename_i hs
            split at h
            · rename_i ls hls
              simp only [Tree.run, Option.some.injEq] at h; subst h
              have hc : Cells P S μ sto w (retype (z.cells.toList.map constLf) (newVarTy P t)) z.cells.toList := lrel_retype (cells_const (by simpa using hs))
              obtain ⟨ds, k1, k2⟩ := fillL_sound (vals := vals.toList) hc (by simpa using hl) (fun i p hi => by simpa using hp i p hi) hls
              refine ⟨.agg ds, ?_, ?_⟩
              · have hm : (fs.mapM fun f => Prod.mk f.offset <$> sizeOf f.type : Sem (Array (Nat × Nat))).run P w = .ok pl.toArray w := by
                  rw [Array.mapM_eq_mapM_toList, Sem.run_map, run_places hpl]; rfl
                have hzv : (zeroValue t).run P w = .ok z w := by simp [zeroValue, typeInfo, hi, hz]
                simp [Instr.build, hzv, run_underlying ht, hm]
                rw [k1]; rfl
              · obtain ⟨q1, q2⟩ := cells_iff.1 k2
                exact ⟨ds, rfl, by simpa using q1, fun i l hi => let ⟨u, e1, e2⟩ := q2 i l hi; ⟨u, by simpa using e1, e2⟩⟩
            · simp [Tree.run] at h
          · simp [Tree.run] at h
        · simp [Tree.run] at h
      · simp [Tree.run] at h
    · simp [Tree.run] at h
  · simp [Tree.run] at h

theorem rowParts_sound {te : Ty} (hob : ∀ id o, sto[id]? = some o → ORel P S μ sto w id o) : ∀ {k : Nat} {parts : List (Nat × AV)} {vals : List (Nat × Value)} {xs : List te.El}, vals.length = parts.length →
    (∀ (i : Nat) (p : Nat × AV), parts[i]? = some p → ∃ v, vals[i]? = some (p.1, v) ∧ ARel P S μ sto w p.2 v) → rowParts sto te k parts = some xs →
    xs.length = parts.length ∧ ∀ (i : Nat) (x : te.El), xs[i]? = some x → ∃ v, vals[i]? = some (k + i, v) ∧ Rep P false te S w x v.cells.toList
  | k, [], vals, xs, hl, _, h => by simp only [rowParts, Option.some.injEq] at h; subst h; exact ⟨rfl, fun i x hi => by simp at hi⟩
  | k, (i, av) :: parts, vals, xs, hl, hp, h => by
    cases vals with
    | nil => simp at hl
    | cons p vals =>
      simp only [rowParts] at h
      split at h
      · rename_i hik
        split at h
        · rename_i y ys hy hys
          simp only [Option.some.injEq] at h; subst h
          obtain ⟨v, h1, h2⟩ := hp 0 (i, av) rfl
          simp only [List.getElem?_cons_zero, Option.some.injEq] at h1; subst h1
          obtain ⟨k1, k2⟩ := rowParts_sound hob (vals := vals) (by simpa using hl) (fun j q hq => hp (j + 1) q hq) hys
          refine ⟨by simp [k1], fun j x hj => ?_⟩
          cases j with
          | zero => simp at hj; subst hj; exact ⟨v, by simp [hik], vrep_cells (packAV_sound hob h2 hy)⟩
          | succ j => obtain ⟨v', e1, e2⟩ := k2 j x hj; exact ⟨v', by simp [e1]; omega, e2⟩
        · cases h
      · cases h

theorem fill_rows {sz : Nat} : ∀ {vals : List (Nat × Value)} {k : Nat} {cs : Array Value}, (∀ (i : Nat) (p : Nat × Value), vals[i]? = some p → p.1 = k + i ∧ p.2.cells.size = sz) → (k + vals.length) * sz ≤ cs.size →
    ∃ ds, Instr.fill (fun i => some (i * sz, sz)) cs vals = some ds ∧ ds.toList = cs.toList.take (k * sz) ++ (vals.map fun p => p.2.cells.toList).flatten ++ cs.toList.drop ((k + vals.length) * sz)
  | [], k, cs, _, _ => ⟨cs, rfl, by simp⟩
  | (i, v) :: vals, k, cs, hv, hle => by
    obtain ⟨h1, h2⟩ := hv 0 (i, v) rfl
    simp only [Nat.add_zero] at h1
    change v.cells.size = sz at h2
    subst h1
    simp only [List.length_cons] at hle
    have hle' : (i + 1) * sz + vals.length * sz ≤ cs.size := by rw [← Nat.add_mul]; rw [show i + 1 + vals.length = i + (vals.length + 1) by omega]; exact hle
    rw [Nat.add_mul, Nat.one_mul] at hle'
    have hno : ¬ ((v.cells.size ≠ sz || i * sz + v.cells.size > cs.size) = true) := by simp; omega
    have hfo : v.cells.zipIdx.foldl (fun cs (c, j) => cs.setIfInBounds (i * sz + j) c) cs = splice cs (i * sz) v.cells.toList := by
      rw [← Array.foldl_toList, Array.toList_zipIdx]
      exact foldl_splice v.cells.toList cs (i * sz) 0
    obtain ⟨ds, k1, k2⟩ := fill_rows (sz := sz) (vals := vals) (k := i + 1) (cs := splice cs (i * sz) v.cells.toList) (fun j p hj => by
      have := hv (j + 1) p hj
      exact ⟨by omega, this.2⟩) (by rw [splice_size]; rw [show i + 1 + vals.length = i + (vals.length + 1) by omega]; exact hle)
    refine ⟨ds, ?_, ?_⟩
    · simp only [Instr.fill]
      rw [if_neg hno, hfo]; exact k1
    · rw [k2, splice_toList _ _ _ (by simp; omega)]
      have hvl : v.cells.toList.length = sz := by simpa using h2
      have l1 : (cs.toList.take (i * sz)).length = i * sz := by simp; omega
      have e1 : (cs.toList.take (i * sz) ++ v.cells.toList ++ cs.toList.drop (i * sz + v.cells.toList.length)).take ((i + 1) * sz) = cs.toList.take (i * sz) ++ v.cells.toList := by
        rw [Nat.add_mul, Nat.one_mul, List.take_append_of_le_length (by rw [List.length_append, l1, hvl]; omega), List.take_of_length_le (by rw [List.length_append, l1, hvl]; omega)]
      have e2 : (cs.toList.take (i * sz) ++ v.cells.toList ++ cs.toList.drop (i * sz + v.cells.toList.length)).drop ((i + 1 + vals.length) * sz) = cs.toList.drop ((i + (vals.length + 1)) * sz) := by
        have e3 : (i + 1 + vals.length) * sz = i * sz + sz + vals.length * sz := by rw [Nat.add_mul, Nat.add_mul, Nat.one_mul]
        have e4 : (i + (vals.length + 1)) * sz = i * sz + sz + vals.length * sz := by rw [← e3]; congr 1; omega
        rw [e3, e4, List.drop_append, List.drop_of_length_le (by rw [List.length_append, l1, hvl]; omega), List.nil_append, List.drop_drop, List.length_append, l1, hvl]
        congr 1; omega
      rw [e1, e2]
      simp

theorem frz_length (ids : List Nat) : ∀ (sto : List Ob), (frz sto ids).length = sto.length := by
  induction ids with
  | nil => intro sto; rfl
  | cons i r ih =>
    intro sto
    rw [frz, ih]
    unfold frz1
    split <;> simp
theorem frz_free {fid : Nat} (ids : List Nat) : ∀ {sto : List Ob}, sto[fid]? = some .free → (frz sto ids)[fid]? = some .free := by
  induction ids with
  | nil => intro sto h; exact h
  | cons i r ih =>
    intro sto h
    refine ih ?_
    unfold frz1
    split
    · rename_i t xs ho
      rw [List.getElem?_set_ne (fun e => by subst e; rw [ho] at h; cases h)]
      exact h
    · exact h
theorem fidOk_frz {sto : List Ob} {fid : Nat} (h : FidOk sto fid) (ids : List Nat) : FidOk (frz sto ids) fid := by
  rcases h with h | h
  · exact .inl (by rw [frz_length]; exact h)
  · exact .inr (frz_free ids h)

theorem buildSliceL_sound {fid len : Nat} {t : TypeId} {parts : List (Nat × AV)} {vals : Array (Nat × Value)} {ef : Eff} (h : RelW P C st a w μ) (hfid : FidOk st.sto fid) (hl : vals.size = parts.length)
    (hp : ∀ (i : Nat) (p : Nat × AV), parts[i]? = some p → ∃ v, vals[i]? = some (p.1, v) ∧ ARel P (Sof C μ st.sto w) μ st.sto w p.2 v) (hr : (buildSliceL P st.sto fid t len parts).run = some ef) :
    ∃ r w' μ', (Instr.buildSlice t len vals).run P w = .ok r w' ∧ RelW P C { st with sto := ef.sto fid st.sto } a w' μ' ∧ ARel P (Sof C μ' (ef.sto fid st.sto) w') μ' (ef.sto fid st.sto) w' ef.val r := by
  unfold buildSliceL at hr
  split at hr
  · rename_i e ht
    split at hr
    · rename_i te _
      split at hr
      · rename_i hok
        simp only [Bool.and_eq_true, decide_eq_true_eq] at hok
        obtain ⟨⟨hrow, hpl⟩, hbig⟩ := hok
        obtain ⟨i, z, hi, hsz, hpos, hby, hz, hzs⟩ := rowOk_spec hrow
        have hso : szOf P e = some te.size := by simp [szOf, hi, hsz]
        split at hr
        · rename_i xs hxs
          simp only [Tree.run, Option.some.injEq] at hr; subst hr
          have hf := h.frz (parts.flatMap fun p => idsAV p.2)
          have hk := frz_keeps (parts.flatMap fun p => idsAV p.2) h
          obtain ⟨k1, k2⟩ := rowParts_sound (vals := vals.toList) hf.obj (by simpa using hl) (fun i p hi => by
            obtain ⟨v, q1, q2⟩ := hp i p hi
            exact ⟨v, by simpa using q1, q2.keeps hk⟩) hxs
          have hlen : vals.toList.length = len := by simp; omega
          have hsize : ∀ (j : Nat) (p : Nat × Value), vals.toList[j]? = some p → p.1 = 0 + j ∧ p.2.cells.size = te.size := by
            intro j p hj
            have hlt := lt_of_getElem? hj
            obtain ⟨v, q1, q2⟩ := k2 j _ (getD_some te.zero (by omega))
            rw [hj] at q1; cases q1
            exact ⟨rfl, by simpa using q2.length⟩
          obtain ⟨ds, f1, f2⟩ := fill_rows (sz := te.size) (vals := vals.toList) (k := 0)
            (cs := (Array.range (len * te.size)).map fun i => (if len * te.size = 0 then #[] else z.cells)[i % (if len * te.size = 0 then #[] else z.cells).size]!) hsize (by simp [hlen])
          obtain ⟨g1, g2⟩ := els_flat (P := P) (S := Sof C μ (frz st.sto (parts.flatMap fun p => idsAV p.2)) w) (w := w) (t := te) (xs := xs) (css := vals.toList.map fun p => p.2.cells.toList) (by simp; omega) (fun j x hj => by
            obtain ⟨v, q1, q2⟩ := k2 j x hj
            exact ⟨v.cells.toList, by simp [List.getElem?_map, q1], q2⟩)
          have hds : ds = ((vals.toList.map fun p => p.2.cells.toList).flatten).toArray := by
            apply Array.ext'
            rw [f2, Nat.zero_mul, List.take_zero, List.nil_append, List.drop_of_length_le (by simp [hlen]), List.append_nil]
          have hrun : (Instr.buildSlice t len vals).run P w = .ok (.slice (some ⟨w.heap.size, 0, none⟩) len len) (w.alloc (.cells ds e)) := by
            have hbig' : ¬ (16777216 < len * te.size) := by omega
            by_cases h0 : len * te.size = 0
            · simp only [h0, if_true] at f1
              simp only [Instr.buildSlice, run_underlying ht, run_sizeOf hso, Sem.run_bind, Result.andThen_ok, Sem.run_ite, hbig', h0, if_true, if_false, gt_iff_lt, Nat.reducePow, Sem.run_pure, f1, newRow, run_newObj]
              rfl
            · have hzv : (zeroValue e).run P w = .ok z w := by simp [zeroValue, typeInfo, hi, hz]
              simp only [h0, if_false] at f1
              simp only [Instr.buildSlice, run_underlying ht, run_sizeOf hso, Sem.run_bind, Result.andThen_ok, Sem.run_ite, hbig', h0, if_true, if_false, gt_iff_lt, Nat.reducePow, Sem.run_pure, hzv, f1, newRow, run_newObj]
              rfl
          obtain ⟨r, hl'⟩ := hf.newArr (st := { st with sto := frz st.sto (parts.flatMap fun p => idsAV p.2) }) (e := e) (kid := none) (fid := fid) (R := #[]) (c := len) (fidOk_frz hfid _) (fun k hk => by cases hk) g1 g2 (by omega) (by
            have := Nat.le_mul_of_pos_right len hpos
            omega) (by simp [k1, hpl])
          rw [hds] at hrun
          have e1 : xs.length = len := by omega
          rw [e1] at hl'
          rw [Array.append_empty] at r hl'
          exact ⟨_, _, _, hrun, r, hl'⟩
        · simp [Tree.run] at hr
      · simp [Tree.run] at hr
    · simp [Tree.run] at hr
  · simp [Tree.run] at hr
end
end Go.Eng
end
