/- The frame of a step: which old blocks it may have turned. My own relation for all contracts. -/
import Derived.Test.YtakjiicnbocjeaaMaps
import Derived.RangeFuncNested
namespace Go.Proofs.Ytakjiicnbocjeaa
open Go.RowKit
/-- w' is w, but for the old blocks of S, and for new blocks. -/
structure Fr (S : Nat → Prop) (w w' : World) : Prop where
  os : w'.os = w.os
  tape : w'.tape = w.tape
  output : w'.output = w.output
  size : w.heap.size ≤ w'.heap.size
  same : ∀ b, b < w.heap.size → ¬ S b → w'.heap[b]? = w.heap[b]?
section
variable {S S' : Nat → Prop} {w w' w'' : World}
theorem Fr.refl (S : Nat → Prop) (w : World) : Fr S w w := ⟨rfl, rfl, rfl, Nat.le_refl _, fun _ _ _ => rfl⟩
theorem Fr.trans (h : Fr S w w') (h' : Fr S w' w'') : Fr S w w'' :=
  ⟨h'.os.trans h.os, h'.tape.trans h.tape, h'.output.trans h.output, Nat.le_trans h.size h'.size, fun b hb hs => (h'.same b (Nat.lt_of_lt_of_le hb h.size) hs).trans (h.same b hb hs)⟩
theorem Fr.mono (h : Fr S w w') (hS : ∀ b, b < w.heap.size → S b → S' b) : Fr S' w w' := ⟨h.os, h.tape, h.output, h.size, fun b hb hs => h.same b hb (fun e => hs (hS b hb e))⟩
/-- As 'trans', where the second step may turn new blocks too. -/
theorem Fr.trans' (h : Fr S w w') (h' : Fr S' w' w'') (hS : ∀ b, b < w.heap.size → S' b → S b) : Fr S w w'' :=
  ⟨h'.os.trans h.os, h'.tape.trans h.tape, h'.output.trans h.output, Nat.le_trans h.size h'.size, fun b hb hs => (h'.same b (Nat.lt_of_lt_of_le hb h.size) (fun e => hs (hS b hb e))).trans (h.same b hb hs)⟩
theorem Fr.drew (h : Fr S w w') : Fr S w w'.drew := ⟨h.os, h.tape, h.output, h.size, h.same⟩
theorem Fr.drewN (h : Fr S w w') (n : Nat) : Fr S w (w'.drewN n) := ⟨h.os, h.tape, h.output, h.size, h.same⟩
theorem Fr.grown {row : Option Nat} (h : w.grownBy w' row) (hr : ∀ r, row = some r → r < w.heap.size → S r) : Fr S w w' :=
  ⟨h.os, h.tape, h.output, h.size, fun b hb hs => h.block b hb (fun e => hs (hr b e.symm hb))⟩
theorem Fr.below (h : Below w.heap.size w w') : Fr S w w' := ⟨h.os, h.tape, h.output, h.size, fun b hb _ => h.block b hb⟩
theorem Fr.toBelow {B : Nat} (h : Fr S w w') (hS : ∀ b, S b → B ≤ b) (hB : B ≤ w.heap.size) : Below B w w' :=
  ⟨h.os, h.tape, h.output, h.size, fun b hb => h.same b (by omega) (fun e => by have := hS b e; omega)⟩
theorem Fr.alloc (h : Fr S w w') (o : Obj) : Fr S w (w'.alloc o) := h.trans (Fr.grown (row := none) (World.grownBy_alloc w' o none) (fun _ e => by cases e))
theorem Fr.setCell (h : Fr S w w') {p : Addr} (hp : p.block < w.heap.size → S p.block) (u : Value) : Fr S w (w'.setCell p u) :=
  ⟨h.os, h.tape, h.output, by simpa [World.setCell] using h.size, fun b hb hs => (Below.heap_setCell w' p u b (fun e => hs (by rw [e]; exact hp (by rw [← e]; exact hb)))).trans (h.same b hb hs)⟩
theorem Fr.putObj (h : Fr S w w') {l : Nat} (hl : l < w.heap.size → S l) (o : Obj) : Fr S w (w'.putObj l o) :=
  ⟨h.os, h.tape, h.output, by simpa using h.size, fun b hb hs => (World.putObj_heap_other (fun e => hs (by rw [e]; exact hl (by rw [← e]; exact hb)))).trans (h.same b hb hs)⟩
theorem Fr.turned {b : Nat} (h : w.mapTurned w' b) (hb : S b) : Fr S w w' := Fr.grown h.grown (fun r e _ => by cases e; exact hb)
theorem Fr.at_ {b : Nat} {o : Obj} (h : Fr S w w') (hb : w.heap[b]? = some o) (hs : ¬ S b) : w'.heap[b]? = some o := (h.same b (Array.getElem?_eq_some_iff.1 hb).1 hs).trans hb
theorem Fr.cell {p : Addr} {v : Value} (h : Fr S w w') (hc : w.cell? p = some v) (hs : ¬ S p.block) : w'.cell? p = some v :=
  (World.cell?_of_block (h.same p.block (World.block_lt_of_cell? w _ hc) hs)).trans hc
theorem Fr.box {b : Nat} {t : TypeId} {v : Value} (h : Fr S w w') (hb : Boxed w b t v) (hs : ¬ S b) : Boxed w' b t v := h.at_ hb hs
theorem Fr.mp {κ ν : Type} {k : TypeId} {T : KT κ} {enc : ν → Value} {b : Nat} {l : List (κ × ν)} {P : Program} (h : Fr S w w') (hm : Mp P w k T enc b l) (hs : ¬ S b) : Mp P w' k T enc b l :=
  hm.at_ (h.same b hm.lt hs)
theorem Fr.row {base : Nat} {e : TypeId} {size n : Nat} {v : Value} {xs : List Value} (h : Fr S w w') (ho : w.ownsRow base e size v n xs) (hs : ∀ b, v.ownBlock = some b → ¬ S b) : w'.ownsRow base e size v n xs := by
  refine ⟨ho.1, ?_⟩
  rcases ho.2 with h0 | ⟨g, cap, cur, rfl, hbase, hb, r⟩
  · exact .inl h0
  · exact .inr ⟨g, cap, cur, rfl, hbase, h.at_ hb (hs g rfl), r⟩
/-- A block that is none of the program's own data: a loop's record, an iterator over a map or a string .. -/
def auxObj : Obj → Bool
  | .cells .. | .map .. | .pending .. | .view .. | .number .. | .chan .. | .coro .. | .finalizers .. => false
  | _ => true
def AuxAt (B : Nat) (w : World) (b : Nat) : Prop := B ≤ b ∧ ∃ o, w.heap[b]? = some o ∧ auxObj o = true
/-- Behind it cells and maps are as they were, and what lay below B. -/
abbrev Fa (B : Nat) (w w' : World) : Prop := Fr (AuxAt B w) w w'
theorem Fa.cells {B b : Nat} {cs : Array Value} {t : TypeId} {fr : Nat × Nat} (h : Fa B w w') (hb : w.heap[b]? = some (.cells cs t fr)) : w'.heap[b]? = some (.cells cs t fr) :=
  h.at_ hb (fun ⟨_, o, ho, hx⟩ => by rw [hb] at ho; cases ho; cases hx)
theorem Fa.cell {B : Nat} {p : Addr} {v : Value} (h : Fa B w w') (hc : w.cell? p = some v) : w'.cell? p = some v := by
  refine Fr.cell h hc (fun ⟨_, o, ho, hx⟩ => ?_)
  unfold World.cell? at hc
  rw [ho] at hc
  cases o <;> simp at hc
  cases hx
theorem Fa.box {B b : Nat} {t : TypeId} {v : Value} (h : Fa B w w') (hb : Boxed w b t v) : Boxed w' b t v := Fa.cells h hb
theorem Fa.mp {κ ν : Type} {k : TypeId} {T : KT κ} {enc : ν → Value} {B b : Nat} {l : List (κ × ν)} {P : Program} (h : Fa B w w') (hm : Mp P w k T enc b l) : Mp P w' k T enc b l := by
  obtain ⟨n, es, clock, hb, r⟩ := hm
  exact ⟨n, es, clock, h.at_ hb (fun ⟨_, o, ho, hx⟩ => by rw [hb] at ho; cases ho; cases hx), r⟩
theorem Fa.row {base B : Nat} {e : TypeId} {size n : Nat} {v : Value} {xs : List Value} (h : Fa B w w') (ho : w.ownsRow base e size v n xs) : w'.ownsRow base e size v n xs := by
  refine ⟨ho.1, ?_⟩
  rcases ho.2 with h0 | ⟨g, cap, cur, rfl, hbase, hb, r⟩
  · exact .inl h0
  · exact .inr ⟨g, cap, cur, rfl, hbase, Fa.cells h hb, r⟩
theorem Fa.old {B : Nat} (h : Fa B w' w'') (h0 : Fr S w w') (hB : w.heap.size ≤ B) : Fr S w w'' := h0.trans' h (fun b hb hx => by have := hx.1; omega)
end
end Go.Proofs.Ytakjiicnbocjeaa
