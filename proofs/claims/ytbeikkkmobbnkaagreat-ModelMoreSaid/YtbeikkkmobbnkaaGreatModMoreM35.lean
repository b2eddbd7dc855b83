/- A variable that a loop appends to: what the append leaves. -/
import Derived.Test.YtbeikkkmobbnkaaGreatModMoreM1
import Derived.Maps.AppendAt
namespace Go.Proofs.YtbeikkkmobbnkaaGreat
open Go.RowKit
/-- The variable in block B holds a slice that owns xs; its row, if it has one, was made by the rounds. -/
structure Col (W : World) (base B : Nat) (t e : TypeId) (size : Nat) (C : Nat → Prop) (v : Value) (n : Nat) (xs : List Value) : Prop where
  box : Boxed W B t v
  row : W.ownsRow base e size v n xs
  mine : ∀ b, v.ownBlock = some b → C b
section
variable {W w1 W' : World} {base B : Nat} {t e : TypeId} {size : Nat} {C : Nat → Prop} {v v' : Value} {n m : Nat} {xs ys : List Value} {tmp : Obj}
theorem Col.fa {D : Nat} (h : Col W base B t e size C v n xs) (hf : Fa D W W') : Col W' base B t e size C v n xs := ⟨Fa.box hf h.box, Fa.row hf h.row, h.mine⟩
theorem Col.cc {W0 : World} {W1 : World} (h : Col W base B t e size C v n xs) : Col W base B t e size (CC C W0 W1) v n xs := ⟨h.box, h.row, fun b hb => .inl (h.mine b hb)⟩
theorem Col.appended {S : Nat → Prop} {W0 : World} (h : Col W base B t e size C v n xs) (hte : t ≠ e) (hS : S B) (h0 : W0.heap.size ≤ W.heap.size)
    (hown' : w1.ownsRow base e size v' m ys) (hgrow : (W.alloc tmp).grownBy w1 v.ownBlock) (hat : v'.ownBlock = v.ownBlock ∨ v'.ownBlock = some (W.alloc tmp).heap.size) :
    Boxed w1 B t v ∧ Col (w1.setCell ⟨B, 0, none⟩ v') base B t e size (CC C W0 (w1.setCell ⟨B, 0, none⟩ v')) v' m ys ∧ Fr (fun b => S b ∨ CC C W0 W b) W (w1.setCell ⟨B, 0, none⟩ v') := by
  have hv1 : Boxed w1 B t v := (h.box.alloc tmp).kept hgrow (h.box.not_row hte h.row)
  refine ⟨hv1, ⟨hv1.set v', hown'.kept (grownBy_setCell' w1 B v') (.inr (hv1.not_row hte hown').symm), fun b hb => ?_⟩, ?_⟩
  · rcases hat with e1 | e1
    · rw [e1] at hb
      exact .inl (h.mine b hb)
    · rw [e1] at hb
      cases hb
      have h3 := (hown'.lt _ e1).2
      have h4 : (w1.setCell ⟨B, 0, none⟩ v').heap.size = w1.heap.size := by simp [World.setCell]
      have h5 : (W.alloc tmp).heap.size = W.heap.size + 1 := by simp
      refine .inr ⟨by omega, by omega⟩
  · refine Fr.setCell (p := ⟨B, 0, none⟩) ?_ (fun _ => .inl hS) _
    refine ((Fr.refl _ W).alloc tmp).trans (Fr.grown hgrow (fun r hr _ => .inr (.inl (h.mine r hr))))
end
end Go.Proofs.YtbeikkkmobbnkaaGreat
