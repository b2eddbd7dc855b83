/- append(row, source...) at a step of a region that draws its order. -/
import Derived.Test.YtbeikkkmobbnkaaGreatModMoreM17
import Derived.Deep.RegionHeld3
namespace Go.Proofs.YtbeikkkmobbnkaaGreat
open Go.RowKit
section
variable {w w' : World} {size m : Nat} {A : Option Addr} {xs : List Value} {P : Program}
theorem step_append_src {ops : Array Oper} {o : Oper} {a : Act} {K : Act → World → Prop} {Q : Exit → Act → World → Prop} {E : Prop} (hgd : o.guard = none) (s x : Operand) (t : TypeId)
    (ho : o.op = .call { callee := .builtin .append, args := #[s, x], argTypes := #[t, t] })
    (base : Nat) (e : TypeId) (i : TypeInfo) (z : Value) (bytes : Nat) (ht : P.underlying t = some (.slice e)) (hi : P.info? e = some i) (hz : i.zero = some z)
    (hsize : i.size = size) (hby : i.bytes = bytes) (hzs : z.cells.size = size) (hsz : 0 < size) (v : Value) (n : Nat) (ys : List Value) (hs : a.eval s = v) (hown : w.ownsRow base e size v n ys)
    (c : Nat) (hx : a.eval x = .slice A m c) (hr : Rd w size A m xs) (h1 : ∀ u ∈ xs, u.oneCell' = true) (h63 : n + m ≤ maxLen) (hbytes : (n + m) * bytes ≤ 140737488355328) (hbase : base ≤ w.heap.size)
    (h : ∀ v' w', w'.ownsRow base e size v' (n + m) (ys ++ xs) → w.grownBy w' v.ownBlock → (v'.ownBlock = v.ownBlock ∨ v'.ownBlock = some w.heap.size) → K (a.put o.dst v') w') :
    if Region.wanted o (yielded ops a.tmps) = true then Oper.wp P o a w K Q else E := by
  have hw : Region.wanted o (yielded ops a.tmps) = true := by simp [Region.wanted, hgd]
  rw [if_pos hw]
  obtain ⟨v', w', hr, h2, h3, h5⟩ := run_append_src (P := P) base t o.type e i z bytes ht hi hz hsize hby hzs hsz v n ys hown c hr h1 h63 hbytes hbase
  unfold Oper.wp execOp
  simp only [ho, resolve, invoke, builtin, Sem.run_bind, Sem.run_pure, Result.andThen_ok, List.map_toArray, List.map_cons, List.map_nil, hs, hx, hr]
  exact h v' w' h2 h3 h5
theorem own_none {w : World} {base size : Nat} {t : TypeId} (h : base ≤ w.heap.size) : (w.alloc (.cells #[] t)).ownsRow base t size (.slice (some ⟨w.heap.size, 0, none⟩) 0 0) 0 [] :=
  ⟨by simp, .inr ⟨_, _, _, rfl, h, heap_new _ _, Nat.le_refl _, by unfold maxLen; omega, by simp, by simp⟩⟩
theorem rd_obj {w : World} {g : Nat} {cs : List Value} {t : TypeId} {size : Nat} (h : w.heap[g]? = some (.cells cs.toArray t)) (hs : cs.length = size) : Rd w size (some ⟨g, 0, none⟩) 1 cs :=
  ⟨by omega, fun _ => ⟨_, rfl, fun j u hu => by
    have : (⟨g, 0, none⟩ : Addr).add j = ⟨g, j, none⟩ := by unfold Addr.add; split <;> simp_all
    rw [this]
    exact cell_obj h j u (by simpa using hu)⟩⟩
end
end Go.Proofs.YtbeikkkmobbnkaaGreat
