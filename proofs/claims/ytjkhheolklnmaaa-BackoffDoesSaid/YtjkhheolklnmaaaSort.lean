/- slices.SortFunc on a row of the call's own, under a comparison that may lay blocks: what the row owns behind it. -/
import Derived.Test.YtjkhheolklnmaaaKitA
import Derived.Shelf.SlSortCmp.NoneTotal
namespace Go.Proofs.Ytjkhheolklnmaaa
open Go.RowKit Go.Shelf Go.Lib Go.Sort
section
variable {α : Type} [Inhabited α] {enc : α → Value}
theorem grownBy_sortWorld (w : World) (g m : Nat) (d : Array α) (os : Array Obj) : w.grownBy (sortWorld enc w g 0 m d os) (some g) := by
  unfold sortWorld
  refine ⟨rfl, rfl, rfl, by simp, fun k hk hne => ?_⟩
  have hgk : g ≠ k := fun e => hne (by rw [e])
  rw [heap_grow_old _ _ (by simpa using hk)]
  simp [putRow, mapBlock, Sort.ahead, Array.getElem?_modify, hgk]
theorem heap_sortWorld {w : World} {g m : Nat} {d : Array α} {os : Array Obj} {cur : Array Value} {e : TypeId} {fr : Nat × Nat} (hb : w.heap[g]? = some (.cells cur e fr)) :
    (sortWorld enc w g 0 m d os).heap[g]? = some (.cells (putCells enc 0 d cur) e fr) := by
  unfold sortWorld
  have hg : g < w.heap.size := (Array.getElem?_eq_some_iff.1 hb).1
  rw [heap_grow_old _ _ (by simpa using hg)]
  simp [putRow, mapBlock, Sort.ahead, Array.getElem?_modify, hb, onCells]
theorem take_putCells (cur : Array Value) (ts : List α) (h : ts.length ≤ cur.size) : (putCells enc 0 ts.toArray cur).toList.take ts.length = ts.map enc := by
  apply List.ext_getElem?
  intro j
  by_cases hj : j < ts.length
  · rw [List.getElem?_take_of_lt hj, Array.getElem?_toList]
    simp [putCells, hj, show j < cur.size by omega]
  · rw [List.getElem?_take_eq_none (by omega), List.getElem?_eq_none (by simp; omega)]
theorem holds_own {w : World} {g : Nat} {cur : Array Value} {e : TypeId} {xs : List α} (hb : w.heap[g]? = some (.cells cur e (0, 0))) (ht : cur.toList.take xs.length = xs.map enc) : Holds enc w g 0 xs.toArray := by
  intro j hj
  have hj' : j < xs.length := by simpa using hj
  refine ⟨?_, by simp [World.frozen?, hb]⟩
  have h1 : (cur.toList.take xs.length)[j]? = (xs.map enc)[j]? := by rw [ht]
  rw [List.getElem?_take_of_lt hj'] at h1
  simp only [World.cell?, hb, Nat.zero_add]
  simp only [Option.isSome_none, Bool.false_eq_true, if_false]
  rw [← Array.getElem?_toList, h1]
  simp [hj']
theorem sortRow {P : Program} {ρ : Ren} (L : SlLaysF.n6 P ρ) (h1 : OneCell enc) (cf : α → α → Int) (hO : SWO (ltOf cf)) (hT : ∀ x y, (ltOf cf) x y = false → (ltOf cf) y x = false → x = y)
    (g : Nat) (cb : Array Value) (eg : ∀ args w, (callFunc g args).run P w = .ok (.enter g args) w) (w : World) (base : Nat) (T : TypeId) (v : Value) (xs : List α)
    (hown : w.ownsRow base T 1 v xs.length (xs.map enc)) (hsz : xs.length < 4611686018427387904)
    (hcmp : ∀ W, w.grownBy W v.ownBlock → ∀ x y, Calls P g (#[enc x, enc y] ++ cb) W fun e w' => e = .returned (.int .i64 (cf x y)) ∧ ∃ q os, w' = grow (W.drewN q) os) :
    Calls P (ρ.f 6) #[v, .func (.func g) #[] cb] w fun e w' => e = .returned (.tuple #[]) ∧ w'.ownsRow base T 1 v xs.length ((xs.mergeSort fun x y => !(ltOf cf) y x).map enc) ∧ w.grownBy w' v.ownBlock := by
  rcases hown.2 with ⟨rfl, h0⟩ | ⟨b, cap, cur, rfl, hbase, hb, hn, hcap, hcur, htake⟩
  · have hx : xs = [] := by simpa using h0
    subst hx
    exact (AnyF.slices_SortFunc_none (P := P) (ρ := ρ) { L with } none 0 _ w).mono fun _ _ ⟨he, hw⟩ => ⟨he, by rw [hw]; simpa using hown, by rw [hw]; exact World.grownBy.refl _ _⟩
  · have hblk : b < w.heap.size := (Array.getElem?_eq_some_iff.1 hb).1
    rw [Nat.mul_one] at htake
    have hS := Any.slices_SortFunc_total L enc h1 cf hO g cb b 0 cap xs.toArray w eg
      (fun m os dk _ x y => hcmp _ (grownBy_sortWorld w b m dk os) x y) (holds_own hb htake) hblk (by simpa using hsz) hT
    have e1 : xs.toArray.size = xs.length := by simp
    rw [e1] at hS
    refine hS.mono fun e w' ⟨he, n, os, hw⟩ => ⟨he, ?_, by rw [hw]; exact grownBy_sortWorld _ _ _ _ _⟩
    have e2 : xs.toArray.toList = xs := by simp
    rw [e2] at hw
    rw [hw]
    have hl : (xs.mergeSort fun x y => !(ltOf cf) y x).length = xs.length := List.length_mergeSort _
    refine ⟨by simp [hl], .inr ⟨b, cap, _, rfl, hbase, heap_sortWorld hb, hn, hcap, by simp [putCells, hcur], ?_⟩⟩
    rw [Nat.mul_one, ← hl]
    exact take_putCells cur _ (by omega)
end
end Go.Proofs.Ytjkhheolklnmaaa
