/- Arguments: strings, slices of items, opened. -/
import Derived.Test.YtlniekobijcanaaGreatBinsRoutesM2
namespace Go.Proofs.YtlniekobijcanaaGreat
open Go.ChangeShapes Go.WideShapes Go.RowKit Go.Maps
section
variable {H : Type} {enc : TypeId × Value → H} {w : World} {base : Nat} {spare : Nat → Bool} {held : Bool}
theorem leaf_str {P : Program} {t : TypeId} {n : Nat} {v : Value} {y : DataW H × List MemPlace} (ht : P.underlying t = some .string) (h : DataW.trod enc P w base spare held n t [v] = some y) : ∃ s : Str, v = vS s ∧ okS s := by
  obtain ⟨s, e, _, hs⟩ := DataW.trod_string ht h
  injection e with e _
  refine ⟨s.data.toList, e, ?_⟩
  unfold okS
  exact hs
set_option maxRecDepth 100000 in
theorem leaf_items {n : Nat} {v : Value} {y : DataW H × List MemPlace} (h : DataW.trod enc Tryz.prog w base spare held n 65 [v] = some y) : ∃ L, Il w v L := by
  obtain ⟨len, hmax, hs⟩ := leaf_slice (d := 1) Tryz.underlying65 (by kernel_rfl) (by kernel_rfl) h
  have hmax : len ≤ 9223372036854775807 := hmax
  rcases hs with ⟨rfl, rfl⟩ | ⟨a, cap, rfl, hl, hb, hi⟩
  · exact ⟨[], by simp, none, 0, rfl, fun i p hp => by simp at hp⟩
  · have key : ∀ i, i < len → ∃ p : Str × Int, okS p.1 ∧ okI p.2 ∧ w.cell? (a.add (i * 2)) = some (vS p.1) ∧ w.cell? ⟨(a.add (i * 2)).block, (a.add (i * 2)).off + 1, none⟩ = some (.int .i64 p.2) := fun i hil => by
      obtain ⟨u, m, y, hc, ht⟩ := hi i hil 0 9 (by kernel_rfl)
      obtain ⟨u', m', y', hc', ht'⟩ := hi i hil 1 3 (by kernel_rfl)
      obtain ⟨s, rfl, hs⟩ := leaf_str Tryz.underlying9 ht
      obtain ⟨x, rfl, hx⟩ := leaf_i64 Tryz.underlying3 ht'
      have e : (leaves Tryz.prog 1 124).length = 2 := by kernel_rfl
      rw [e] at hc hc'
      exact ⟨(s, x), hs, hx, hc, by rw [← add_field]; exact hc'⟩
    obtain ⟨X, hX⟩ := Go.Deep.choose_lt key
    refine ⟨(List.range len).map X, (by rw [List.length_map, List.length_range]; exact hmax), some a, cap, (by rw [List.length_map, List.length_range]), fun i p hp => ?_⟩
    rw [List.getElem?_map] at hp
    obtain ⟨i', hi', rfl⟩ := Option.map_eq_some_iff.1 hp
    obtain ⟨hlt, e⟩ := List.getElem?_eq_some_iff.1 hi'
    rw [List.getElem_range] at e
    subst e
    obtain ⟨x0, x1, x2, x3⟩ := hX i (by simpa using hlt)
    exact ⟨x0, x1, a, rfl, x2, x3⟩
set_option maxRecDepth 100000 in
theorem open_items {r : Reach} {b0 : Nat} {v : Value} {d : DataW H} {p : List MemPlace} (hv : Value.okWide Tryz.prog w r b0 65 v) (h : DataW.Trod enc Tryz.prog w base spare held 65 v d p) : ∃ L, Il w v L := by
  obtain ⟨fuel, h⟩ := h
  obtain ⟨a0, l0, c0, rfl⟩ := okWide_slice Tryz.underlying65 hv
  have h' := h
  simp only [Value.cells] at h'
  exact leaf_items (n := fuel) (v := .slice a0 l0 c0) h'
end
end Go.Proofs.YtlniekobijcanaaGreat
