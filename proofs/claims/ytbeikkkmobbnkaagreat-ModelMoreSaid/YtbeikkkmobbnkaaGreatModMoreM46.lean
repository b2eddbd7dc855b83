/- An argument that is a struct of ints, opened. -/
import Derived.Test.YtbeikkkmobbnkaaGreatModMoreM2
namespace Go.Proofs.YtbeikkkmobbnkaaGreat
open Go.ChangeShapes Go.WideShapes Go.RowKit Go.Deep
section
variable {H : Type} {enc : TypeId × Value → H} {P : Program} {w : World} {base : Nat} {spare : Nat → Bool} {held : Bool}
theorem open_ints {t ti : TypeId} {fs : Array Field} {k n : Nat} {r : Reach} {b0 : Nat} {v : Value} {d : DataW H} {p : List MemPlace} (hs : P.underlying t = some (.struct fs)) (hi : P.underlying ti = some (.int .i64)) (hc : P.cellsOf t = k) (hok : flatOk P n t = true) (hl : leaves P n t = List.replicate k ti)
    (hv : Value.okWide P w r b0 t v) (h : DataW.Trod enc P w base spare held t v d p) : ∃ L : List Int, L.length = k ∧ v = .agg (L.map (Value.int .i64)).toArray ∧ ∀ x ∈ L, okI x := by
  obtain ⟨fuel, h⟩ := h
  obtain ⟨cs, rfl, hsz⟩ := okWide_struct hs hv
  rw [hc] at hsz
  have hlf := leafs_of (n := n) (t := t) hok (by rw [hc]; simpa [Value.cells] using hsz) h
  rw [hl] at hlf
  have key : ∀ i, i < k → ∃ x : Int, okI x ∧ cs[i]? = some (.int .i64 x) := fun i hi' => by
    obtain ⟨u, m, y, h1, h2⟩ := hlf i ti (by rw [List.getElem?_replicate, if_pos hi'])
    obtain ⟨x, rfl, hx⟩ := leaf_i64 hi h2
    exact ⟨x, hx, by simpa [Value.cells] using h1⟩
  obtain ⟨X, hX⟩ := Go.Deep.choose_lt key
  refine ⟨(List.range k).map X, by simp, ?_, fun x hx => ?_⟩
  · congr 1
    apply Array.ext
    · simp [hsz]
    · intro i h1 h2
      have := (hX i (by omega)).2
      rw [Array.getElem?_eq_getElem h1] at this
      simp only [Option.some.injEq] at this
      rw [this]
      simp
  · obtain ⟨i, hi', rfl⟩ := List.mem_map.1 hx
    exact (hX i (by simpa using hi')).1
end
end Go.Proofs.YtbeikkkmobbnkaaGreat
