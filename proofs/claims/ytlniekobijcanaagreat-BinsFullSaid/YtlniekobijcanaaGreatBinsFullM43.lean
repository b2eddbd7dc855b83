/- An argument that is a string, opened. -/
import Derived.Test.YtlniekobijcanaaGreatBinsFullM35
import Derived.ChangeMaps5
namespace Go.Proofs.YtlniekobijcanaaGreat
open Go.ChangeShapes Go.WideShapes Go.RowKit Go.Deep Go.ChangeMaps
section
variable {H : Type} {enc : TypeId × Value → H} {P : Program} {w : World} {base : Nat} {spare : Nat → Bool} {held : Bool}
theorem open_strV {r : Reach} {b0 : Nat} {t : TypeId} {v : Value} {d : DataW H} {p : List MemPlace} (hs : P.underlying t = some .string) (hv : Value.okWide P w r b0 t v) (h : DataW.Trod enc P w base spare held t v d p) : ∃ s : Str, v = vS s ∧ okS s := by
  obtain ⟨s, rfl, -⟩ := open_string hs hv h
  obtain ⟨n, h⟩ := h
  exact leaf_str hs h
end
end Go.Proofs.YtlniekobijcanaaGreat
