/- Goods' lengths, plainly. -/
import Derived.Test.YtlniekobijcanaaGreatBinsRoutesM2
import Derived.Test.YtlniekobijcanaaGreatBinsRoutesM1
namespace Go.Proofs.YtlniekobijcanaaGreat
open Go.RowKit Go.Maps
theorem goodB_len {s : Str} (h : goodB s = true) : s.length ≤ 16 := by
  unfold goodB at h
  simp at h
  omega
theorem textB_len {s : Str} (h : s.length ≤ 16) : (textB s).length ≤ 25 := by
  unfold textB
  rw [List.length_append, sB_len]
  have := (numB_len (n := (s.length : Int)) (by unfold okI; omega)).2
  omega
end Go.Proofs.YtlniekobijcanaaGreat
