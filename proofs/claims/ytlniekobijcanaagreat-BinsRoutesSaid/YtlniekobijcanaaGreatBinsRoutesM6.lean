/- A struct stored into a box of the region's own. -/
import Derived.Test.YtlniekobijcanaaGreatBinsRoutesM5
import Derived.Test.YtlniekobijcanaaGreatBinsRoutesM3
import Derived.Deep.MidRow
namespace Go.Proofs.YtlniekobijcanaaGreat
open Go Go.RowKit
theorem box_store {P : Program} {w : World} {n : Nat} {T : TypeId} {z cs : Array Value} (h : w.heap[n]? = some (.cells z T)) (hs : cs.size = z.size) (hi : (P.info? T).map (·.size) = some cs.size) (h1 : ∀ u ∈ cs.toList, u.oneCell' = true) :
    ∃ w', (Instr.storeAt T (bPtr n) (.agg cs)).run P w = .ok () w' ∧ w'.heap[n]? = some (.cells cs T) ∧ Fr (fun c => c = n) w w' := by
  refine ⟨w.setCells n 0 cs.toList, run_storeAt_mid w n 0 T cs ?_ hi (Array.all_eq_true_iff_forall_mem.2 fun u hu => h1 u (by simpa using hu)), ?_, fr_setCells _ _ (Fr.refl _ w) (fun _ => rfl)⟩
  · exact fun j hj => ⟨by simp [World.cell?, h]; omega, by simpa using obj_frozen h (0 + j)⟩
  · obtain ⟨cur, h2, h3, h4⟩ := row_setCells cs.toList 0 h (by simp [hs])
    rw [h2]
    congr 2
    apply Array.ext_getElem?
    intro q
    rw [h4 q]
    by_cases hq : q < cs.size
    · rw [if_pos (by simpa using hq)]; simp
    · rw [if_neg (by simpa using hq), Array.getElem?_eq_none (by omega), Array.getElem?_eq_none (by omega)]
end Go.Proofs.YtlniekobijcanaaGreat
