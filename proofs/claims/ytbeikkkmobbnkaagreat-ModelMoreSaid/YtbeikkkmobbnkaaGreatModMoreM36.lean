/- items: rows of the call's own, as slices of items. -/
import Derived.Test.YtbeikkkmobbnkaaGreatModMoreM1
import Derived.Test.YtbeikkkmobbnkaaGreatModMoreM35
import Derived.Maps.OwnIn
namespace Go.Proofs.YtbeikkkmobbnkaaGreat
open Go.RowKit Go.Maps
theorem infoItem : (Tryz.prog.info? 52).map (fun i => (i.zero, i.size, i.bytes)) = some (some (.agg #[.string ⟨#[]⟩, .int .i64 0]), 2, 24) := by kernel_rfl
/-- Items' cells. -/
def itCs (L : Its) : List Value := L.flatMap fun p => [vS p.1, .int .i64 p.2]
theorem itCs_app (L M : Its) : itCs (L ++ M) = itCs L ++ itCs M := by simp [itCs]
theorem itCs_len (L : Its) : (itCs L).length = L.length * 2 := by
  induction L with
  | nil => rfl
  | cons q r ih => simp only [itCs, List.flatMap_cons, List.length_append, List.length_cons, List.length_nil] at *; rw [ih]; omega
theorem itCs_one {u : Value} {L : Its} (h : u ∈ itCs L) : u.oneCell' = true := by
  simp only [itCs, List.mem_flatMap] at h
  obtain ⟨q, _, hq⟩ := h
  simp only [List.mem_cons, List.not_mem_nil, or_false] at hq
  rcases hq with rfl | rfl <;> rfl
theorem itCs_at : ∀ {L : Its} {k : Nat} {p : Str × Int}, L[k]? = some p → (itCs L)[k * 2]? = some (vS p.1) ∧ (itCs L)[k * 2 + 1]? = some (.int .i64 p.2)
  | q :: r, 0, p, h => by
    cases h
    exact ⟨rfl, rfl⟩
  | q :: r, k + 1, p, h => by
    have := itCs_at (L := r) (k := k) (p := p) (by simpa using h)
    rw [show (k + 1) * 2 = k * 2 + 1 + 1 by omega]
    exact this
/-- What a row of the call's own reads as. -/
theorem Il.own {w : World} {base : Nat} {v : Value} {L : Its} (h : w.ownsRow base 52 2 v L.length (itCs L)) (hL : ∀ p ∈ L, okS p.1 ∧ okI p.2) : Il w v L ∧ ∀ b, v.ownBlock = some b → base ≤ b ∧ b < w.heap.size := by
  refine ⟨?_, fun b hb => h.lt b hb⟩
  rcases h.2 with ⟨rfl, h0⟩ | ⟨g, cap, cur, rfl, hbase, hb, hn, hm, hs, ht⟩
  · have : L = [] := List.eq_nil_of_length_eq_zero h0
    subst this
    exact ⟨by simp, none, 0, rfl, fun i p hp => by simp at hp⟩
  · have hm' : cap ≤ 9223372036854775807 := hm
    refine ⟨by omega, some ⟨g, 0, none⟩, cap, rfl, fun i p hp => ?_⟩
    have hok := hL p (List.mem_of_getElem? hp)
    obtain ⟨c0, c1⟩ := itCs_at hp
    have hi := (List.getElem?_eq_some_iff.1 hp).1
    have k0 := h.cellAt (g := g) (j := i * 2) (by omega)
    have k1 := h.cellAt (g := g) (j := i * 2 + 1) (by omega)
    have e0 : (⟨g, 0, none⟩ : Addr).add (i * 2) = ⟨g, i * 2, none⟩ := by
      unfold Addr.add; split <;> simp_all
    refine ⟨hok.1, hok.2, _, rfl, ?_, ?_⟩
    · rw [e0, k0]; exact c0
    · rw [e0]; dsimp only; rw [k1]; exact c1
end Go.Proofs.YtbeikkkmobbnkaaGreat
