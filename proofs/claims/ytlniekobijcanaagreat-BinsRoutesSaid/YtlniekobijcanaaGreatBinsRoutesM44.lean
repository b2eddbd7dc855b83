/- l[:j] and l[j:] of a row: the slice operations' own runs, and what their values read. -/
import Derived.Test.YtlniekobijcanaaGreatBinsRoutesM3
namespace Go.Proofs.YtlniekobijcanaaGreat
open Go.RowKit
section
variable {w w' : World} {size base len cap : Nat} {a : Option Addr} {e t : TypeId} {xs : List Value} {P : Program} {i : TypeInfo}
theorem own_len (h : w.ownsRow base e size (.slice a len cap) len xs) : len ≤ cap ∧ cap ≤ 9223372036854775807 := by
  rcases h.2 with ⟨e1, e2⟩ | ⟨g, c, cur, e1, _, _, hnc, hm, _⟩
  · injection e1 with _ h2 h3
    omega
  · injection e1 with _ _ h3
    unfold maxLen at hm
    omega
theorem own_none' {w : World} {base size b : Nat} {t : TypeId} (hb : b = w.heap.size) (h : base ≤ b) : (w.alloc (.cells #[] t)).ownsRow base t size (.slice (some ⟨b, 0, none⟩) 0 0) 0 [] := hb ▸ own_none (hb ▸ h)
theorem add_zero' (a : Option Addr) : a.map (fun x => x.add 0) = a := by cases a <;> rfl
theorem sub_take (h : w.ownsRow base e size (.slice a len cap) len xs) (ht : P.underlying t = some (.slice e)) (hi : P.info? e = some i) {j : Nat} (hj : j ≤ len) :
    (∀ W, (Instr.slice t (.slice a len cap) none (some (.int .i64 (j : Int))) none).run P W = .ok (.slice a j cap) W) ∧ Rd w size a j (xs.take (j * size)) := by
  obtain ⟨h1, h2⟩ := own_len h
  refine ⟨fun W => ?_, (Rd.own h).take hj⟩
  have q : (0 : Int) ≤ (j : Int) ∧ (j : Int) ≤ (cap : Int) := by omega
  simp [Instr.slice, Instr.sliceBounds, Instr.sliceBound, run_underlying ht, asIntOf, sizeOf, typeInfo, hi, q, go_sem]
  intro h3; omega
theorem sub_drop (h : w.ownsRow base e size (.slice a len cap) len xs) (ht : P.underlying t = some (.slice e)) (hi : P.info? e = some i) (hs : i.size = size) {j : Nat} (hj : j ≤ len) :
    ∃ A, (∀ W, (Instr.slice t (.slice a len cap) (some (.int .i64 (j : Int))) none none).run P W = .ok (.slice A (len - j) (cap - j)) W) ∧ Rd w size A (len - j) (xs.drop (j * size)) ∧ ∀ ad, A = some ad → ∃ ad', a = some ad' ∧ ad'.block = ad.block := by
  obtain ⟨h1, h2⟩ := own_len h
  refine ⟨if cap = j then a else a.map fun x => x.add (j * size), fun W => ?_, ?_, ?_⟩
  · have q : (0 : Int) ≤ (j : Int) ∧ (j : Int) ≤ (len : Int) := by omega
    simp [Instr.slice, Instr.sliceBounds, Instr.sliceBound, run_underlying ht, asIntOf, sizeOf, typeInfo, hi, hs, q, go_sem]
    intro h3; omega
  · by_cases hc : cap = j
    · obtain rfl : j = len := by omega
      rw [if_pos hc, Nat.sub_self, List.drop_of_length_le (by rw [h.1]; exact Nat.le_refl _)]
      exact Rd.nil _ _ _
    · rw [if_neg hc]
      exact (Rd.own h).drop hj
  · intro ad hA
    split at hA
    · exact ⟨ad, hA, rfl⟩
    · cases a with
      | none => cases hA
      | some ad' =>
        injection hA with hA
        exact ⟨ad', rfl, by rw [← hA, add_block]⟩
end
end Go.Proofs.YtlniekobijcanaaGreat
