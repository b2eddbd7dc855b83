/- The document's cells (entrepotref01): First: what it reads is what cells.First reads: plainly. -/
import Derived.Test.YtakjiicnbocjeaaIdDoesM9
import Derived.Test.YtakjiicnbocjeaaIdDoesM24
namespace Go.Proofs.Ytakjiicnbocjeaa
open Go.RowKit Go.Maps
def nU (l : List Int) : Int := l.foldl (fun u c => u * 256 + c) 0
theorem nU_succ {l : List Int} {k : Nat} {x : Int} (h : l[k]? = some x) : nU (l.take (k + 1)) = nU (l.take k) * 256 + x := by
  unfold nU
  rw [List.take_add_one, h, List.foldl_append]; rfl
theorem pow256s (k : Nat) : ((256 ^ (k + 1) : Nat) : Int) = ((256 ^ k : Nat) : Int) * 256 := by rw [Nat.pow_succ]; simp
theorem nU_lt {l : List Int} (hb : ∀ x ∈ l, 0 ≤ x ∧ x < 256) : ∀ k, k ≤ l.length → 0 ≤ nU (l.take k) ∧ nU (l.take k) < ((256 ^ k : Nat) : Int)
  | 0, _ => by simp [nU]
  | k + 1, h => by
    have hk : l[k]? = some l[k] := List.getElem?_eq_getElem (by omega)
    have h1 := nU_lt hb k (by omega)
    have h2 := hb l[k] (List.getElem_mem _)
    rw [nU_succ hk, pow256s]
    omega
theorem dU_nU {l : List Int} (hb : ∀ x ∈ l, 0 ≤ x ∧ x < 256) (h8 : l.length ≤ 8) : ∀ k, k ≤ l.length → dU (l.take k) = nU (l.take k)
  | 0, _ => rfl
  | k + 1, h => by
    have hk : l[k]? = some l[k] := List.getElem?_eq_getElem (by omega)
    have h2 := hb l[k] (List.getElem_mem _)
    have h1 := nU_lt hb k (by omega)
    have hp : 256 ^ k ≤ 256 ^ 7 := Nat.pow_le_pow_right (by omega) (by omega)
    rw [dU_succ hk, nU_succ hk, dU_nU hb h8 k (by omega)]
    obtain ⟨u, hu⟩ : ∃ u : Nat, nU (l.take k) = u := ⟨(nU (l.take k)).toNat, by omega⟩
    obtain ⟨c, hc⟩ : ∃ c : Nat, l[k] = c := ⟨l[k].toNat, by omega⟩
    rw [hu] at h1 ⊢
    rw [hc] at h2 ⊢
    have := or_add u c (by omega) (by omega)
    unfold dStep
    rw [this]
    omega
/-- What the document's First gives. -/
def firstR (bs : List Int) : Int × Nat := match firstB bs with | some p => p | none => (0, 0)
theorem numB_hd0 {n : Int} (h : 0 ≤ n) (hn : n < 9223372036854775808) {x : Int} {l : List Int} (e : numB n = x :: l) : x < 128 ∨ (129 ≤ x ∧ x ≤ 136) := by
  by_cases hs : 0 ≤ n ∧ n < 128
  · unfold numB at e
    rw [if_pos hs] at e
    injection e with e1 _
    left; omega
  · rw [numB_big hs] at e
    injection e with e1 _
    have h8 := nSz_le (u := numU n) (by have := numU_lt (n := n) (by unfold okI; omega); omega)
    have hp : 0 < nSz (numU n) := by
      refine Nat.lt_of_le_of_ne (Nat.zero_le _) (fun e0 => ?_)
      have := nSz_lt (u := numU n) (by have := numU_lt (n := n) (by unfold okI; omega); omega)
      rw [← e0] at this
      unfold numU at this
      split at this <;> omega
    unfold numH at e1
    rw [if_neg (by omega)] at e1
    right; omega
theorem numB_hd1 {n : Int} (h : n < 0) (hn : -9223372036854775808 ≤ n) {x : Int} {l : List Int} (e : numB n = x :: l) : 144 ≤ x ∧ x ≤ 152 := by
  rw [numB_big (by omega)] at e
  injection e with e1 _
  have h8 := nSz_le (u := numU n) (by have := numU_lt (n := n) (by unfold okI; omega); omega)
  unfold numH at e1
  rw [if_pos h] at e1
  omega
/-- The heads that the document knows. -/
theorem firstB_out {hd : Int} {r : List Int} (h : 128 ≤ hd) (hr : ¬ (129 ≤ hd ∧ hd ≤ 136)) (hr2 : ¬ (144 ≤ hd ∧ hd ≤ 152)) : firstB (hd :: r) = none := by
  unfold firstB
  dsimp only
  rw [if_neg (by omega)]
  by_cases h8 : hd = 128
  · subst h8
    rw [if_neg (by simp [dSize])]
    have e : dN 128 (List.take (dSize 128).toNat r) = 0 := by
      rw [show (dSize 128).toNat = 0 by simp [dSize]]
      rw [List.take_zero]
      show wrap64 (bits .xor .u64 ((0 : Nat) : Int) 0) = 0
      rw [xorZero 0 (by omega)]; unfold wrap64; omega
    rw [e, if_neg (by simp [numB])]
  · rw [if_pos]
    left; unfold dSize; split <;> omega
theorem firstB_in {hd : Int} {r : List Int} {S : Nat} (h : (129 ≤ hd ∧ hd ≤ 136) ∨ (144 ≤ hd ∧ hd ≤ 152)) (hS : dSize hd = S) (hb : ∀ x ∈ r, 0 ≤ x ∧ x < 256) (hl : S ≤ r.length) :
    firstB (hd :: r) = if 9223372036854775808 ≤ nU (r.take S) then none else if numB (if 144 ≤ hd then -1 - nU (r.take S) else nU (r.take S)) = hd :: r.take S then some (if 144 ≤ hd then -1 - nU (r.take S) else nU (r.take S), 1 + S) else none := by
  have hS8 : S ≤ 8 := by unfold dSize at hS; split at hS <;> omega
  have hlt : (r.take S).length = S := by rw [List.length_take]; omega
  have hbt : ∀ x ∈ r.take S, 0 ≤ x ∧ x < 256 := fun x hx => hb x (List.mem_of_mem_take hx)
  have hd2 := dU_nU hbt (by omega) S (by omega)
  have hlt2 := nU_lt hbt S (by omega)
  rw [List.take_of_length_le (by omega)] at hd2 hlt2
  have hp : 256 ^ S ≤ 256 ^ 8 := Nat.pow_le_pow_right (by omega) hS8
  obtain ⟨U, hU⟩ : ∃ U : Nat, nU (r.take S) = U := ⟨(nU (r.take S)).toNat, by omega⟩
  rw [hU] at hd2 hlt2 ⊢
  have hUb : U < 18446744073709551616 := by omega
  unfold firstB
  dsimp only
  rw [if_neg (by omega), hS, Int.toNat_natCast, if_neg (by omega)]
  have hdn : dN hd (r.take S) = if 144 ≤ hd then wrap64 ((18446744073709551615 - U : Nat) : Int) else wrap64 (U : Int) := by
    unfold dN
    rw [hd2]
    unfold dTurn
    split
    · rw [xorOnes' _ hUb]
    · rw [xorZero _ hUb]
  rw [hdn]
  by_cases hbig : 9223372036854775808 ≤ (U : Int)
  · rw [if_pos hbig, if_neg]
    intro e
    by_cases hg : 144 ≤ hd
    · rw [if_pos hg] at e
      have h2 := numB_hd0 (by unfold wrap64; omega) (by unfold wrap64; omega) e
      omega
    · rw [if_neg hg] at e
      have h2 := numB_hd1 (by unfold wrap64; omega) (by unfold wrap64; omega) e
      omega
  · rw [if_neg hbig]
    by_cases hg : 144 ≤ hd
    · simp only [if_pos hg]
      rw [show wrap64 ((18446744073709551615 - U : Nat) : Int) = -1 - (U : Int) by unfold wrap64; omega]
    · simp only [if_neg hg]
      rw [show wrap64 (U : Int) = (U : Int) by unfold wrap64; omega]
theorem firstB_short {hd : Int} {r : List Int} {S : Nat} (h : 128 ≤ hd) (hS : dSize hd = S) (hl : r.length < S) : firstB (hd :: r) = none := by
  unfold firstB
  dsimp only
  rw [if_neg (by omega), if_pos]
  right; omega
theorem firstR_none {bs : List Int} (h : firstB bs = none) : firstR bs = (0, 0) := by unfold firstR; rw [h]
theorem firstR_some {bs : List Int} {p : Int × Nat} (h : firstB bs = some p) : firstR bs = p := by unfold firstR; rw [h]
end Go.Proofs.Ytakjiicnbocjeaa
