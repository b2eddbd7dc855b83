/- cells: what First reads is what Num wrote: plainly. -/
import Derived.Test.YtakjiicnbocjeaaIdDoesM7
import Derived.Test.YtakjiicnbocjeaaIdDoesM8
namespace Go.Proofs.Ytakjiicnbocjeaa
open Go.RowKit Go.Maps
theorem or_add (x c : Nat) (hx : x < 72057594037927936) (hc : c < 256) : bits .or .u64 (IntKind.u64.wrap ((x : Int) * 256)) (c : Int) = ((x * 256 + c : Nat) : Int) := by
  have e1 : IntKind.u64.wrap ((x : Int) * 256) = ((x * 256 : Nat) : Int) := by
    show ((x : Int) * 256) % 18446744073709551616 = _
    omega
  rw [e1, u64_or_nat _ _ (by omega) (by omega)]
  congr 1
  have := Nat.two_pow_add_eq_or_of_lt (i := 8) (b := c) (by omega) x
  rw [Nat.mul_comm x 256]
  exact this.symm
/-- The bytes back. -/
theorem dU_beB (u : Nat) : ∀ (k : Nat) (a : Nat), k ≤ 8 → a * 256 ^ k + u % 256 ^ k < 18446744073709551616 → (beB u k).foldl dStep (a : Int) = ((a * 256 ^ k + u % 256 ^ k : Nat) : Int)
  | 0, a, _, _ => by simp [beB, Nat.mod_one]
  | k + 1, a, hk, h => by
    simp only [beB, List.foldl_cons]
    have hpos : 0 < 256 ^ k := Nat.pow_pos (by omega)
    have hsp : u % 256 ^ (k + 1) = (u / 256 ^ k % 256) * 256 ^ k + u % 256 ^ k := by
      rw [Nat.pow_succ, Nat.mod_mul, Nat.add_comm, Nat.mul_comm]
    have hx : a < 72057594037927936 := by
      refine Nat.lt_of_not_le fun hge => ?_
      have h1 : a * 256 ≤ a * 256 ^ (k + 1) := Nat.mul_le_mul_left _ (by rw [Nat.pow_succ]; omega)
      omega
    have e1 : dStep (a : Int) ((u / 256 ^ k % 256 : Nat) : Int) = ((a * 256 + u / 256 ^ k % 256 : Nat) : Int) := or_add a _ hx (Nat.mod_lt _ (by omega))
    rw [e1]
    have e2 : (a * 256 + u / 256 ^ k % 256) * 256 ^ k + u % 256 ^ k = a * 256 ^ (k + 1) + u % 256 ^ (k + 1) := by
      rw [hsp, Nat.pow_succ, Nat.add_mul, Nat.mul_assoc, Nat.mul_comm 256, Nat.add_assoc]
    rw [dU_beB u k _ (by omega) (by rw [e2]; exact h), e2]
theorem dU_num {u : Nat} (h : u < 9223372036854775808) : dU (beB u (nSz u)) = (u : Int) := by
  have hl := nSz_lt (u := u) (by omega)
  have := dU_beB u (nSz u) 0 (nSz_le (by omega)) (by rw [Nat.mod_eq_of_lt hl]; omega)
  rw [Nat.mod_eq_of_lt hl] at this
  simpa [dU] using this
theorem xorOnes' (m : Nat) (h : m < 18446744073709551616) : bits .xor .u64 (m : Int) 18446744073709551615 = ((18446744073709551615 - m : Nat) : Int) := by
  rw [show (18446744073709551615 : Int) = ((18446744073709551615 : Nat) : Int) from rfl, u64_xor_nat _ _ h (by omega), Nat.xor_comm, xorOnes _ h]
theorem xorZero (m : Nat) (h : m < 18446744073709551616) : bits .xor .u64 (m : Int) 0 = (m : Int) := by
  rw [show (0 : Int) = ((0 : Nat) : Int) from rfl, u64_xor_nat _ _ h (by omega)]
  simp
/-- A NUMBER'S CELL IS READ AS THAT NUMBER, whatever follows. -/
theorem firstB_num {n : Int} (hn : okI n) (r : List Int) : firstB (numB n ++ r) = some (n, (numB n).length) := by
  by_cases h : 0 ≤ n ∧ n < 128
  · have e : numB n = [n] := by unfold numB; rw [if_pos h]
    rw [e]
    simp [firstB, h.2]
  · have hU := numU_lt hn
    have hs8 := nSz_le (u := numU n) (by omega)
    have hl : (beB (numU n) (nSz (numU n))).length = nSz (numU n) := beB_len _ _
    have hd := dU_num hU
    have hfull := numB_big h
    rw [hfull]
    obtain ⟨s, hs⟩ : ∃ s, nSz (numU n) = s := ⟨_, rfl⟩
    rw [hs] at hs8 hl hd hfull ⊢
    have hH : dSize (numH n + s) = s ∧ dTurn (numH n + s) = (if n < 0 then 18446744073709551615 else 0) := by
      unfold dSize dTurn numH
      by_cases h0 : n < 0
      · rw [if_pos h0, if_pos (by omega), if_pos (by omega), if_pos h0]; omega
      · rw [if_neg h0, if_neg (by omega), if_neg (by omega), if_neg h0]; omega
    have hge : ¬ numH n + (s : Int) < 128 := by unfold numH; split <;> omega
    have htk : (beB (numU n) s ++ r).take s = beB (numU n) s := by rw [List.take_append_of_le_length (by omega), List.take_of_length_le (by omega)]
    have hN : dN (numH n + s) (beB (numU n) s) = n := by
      unfold dN
      rw [hd, hH.2]
      unfold okI at hn
      by_cases h0 : n < 0
      · rw [if_pos h0, xorOnes' _ (by omega)]
        unfold wrap64 numU
        rw [if_pos h0]
        omega
      · rw [if_neg h0, xorZero _ (by omega)]
        unfold wrap64 numU
        rw [if_neg h0]
        omega
    simp only [List.cons_append, firstB, hge, if_false, hH.1, Int.toNat_natCast, htk, hN]
    rw [if_neg (by simp only [List.length_append, hl]; omega), if_pos hfull]
    simp only [List.length_cons, hl, Nat.add_comm]
/-- What is read begins with that number's cell. -/
theorem firstB_of {bs : List Int} {n : Int} {k : Nat} (h : firstB bs = some (n, k)) (hb : ∀ x ∈ bs, 0 ≤ x ∧ x < 256) : okI n ∧ k = (numB n).length ∧ bs = numB n ++ bs.drop k := by
  cases bs with
  | nil => cases h
  | cons a r =>
    simp only [firstB] at h
    by_cases ha : a < 128
    · rw [if_pos ha] at h
      cases h
      have h0 := (hb n (by simp)).1
      have e : numB n = [n] := by unfold numB; rw [if_pos ⟨h0, ha⟩]
      refine ⟨by unfold okI; omega, by rw [e]; rfl, by rw [e]; rfl⟩
    · rw [if_neg ha] at h
      split at h
      · cases h
      · rename_i hs
        split at h
        · rename_i he
          injection h with h
          injection h with h1 h2
          subst h2
          rw [h1] at he
          have hok : okI n := by rw [← h1]; unfold dN wrap64 okI; omega
          have hS0 : 0 ≤ dSize a := by unfold dSize; split <;> omega
          have hl : (r.take (dSize a).toNat).length = (dSize a).toNat := by rw [List.length_take]; omega
          refine ⟨hok, by rw [he, List.length_cons, hl, Nat.add_comm], ?_⟩
          rw [he, Nat.add_comm, List.drop_succ_cons, List.cons_append, List.take_append_drop]
        · cases h
end Go.Proofs.Ytakjiicnbocjeaa
