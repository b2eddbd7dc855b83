/- What makers put, as states: plainly. -/
import Derived.Test.YtbeikkkmobbnkaaGreatModMoreM11
namespace Go.Proofs.YtbeikkkmobbnkaaGreat
open Go.RowKit Go.Maps
theorem bitLen_lt : ∀ (f x : Nat), x < 2 ^ f → x < 2 ^ (Lib.bitLenAux f x)
  | 0, x, h => by simp at h; subst h; simp [Lib.bitLenAux]
  | f + 1, x, h => by
    unfold Lib.bitLenAux
    by_cases h0 : x = 0
    · simp [h0]
    · rw [if_neg h0, Nat.add_comm 1, Nat.pow_succ]
      have := bitLen_lt f (x / 2) (by rw [Nat.pow_succ] at h; omega)
      omega
theorem nSz_lt {u : Nat} (h : u < 18446744073709551616) : u < 256 ^ nSz u := by
  have h1 : u < 2 ^ Lib.bitLen u := bitLen_lt 64 u h
  refine Nat.lt_of_lt_of_le h1 ?_
  rw [show (256 : Nat) = 2 ^ 8 from rfl, ← Nat.pow_mul]
  refine Nat.pow_le_pow_right (by omega) ?_
  unfold nSz; omega
theorem numB_big {n : Int} (h : ¬ (0 ≤ n ∧ n < 128)) : numB n = (numH n + nSz (numU n)) :: beB (numU n) (nSz (numU n)) := by unfold numB; rw [if_neg h]
abbrev Mst := List Int × Bool
def mkP (s : Mst) (c : List Int) : Mst := (putB s.1 s.2 c, putL s.1 s.2 c)
def mkAll (s : Mst) (cs : List (List Int)) : Mst := cs.foldl mkP s
def Byt (l : List Int) : Prop := ∀ x ∈ l, 0 ≤ x ∧ x < 256
theorem numB_one : numB 1 = [1] := by simp [numB]
theorem numB_zero : numB 0 = [0] := by simp [numB]
theorem nSz_of' {u k : Nat} (hk : k ≤ 8) (h : u < 256 ^ k) : nSz u ≤ k := by
  have h2 : u < 2 ^ (8 * k) := by rw [Nat.pow_mul]; exact h
  have := Lib.bitLen_le u (8 * k) (by omega) h2
  unfold nSz; omega
theorem numB_le {n : Int} {k : Nat} (hk : k ≤ 8) (h0 : 0 ≤ n) (h : n < ((256 ^ k : Nat) : Int)) : (numB n).length ≤ k + 1 := by
  by_cases hs : 0 ≤ n ∧ n < 128
  · unfold numB; rw [if_pos hs]; simp
  · rw [numB_big hs]
    have hu : numU n = n.toNat := by unfold numU; rw [if_neg (by omega)]
    have := nSz_of' (u := numU n) hk (by rw [hu]; omega)
    simp [beB_len]; exact this
theorem mkAll_flat : ∀ {cs : List (List Int)} {bs : List Int}, bs.length + cs.flatten.length ≤ 262144 → mkAll (bs, false) cs = (bs ++ cs.flatten, false)
  | [], bs, _ => by simp [mkAll]
  | c :: r, bs, h => by
    rw [List.flatten_cons, List.length_append] at h
    have e : mkP (bs, false) c = (bs ++ c, false) := by
      unfold mkP putB putL
      have : ¬ 262144 < bs.length + c.length := by omega
      simp [this]
    have := mkAll_flat (cs := r) (bs := bs ++ c) (by rw [List.length_append]; omega)
    unfold mkAll at *
    rw [List.foldl_cons, e, this]
    simp
end Go.Proofs.YtbeikkkmobbnkaaGreat
