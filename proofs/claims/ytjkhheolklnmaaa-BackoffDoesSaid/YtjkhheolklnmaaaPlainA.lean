/- Plain facts on waits: no program in sight. -/
namespace Go.Proofs.Ytjkhheolklnmaaa
def dbl (b : Int) : Nat → Int
  | 0 => b
  | k + 1 => 2 * dbl b k
theorem dbl_pos {b : Int} (h : 1 ≤ b) : ∀ k, 1 ≤ dbl b k
  | 0 => h
  | k + 1 => by have := dbl_pos h k; simp only [dbl]; omega
theorem dbl_le {b : Int} (h : 1 ≤ b) (k : Nat) : ∀ d, dbl b k ≤ dbl b (k + d)
  | 0 => Int.le_refl _
  | d + 1 => by have := dbl_le h k d; have := dbl_pos h (k + d); show _ ≤ dbl b (k + d + 1); simp only [dbl]; omega
theorem dbl_mono {b : Int} (h : 1 ≤ b) {k l : Nat} (hl : k ≤ l) : dbl b k ≤ dbl b l := by
  have := dbl_le h k (l - k)
  rwa [show k + (l - k) = l from by omega] at this
def wait (b m t : Int) : Int := if b < 1 ∨ m < b ∨ t < 0 then 0 else min (dbl b t.toNat) m
theorem wait_no {b m t : Int} (h : b < 1 ∨ m < b ∨ t < 0) : wait b m t = 0 := by simp [wait, h]
theorem wait_top {b m t : Int} {k : Nat} (hb : 1 ≤ b) (hm : b ≤ m) (hk : (k : Int) ≤ t) (h : m ≤ dbl b k) : wait b m t = m := by
  have := dbl_mono hb (k := k) (l := t.toNat) (by omega)
  rw [wait, if_neg (by omega)]; omega
theorem wait_at {b m t : Int} {k : Nat} (hb : 1 ≤ b) (hm : b ≤ m) (hk : (k : Int) = t) (h : dbl b k ≤ m) : wait b m t = dbl b k := by
  subst hk
  rw [wait, if_neg (by omega)]; simp; omega
theorem wait_pos (b m t : Int) : 0 ≤ wait b m t := by
  unfold wait; split
  · omega
  · have := dbl_pos (b := b) (by omega) t.toNat; omega
end Go.Proofs.Ytjkhheolklnmaaa
