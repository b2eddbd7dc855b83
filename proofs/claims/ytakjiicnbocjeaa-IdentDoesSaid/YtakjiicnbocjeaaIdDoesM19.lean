/- The mix, word by word: plainly. -/
import Derived.Test.YtakjiicnbocjeaaIdDoesM18
import Derived.Test.YtakjiicnbocjeaaIdDoesM9
namespace Go.Proofs.Ytakjiicnbocjeaa
open Go.RowKit
/-- Bytes as a number, the lowest first. -/
def leN (l : List Int) : Int := l.foldr (fun c m => m * 256 + c) 0
theorem leN_nat {l : List Int} (hb : ∀ x ∈ l, 0 ≤ x ∧ x < 256) : ∃ m : Nat, leN l = m ∧ m < 256 ^ l.length := by
  induction l with
  | nil => exact ⟨0, rfl, by simp⟩
  | cons c r ih =>
    obtain ⟨m, e, h⟩ := ih (fun x hx => hb x (by simp [hx]))
    obtain ⟨h0, h1⟩ := hb c (by simp)
    refine ⟨m * 256 + c.toNat, ?_, ?_⟩
    · show leN r * 256 + c = _
      rw [e]; omega
    · rw [List.length_cons, Nat.pow_succ]; omega
theorem leN_snoc (l : List Int) (c : Int) : leN (l ++ [c]) = leN l + c * ((256 ^ l.length : Nat) : Int) := by
  induction l with
  | nil => simp [leN]
  | cons a r ih =>
    show leN (r ++ [c]) * 256 + a = (leN r * 256 + a) + _
    rw [ih, List.length_cons, Nat.pow_succ, Int.natCast_mul, Int.add_mul, ← Int.mul_assoc]
    simp only [Int.mul_assoc, show ((256 : Nat) : Int) = 256 from rfl]
    omega
theorem pow256_2 (j : Nat) : (256 : Nat) ^ j = 2 ^ (8 * j) := by rw [Nat.pow_mul]
/-- A byte put above. -/
theorem or_high {m : Nat} {c : Int} {j : Nat} (hj : j < 8) (hm : m < 256 ^ j) (h0 : 0 ≤ c) : bits .or .u64 (m : Int) (IntKind.u64.wrap (c * 2 ^ (8 * j))) = ((m + (c.toNat * 256 ^ j) % 18446744073709551616 : Nat) : Int) := by
  obtain ⟨k, rfl⟩ : ∃ k : Nat, c = k := ⟨c.toNat, by omega⟩
  have e1 : IntKind.u64.wrap ((k : Int) * 2 ^ (8 * j)) = (((k * 256 ^ j) % 18446744073709551616 : Nat) : Int) := by
    show ((k : Int) * 2 ^ (8 * j)) % 18446744073709551616 = _
    rw [pow256_2]
    simp
  have hp : (256 : Nat) ^ j ≤ 256 ^ 7 := Nat.pow_le_pow_right (by omega) (by omega)
  rw [e1, u64_or_nat _ _ (by omega) (Nat.mod_lt _ (by omega)), Int.toNat_natCast]
  congr 1
  have e2 : (k * 256 ^ j) % 18446744073709551616 = 2 ^ (8 * j) * (k % 256 ^ (8 - j)) := by
    rw [show (18446744073709551616 : Nat) = 256 ^ j * 256 ^ (8 - j) by rw [← Nat.pow_add, show j + (8 - j) = 8 by omega], Nat.mul_comm k, Nat.mul_mod_mul_left, pow256_2]
  rw [e2, Nat.or_comm, ← Nat.two_pow_add_eq_or_of_lt (i := 8 * j) (b := m) (by rw [← pow256_2]; exact hm), Nat.add_comm]
def wordAt (l : List Int) (k : Nat) : Int := leN ((l.drop (8 * k)).take 8)
def wordsS (s : S4) (l : List Int) : Nat → S4
  | 0 => s
  | k + 1 => wrd (wordsS s l k) (wordAt l k)
theorem mixFrom_words (s : S4) {l : List Int} (hb : ∀ x ∈ l, 0 ≤ x ∧ x < 256) : ∀ i, i ≤ l.length → mixFrom (s, 0) 0 (l.take i) = (wordsS s l (i / 8), leN ((l.drop (8 * (i / 8))).take (i % 8)))
  | 0, _ => by simp [mixFrom, wordsS, leN]
  | i + 1, h => by
    obtain ⟨x, hx⟩ : ∃ x, l[i]? = some x := ⟨l[i], List.getElem?_eq_getElem (by omega)⟩
    obtain ⟨x0, x1⟩ := hb x (List.mem_of_getElem? hx)
    have ih := mixFrom_words s hb i (by omega)
    have e0 : l.take (i + 1) = l.take i ++ [x] := by rw [List.take_add_one, hx]; rfl
    rw [e0, mixFrom_snoc, ih, List.length_take, Nat.min_eq_left (by omega), Nat.zero_add]
    have hr : i % 8 < 8 := Nat.mod_lt _ (by omega)
    have hsn : (l.drop (8 * (i / 8))).take (i % 8 + 1) = (l.drop (8 * (i / 8))).take (i % 8) ++ [x] := by
      rw [List.take_add_one, List.getElem?_drop, show 8 * (i / 8) + i % 8 = i by omega, hx]; rfl
    have hlen : ((l.drop (8 * (i / 8))).take (i % 8)).length = i % 8 := by rw [List.length_take, List.length_drop]; omega
    obtain ⟨m, hm, hml⟩ := leN_nat (l := (l.drop (8 * (i / 8))).take (i % 8)) (fun y hy => hb y (List.mem_of_mem_drop (List.mem_of_mem_take hy)))
    rw [hlen] at hml
    have hor : bits .or .u64 (leN ((l.drop (8 * (i / 8))).take (i % 8))) (IntKind.u64.wrap (x * 2 ^ (8 * (i % 8)))) = leN ((l.drop (8 * (i / 8))).take (i % 8 + 1)) := by
      rw [hsn, leN_snoc, hlen, hm, or_high hr hml x0]
      have hp : (256 : Nat) ^ (i % 8) ≤ 256 ^ 7 := Nat.pow_le_pow_right (by omega) (by omega)
      have hlt : x.toNat * 256 ^ (i % 8) < 18446744073709551616 := by
        have : x.toNat * 256 ^ (i % 8) ≤ 255 * 256 ^ 7 := Nat.mul_le_mul (by omega) hp
        omega
      rw [Nat.mod_eq_of_lt hlt, Int.natCast_add, Int.natCast_mul, Int.toNat_of_nonneg x0]
    unfold mixStep
    dsimp only
    by_cases h7 : i % 8 = 7
    · rw [if_pos h7, hor]
      have e1 : (i + 1) / 8 = i / 8 + 1 := by omega
      have e2 : (i + 1) % 8 = 0 := by omega
      rw [e1, e2, List.take_zero, h7]
      rfl
    · rw [if_neg h7, hor]
      have e1 : (i + 1) / 8 = i / 8 := by omega
      have e2 : (i + 1) % 8 = i % 8 + 1 := by omega
      rw [e1, e2]
theorem wordsS_app (s : S4) (l m : List Int) : ∀ k, 8 * k ≤ l.length → wordsS s (l ++ m) k = wordsS s l k
  | 0, _ => rfl
  | k + 1, h => by
    unfold wordsS
    rw [wordsS_app s l m k (by omega)]
    congr 1
    unfold wordAt
    rw [List.drop_append_of_le_length (by omega), List.take_append_of_le_length (by rw [List.length_drop]; omega)]
theorem leN_zeros : ∀ k, leN (List.replicate k 0) = 0
  | 0 => rfl
  | k + 1 => by show leN (List.replicate k 0) * 256 + 0 = 0; rw [leN_zeros k]; rfl
theorem leN_app (l m : List Int) : leN (l ++ m) = leN l + leN m * ((256 ^ l.length : Nat) : Int) := by
  induction l with
  | nil => simp [leN]
  | cons a r ih =>
    show leN (r ++ m) * 256 + a = (leN r * 256 + a) + _
    rw [ih, List.length_cons, Nat.pow_succ, Int.natCast_mul, Int.add_mul, ← Int.mul_assoc]
    simp only [Int.mul_assoc, show ((256 : Nat) : Int) = 256 from rfl]
    omega
/-- The bytes and what is put behind them: noughts, and the length. -/
def padB (bs : List Int) : List Int := bs ++ List.replicate (7 - bs.length % 8) 0 ++ [((bs.length % 256 : Nat) : Int)]
theorem padB_len (bs : List Int) : (padB bs).length = 8 * (bs.length / 8 + 1) := by
  unfold padB
  simp
  omega
def mixQ (s : S4) : Int :=
  let t := rnd (rnd (rnd (rnd { s with c := bits .xor .u64 s.c 255 })))
  bits .xor .u64 (bits .xor .u64 (bits .xor .u64 t.a t.b) t.c) t.d
/-- THE PROGRAM'S MIX, WORD BY WORD. -/
theorem mixF_words (seal_ : Int) {bs : List Int} (hb : ∀ x ∈ bs, 0 ≤ x ∧ x < 256) : mixF seal_ bs = mixQ (wordsS (mixS seal_) (padB bs) (bs.length / 8 + 1)) := by
  have h := mixFrom_words (mixS seal_) hb bs.length (Nat.le_refl _)
  rw [List.take_length] at h
  unfold mixF mixEnd
  rw [h]
  obtain ⟨n, hn⟩ : ∃ n, bs.length = n := ⟨_, rfl⟩
  have hlen : ((bs.drop (8 * (n / 8))).take (n % 8)).length = n % 8 := by rw [List.length_take, List.length_drop]; omega
  obtain ⟨m, hm, hml⟩ := leN_nat (l := (bs.drop (8 * (n / 8))).take (n % 8)) (fun y hy => hb y (List.mem_of_mem_drop (List.mem_of_mem_take hy)))
  rw [hlen] at hml
  have hr : n % 8 < 8 := Nat.mod_lt _ (by omega)
  rw [hn]
  have hml7 : m < 256 ^ 7 := Nat.lt_of_lt_of_le hml (Nat.pow_le_pow_right (by omega) (by omega))
  have hlast : wordAt (padB bs) (n / 8) = bits .or .u64 (leN ((bs.drop (8 * (n / 8))).take (n % 8))) (IntKind.u64.wrap ((n : Int) * 2 ^ 56)) := by
    rw [hm, show (56 : Nat) = 8 * 7 from rfl, or_high (by omega) hml7 (by omega), Int.toNat_natCast]
    unfold wordAt padB
    rw [hn, List.append_assoc, List.drop_append_of_le_length (by omega), List.take_of_length_le (by simp; omega), leN_app, leN_app, leN_zeros]
    have ht : bs.drop (8 * (n / 8)) = (bs.drop (8 * (n / 8))).take (n % 8) := by rw [List.take_of_length_le (by rw [List.length_drop]; omega)]
    rw [ht, hm, hlen]
    have e1 : leN [((n % 256 : Nat) : Int)] = ((n % 256 : Nat) : Int) := by simp [leN]
    rw [e1, List.length_replicate]
    have e2 : (n * 256 ^ 7) % 18446744073709551616 = (n % 256) * 256 ^ 7 := by
      rw [show (18446744073709551616 : Nat) = 256 * 256 ^ 7 by rfl, Nat.mul_mod_mul_right]
    rw [e2]
    have e3 : ((256 ^ (7 - n % 8) : Nat) : Int) * ((256 ^ (n % 8) : Nat) : Int) = ((256 ^ 7 : Nat) : Int) := by
      rw [← Int.natCast_mul, ← Nat.pow_add, show 7 - n % 8 + n % 8 = 7 by omega]
    rw [Int.zero_add, Int.mul_assoc, e3]
    simp
  have hst : wordsS (mixS seal_) (padB bs) (n / 8) = wordsS (mixS seal_) bs (n / 8) := by
    unfold padB
    rw [List.append_assoc]
    exact wordsS_app _ _ _ _ (by omega)
  unfold mixQ
  rw [show wordsS (mixS seal_) (padB bs) (n / 8 + 1) = wrd (wordsS (mixS seal_) (padB bs) (n / 8)) (wordAt (padB bs) (n / 8)) from rfl, hst, hlast]
/-- What the document's inner loop makes of eight bytes, from the last one down: byte i and those above. -/
theorem leN_step {l : List Int} {i : Nat} {x : Int} (h : l[i]? = some x) : leN (l.drop i) = leN (l.drop (i + 1)) * 256 + x := by
  have hi := (List.getElem?_eq_some_iff.1 h).1
  rw [List.drop_eq_getElem_cons hi, (List.getElem?_eq_some_iff.1 h).2]
  rfl
end Go.Proofs.Ytakjiicnbocjeaa
