/- entrepotref05.May; entrepotref06: Good, May, Same. -/
import Derived.Test.YtlniekobijcanaaGreatBinsFullM2
import Derived.Deep.QuietTactic
import Derived.BigQuiet
namespace Go.Proofs.YtlniekobijcanaaGreat
open Go.RowKit Go.Maps
theorem r5May (w : World) (n : Int) : Calls Tryz.prog 120 #[.int .i64 n] w fun e w' => e = .returned (.bool (mayI n)) ∧ w = w' := by
  unfold mayI
  by_cases h1 : 0 ≤ n <;> by_cases h2 : n ≤ 1099511627776
  all_goals
    simp only [h1, h2, decide_true, decide_false, Bool.and_true, Bool.and_false]
    go_enter Tryz.func120, Tryz.ntmps120
    go_wp2
    go_ret
    exact ⟨rfl, rfl⟩
set_option maxRecDepth 100000 in
set_option maxHeartbeats 4000000 in
theorem r6Good (w : World) (s : Str) (hs : okS s) : Calls Tryz.prog 18 #[vS s] w fun e w' => e = .returned (.bool (goodB s)) ∧ w = w' := by
  obtain ⟨G, hG⟩ : ∃ G, goodB s = G := ⟨_, rfl⟩
  rw [hG]
  have HG := Lib.hid hG
  obtain ⟨B, hB⟩ : ∃ B, ByteArray.mk s.toArray = B := ⟨_, rfl⟩
  have hsz : B.size = s.length := by rw [← hB]; simp [ByteArray.size]
  have hge : ∀ k (h : k < B.size) (h' : k < s.length), B[k]'h = s[k]'h' := by subst hB; exact fun k h h' => rfl
  have HSZ := Lib.hid hsz; have HGE := Lib.hid hge; have HBB := Lib.hid hB
  have hs : (s.length : Int) ≤ 9223372036854775807 := by unfold okS maxLen at hs; omega
  rw [← hsz] at hs
  unfold vS
  rw [hB]
  clear hG hB hsz hge
  go_enter Tryz.func18, Tryz.ntmps18
  go_wp2_with fail
  go_loopw [3] (fun i wr => ∃ k : Nat, k ≤ B.size ∧ i = .int .i64 k ∧ wr = w ∧ ∀ j (h : j < s.length), j < k → goodC s[j] = true) (fun i _ => B.size - (intOf i).toNat)
  case atStart => exact ⟨0, Nat.zero_le _, rfl, rfl, fun j _ hj => by omega⟩
  case round =>
    obtain ⟨k, hk, rfl, rfl, hall⟩ := hrel
    have HA := Lib.hid hall
    clear hall
    by_cases hp : k < B.size
    · have hkl : k < s.length := by rw [← HSZ.out]; exact hp
      have hc := HGE.out k hp hkl
      have hpI : (k : Int) < B.size := by omega
      obtain ⟨x, hx⟩ : ∃ x : Nat, (B[k]'hp).toNat = x := ⟨_, rfl⟩
      have hix : ∀ W : World, (Instr.index 9 (.string B) (.int .i64 k)).run Tryz.prog W = .ok (.int .u8 (x : Int)) W := fun W => by
        rw [run_index_string W 9 B .i64 k Tryz.underlying9, dif_pos (by omega)]
        simp only [Int.toNat_natCast, hx]
      have hno : Hid (goodC s[k] = false → G = false) := Lib.hid (fun h => by rw [← HG.out]; exact goodB_bad hkl h)
      have hgc : Hid (goodC s[k] = ((decide (97 ≤ x) && decide (x ≤ 122)) || (decide (48 ≤ x) && decide (x ≤ 57)) || decide (x = 45))) := Lib.hid (by rw [← hx, hc]; rfl)
      have hstep : Hid (goodC s[k] = true → ∀ j (h : j < s.length), j < k + 1 → goodC s[j] = true) := Lib.hid (fun hg j h hj => by
          by_cases e : j = k
          · subst e; exact hg
          · exact HA.out j h (by omega))
      clear hc hx
      rcases (by omega : (97 ≤ x ∧ x ≤ 122) ∨ x < 48 ∧ x ≠ 45 ∨ x = 45 ∨ (48 ≤ x ∧ x ≤ 57) ∨ (57 < x ∧ x < 97) ∨ 122 < x) with h | h | h | h | h | h
      · have hy := Lib.hid (hstep.out (by rw [hgc.out]; simp [h.1, h.2]))
        obtain ⟨h1, h2⟩ := h
        have q1 : (97 : Int) ≤ x := by omega
        have q2 : (x : Int) ≤ 122 := by omega
        go_wp2_with fail
        go_roundw
        case rel => exact ⟨k + 1, by omega, by go_num, trivial, hy.out⟩
        case measure => simp [intOf]; omega
      · have hn := Lib.hid (hno.out (by rw [hgc.out]; simp; omega))
        obtain ⟨h1, h2⟩ := h
        have q1 : ¬ (48 : Int) ≤ x := by omega
        have q2 : ((x : Int) == 45) = false := by simp; omega
        have q3 : ¬ (97 : Int) ≤ x := by omega
        go_wp2_with fail
        go_ret
        exact ⟨by rw [hn.out]; rfl, rfl⟩
      · have hy := Lib.hid (hstep.out (by rw [hgc.out]; simp [h]))
        subst h
        go_wp2_with fail
        go_roundw
        case rel => exact ⟨k + 1, by omega, by go_num, trivial, hy.out⟩
        case measure => simp [intOf]; omega
      · have hy := Lib.hid (hstep.out (by rw [hgc.out]; simp [h.1, h.2]))
        obtain ⟨h1, h2⟩ := h
        have q1 : (48 : Int) ≤ x := by omega
        have q2 : (x : Int) ≤ 57 := by omega
        have q3 : ¬ (97 : Int) ≤ x := by omega
        go_wp2_with fail
        go_roundw
        case rel => exact ⟨k + 1, by omega, by go_num, trivial, hy.out⟩
        case measure => simp [intOf]; omega
      · have hn := Lib.hid (hno.out (by rw [hgc.out]; simp; omega))
        obtain ⟨h1, h2⟩ := h
        have q1 : (48 : Int) ≤ x := by omega
        have q2 : ¬ (x : Int) ≤ 57 := by omega
        have q3 : ¬ (97 : Int) ≤ x := by omega
        have q4 : ((x : Int) == 45) = false := by simp; omega
        go_wp2_with fail
        go_ret
        exact ⟨by rw [hn.out]; rfl, rfl⟩
      · have hn := Lib.hid (hno.out (by rw [hgc.out]; simp; omega))
        have q1 : (48 : Int) ≤ x := by omega
        have q2 : ¬ (x : Int) ≤ 57 := by omega
        have q3 : (97 : Int) ≤ x := by omega
        have q5 : ¬ (x : Int) ≤ 122 := by omega
        have q4 : ((x : Int) == 45) = false := by simp; omega
        go_wp2_with fail
        go_ret
        exact ⟨by rw [hn.out]; rfl, rfl⟩
    · obtain rfl : k = B.size := by omega
      have hg : Hid (G = (decide (0 < B.size) && decide (B.size ≤ 16))) := Lib.hid (by
        rw [← HG.out]
        have : s.all goodC = true := List.all_eq_true.2 (fun c hc => by
          obtain ⟨i, hi, rfl⟩ := List.getElem_of_mem hc
          exact HA.out i hi (by rw [HSZ.out]; exact hi))
        unfold goodB
        rw [this, HSZ.out]; rfl)
      obtain ⟨m, hm⟩ : ∃ m, B.size = m := ⟨_, rfl⟩
      rw [hm] at hg
      rcases (by omega : m < 1 ∨ (1 ≤ m ∧ m ≤ 16) ∨ 16 < m) with h | ⟨h, h'⟩ | h
      · have q1 : ¬ (1 : Int) ≤ m := by omega
        go_wp2_with fail
        go_ret
        exact ⟨by rw [hg.out]; simp; omega, rfl⟩
      · have q1 : (1 : Int) ≤ m := by omega
        have q2 : (m : Int) ≤ 16 := by omega
        go_wp2_with fail
        go_ret
        exact ⟨by rw [hg.out]; simp; omega, rfl⟩
      · have q1 : (1 : Int) ≤ m := by omega
        have q2 : ¬ (m : Int) ≤ 16 := by omega
        go_wp2_with fail
        go_ret
        exact ⟨by rw [hg.out]; simp; omega, rfl⟩
end Go.Proofs.YtlniekobijcanaaGreat
