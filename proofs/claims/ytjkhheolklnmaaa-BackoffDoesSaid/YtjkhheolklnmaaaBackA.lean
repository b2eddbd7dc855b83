/- backoff.Wait, Next; ref.Wait -/
import Derived.Test.YtjkhheolklnmaaaKitA
import Derived.Test.YtjkhheolklnmaaaPlainA
namespace Go.Proofs.Ytjkhheolklnmaaa
open Go.RowKit
set_option maxHeartbeats 400000 in
theorem bWait (b m t : Int) (w : World) (h1 : m ≤ 9223372036854775807) (h2 : t ≤ 9223372036854775807) :
    Calls Try.prog 10 #[.int .i64 b, .int .i64 m, .int .i64 t] w fun e w' => e = .returned (.int .i64 (wait b m t)) ∧ w = w' := by
  by_cases hb : b < 1
  · go_enter Try.func10, Try.ntmps10
    go_wp2
    go_ret
    exact ⟨ret_int (wait_no (.inl hb)).symm, rfl⟩
  by_cases hm : m < b
  · go_enter Try.func10, Try.ntmps10
    go_wp2
    go_ret
    exact ⟨ret_int (wait_no (.inr (.inl hm))).symm, rfl⟩
  by_cases ht : t < 0
  · go_enter Try.func10, Try.ntmps10
    go_wp2
    go_ret
    exact ⟨ret_int (wait_no (.inr (.inr ht))).symm, rfl⟩
  go_enter Try.func10, Try.ntmps10
  go_wp2
  go_loop [2, 7] (fun tr x => ∃ k : Nat, (k : Int) ≤ t ∧ tr = .int .i64 (t - k) ∧ x = .int .i64 (dbl b k) ∧ dbl b k ≤ m) (fun tr _ => (intOf tr).toNat)
  case atStart => exact ⟨0, by omega, by simp, rfl, by simp [dbl]; omega⟩
  case round =>
    obtain ⟨k, hk, rfl, rfl, hkm⟩ := hrel
    have hp := dbl_pos (b := b) (by omega) k
    go_wp2
    · have h : m / 2 < dbl b k := by assumption
      have hlt : (k : Int) < t := by assumption
      go_ret
      exact ⟨ret_int (wait_top (k := k + 1) (by omega) (by omega) (by omega) (by simp only [dbl]; omega)).symm, rfl⟩
    · have h : dbl b k ≤ m / 2 := by assumption
      have hlt : (k : Int) < t := by assumption
      go_round
      case rel => exact ⟨k + 1, by omega, val_int (by omega), val_int (by simp only [dbl]; omega), by simp only [dbl]; omega⟩
      case measure => simp [intOf]; omega
    · have h : m ≤ dbl b k := by assumption
      go_ret
      exact ⟨ret_int (by rw [wait_top (k := k) (by omega) (by omega) (by omega) h]; omega), rfl⟩
    · have h : t ≤ k := by assumption
      go_ret
      exact ⟨ret_int (by rw [wait_at (k := k) (by omega) (by omega) (by omega) (by omega)]), rfl⟩
def next (now b m t : Int) : Int := if now + wait b m t > 9223372036854775807 then 9223372036854775807 else now + wait b m t
set_option maxHeartbeats 400000 in
theorem bNext (now b m t : Int) (w : World) (h0 : -9223372036854775808 ≤ now) (h1 : m ≤ 9223372036854775807) (h2 : t ≤ 9223372036854775807) (h3 : now ≤ 9223372036854775807):
    Calls Try.prog 11 #[.int .i64 now, .int .i64 b, .int .i64 m, .int .i64 t] w fun e w' => e = .returned (.int .i64 (next now b m t)) ∧ w = w' := by
  have hp := wait_pos b m t
  have hl : wait b m t ≤ 9223372036854775807 := by unfold wait; split <;> omega
  have e : next now b m t = if now + wait b m t > 9223372036854775807 then 9223372036854775807 else now + wait b m t := rfl
  have E := Lib.hid e; clear e
  generalize hx : wait b m t = x at *
  by_cases hc : 9223372036854775807 - x < now
  all_goals
    go_enter Try.func11, Try.ntmps11
    go_wp2_with (go_at_call 10; refine (bWait b m t _ h1 h2).mono ?_; rintro e w' ⟨rfl, rfl⟩)
    go_ret
    exact ⟨ret_int (by rw [E.out]; split <;> omega), rfl⟩
set_option maxHeartbeats 400000 in
theorem rWait (b m t : Int) (w : World) (h1 : m ≤ 9223372036854775807) (h2 : t ≤ 9223372036854775807) :
    Calls Try.prog 8 #[.int .i64 b, .int .i64 m, .int .i64 t] w fun e w' => e = .returned (.int .i64 (wait b m t)) ∧ w = w' := by
  by_cases hb : b < 1
  · go_enter Try.func8, Try.ntmps8
    go_wp2
    go_ret
    exact ⟨ret_int (wait_no (.inl hb)).symm, rfl⟩
  by_cases hm : m < b
  · go_enter Try.func8, Try.ntmps8
    go_wp2
    go_ret
    exact ⟨ret_int (wait_no (.inr (.inl hm))).symm, rfl⟩
  by_cases ht : t < 0
  · go_enter Try.func8, Try.ntmps8
    go_wp2
    go_ret
    exact ⟨ret_int (wait_no (.inr (.inr ht))).symm, rfl⟩
  go_enter Try.func8, Try.ntmps8
  go_wp2
  go_loop [7, 8] (fun x i => ∃ k : Nat, (k : Int) ≤ t ∧ i = .int .i64 k ∧ x = .int .i64 (dbl b k) ∧ dbl b k ≤ m) (fun _ i => (t - intOf i).toNat)
  case atStart => exact ⟨0, by omega, by simp, rfl, by simp [dbl]; omega⟩
  case round =>
    obtain ⟨k, hk, rfl, rfl, hkm⟩ := hrel
    have hp := dbl_pos (b := b) (by omega) k
    go_wp2
    · have h : m - dbl b k < dbl b k := by assumption
      have hlt : (k : Int) < t := by assumption
      go_ret
      exact ⟨ret_int (wait_top (k := k + 1) (by omega) (by omega) (by omega) (by simp only [dbl]; omega)).symm, rfl⟩
    · have h : dbl b k ≤ m - dbl b k := by assumption
      have hlt : (k : Int) < t := by assumption
      go_round
      case rel => exact ⟨k + 1, by omega, by go_num, val_int (by simp only [dbl]; omega), by simp only [dbl]; omega⟩
      case measure => simp [intOf]; omega
    · have h : t ≤ k := by assumption
      go_ret
      exact ⟨ret_int (by rw [wait_at (k := k) (by omega) (by omega) (by omega) (by omega)]), rfl⟩
end Go.Proofs.Ytjkhheolklnmaaa
