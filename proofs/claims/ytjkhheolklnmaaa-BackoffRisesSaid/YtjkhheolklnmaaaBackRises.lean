/- backoff: for every input BackoffRises returns true and leaves its input as it was; no condition. -/
import Derived.Test.YtjkhheolklnmaaaRows
import Derived.Test.YtjkhheolklnmaaaBackI
import Derived.Test.YtjkhheolklnmaaaLawKit
namespace Go.Proofs.Ytjkhheolklnmaaa.backoffRises
open Go.ChangeShapes Go.WideShapes Go.ChangeAt Go.RowKit
theorem dbl_pow {b : Int} (h : 1 ≤ b) : ∀ k : Nat, (2 : Int) ^ k ≤ dbl b k
  | 0 => h
  | k + 1 => by have := dbl_pow h k; simp only [dbl, Int.pow_succ]; omega
theorem wait_up {b m t : Int} (h : ¬ (b < 1 ∨ m < b ∨ t < 0)) : b ≤ wait b m t ∧ wait b m t ≤ wait b m (t + 1) ∧ wait b m (t + 1) ≤ m ∧ wait b m t ≤ m ∧ (t < 63 ∨ m ≤ 9223372036854775807 → t < 63 ∨ wait b m t = m) := by
  have hb : (1 : Int) ≤ b := by omega
  have h1 := dbl_le hb 0 t.toNat
  have h2 := dbl_le hb t.toNat 1
  rw [show t.toNat + 1 = (t + 1).toNat from by omega] at h2
  simp only [Nat.zero_add, dbl] at h1
  rw [wait, if_neg h, wait, if_neg (by omega)]
  refine ⟨by omega, by omega, by omega, by omega, fun hm => ?_⟩
  by_cases h63 : t < 63
  · exact .inl h63
  · have h3 := dbl_mono hb (k := 63) (l := t.toNat) (by omega)
    have h4 := dbl_pow hb 63
    exact .inr (by omega)
set_option maxHeartbeats 1000000 in
theorem walk (b m t : Int) (w : World) (h1 : okI b) (h2 : okI m) (h3 : okI t) :
    Calls Try.prog 4 #[.int .i64 b, .int .i64 m, .int .i64 t] w fun e w' => e = .returned (.bool true) ∧ Below w.heap.size w w' := by
  unfold okI at *
  have HL := Lib.hid (bLives w)
  by_cases hc : b < 1 ∨ m < b ∨ t < 0
  · have c1 := fun W => bWait b m t W h2.2 h3.2
    rw [wait_no hc] at c1
    have C1 := Lib.hid c1
    clear c1
    by_cases hb : b < 1 <;> by_cases hm : m < b <;> by_cases ht : t < 0
    all_goals
      first
      | (exfalso; omega)
      | (go_enter Try.func4, Try.ntmps4
         go_wp2_with (first
          | (go_at_call 9; refine HL.out.mono ?_; rintro e w' ⟨rfl, hbe⟩)
          | (go_at_call 10; refine (C1.out _).mono ?_; rintro e w' ⟨rfl, rfl⟩))
         go_ret
         exact ⟨rfl, hbe⟩)
  · obtain ⟨u1, u2, u3, u4, u5⟩ := wait_up hc
    have u6 := u5 (.inr h2.2)
    clear u5
    have hb1 : 1 ≤ b := by omega
    have hb2 : b ≤ m := by omega
    have hb3 : 0 ≤ t := by omega
    clear hc
    by_cases h62 : t < 4611686018427387904
    · by_cases h63 : t < 63
      all_goals
        go_enter Try.func4, Try.ntmps4
        go_wp2_with (first
          | (go_at_call 9; refine HL.out.mono ?_; rintro e w' ⟨rfl, hbe⟩)
          | (go_at_call 10; refine (bWait b m _ _ h2.2 (by omega)).mono ?_; rintro e w' ⟨rfl, rfl⟩))
        go_ret
        refine ⟨?_, hbe⟩
        first
        | rfl
        | (show Ending.returned (Value.bool (decide (t < 63) || wait b m t == m)) = _
           rw [show (decide (t < 63) || wait b m t == m) = true from by simp; omega])
    · have C1 := Lib.hid (fun W => bWait b m t W h2.2 h3.2)
      generalize wait b m t = x at *
      clear u2 u3
      have h63 : 63 ≤ t := by omega
      have u6 : x = m := by omega
      subst u6
      go_enter Try.func4, Try.ntmps4
      go_wp2_with (first
          | (go_at_call 9; refine HL.out.mono ?_; rintro e w' ⟨rfl, hbe⟩)
          | (go_at_call 10; refine (C1.out _).mono ?_; rintro e w' ⟨rfl, rfl⟩))
      go_ret
      exact ⟨rfl, hbe⟩
set_option maxRecDepth 100000 in
theorem lifted (os : Os) (started : os.Started) (H : Type) (enc : TypeId × Value → H) :
    ReturnsInHanded {} Try.checked os 4 .any (Rows.backoffRisesSpec.pre6 enc Try.prog Try.f4 Rows.backoffRisesRow.domain false) (Rows.backoffRisesSpec.post enc Try.prog Try.f4 false true false false) := by
  refine returnsInHanded_of_change (C := Try.checked) own started (by kernel_rfl) Try.func4
    (ChangeSpec.witness6 (enc := enc) (C := Try.checked) false ⟨#[], #[.int .i64 0, .int .i64 0, .int .i64 0], []⟩ 8 (by kernel_rfl) (by kernel_rfl) (by kernel_rfl) (by kernel_rfl)) ?_
  intro W base args ds gs before hval0 hW hcnd _
  have hval : ∀ (j : Nat) t v, Try.f4.params[j]? = some t → args[j]? = some v → Value.okWide Try.prog W .any base t v := hval0
  have hW' := hW
  obtain ⟨p, q, hA0, hV, rfl, hfz, hnd⟩ := hW
  have hA : DataW.TrodAll enc Try.prog W 0 (fun _ => true) true Try.f4.params.toList args.toList ds p := hA0
  rw [Try.params4] at hA hval
  obtain ⟨v0, vs0, d0, ds0, p0, q0, hargs, rfl, rfl, h0, r0⟩ := trodAll_cons hA
  obtain ⟨v1, vs1, d1, ds1, p1, q1, rfl, rfl, rfl, h1, r1⟩ := trodAll_cons r0
  obtain ⟨v2, vs2, d2, ds2, p2, q2, rfl, rfl, rfl, h2, r2⟩ := trodAll_cons r1
  obtain ⟨rfl, rfl, rfl⟩ := trodAll_nil r2
  obtain rfl : args = #[v0, v1, v2] := by cases args; simp_all
  obtain ⟨rfl, rfl⟩ := trodVars_none hV
  obtain ⟨a0, rfl, rfl, rfl, w0⟩ := open_int Try.underlying3 (hval 0 3 v0 rfl rfl) h0
  obtain ⟨a1, rfl, rfl, rfl, w1⟩ := open_int Try.underlying3 (hval 1 3 v1 rfl rfl) h1
  obtain ⟨a2, rfl, rfl, rfl, w2⟩ := open_int Try.underlying3 (hval 2 3 v2 rfl rfl) h2
  clear hA0 hval0
  simp only [List.append_nil] at hW'
  refine (walk a0 a1 a2 W (wf_okI.1 w0) (wf_okI.1 w1) (wf_okI.1 w2)).mono fun e W' ⟨he, hg⟩ => ?_
  subst he
  exact ⟨_, rfl, law_post laidOut (by kernel_rfl) rfl Try.underlying4 hW' rfl rfl hg⟩
theorem over : Rows.backoffRisesRow.holds Try.pinned (OpenSpec.ofChange Rows.backoffRisesSpec) :=
  OpenClaim.holds_of_wide 4 Try.f4 rfl rfl rfl rfl rfl rfl rfl ⟨rfl, rfl, rfl, rfl, rfl⟩ rfl rfl rfl rfl rfl (by kernel_rfl) Try.func4 (by kernel_rfl)
    (of_decide_eq_true (by kernel_rfl)) (by unfold Func.isWrapper; first | (rw [if_pos (by decide +kernel)]; kernel_rfl) | (rw [if_neg (by decide +kernel)]; exact ⟨rfl, rfl⟩))
    (fun os started H enc _ => lifted os started H enc)
theorem proved : Rows.BackoffRisesSaid :=
  over
#print axioms proved
end Go.Proofs.Ytjkhheolklnmaaa.backoffRises
