/- backoff: for every input BackoffWaits returns true and leaves its input as it was; no condition. -/
import Derived.Test.YtjkhheolklnmaaaRows
import Derived.Test.YtjkhheolklnmaaaBackI
import Derived.Test.YtjkhheolklnmaaaLawKit
namespace Go.Proofs.Ytjkhheolklnmaaa.backoffWaits
open Go.ChangeShapes Go.WideShapes Go.ChangeAt Go.RowKit
set_option maxHeartbeats 1000000 in
theorem walk (now b m t : Int) (w : World) (h0 : okI now) (h1 : okI b) (h2 : okI m) (h3 : okI t) :
    Calls Try.prog 3 #[.int .i64 now, .int .i64 b, .int .i64 m, .int .i64 t] w fun e w' => e = .returned (.bool true) ∧ Below w.heap.size w w' := by
  unfold okI at *
  have hlive := bLives w
  have hw := fun t => wait_pos b m t
  have hw2 : ∀ t, wait b m t ≤ 9223372036854775807 := fun t => by unfold wait; split <;> omega
  have hn : ∀ t, next now b m t = if now + wait b m t > 9223372036854775807 then 9223372036854775807 else now + wait b m t := fun _ => rfl
  have key : ∀ t', (t' = t ∨ t' = 5000) → t' ≤ 9223372036854775807 → (5000 < t ∧ t' = 5000 ∨ ¬ 5000 < t ∧ t' = t) → ∀ (x y : Int), wait b m t' = x → next now b m t' = y → 0 ≤ x → x ≤ 9223372036854775807 →
      (9223372036854775807 - x < now ∧ y = 9223372036854775807 ∨ now ≤ 9223372036854775807 - x ∧ y = now + x) → 
      Calls Try.prog 3 #[.int .i64 now, .int .i64 b, .int .i64 m, .int .i64 t] w fun e w' => e = .returned (.bool true) ∧ Below w.heap.size w w' := by
    intro t' ht' hb' hc x y hx hy hx0 hx1 hxy
    have c1 := fun W => rWait b m t' W h2.2 hb'
    have c2 := fun W => bWait b m t' W h2.2 hb'
    have c3 := fun W => bNext now b m t' W h0.1 h2.2 hb' h0.2
    rw [hx] at c1 c2
    rw [hy] at c3
    have C1 := Lib.hid c1; have C2 := Lib.hid c2; have C3 := Lib.hid c3; have HL := Lib.hid hlive
    clear c1 c2 c3 hlive hx hy hw hw2 hn
    rcases hc with ⟨hgt, rfl⟩ | ⟨hle, rfl⟩ <;> rcases hxy with ⟨hlt, rfl⟩ | ⟨hge, rfl⟩
    all_goals
      clear ht' hb'
      go_enter Try.func3, Try.ntmps3
      go_wp2_with (first
        | (go_at_call 8; refine (C1.out _).mono ?_; rintro e w' ⟨rfl, rfl⟩)
        | (go_at_call 9; refine HL.out.mono ?_; rintro e w' ⟨rfl, hb⟩)
        | (go_at_call 10; refine (C2.out _).mono ?_; rintro e w' ⟨rfl, rfl⟩)
        | (go_at_call 11; refine (C3.out _).mono ?_; rintro e w' ⟨rfl, rfl⟩))
      go_ret
      exact ⟨rfl, hb⟩
  have hx0 := hw (if 5000 < t then 5000 else t)
  have hx1 := hw2 (if 5000 < t then 5000 else t)
  have hy := hn (if 5000 < t then 5000 else t)
  refine key (if 5000 < t then 5000 else t) (by split <;> simp) (by split <;> omega) (by split <;> simp_all) _ _ rfl rfl hx0 hx1 ?_
  rw [hy]
  generalize wait b m (if 5000 < t then 5000 else t) = X at *
  split <;> omega
set_option maxRecDepth 100000 in
theorem lifted (os : Os) (started : os.Started) (H : Type) (enc : TypeId × Value → H) :
    ReturnsInHanded {} Try.checked os 3 .any (Rows.backoffWaitsSpec.pre6 enc Try.prog Try.f3 Rows.backoffWaitsRow.domain false) (Rows.backoffWaitsSpec.post enc Try.prog Try.f3 false true false false) := by
  refine returnsInHanded_of_change (C := Try.checked) own started (by kernel_rfl) Try.func3
    (ChangeSpec.witness6 (enc := enc) (C := Try.checked) false ⟨#[], #[.int .i64 0, .int .i64 0, .int .i64 0, .int .i64 0], []⟩ 8 (by kernel_rfl) (by kernel_rfl) (by kernel_rfl) (by kernel_rfl)) ?_
  intro W base args ds gs before hval0 hW hcnd _
  have hval : ∀ (j : Nat) t v, Try.f3.params[j]? = some t → args[j]? = some v → Value.okWide Try.prog W .any base t v := hval0
  have hW' := hW
  obtain ⟨p, q, hA0, hV, rfl, hfz, hnd⟩ := hW
  have hA : DataW.TrodAll enc Try.prog W 0 (fun _ => true) true Try.f3.params.toList args.toList ds p := hA0
  rw [Try.params3] at hA hval
  obtain ⟨v0, vs0, d0, ds0, p0, q0, hargs, rfl, rfl, h0, r0⟩ := trodAll_cons hA
  obtain ⟨v1, vs1, d1, ds1, p1, q1, rfl, rfl, rfl, h1, r1⟩ := trodAll_cons r0
  obtain ⟨v2, vs2, d2, ds2, p2, q2, rfl, rfl, rfl, h2, r2⟩ := trodAll_cons r1
  obtain ⟨v3, vs3, d3, ds3, p3, q3, rfl, rfl, rfl, h3, r3⟩ := trodAll_cons r2
  obtain ⟨rfl, rfl, rfl⟩ := trodAll_nil r3
  obtain rfl : args = #[v0, v1, v2, v3] := by cases args; simp_all
  obtain ⟨rfl, rfl⟩ := trodVars_none hV
  obtain ⟨a0, rfl, rfl, rfl, w0⟩ := open_int Try.underlying3 (hval 0 3 v0 rfl rfl) h0
  obtain ⟨a1, rfl, rfl, rfl, w1⟩ := open_int Try.underlying3 (hval 1 3 v1 rfl rfl) h1
  obtain ⟨a2, rfl, rfl, rfl, w2⟩ := open_int Try.underlying3 (hval 2 3 v2 rfl rfl) h2
  obtain ⟨a3, rfl, rfl, rfl, w3⟩ := open_int Try.underlying3 (hval 3 3 v3 rfl rfl) h3
  clear hA0 hval0
  simp only [List.append_nil] at hW'
  refine (walk a0 a1 a2 a3 W (wf_okI.1 w0) (wf_okI.1 w1) (wf_okI.1 w2) (wf_okI.1 w3)).mono fun e W' ⟨he, hg⟩ => ?_
  subst he
  exact ⟨_, rfl, law_post laidOut (by kernel_rfl) rfl Try.underlying4 hW' rfl rfl hg⟩
theorem over : Rows.backoffWaitsRow.holds Try.pinned (OpenSpec.ofChange Rows.backoffWaitsSpec) :=
  OpenClaim.holds_of_wide 3 Try.f3 rfl rfl rfl rfl rfl rfl rfl ⟨rfl, rfl, rfl, rfl, rfl⟩ rfl rfl rfl rfl rfl (by kernel_rfl) Try.func3 (by kernel_rfl)
    (of_decide_eq_true (by kernel_rfl)) (by unfold Func.isWrapper; first | (rw [if_pos (by decide +kernel)]; kernel_rfl) | (rw [if_neg (by decide +kernel)]; exact ⟨rfl, rfl⟩))
    (fun os started H enc _ => lifted os started H enc)
theorem proved : Rows.BackoffWaitsSaid :=
  over
#print axioms proved
end Go.Proofs.Ytjkhheolklnmaaa.backoffWaits
