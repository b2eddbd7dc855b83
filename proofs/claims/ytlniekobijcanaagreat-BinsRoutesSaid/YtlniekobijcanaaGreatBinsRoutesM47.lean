/- bins' laws: samePlaces. -/
import Derived.Test.YtlniekobijcanaaGreatBinsRoutesM36
import Derived.Test.YtlniekobijcanaaGreatBinsRoutesM2
import Derived.Test.YtlniekobijcanaaGreatBinsRoutesM4
import Derived.Deep.QuietTactic
namespace Go.Proofs.YtlniekobijcanaaGreat
open Go.RowKit Go.Maps
theorem pv_ext {p q : PV} (h1 : p.b = q.b) (h2 : p.g = q.g) (h3 : p.n = q.n) : p = q := by
  obtain ⟨a, b, c⟩ := p
  obtain ⟨d, e, f⟩ := q
  dsimp only at h1 h2 h3
  rw [h1, h2, h3]
set_option maxRecDepth 100000 in
set_option maxHeartbeats 8000000 in
theorem lSame (w : World) (v1 v2 : Value) (A B : List PV) (h1 : Pl w v1 A) (h2 : Pl w v2 B) : Calls Tryz.prog 14 #[v1, v2] w fun e w' => ∃ r, e = .returned (.bool r) ∧ (r = true ↔ A = B) ∧ Fr (fun _ => False) w w' := by
  obtain ⟨a1, c1, rfl⟩ := h1.sl
  obtain ⟨a2, c2, rfl⟩ := h2.sl
  have H1 := Lib.hid h1; have H2 := Lib.hid h2
  have hl1 := h1.len; have hl2 := h2.len
  obtain ⟨N, hN⟩ : ∃ N, A.length = N := ⟨_, rfl⟩
  obtain ⟨M, hM⟩ : ∃ M, B.length = M := ⟨_, rfl⟩
  have HN := Lib.hid hN; have HM := Lib.hid hM
  rw [hN] at hl1 ⊢; rw [hM] at hl2 ⊢
  obtain ⟨PP, hPP⟩ : ∃ PP : Ending → World → Prop, (fun e w' => ∃ r, e = .returned (.bool r) ∧ (r = true ↔ A = B) ∧ Fr (fun _ => False) w w') = PP := ⟨_, rfl⟩
  have HPP := Lib.hid hPP
  rw [hPP]
  clear h1 h2 hN hM hPP
  by_cases e : N = M
  · subst e
    go_enter Tryz.func14, Tryz.ntmps14
    go_wp2_with fail
    go_loopw [5] (fun vi wr => ∃ k : Nat, k ≤ N ∧ vi = .int .i64 k ∧ (∀ q, q < k → A[q]? = B[q]?) ∧ Fr (fun _ => False) w wr) (fun vi _ => N - (intOf vi).toNat)
    case atStart => exact ⟨0, Nat.zero_le _, rfl, fun q hq => by omega, Fr.refl _ _⟩
    case round =>
      obtain ⟨k, hk, rfl, hq, hfr⟩ := hrel
      have HQ := Lib.hid hq; have HFR := Lib.hid hfr
      by_cases hlt : k < N
      · obtain ⟨p, hp⟩ : ∃ p, A[k]? = some p := ⟨A[k]'(by rw [HN.out]; exact hlt), List.getElem?_eq_getElem _⟩
        obtain ⟨q, hq'⟩ : ∃ q, B[k]? = some q := ⟨B[k]'(by rw [HM.out]; exact hlt), List.getElem?_eq_getElem _⟩
        obtain ⟨ad, rfl, -, z0, zs⟩ := (H1.out.fr0 okPvKeeps hfr).at_ hp
        obtain ⟨bd, rfl, -, y0, ys⟩ := (H2.out.fr0 okPvKeeps hfr).at_ hq'
        have x0 := z0 (.int .i64 p.b) rfl
        have x1 := zs 0 (vS p.g) rfl
        have x2 := zs 1 (.int .i64 p.n) rfl
        have u0 := y0 (.int .i64 q.b) rfl
        have u1 := ys 0 (vS q.g) rfl
        have u2 := ys 1 (.int .i64 q.n) rfl
        dsimp only [Nat.zero_add, Nat.reduceAdd] at x0 x1 x2 u0 u1 u2
        have hkI : (k : Int) < N := by omega
        have hne := fun W => neq_place W p q
        obtain ⟨b, hb⟩ : ∃ b, (decide (p.b = q.b) && (decide (p.g = q.g) && decide (p.n = q.n))) = b := ⟨_, rfl⟩
        rw [hb] at hne
        have HP := Lib.hid hp; have HQ' := Lib.hid hq'
        cases b with
        | true =>
          have hnx : Hid (∀ j, j < k + 1 → A[j]? = B[j]?) := Lib.hid (fun j hj => by
            by_cases e2 : j = k
            · subst e2
              simp only [Bool.and_eq_true, decide_eq_true_eq] at hb
              rw [HP.out, HQ'.out, pv_ext hb.1 hb.2.1 hb.2.2]
            · exact HQ.out j (by omega))
          clear hp hq' z0 zs y0 ys hb hq hfr
          have x0 := FrW.cell x0; have x1 := FrW.cell x1; have x2 := FrW.cell x2; have u0 := FrW.cell u0; have u1 := FrW.cell u1; have u2 := FrW.cell u2
          go_wp2_with fail
          refine wp_region_fr (by kernel_rfl) (by kernel_rfl) ?_
          repeat (go_big_quiet_step (fail))
          refine wpQuiet_nil ?_
          rintro V ⟨⟨_, hV⟩, rfl⟩
          go_wp2_with fail
          go_roundw
          case rel => exact ⟨k + 1, by omega, by go_num, hnx.out, HFR.out.trans hV⟩
          case measure => simp [intOf]; omega
        | false =>
          have hno : Hid (¬ A = B) := Lib.hid (fun e2 => by
            have e3 := HP.out
            rw [e2, HQ'.out] at e3
            injection e3 with e3
            rw [e3] at hb
            simp at hb)
          clear hp hq' z0 zs y0 ys hb hq hfr
          have x0 := FrW.cell x0; have x1 := FrW.cell x1; have x2 := FrW.cell x2; have u0 := FrW.cell u0; have u1 := FrW.cell u1; have u2 := FrW.cell u2
          go_wp2_with fail
          refine wp_region_fr (by kernel_rfl) (by kernel_rfl) ?_
          repeat (go_big_quiet_step (fail))
          refine wpQuiet_nil ?_
          rintro V ⟨⟨_, hV⟩, rfl⟩
          go_wp2_with fail
          rw [← HPP.out]
          exact ⟨false, rfl, by simpa using hno.out, HFR.out.trans hV⟩
      · obtain rfl : k = N := by omega
        have hkI : ¬ (k : Int) < k := by omega
        have hyes : Hid (A = B) := Lib.hid (List.ext_getElem? (fun j => by
          by_cases hj : j < k
          · exact hq j hj
          · rw [List.getElem?_eq_none (by rw [HN.out]; omega), List.getElem?_eq_none (by rw [HM.out]; omega)]))
        clear hq hfr
        go_wp2_with fail
        rw [← HPP.out]
        exact ⟨true, rfl, by simpa using hyes.out, HFR.out⟩
  · have b1 : ((N : Int) != (M : Int)) = true := by simp; omega
    have hno : Hid (¬ A = B) := Lib.hid (fun e2 => e (by rw [← HN.out, ← HM.out, e2]))
    clear e
    go_enter Tryz.func14, Tryz.ntmps14
    go_wp2_with fail
    rw [← HPP.out]
    exact ⟨false, rfl, by simpa using hno.out, Fr.refl _ _⟩
end Go.Proofs.YtlniekobijcanaaGreat
