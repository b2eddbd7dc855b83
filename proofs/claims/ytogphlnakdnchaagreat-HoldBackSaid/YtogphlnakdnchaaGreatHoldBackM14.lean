/- hold's laws: do: that it answers (written by wip/tools/bkB8.py). -/
import Derived.Test.YtogphlnakdnchaaGreatHoldBackM13
import Derived.Test.YtogphlnakdnchaaGreatHoldBackM12
import Derived.Deep.RegionHeld3
import Derived.Deep.RegionWith
namespace Go.Proofs.YtogphlnakdnchaaGreat
open Go.RowKit Go.Maps
structure TwZ (w : World) (g gx k : Nat) (e : Ending) (w' : World) : Prop where
  ex : ∃ b A le u M, e = .returned (.bool b) ∧ Tw w w' g gx A le (k + 1) 0 none u M
set_option maxRecDepth 100000 in
set_option maxHeartbeats 32000000 in
theorem lDo (w W : World) (g gx k : Nat) (A : Stk) (le : Hes) (u : Value) (M : Its) (op : HOp) (h : Tw w W g gx A le k 0 none u M) (ho : okI op.o) (hi : Il w op.l op.its) (hs : okS op.g) (hl : op.its.length ≤ 100) (hk : k ≤ 900) :
    Calls Tryz.prog 16 #[.pointer (some ⟨g, 0, none⟩), .pointer (some ⟨gx, 0, none⟩), .agg (hopC op)] W (TwZ w g gx k) := by
  obtain ⟨K, o, lv, its, dk, gd, nn⟩ := op
  dsimp only at ho hi hs hl
  obtain ⟨la, lc, rfl⟩ := hi.sl
  obtain ⟨N, hN⟩ : ∃ N, its.length = N := ⟨_, rfl⟩
  unfold hopC
  dsimp only
  rw [hN] at hi hl ⊢
  have hNI : (N : Int) ≤ 100 := by omega
  have HI := Lib.hid hi; have HO := Lib.hid ho; have HS := Lib.hid hs; have HN := Lib.hid hN
  have HK := Lib.hid (show k ≤ 1000 by omega)
  obtain ⟨ob, hob⟩ : ∃ ob : Obj, ob = .cells #[.int .i64 K, .int .i64 o, .slice la N lc, .int .i64 dk, vS gd, .int .i64 nn] 29 := ⟨_, rfl⟩
  obtain ⟨n1, hn1⟩ : ∃ n, W.heap.size = n := ⟨_, rfl⟩
  obtain ⟨W0, hW0⟩ : ∃ W0, W.alloc (.cells #[.int .i64 K, .int .i64 o, .slice la N lc, .int .i64 dk, vS gd, .int .i64 nn] 29) = W0 := ⟨_, rfl⟩
  have h0 := h.nokl.box ob
  rw [hob, hW0, hn1, ← hob] at h0
  have HT := Lib.hid h0
  have HZ : Hid (∀ W A le k u M, Tw w W g gx A le k n1 (some ob) u M → W.cell? ⟨n1, 0, none⟩ = some (.int .i64 K) ∧ W.cell? ⟨n1, 1, none⟩ = some (.int .i64 o) ∧ W.cell? ⟨n1, 2, none⟩ = some (.slice la N lc) ∧ W.cell? ⟨n1, 3, none⟩ = some (.int .i64 dk) ∧ W.cell? ⟨n1, 4, none⟩ = some (vS gd) ∧ W.cell? ⟨n1, 5, none⟩ = some (.int .i64 nn)) := Lib.hid (fun W A le k u M hh => by
    have hb := hh.bx _ rfl
    rw [hob] at hb
    exact ⟨cell_obj hb 0 _ rfl, cell_obj hb 1 _ rfl, cell_obj hb 2 _ rfl, cell_obj hb 3 _ rfl, cell_obj hb 4 _ rfl, cell_obj hb 5 _ rfl⟩)
  obtain ⟨x0, x1, x2, x3, x4, x5⟩ := HZ.out _ _ _ _ _ _ h0
  have hiW : ∀ W A le k u M, Tw w W g gx A le k n1 (some ob) u M → Il W (.slice la N lc) its := fun W A le k u M hh => by
    have := hi
    rw [← hN] at this ⊢
    exact this.fr hh.fr (fun _ e => e.elim)
  have HIW := Lib.hid hiW
  have HEND : Hid (∀ W A le k' u M b, Tw w W g gx A le k' n1 (some ob) u M → k' ≤ k + 1 → TwZ w g gx k (.returned (.bool b)) W) := Lib.hid (fun W A le k' u M b hh hk' => ⟨⟨b, A, le, u, M, rfl, (hh.nobox 0).up hk'⟩⟩)
  clear h ho hi hs hl hk hN h0 hob hiW
  by_cases hK1 : K = 1
  · subst hK1
    go_enter Tryz.func16, Tryz.ntmps16
    have HDA : Hid (∀ W', Fr (fun _ => False) W0 W' → Tw w W' g gx A le k n1 (some ob) (.slice none 0 0) []) := Lib.hid (fun W' hf => HT.out.keep hf)
    obtain ⟨R, hR⟩ : ∃ R, takeE A le o its = R := ⟨_, rfl⟩
    have hTk : ∀ W', Fr (fun _ => False) W0 W' → ∀ lv, Il W' lv its → _ := fun W' hf lv hlv => (HDA.out W' hf).take (o := o) HO.out hlv
    rw [hR] at hTk
    obtain ⟨⟨L1, ec⟩, A1, le1⟩ := R
    dsimp only at hTk
    have HTK := Lib.hid hTk
    clear hTk hR
    obtain ⟨i0, hi', hz0, hz1, hz2⟩ := info_parts infoItem
    have hRD : Rd W0 2 la N (itCs its) := by have := il_rd (HIW.out _ _ _ _ _ _ HT.out); rw [HN.out] at this; exact this
    have HRD := Lib.hid hRD
    have HOK : Hid (∀ p ∈ its, okS p.1 ∧ okI p.2) := Lib.hid (fun p hp => il_okm' (HIW.out _ _ _ _ _ _ HT.out) hp)
    have Q1 := Lib.hid x1; have Q2 := Lib.hid x2
    clear hRD
    go_upto_region 6 with (fail)
    go_region_held3 (fun w' => w'.cell? ⟨n1, 1, none⟩ = some (.int .i64 o) ∧ w'.cell? ⟨n1, 2, none⟩ = some (.slice la N lc)) (first | exact ⟨(HZ.out _ _ _ _ _ _ HT1.out).2.1, (HZ.out _ _ _ _ _ _ HT1.out).2.2.1⟩ | exact ⟨Fr.cell (S := fun _ => False) (w := W0) HF3.out Q1.out (fun h => h), Fr.cell (S := fun _ => False) (w := W0) HF3.out Q2.out (fun h => h)⟩ | (refine ⟨Fr.cell (S := fun _ => False) (w := W0) ?_ Q1.out (fun h => h), Fr.cell (S := fun _ => False) (w := W0) ?_ Q2.out (fun h => h)⟩ <;> (repeat (first | (with_reducible assumption) | (with_reducible exact Fr.refl _ _) | (with_reducible refine Fr.alloc ?_ _) | (with_reducible refine Fr.drew ?_) | (with_reducible refine Fr.setCell ?_ (fun h => absurd h (Nat.not_lt.2 ?_)) _) | (exact Nat.le_refl _) | (exact Fr.size (by assumption))))))
      (first
        | (refine step_append_src rfl (.tmp 23) (.tmp 25) 27 rfl W0.heap.size 65 i0 (.agg #[.string ⟨#[]⟩, .int .i64 0]) 24 Tryz.underlying27 hi' hz0 hz1 hz2 rfl (by decide) (.slice (some ⟨W0.heap.size, 0, none⟩) 0 0) 0 [] (by rfl) (by first | exact (Fr.refl (fun _ => False) _).drew.row (own_none (Nat.le_refl _)) (fun _ _ h => h) | exact own_none (Nat.le_refl _)) lc (by rfl) (HRD.out.fr (S := fun _ => False) (by (repeat (first | (with_reducible assumption) | (with_reducible exact Fr.refl _ _) | (with_reducible refine Fr.alloc ?_ _) | (with_reducible refine Fr.drew ?_) | (with_reducible refine Fr.setCell ?_ (fun h => absurd h (Nat.not_lt.2 ?_)) _) | (exact Nat.le_refl _) | (exact Fr.size (by assumption))))) (fun _ _ h => h)) (fun u hu => itCs_one hu) (by unfold maxLen; omega) (by omega) (by simp) ?_; intro v3 w3 hown3 hgrow3 hloc3; obtain ⟨a3, c3, rfl⟩ := row_sl hown3; have hD3 : Fr (fun _ => False) W0 w3 := (Fr.trans (S := fun b => W0.heap.size ≤ b) ((by (repeat (first | (with_reducible assumption) | (with_reducible exact Fr.refl _ _) | (with_reducible refine Fr.alloc ?_ _) | (with_reducible refine Fr.drew ?_) | (with_reducible refine Fr.setCell ?_ (fun h => absurd h (Nat.not_lt.2 ?_)) _) | (exact Nat.le_refl _) | (exact Fr.size (by assumption)))) : Fr (fun _ => False) W0 _).mono (fun _ _ e => e.elim)) (Fr.grown hgrow3 (fun r hr _ => by cases hr; exact Nat.le_refl _))).mono (fun b hb e => absurd hb (Nat.not_lt.2 e)); have HF3 := Lib.hid hD3; rw [Nat.zero_add, List.nil_append, ← HN.out] at hown3; have hIL3 := (Il.own hown3 HOK.out).1; rw [HN.out] at hIL3; have HIL3 := Lib.hid hIL3; clear hown3 hgrow3 hloc3 hD3 hIL3)
        | (go_at_call 8; refine (HTK.out _ HF3.out _ (by first | exact HIL3.out | (have := HIL3.out; rw [← HN.out] at this ⊢; simpa using this))).mono ?_; rintro e w2 ⟨v1, rfl, hT1⟩; obtain ⟨s1, t1, e1⟩ := hT1.kl.sl; obtain ⟨m1, hm1⟩ : ∃ m, L1.length = m := ⟨_, rfl⟩; rw [hm1] at e1; subst e1; have HT1 := Lib.hid hT1; clear hm1 hT1))
    all_goals
      obtain ⟨x0, x1, x2, x3, x4, x5⟩ := HZ.out _ _ _ _ _ _ HT1.out
      go_upto_region 26 with (go_at_call 41; refine (HT1.out.xtake HO.out (HIW.out _ _ _ _ _ _ HT1.out) HK.out).mono ?_; rintro e w3 ⟨⟨v2, L2, fc, rfl, hl2, hT2⟩⟩; obtain ⟨s2, t2, e2⟩ := hl2.sl; obtain ⟨m2, hm2⟩ : ∃ m, L2.length = m := ⟨_, rfl⟩; rw [hm2] at e2; subst e2; have HL2 := Lib.hid hl2; have HT2 := Lib.hid hT2; clear hm2 hl2 hT2; clear x0 x1 x2 x3 x4 x5)
      obtain ⟨a1, c1, e1⟩ := HT2.out.kl.sl
      obtain ⟨a2, c2, e2⟩ := HL2.out.sl
      have hS := r6Same w3 (.slice s1 m1 t1) (.slice s2 m2 t2) L1 L2 HT2.out.kl HL2.out
      obtain ⟨sb, hsb⟩ : ∃ b, decide (L1 = L2) = b := ⟨_, rfl⟩
      rw [hsb] at hS
      have HSM := Lib.hid hS
      clear hS hsb e1 e2
      cases sb with
      | false =>
        go_wp2_with (go_at_call 18; refine HSM.out.mono ?_; rintro e w4 ⟨rfl, nd, rfl⟩)
        go_ret
        exact HEND.out _ _ _ _ _ _ _ (HT2.out.keep ((Fr.refl (fun _ => False) w3).drewN nd)) (Nat.le_refl _)
      | true =>
        obtain ⟨eb, heb⟩ : ∃ b, (ec == fc) = b := ⟨_, rfl⟩
        cases eb with
        | false =>
          go_wp2_with (go_at_call 18; refine HSM.out.mono ?_; rintro e w4 ⟨rfl, nd, rfl⟩)
          go_ret
          exact HEND.out _ _ _ _ _ _ _ (HT2.out.keep ((Fr.refl (fun _ => False) w3).drewN nd)) (Nat.le_refl _)
        | true =>
          go_wp2_with (go_at_call 18; refine HSM.out.mono ?_; rintro e w4 ⟨rfl, nd, rfl⟩)
          go_ret
          exact HEND.out _ _ _ _ _ _ _ (HT2.out.keep ((Fr.refl (fun _ => False) w3).drewN nd)) (Nat.le_refl _)
  have j1 : (K == 1) = false := by simpa using hK1
  by_cases hK2 : K = 2
  · subst hK2
    obtain ⟨R, hR⟩ : ∃ R, freeE A le o = R := ⟨_, rfl⟩
    have hTk := HT.out.free HO.out
    rw [hR] at hTk
    obtain ⟨⟨L1, ec⟩, A1, le1⟩ := R
    dsimp only at hTk
    have HTK := Lib.hid hTk
    clear hTk hR
    go_enter Tryz.func16, Tryz.ntmps16
    go_upto_region 26 with (first
      | (go_at_call 10; refine HTK.out.mono ?_; rintro e w2 ⟨v1, rfl, hT1⟩; obtain ⟨s1, t1, e1⟩ := hT1.kl.sl; obtain ⟨m1, hm1⟩ : ∃ m, L1.length = m := ⟨_, rfl⟩; rw [hm1] at e1; subst e1; have HT1 := Lib.hid hT1; clear hm1 hT1; obtain ⟨x0, x1, x2, x3, x4, x5⟩ := HZ.out _ _ _ _ _ _ HT1.out)
      | (go_at_call 42; refine (HT1.out.xfree HO.out HK.out).mono ?_; rintro e w3 ⟨⟨v2, L2, fc, rfl, hl2, hT2⟩⟩; obtain ⟨s2, t2, e2⟩ := hl2.sl; obtain ⟨m2, hm2⟩ : ∃ m, L2.length = m := ⟨_, rfl⟩; rw [hm2] at e2; subst e2; have HL2 := Lib.hid hl2; have HT2 := Lib.hid hT2; clear hm2 hl2 hT2; clear x0 x1 x2 x3 x4 x5))
    obtain ⟨a1, c1, e1⟩ := HT2.out.kl.sl
    obtain ⟨a2, c2, e2⟩ := HL2.out.sl
    have hS := r6Same w3 (.slice s1 m1 t1) (.slice s2 m2 t2) L1 L2 HT2.out.kl HL2.out
    obtain ⟨sb, hsb⟩ : ∃ b, decide (L1 = L2) = b := ⟨_, rfl⟩
    rw [hsb] at hS
    have HSM := Lib.hid hS
    clear hS hsb e1 e2
    cases sb with
    | false =>
      go_wp2_with (go_at_call 18; refine HSM.out.mono ?_; rintro e w4 ⟨rfl, nd, rfl⟩)
      go_ret
      exact HEND.out _ _ _ _ _ _ _ (HT2.out.keep ((Fr.refl (fun _ => False) w3).drewN nd)) (Nat.le_refl _)
    | true =>
      obtain ⟨eb, heb⟩ : ∃ b, (ec == fc) = b := ⟨_, rfl⟩
      cases eb with
      | false =>
        go_wp2_with (go_at_call 18; refine HSM.out.mono ?_; rintro e w4 ⟨rfl, nd, rfl⟩)
        go_ret
        exact HEND.out _ _ _ _ _ _ _ (HT2.out.keep ((Fr.refl (fun _ => False) w3).drewN nd)) (Nat.le_refl _)
      | true =>
        go_wp2_with (go_at_call 18; refine HSM.out.mono ?_; rintro e w4 ⟨rfl, nd, rfl⟩)
        go_ret
        exact HEND.out _ _ _ _ _ _ _ (HT2.out.keep ((Fr.refl (fun _ => False) w3).drewN nd)) (Nat.le_refl _)
  have j2 : (K == 2) = false := by simpa using hK2
  by_cases hK3 : K = 3
  · subst hK3
    obtain ⟨R, hR⟩ : ∃ R, pickE A le o = R := ⟨_, rfl⟩
    have hTk := HT.out.pick HO.out
    rw [hR] at hTk
    obtain ⟨⟨L1, ec⟩, A1, le1⟩ := R
    dsimp only at hTk
    have HTK := Lib.hid hTk
    clear hTk hR
    go_enter Tryz.func16, Tryz.ntmps16
    go_upto_region 26 with (first
      | (go_at_call 11; refine HTK.out.mono ?_; rintro e w2 ⟨v1, rfl, hT1⟩; obtain ⟨s1, t1, e1⟩ := hT1.kl.sl; obtain ⟨m1, hm1⟩ : ∃ m, L1.length = m := ⟨_, rfl⟩; rw [hm1] at e1; subst e1; have HT1 := Lib.hid hT1; clear hm1 hT1; obtain ⟨x0, x1, x2, x3, x4, x5⟩ := HZ.out _ _ _ _ _ _ HT1.out)
      | (go_at_call 43; refine (HT1.out.xpick HO.out HK.out).mono ?_; rintro e w3 ⟨⟨v2, L2, fc, rfl, hl2, hT2⟩⟩; obtain ⟨s2, t2, e2⟩ := hl2.sl; obtain ⟨m2, hm2⟩ : ∃ m, L2.length = m := ⟨_, rfl⟩; rw [hm2] at e2; subst e2; have HL2 := Lib.hid hl2; have HT2 := Lib.hid hT2; clear hm2 hl2 hT2; clear x0 x1 x2 x3 x4 x5))
    obtain ⟨a1, c1, e1⟩ := HT2.out.kl.sl
    obtain ⟨a2, c2, e2⟩ := HL2.out.sl
    have hS := r6Same w3 (.slice s1 m1 t1) (.slice s2 m2 t2) L1 L2 HT2.out.kl HL2.out
    obtain ⟨sb, hsb⟩ : ∃ b, decide (L1 = L2) = b := ⟨_, rfl⟩
    rw [hsb] at hS
    have HSM := Lib.hid hS
    clear hS hsb e1 e2
    cases sb with
    | false =>
      go_wp2_with (go_at_call 18; refine HSM.out.mono ?_; rintro e w4 ⟨rfl, nd, rfl⟩)
      go_ret
      exact HEND.out _ _ _ _ _ _ _ (HT2.out.keep ((Fr.refl (fun _ => False) w3).drewN nd)) (Nat.le_refl _)
    | true =>
      obtain ⟨eb, heb⟩ : ∃ b, (ec == fc) = b := ⟨_, rfl⟩
      cases eb with
      | false =>
        go_wp2_with (go_at_call 18; refine HSM.out.mono ?_; rintro e w4 ⟨rfl, nd, rfl⟩)
        go_ret
        exact HEND.out _ _ _ _ _ _ _ (HT2.out.keep ((Fr.refl (fun _ => False) w3).drewN nd)) (Nat.le_refl _)
      | true =>
        go_wp2_with (go_at_call 18; refine HSM.out.mono ?_; rintro e w4 ⟨rfl, nd, rfl⟩)
        go_ret
        exact HEND.out _ _ _ _ _ _ _ (HT2.out.keep ((Fr.refl (fun _ => False) w3).drewN nd)) (Nat.le_refl _)
  have j3 : (K == 3) = false := by simpa using hK3
  by_cases hK4 : K = 4
  · subst hK4
    obtain ⟨R, hR⟩ : ∃ R, unpickE A le o = R := ⟨_, rfl⟩
    have hTk := HT.out.unpick HO.out
    rw [hR] at hTk
    obtain ⟨⟨L1, ec⟩, A1, le1⟩ := R
    dsimp only at hTk
    have HTK := Lib.hid hTk
    clear hTk hR
    go_enter Tryz.func16, Tryz.ntmps16
    go_upto_region 26 with (first
      | (go_at_call 12; refine HTK.out.mono ?_; rintro e w2 ⟨v1, rfl, hT1⟩; obtain ⟨s1, t1, e1⟩ := hT1.kl.sl; obtain ⟨m1, hm1⟩ : ∃ m, L1.length = m := ⟨_, rfl⟩; rw [hm1] at e1; subst e1; have HT1 := Lib.hid hT1; clear hm1 hT1; obtain ⟨x0, x1, x2, x3, x4, x5⟩ := HZ.out _ _ _ _ _ _ HT1.out)
      | (go_at_call 44; refine (HT1.out.xunpick HO.out HK.out).mono ?_; rintro e w3 ⟨⟨v2, L2, fc, rfl, hl2, hT2⟩⟩; obtain ⟨s2, t2, e2⟩ := hl2.sl; obtain ⟨m2, hm2⟩ : ∃ m, L2.length = m := ⟨_, rfl⟩; rw [hm2] at e2; subst e2; have HL2 := Lib.hid hl2; have HT2 := Lib.hid hT2; clear hm2 hl2 hT2; clear x0 x1 x2 x3 x4 x5))
    obtain ⟨a1, c1, e1⟩ := HT2.out.kl.sl
    obtain ⟨a2, c2, e2⟩ := HL2.out.sl
    have hS := r6Same w3 (.slice s1 m1 t1) (.slice s2 m2 t2) L1 L2 HT2.out.kl HL2.out
    obtain ⟨sb, hsb⟩ : ∃ b, decide (L1 = L2) = b := ⟨_, rfl⟩
    rw [hsb] at hS
    have HSM := Lib.hid hS
    clear hS hsb e1 e2
    cases sb with
    | false =>
      go_wp2_with (go_at_call 18; refine HSM.out.mono ?_; rintro e w4 ⟨rfl, nd, rfl⟩)
      go_ret
      exact HEND.out _ _ _ _ _ _ _ (HT2.out.keep ((Fr.refl (fun _ => False) w3).drewN nd)) (Nat.le_refl _)
    | true =>
      obtain ⟨eb, heb⟩ : ∃ b, (ec == fc) = b := ⟨_, rfl⟩
      cases eb with
      | false =>
        go_wp2_with (go_at_call 18; refine HSM.out.mono ?_; rintro e w4 ⟨rfl, nd, rfl⟩)
        go_ret
        exact HEND.out _ _ _ _ _ _ _ (HT2.out.keep ((Fr.refl (fun _ => False) w3).drewN nd)) (Nat.le_refl _)
      | true =>
        go_wp2_with (go_at_call 18; refine HSM.out.mono ?_; rintro e w4 ⟨rfl, nd, rfl⟩)
        go_ret
        exact HEND.out _ _ _ _ _ _ _ (HT2.out.keep ((Fr.refl (fun _ => False) w3).drewN nd)) (Nat.le_refl _)
  have j4 : (K == 4) = false := by simpa using hK4
  by_cases hK5 : K = 5
  · subst hK5
    obtain ⟨R, hR⟩ : ∃ R, shipE A le o = R := ⟨_, rfl⟩
    have hTk := HT.out.ship HO.out
    rw [hR] at hTk
    obtain ⟨⟨L1, ec⟩, A1, le1⟩ := R
    dsimp only at hTk
    have HTK := Lib.hid hTk
    clear hTk hR
    go_enter Tryz.func16, Tryz.ntmps16
    go_upto_region 26 with (first
      | (go_at_call 13; refine HTK.out.mono ?_; rintro e w2 ⟨v1, rfl, hT1⟩; obtain ⟨s1, t1, e1⟩ := hT1.kl.sl; obtain ⟨m1, hm1⟩ : ∃ m, L1.length = m := ⟨_, rfl⟩; rw [hm1] at e1; subst e1; have HT1 := Lib.hid hT1; clear hm1 hT1; obtain ⟨x0, x1, x2, x3, x4, x5⟩ := HZ.out _ _ _ _ _ _ HT1.out)
      | (go_at_call 45; refine (HT1.out.xship HO.out HK.out).mono ?_; rintro e w3 ⟨⟨v2, L2, fc, rfl, hl2, hT2⟩⟩; obtain ⟨s2, t2, e2⟩ := hl2.sl; obtain ⟨m2, hm2⟩ : ∃ m, L2.length = m := ⟨_, rfl⟩; rw [hm2] at e2; subst e2; have HL2 := Lib.hid hl2; have HT2 := Lib.hid hT2; clear hm2 hl2 hT2; clear x0 x1 x2 x3 x4 x5))
    obtain ⟨a1, c1, e1⟩ := HT2.out.kl.sl
    obtain ⟨a2, c2, e2⟩ := HL2.out.sl
    have hS := r6Same w3 (.slice s1 m1 t1) (.slice s2 m2 t2) L1 L2 HT2.out.kl HL2.out
    obtain ⟨sb, hsb⟩ : ∃ b, decide (L1 = L2) = b := ⟨_, rfl⟩
    rw [hsb] at hS
    have HSM := Lib.hid hS
    clear hS hsb e1 e2
    cases sb with
    | false =>
      go_wp2_with (go_at_call 18; refine HSM.out.mono ?_; rintro e w4 ⟨rfl, nd, rfl⟩)
      go_ret
      exact HEND.out _ _ _ _ _ _ _ (HT2.out.keep ((Fr.refl (fun _ => False) w3).drewN nd)) (Nat.le_refl _)
    | true =>
      obtain ⟨eb, heb⟩ : ∃ b, (ec == fc) = b := ⟨_, rfl⟩
      cases eb with
      | false =>
        go_wp2_with (go_at_call 18; refine HSM.out.mono ?_; rintro e w4 ⟨rfl, nd, rfl⟩)
        go_ret
        exact HEND.out _ _ _ _ _ _ _ (HT2.out.keep ((Fr.refl (fun _ => False) w3).drewN nd)) (Nat.le_refl _)
      | true =>
        go_wp2_with (go_at_call 18; refine HSM.out.mono ?_; rintro e w4 ⟨rfl, nd, rfl⟩)
        go_ret
        exact HEND.out _ _ _ _ _ _ _ (HT2.out.keep ((Fr.refl (fun _ => False) w3).drewN nd)) (Nat.le_refl _)
  have j5 : (K == 5) = false := by simpa using hK5
  by_cases hK6 : K = 6
  · subst hK6
    obtain ⟨R, hR⟩ : ∃ R, doH A dk its = R := ⟨_, rfl⟩
    have hTk : ∀ W', Fr (fun _ => False) W0 W' → Calls Tryz.prog 14 _ W' _ := fun W' hf => (HT.out.keep hf).do (d := dk) (HIW.out _ _ _ _ _ _ (HT.out.keep hf))
    rw [hR] at hTk
    obtain ⟨ec, A1⟩ := R
    dsimp only at hTk
    have HTK := Lib.hid hTk
    clear hTk hR
    go_enter Tryz.func16, Tryz.ntmps16
    go_upto_region 21 with (fail)
    refine wp_region_effS (fun c => c ≠ n1) [(5, true), (11, true), (12, true), (13, true)] [] 0 (by kernel_rfl) rfl (by kernel_rfl) (by kernel_rfl) ?_
    apply Exists.intro
    refine ⟨?hh, ?pu, ?ef⟩
    case hh =>
      intro X hX
      have z0 := FrW.cell (hX.cell x0 (fun e => e rfl)); have z2 := FrW.cell (hX.cell x2 (fun e => e rfl)); have z3 := FrW.cell (hX.cell x3 (fun e => e rfl))
      simp (config := { decide := true }) only [boxedF, efIdx, List.map_cons, List.map_nil, idleU, if_true, if_false, ite_true, ite_false]
      repeat (go_big_quiet_step (fail))
      exact wpQuiet_nil rfl
    case pu =>
      intro i' hi' o ho
      cases hi'
    case ef =>
      simp only [efOps, List.filterMap_cons, List.filterMap_nil, List.getElem?_cons_succ, List.getElem?_cons_zero, Option.map_some]
      intro w5 hw5
      go_wp2_with (go_at_call 14; refine (HTK.out _ hw5).mono ?_; rintro e w6 ⟨rfl, hT1, hz1⟩; have HT1 := Lib.hid hT1; have HZ1 := Lib.hid hz1; clear hT1 hz1)
      have hf56 : Fr (fun c => c ≠ n1) w5 w6 := (HT.out.keep hw5).frn HT1.out HZ1.out
      refine ⟨hf56, ?_⟩
      intro w7 hw7
      go_wp2_with (go_at_call 46; refine ((HT1.out.keep hw7).xdo (HIW.out _ _ _ _ _ _ (HT1.out.keep hw7))).mono ?_; rintro e w8 ⟨⟨fc, rfl, hT2, hz2⟩⟩; have HT2 := Lib.hid hT2; have HZ2 := Lib.hid hz2; clear hT2 hz2)
      have hf78 : Fr (fun c => c ≠ n1) w7 w8 := (HT1.out.keep hw7).frn HT2.out HZ2.out
      refine ⟨hf78, ?_⟩
      intro w9 hw9
      go_wp2_with fail
      refine ⟨Fr.refl _ _, ?_⟩
      intro w10 hw10
      go_wp2_with fail
      refine ⟨Fr.refl _ _, ?_⟩
      intro w3 hw11
      have HT2 := Lib.hid (((HT2.out.keep hw9).keep hw10).keep hw11)
      clear hw5 hw7 hw9 hw10 hw11 hf56 hf78
      go_upto_region 26 with (fail)
      have hS := r6Same w3 (.slice none 0 0) (.slice none 0 0) [] [] (nilIl _) (nilIl _)
      obtain ⟨sb, hsb⟩ : ∃ b, decide (([] : Its) = []) = b := ⟨_, rfl⟩
      rw [hsb] at hS
      have HSM := Lib.hid hS
      clear hS hsb
      cases sb with
      | false =>
        go_wp2_with (go_at_call 18; refine HSM.out.mono ?_; rintro e w4 ⟨rfl, nd, rfl⟩)
        go_ret
        exact HEND.out _ _ _ _ _ _ _ (HT2.out.keep ((Fr.refl (fun _ => False) w3).drewN nd)) (Nat.le_refl _)
      | true =>
        obtain ⟨eb, heb⟩ : ∃ b, (ec == fc) = b := ⟨_, rfl⟩
        cases eb with
        | false =>
          go_wp2_with (go_at_call 18; refine HSM.out.mono ?_; rintro e w4 ⟨rfl, nd, rfl⟩)
          go_ret
          exact HEND.out _ _ _ _ _ _ _ (HT2.out.keep ((Fr.refl (fun _ => False) w3).drewN nd)) (Nat.le_refl _)
        | true =>
          go_wp2_with (go_at_call 18; refine HSM.out.mono ?_; rintro e w4 ⟨rfl, nd, rfl⟩)
          go_ret
          exact HEND.out _ _ _ _ _ _ _ (HT2.out.keep ((Fr.refl (fun _ => False) w3).drewN nd)) (Nat.le_refl _)
  have j6 : (K == 6) = false := by simpa using hK6
  by_cases hK7 : K = 7
  · subst hK7
    obtain ⟨R, hR⟩ : ∃ R, countS A gd nn = R := ⟨_, rfl⟩
    have hTk := HT.out.count (n := nn) HS.out
    rw [hR] at hTk
    obtain ⟨ac, ec, A1⟩ := R
    dsimp only at hTk
    have HTK := Lib.hid hTk
    clear hTk hR
    go_enter Tryz.func16, Tryz.ntmps16
    go_upto_region 24 with (go_at_call 20; refine HTK.out.mono ?_; rintro e w2 ⟨rfl, hT1⟩; have HT1 := Lib.hid hT1; clear hT1; clear x0 x1 x2 x3 x4 x5)
    obtain ⟨x0, x1, x2, x3, x4, x5⟩ := HZ.out _ _ _ _ _ _ HT1.out
    go_region_held3 (fun w' => w'.cell? ⟨n1, 4, none⟩ = some (vS gd) ∧ w'.cell? ⟨n1, 5, none⟩ = some (.int .i64 nn)) (first | exact ⟨(HZ.out _ _ _ _ _ _ HT2.out).2.2.2.2.1, (HZ.out _ _ _ _ _ _ HT2.out).2.2.2.2.2⟩ | exact ⟨(HZ.out _ _ _ _ _ _ (HT1.out.keep (by (repeat (first | (with_reducible assumption) | (with_reducible exact Fr.refl _ _) | (with_reducible refine Fr.alloc ?_ _) | (with_reducible refine Fr.drew ?_) | (with_reducible refine Fr.setCell ?_ (fun h => absurd h (Nat.not_lt.2 ?_)) _) | (exact Nat.le_refl _) | (exact Fr.size (by assumption))))))).2.2.2.2.1, (HZ.out _ _ _ _ _ _ (HT1.out.keep (by (repeat (first | (with_reducible assumption) | (with_reducible exact Fr.refl _ _) | (with_reducible refine Fr.alloc ?_ _) | (with_reducible refine Fr.drew ?_) | (with_reducible refine Fr.setCell ?_ (fun h => absurd h (Nat.not_lt.2 ?_)) _) | (exact Nat.le_refl _) | (exact Fr.size (by assumption))))))).2.2.2.2.2⟩)
      (first | (go_at_call 47; refine ((HT1.out.keep (by (repeat (first | (with_reducible assumption) | (with_reducible exact Fr.refl _ _) | (with_reducible refine Fr.alloc ?_ _) | (with_reducible refine Fr.drew ?_) | (with_reducible refine Fr.setCell ?_ (fun h => absurd h (Nat.not_lt.2 ?_)) _) | (exact Nat.le_refl _) | (exact Fr.size (by assumption)))))).xcount (s := gd) (n := nn)).mono ?_; rintro e w3 ⟨⟨bc, fc, rfl, hT2⟩⟩; have HT2 := Lib.hid hT2; clear hT2))
    all_goals
      clear x0 x1 x2 x3 x4 x5
      obtain ⟨sb, hsb⟩ : ∃ b, (ac == bc) = b := ⟨_, rfl⟩
      obtain ⟨eb, heb⟩ : ∃ b, (ec == fc) = b := ⟨_, rfl⟩
      cases sb with
      | false =>
        go_wp2_with fail
        go_ret
        exact HEND.out _ _ _ _ _ _ _ HT2.out (Nat.le_refl _)
      | true =>
        cases eb with
        | false =>
          go_wp2_with fail
          go_ret
          exact HEND.out _ _ _ _ _ _ _ HT2.out (Nat.le_refl _)
        | true =>
          go_wp2_with fail
          go_ret
          exact HEND.out _ _ _ _ _ _ _ HT2.out (Nat.le_refl _)
  have j7 : (K == 7) = false := by simpa using hK7
  clear hK1 hK2 hK3 hK4 hK5 hK6 hK7
  go_enter Tryz.func16, Tryz.ntmps16
  go_upto_region 26 with (fail)
  obtain ⟨w3, hw3⟩ : ∃ w3, w3 = W0 := ⟨_, rfl⟩
  have HT2 : Hid (Tw w w3 g gx A le k n1 (some ob) (.slice none 0 0) []) := Lib.hid (by rw [hw3]; exact HT.out)
  rw [← hw3]
  clear hw3
  have hS := r6Same w3 (.slice none 0 0) (.slice none 0 0) [] [] (nilIl _) (nilIl _)
  obtain ⟨sb, hsb⟩ : ∃ b, decide (([] : Its) = []) = b := ⟨_, rfl⟩
  rw [hsb] at hS
  have HSM := Lib.hid hS
  clear hS hsb
  cases sb with
  | false =>
    go_wp2_with (go_at_call 18; refine HSM.out.mono ?_; rintro e w4 ⟨rfl, nd, rfl⟩)
    go_ret
    exact HEND.out _ _ _ _ _ _ _ (HT2.out.keep ((Fr.refl (fun _ => False) w3).drewN nd)) (Nat.le_succ _)
  | true =>
    obtain ⟨eb, heb⟩ : ∃ b, ((0 : Int) == 0) = b := ⟨_, rfl⟩
    cases eb with
    | false =>
      go_wp2_with (go_at_call 18; refine HSM.out.mono ?_; rintro e w4 ⟨rfl, nd, rfl⟩)
      go_ret
      exact HEND.out _ _ _ _ _ _ _ (HT2.out.keep ((Fr.refl (fun _ => False) w3).drewN nd)) (Nat.le_succ _)
    | true =>
      go_wp2_with (go_at_call 18; refine HSM.out.mono ?_; rintro e w4 ⟨rfl, nd, rfl⟩)
      go_ret
      exact HEND.out _ _ _ _ _ _ _ (HT2.out.keep ((Fr.refl (fun _ => False) w3).drewN nd)) (Nat.le_succ _)
end Go.Proofs.YtogphlnakdnchaaGreat

