/- bins: the closures of Put and Take. -/
import Derived.Test.YtlniekobijcanaaGreatBinsRoutesM4
import Derived.Test.YtlniekobijcanaaGreatBinsRoutesM7
namespace Go.Proofs.YtlniekobijcanaaGreat
open Go.RowKit Go.Maps
def cfPut (s : Str) (a b : BE) : Int := if cmpI (kindE a s) (kindE b s) ≠ 0 ∨ kindE a s ≠ 0 then cmpI (kindE a s) (kindE b s) else cmpI (leftE a) (leftE b)
def cfTake (s : Str) (a b : BE) : Int := cmpI (ofF a.its s) (ofF b.its s)
set_option maxRecDepth 100000 in
set_option maxHeartbeats 8000000 in
theorem bPut1 (w : World) (b : BV) (s : Str) (b1 : Nat) (hk : BOk w b) (h1 : w.cell? ⟨b1, 0, none⟩ = some (vS s)) : Calls Tryz.prog 48 #[.agg b.cs, .pointer (some ⟨b1, 0, none⟩)] w fun e w' => e = .returned (.bool (kindE b.e s != 3)) ∧ Fr (fun _ => False) w w' := by
  have hKD := Lib.hid (fun W (hf : Fr (fun _ => False) w W) => bKind W b s (bokKeeps hk hf (fun _ e => e.elim)))
  obtain ⟨n0, hn0⟩ : ∃ n0, w.heap.size = n0 := ⟨_, rfl⟩
  rw [← kindE_e]
  obtain ⟨KD, hKD2⟩ : ∃ k, kindF b s = k := ⟨_, rfl⟩
  rw [hKD2] at hKD ⊢
  obtain ⟨nu, zo, ro, l, its⟩ := b
  obtain ⟨la, lc, hl⟩ := hk.l.sl
  dsimp only [BV.cs] at *
  subst hl
  obtain ⟨N, hN⟩ : ∃ N, its.length = N := ⟨_, rfl⟩
  rw [hN] at hKD ⊢
  have hb2 := ((Fr.refl (fun _ => False) w).alloc (.cells #[.int .i64 nu, .int .i64 zo, .int .i64 ro, .slice la N lc] 76)).cell h1 (fun h => h)
  clear hk h1 hKD2 hN
  go_enter Tryz.func48, Tryz.ntmps48
  go_wp2_with (go_at_call 49; refine (hKD.out _ ((Fr.refl _ w).alloc _)).mono ?_; rintro e w2 ⟨rfl, hf2⟩; have HF2 := Lib.hid (((Fr.refl (fun _ => False) w).alloc _).trans hf2); clear hf2)
  go_ret
  exact ⟨rfl, HF2.out⟩
set_option maxRecDepth 100000 in
set_option maxHeartbeats 8000000 in
theorem bPut2 (w : World) (a b : BV) (s : Str) (b1 : Nat) (ha : BOk w a) (hb : BOk w b) (h1 : w.cell? ⟨b1, 0, none⟩ = some (vS s)) : Calls Tryz.prog 50 #[.agg a.cs, .agg b.cs, .pointer (some ⟨b1, 0, none⟩)] w fun e w' => e = .returned (.int .i64 (cfPut s a.e b.e)) ∧ Fr (fun _ => False) w w' := by
  have hKA := Lib.hid (fun W (hf : Fr (fun _ => False) w W) => bKind W a s (bokKeeps ha hf (fun _ e => e.elim)))
  have hKB := Lib.hid (fun W (hf : Fr (fun _ => False) w W) => bKind W b s (bokKeeps hb hf (fun _ e => e.elim)))
  have hLA := Lib.hid (fun W (hf : Fr (fun _ => False) w W) => bLeft W a (bokKeeps ha hf (fun _ e => e.elim)))
  have hLB := Lib.hid (fun W (hf : Fr (fun _ => False) w W) => bLeft W b (bokKeeps hb hf (fun _ e => e.elim)))
  have hCM := Lib.hid (fun x y W => cCompare x y W)
  obtain ⟨n0, hn0⟩ : ∃ n0, w.heap.size = n0 := ⟨_, rfl⟩
  obtain ⟨R, hR⟩ : ∃ R, cfPut s a.e b.e = R := ⟨_, rfl⟩
  have hR2 := hR
  unfold cfPut at hR2
  rw [← kindE_e, ← kindE_e, ← leftE_e, ← leftE_e] at hR2
  rw [hR]
  obtain ⟨KA, hKA2⟩ : ∃ k, kindF a s = k := ⟨_, rfl⟩
  obtain ⟨KB, hKB2⟩ : ∃ k, kindF b s = k := ⟨_, rfl⟩
  obtain ⟨LA, hLA2⟩ : ∃ k, leftF a = k := ⟨_, rfl⟩
  obtain ⟨LB, hLB2⟩ : ∃ k, leftF b = k := ⟨_, rfl⟩
  rw [hKA2] at hKA hR2; rw [hKB2] at hKB hR2; rw [hLA2] at hLA hR2; rw [hLB2] at hLB hR2
  have HR := Lib.hid hR2
  obtain ⟨nu, zo, ro, l, its⟩ := a
  obtain ⟨mu, yo, so, m, jts⟩ := b
  obtain ⟨la, lc, hl⟩ := ha.l.sl
  obtain ⟨ma, mc, hm⟩ := hb.l.sl
  dsimp only [BV.cs] at *
  subst hl hm
  obtain ⟨N, hN⟩ : ∃ N, its.length = N := ⟨_, rfl⟩
  obtain ⟨M, hM⟩ : ∃ M, jts.length = M := ⟨_, rfl⟩
  rw [hN] at hKA hLA ⊢
  rw [hM] at hKB hLB ⊢
  obtain ⟨W0, hW0⟩ : ∃ W0, (w.alloc (.cells #[.int .i64 nu, .int .i64 zo, .int .i64 ro, .slice la N lc] 76)).alloc (.cells #[.int .i64 mu, .int .i64 yo, .int .i64 so, .slice ma M mc] 76) = W0 := ⟨_, rfl⟩
  have hF0 : Fr (fun _ => False) w W0 := by rw [← hW0]; exact ((Fr.refl _ w).alloc _).alloc _
  have hx0 : W0.heap[n0]? = some (.cells #[.int .i64 nu, .int .i64 zo, .int .i64 ro, .slice la N lc] 76) := by rw [← hW0]; exact heap_keep (heap_at hn0.symm _) _
  have hx1 : W0.heap[n0 + 1]? = some (.cells #[.int .i64 mu, .int .i64 yo, .int .i64 so, .slice ma M mc] 76) := by rw [← hW0]; exact heap_at (by simp; omega) _
  have hc1 := hF0.cell h1 (fun e => e)
  have HF0 := Lib.hid hF0; have HX0 := Lib.hid hx0; have HX1 := Lib.hid hx1; have HC1 := Lib.hid hc1
  have p0 := FrW.cell (cell_obj hx0 0 (.int .i64 nu) rfl); have p1 := FrW.cell (cell_obj hx0 1 (.int .i64 zo) rfl); have p2 := FrW.cell (cell_obj hx0 2 (.int .i64 ro) rfl); have p3 := FrW.cell (cell_obj hx0 3 (.slice la N lc) rfl)
  have q0 := FrW.cell (cell_obj hx1 0 (.int .i64 mu) rfl); have q1 := FrW.cell (cell_obj hx1 1 (.int .i64 yo) rfl); have q2 := FrW.cell (cell_obj hx1 2 (.int .i64 so) rfl); have q3 := FrW.cell (cell_obj hx1 3 (.slice ma M mc) rfl)
  have r0 := FrW.cell hc1
  clear ha hb h1 hKA2 hKB2 hLA2 hLB2 hN hM hR hR2 hx0 hx1 hc1 hF0
  obtain ⟨CK, hCK⟩ : ∃ c, cmpI KA KB = c := ⟨_, rfl⟩
  rw [hCK] at HR
  have HCK := Lib.hid hCK
  clear hCK
  go_enter Tryz.func50, Tryz.ntmps50
  go_wp2_with fail
  refine wp_region_fr (by kernel_rfl) (by kernel_rfl) ?_
  repeat (go_big_quiet_step (first | (go_at_call 49; rename_i X; (first | (with_reducible refine (hKA.out X.val (HF0.out.trans X.fr)).mono ?_) | (with_reducible refine (hKB.out X.val (HF0.out.trans X.fr)).mono ?_)); rintro e w2 ⟨rfl, hF⟩; exact ⟨rfl, ⟨w2, X.fr.trans hF⟩, rfl⟩) | (go_at_call 51; rename_i X; refine (hCM.out KA KB _).mono ?_; rw [HCK.out]; rintro e w2 ⟨rfl, rfl⟩; exact ⟨rfl, ⟨_, X.fr⟩, rfl⟩)))
  refine wpQuiet_nil ?_
  rintro V ⟨⟨_, hV⟩, rfl⟩
  have a0 : V.cell? ⟨n0, 0, none⟩ = _ := p0 ⟨V, hV⟩; have a1 : V.cell? ⟨n0, 1, none⟩ = _ := p1 ⟨V, hV⟩; have a2 : V.cell? ⟨n0, 2, none⟩ = _ := p2 ⟨V, hV⟩; have a3 : V.cell? ⟨n0, 3, none⟩ = _ := p3 ⟨V, hV⟩; have d0 : V.cell? ⟨n0 + 1, 0, none⟩ = _ := q0 ⟨V, hV⟩; have d1 : V.cell? ⟨n0 + 1, 1, none⟩ = _ := q1 ⟨V, hV⟩; have d2 : V.cell? ⟨n0 + 1, 2, none⟩ = _ := q2 ⟨V, hV⟩; have d3 : V.cell? ⟨n0 + 1, 3, none⟩ = _ := q3 ⟨V, hV⟩; have e0 : V.cell? ⟨b1, 0, none⟩ = _ := r0 ⟨V, hV⟩
  have HV := Lib.hid hV
  clear hV p0 p1 p2 p3 q0 q1 q2 q3 r0
  by_cases hc : CK = 0
  · subst hc
    by_cases hka : KA = 0
    · have hr : Hid (cmpI LA LB = R) := Lib.hid (by rw [← HR.out, if_neg (by simp [hka])])
      subst hka
      go_wp2_with (go_at_call 49; (with_reducible refine (hKA.out _ (HF0.out.trans HV.out)).mono ?_); rintro e w2 ⟨rfl, hf2⟩; have HF2 := Lib.hid (HV.out.trans hf2); have a0 := hf2.cell a0 (fun e => e); have a1 := hf2.cell a1 (fun e => e); have a2 := hf2.cell a2 (fun e => e); have a3 := hf2.cell a3 (fun e => e); have d0 := hf2.cell d0 (fun e => e); have d1 := hf2.cell d1 (fun e => e); have d2 := hf2.cell d2 (fun e => e); have d3 := hf2.cell d3 (fun e => e); have a0 := FrW.cell a0; have a1 := FrW.cell a1; have a2 := FrW.cell a2; have a3 := FrW.cell a3; have d0 := FrW.cell d0; have d1 := FrW.cell d1; have d2 := FrW.cell d2; have d3 := FrW.cell d3; clear hf2)
      refine wp_region_fr (by kernel_rfl) (by kernel_rfl) ?_
      repeat (go_big_quiet_step (first | (go_at_call 52; rename_i X; (first | (with_reducible refine (hLA.out X.val (HF0.out.trans (HF2.out.trans X.fr))).mono ?_) | (with_reducible refine (hLB.out X.val (HF0.out.trans (HF2.out.trans X.fr))).mono ?_)); rintro e w3 ⟨rfl, hF⟩; exact ⟨rfl, ⟨w3, X.fr.trans hF⟩, rfl⟩) | (go_at_call 51; rename_i X; refine (hCM.out LA LB _).mono ?_; rw [hr.out]; rintro e w3 ⟨rfl, rfl⟩; exact ⟨rfl, ⟨_, X.fr⟩, rfl⟩)))
      refine wpQuiet_nil ?_
      rintro V3 ⟨⟨_, hV3⟩, rfl⟩
      go_wp2_with fail
      go_ret
      exact ⟨rfl, HF0.out.trans (HF2.out.trans hV3)⟩
    · have hr : Hid (R = 0) := Lib.hid (by rw [← HR.out, if_pos (.inr hka)])
      have bk : (KA != 0) = true := by simpa using hka
      clear hka
      go_wp2_with (go_at_call 49; (with_reducible refine (hKA.out _ (HF0.out.trans HV.out)).mono ?_); rintro e w2 ⟨rfl, hf2⟩; have HF2 := Lib.hid (HV.out.trans hf2); clear hf2)
      go_ret
      exact ⟨by rw [hr.out]; rfl, HF0.out.trans HF2.out⟩
  · have hr : Hid (R = CK) := Lib.hid (by rw [← HR.out, if_pos (.inl hc)])
    have bk : (CK != 0) = true := by simpa using hc
    clear hc
    go_wp2_with fail
    go_ret
    exact ⟨by rw [hr.out]; rfl, HF0.out.trans HV.out⟩
end Go.Proofs.YtlniekobijcanaaGreat
