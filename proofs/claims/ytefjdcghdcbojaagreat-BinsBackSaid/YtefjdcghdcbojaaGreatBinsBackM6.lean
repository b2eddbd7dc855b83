/- bins: Put's and Take's last closures: a bin with so many more, or fewer. -/
import Derived.Test.YtefjdcghdcbojaaGreatBinsBackM5
import Derived.Deep.RegionHeld3
namespace Go.Proofs.YtefjdcghdcbojaaGreat
open Go.RowKit Go.Maps
theorem put_end {w4 : World} {n : Nat} {T : TypeId} (nu zo ro : Int) (V : Value) (h2 : w4.heap[n]? = some (.cells #[.int .i64 0, .int .i64 0, .int .i64 0, .slice none 0 0] T)) :
    ∃ W, W = ((((w4.setCell ⟨n, 0, none⟩ (.int .i64 nu)).setCell ⟨n, 1, none⟩ (.int .i64 zo)).setCell ⟨n, 2, none⟩ (.int .i64 ro)).setCell ⟨n, 3, none⟩ V) ∧
      W.heap[n]? = some (.cells #[.int .i64 nu, .int .i64 zo, .int .i64 ro, V] T) ∧ Fr (fun c => c = n) w4 W := by
  refine ⟨_, rfl, obj_set (obj_set (obj_set (obj_set h2 0 _) 1 _) 2 _) 3 _, ?_⟩
  exact ((((Fr.refl (fun c => c = n) w4).setCell (p := ⟨n, 0, none⟩) (fun _ => rfl) _).setCell (p := ⟨n, 1, none⟩) (fun _ => rfl) _).setCell (p := ⟨n, 2, none⟩) (fun _ => rfl) _).setCell (p := ⟨n, 3, none⟩) (fun _ => rfl) _
set_option maxRecDepth 100000 in
set_option maxHeartbeats 8000000 in
theorem bPut3 (w : World) (b : BV) (s : Str) (k : Int) (b1 : Nat) (hk : BOk w b) (hl : b.its.length ≤ 1000) (hr : RiseI b.its) (hs : okS s) (hn : okI (ofF b.its s + k)) (h1 : w.cell? ⟨b1, 0, none⟩ = some (vS s)) :
    Calls Tryz.prog 55 #[.agg b.cs, .int .i64 k, .pointer (some ⟨b1, 0, none⟩)] w fun e w' =>
      ∃ v, e = .returned (.agg (BV.cs (b.put v s (ofF b.its s + k)))) ∧ BOk w' (b.put v s (ofF b.its s + k)) ∧ (∀ c, v.ownBlock = some c → w.heap.size ≤ c) ∧ Fr (fun _ => False) w w' := by
  obtain ⟨n0, hn0⟩ : ∃ n0, w.heap.size = n0 := ⟨_, rfl⟩
  have HK := Lib.hid hk; have HLN := Lib.hid hl; have HRI := Lib.hid hr; have HSS := Lib.hid hs
  have hOf := Lib.hid (fun W (hf : Fr (fun _ => False) w W) => iOf W b.l b.its s ((bokKeeps hk hf (fun _ e => e.elim)).l))
  obtain ⟨OF, hOF⟩ : ∃ x, ofF b.its s = x := ⟨_, rfl⟩
  rw [hOF] at hOf hn ⊢
  have HWI := Lib.hid (fun W (hf : Fr (fun _ => False) w W) => bWith W b s (OF + k) (bokKeeps hk hf (fun _ e => e.elim)) hl hr hs hn)
  obtain ⟨nu, zo, ro, l, its⟩ := b
  obtain ⟨la, lc, hl2⟩ := hk.l.sl
  dsimp only at hl2
  subst hl2
  have HBE : Hid (∀ v, BV.cs (BV.put ⟨nu, zo, ro, .slice la its.length lc, its⟩ v s (OF + k)) = #[.int .i64 nu, .int .i64 zo, .int .i64 ro, v]) := Lib.hid (fun v => rfl)
  have hcs : BV.cs ⟨nu, zo, ro, .slice la its.length lc, its⟩ = #[.int .i64 nu, .int .i64 zo, .int .i64 ro, .slice la its.length lc] := rfl
  rw [hcs] at HWI ⊢
  dsimp only at hOf
  obtain ⟨W0, hW0⟩ : ∃ W0, (w.alloc (.cells #[.int .i64 nu, .int .i64 zo, .int .i64 ro, .slice la its.length lc] 64)).alloc (.cells #[.int .i64 0, .int .i64 0, .int .i64 0, .slice none 0 0] 64) = W0 := ⟨_, rfl⟩
  have hF0 : Fr (fun _ => False) w W0 := by rw [← hW0]; exact ((Fr.refl _ w).alloc _).alloc _
  have hx0 : W0.heap[n0]? = some (.cells #[.int .i64 nu, .int .i64 zo, .int .i64 ro, .slice la its.length lc] 64) := by rw [← hW0]; exact heap_keep (heap_at hn0.symm _) _
  have hx1 : W0.heap[n0 + 1]? = some (.cells #[.int .i64 0, .int .i64 0, .int .i64 0, .slice none 0 0] 64) := by rw [← hW0]; exact heap_at (by simp; omega) _
  have hc1 := hF0.cell h1 (fun e => e)
  obtain ⟨N, hN⟩ : ∃ N, its.length = N := ⟨_, rfl⟩
  have HNN := Lib.hid hN
  rw [hN] at hOf HWI hx0 hW0 ⊢
  have hlt1 := World.block_lt_of_cell? w _ h1
  dsimp only at hlt1
  have hall : Hid (∀ W, Fr (fun c => c = n0 + 1) W0 W → W.cell? ⟨n0, 0, none⟩ = some (.int .i64 nu) ∧ W.cell? ⟨n0, 1, none⟩ = some (.int .i64 zo) ∧ W.cell? ⟨n0, 2, none⟩ = some (.int .i64 ro) ∧ W.cell? ⟨n0, 3, none⟩ = some (.slice la N lc) ∧ W.cell? ⟨b1, 0, none⟩ = some (vS s)) := Lib.hid (fun W hf => by
    have g : ¬ n0 = n0 + 1 := by omega
    exact ⟨hf.cell (cell_obj hx0 0 (.int .i64 nu) rfl) g, hf.cell (cell_obj hx0 1 (.int .i64 zo) rfl) g, hf.cell (cell_obj hx0 2 (.int .i64 ro) rfl) g, hf.cell (cell_obj hx0 3 (.slice la N lc) rfl) g, hf.cell hc1 (by show ¬ b1 = n0 + 1; omega)⟩)
  have HW : Hid (∀ W, Fr (fun c => c = n0 + 1) W0 W → Fr (fun _ => False) w W) := Lib.hid (fun W hf => hF0.trans' hf (fun b hb e => by omega))
  have HF0 := Lib.hid hF0; have HX1 := Lib.hid hx1
  have HF := Lib.hid (Fr.refl (fun c => c = n0 + 1) W0)
  have HX := Lib.hid (Fr.refl (fun _ => False) W0)
  have hwr : IntKind.i64.wrap (OF + k) = OF + k := IntWalk.i64_in _ hn
  clear hk hl hr hs h1 hOF hcs hx0 hx1 hc1 hF0 hN hn hlt1
  go_enter Tryz.func55, Tryz.ntmps55
  go_wp2_with fail
  go_region_held3 (fun w' => w'.cell? ⟨n0, 0, none⟩ = some (.int .i64 nu) ∧ w'.cell? ⟨n0, 1, none⟩ = some (.int .i64 zo) ∧ w'.cell? ⟨n0, 2, none⟩ = some (.int .i64 ro) ∧ w'.cell? ⟨n0, 3, none⟩ = some (.slice la N lc) ∧ w'.cell? ⟨b1, 0, none⟩ = some (vS s))
    (first | exact hall.out _ HF.out | (refine hall.out _ ?_; exact (Fr.trans HF.out (by (repeat (first | (with_reducible assumption) | (with_reducible exact Fr.refl _ _) | (with_reducible refine Fr.alloc ?_ _) | (with_reducible refine Fr.drew ?_) | (refine Fr.setCell ?_ (by intro _; rfl) _)))))))
    (first
    | (go_at_call 47
       refine (hOf.out _ (HW.out _ (Fr.trans HF.out (by (repeat (first | (with_reducible assumption) | (with_reducible exact Fr.refl _ _) | (with_reducible refine Fr.alloc ?_ _) | (with_reducible refine Fr.drew ?_) | (refine Fr.setCell ?_ (by intro _; rfl) _))))))).mono ?_
       rintro e w1 ⟨rfl, hf1⟩
       have HX := Lib.hid (Fr.trans (Fr.trans HX.out (by (repeat (first | (with_reducible assumption) | (with_reducible exact Fr.refl _ _) | (with_reducible refine Fr.alloc ?_ _) | (with_reducible refine Fr.drew ?_) | (with_reducible refine Fr.setCell ?_ (fun h => absurd h (Nat.not_lt.2 ?_)) _) | (exact Nat.le_refl _) | (exact Fr.size (by assumption)))))) hf1)
       have HF := Lib.hid (Fr.trans (Fr.trans HF.out (by (repeat (first | (with_reducible assumption) | (with_reducible exact Fr.refl _ _) | (with_reducible refine Fr.alloc ?_ _) | (with_reducible refine Fr.drew ?_) | (refine Fr.setCell ?_ (by intro _; rfl) _))))) (hf1.mono (fun _ _ e => e.elim)))
       clear hf1)
    | (go_at_call 56
       refine (HWI.out _ (HW.out _ (Fr.trans HF.out (by (repeat (first | (with_reducible assumption) | (with_reducible exact Fr.refl _ _) | (with_reducible refine Fr.alloc ?_ _) | (with_reducible refine Fr.drew ?_) | (refine Fr.setCell ?_ (by intro _; rfl) _))))))).mono ?_
       rintro e w2 ⟨v, rfl, hb2, hv2, hf2⟩
       dsimp only [BV.put, BV.cs]
       obtain ⟨va, vc, hve⟩ := hb2.l.sl
       dsimp only [BV.put] at hve
       subst hve
       have HB2 := Lib.hid hb2; have HV2 := Lib.hid hv2; have HSZ := Lib.hid (Fr.size (Fr.trans HF.out (by (repeat (first | (with_reducible assumption) | (with_reducible exact Fr.refl _ _) | (with_reducible refine Fr.alloc ?_ _) | (with_reducible refine Fr.drew ?_) | (refine Fr.setCell ?_ (by intro _; rfl) _))))))
       have hz := Fr.at_ (Fr.trans (Fr.trans HX.out (by (repeat (first | (with_reducible assumption) | (with_reducible exact Fr.refl _ _) | (with_reducible refine Fr.alloc ?_ _) | (with_reducible refine Fr.drew ?_) | (with_reducible refine Fr.setCell ?_ (fun h => absurd h (Nat.not_lt.2 ?_)) _) | (exact Nat.le_refl _) | (exact Fr.size (by assumption)))))) hf2) HX1.out (fun e => e)
       have HF := Lib.hid (Fr.trans (Fr.trans HF.out (by (repeat (first | (with_reducible assumption) | (with_reducible exact Fr.refl _ _) | (with_reducible refine Fr.alloc ?_ _) | (with_reducible refine Fr.drew ?_) | (refine Fr.setCell ?_ (by intro _; rfl) _))))) (hf2.mono (fun _ _ e => e.elim)))
       have z0 := cell_obj hz 0 (.int .i64 0) rfl; have z1 := cell_obj hz 1 (.int .i64 0) rfl; have z2 := cell_obj hz 2 (.int .i64 0) rfl; have z3 := cell_obj hz 3 (.slice none 0 0) rfl
       have f0 := obj_frozen hz 0; have f1 := obj_frozen hz 1; have f2 := obj_frozen hz 2; have f3 := obj_frozen hz 3
       have HZ := Lib.hid hz
       clear hb2 hv2 hf2 hz))
  obtain ⟨W, hW, hb, hf⟩ := put_end nu zo ro (.slice va (setF its s (OF + k)).length vc) HZ.out
  rw [← hW]
  have c0 := cell_obj hb 0 (.int .i64 nu) rfl
  have c1 := cell_obj hb 1 (.int .i64 zo) rfl
  have c2 := cell_obj hb 2 (.int .i64 ro) rfl
  have c3 := cell_obj hb 3 (.slice va (setF its s (OF + k)).length vc) rfl
  clear hW
  go_wp2_with fail
  refine bodyPost_ret (v := .agg #[.int .i64 nu, .int .i64 zo, .int .i64 ro, .slice va (setF its s (OF + k)).length vc]) (by simp [results, Tryz.results55, go_sem, c0, c1, c2, c3]) rfl ?_
  have hw := HW.out _ (HF.out.trans hf)
  have hlow : ∀ c, (Value.slice va (setF its s (OF + k)).length vc).ownBlock = some c → n0 + 2 ≤ c := fun c hc => by
    have h1 := HV2.out c hc
    have h2 := HSZ.out
    have h3 := (Array.getElem?_eq_some_iff.1 HX1.out).1
    omega
  refine ⟨_, rfl, HB2.out.keep hf (fun _ c hc e => by have := hlow c hc; omega), fun c hc => by have := hlow c hc; omega, hw⟩
set_option maxRecDepth 100000 in
set_option maxHeartbeats 8000000 in
theorem bTk1 (w : World) (b : BV) (s : Str) (b1 : Nat) (hk : BOk w b) (h1 : w.cell? ⟨b1, 0, none⟩ = some (vS s)) : Calls Tryz.prog 57 #[.agg b.cs, .pointer (some ⟨b1, 0, none⟩)] w fun e w' => e = .returned (.int .i64 (ofF b.its s)) ∧ Fr (fun _ => False) w w' := by
  have hKD := Lib.hid (fun W (hf : Fr (fun _ => False) w W) => iOf W b.l b.its s ((bokKeeps hk hf (fun _ e => e.elim)).l))
  obtain ⟨n0, hn0⟩ : ∃ n0, w.heap.size = n0 := ⟨_, rfl⟩
  obtain ⟨KD, hKD2⟩ : ∃ k, ofF b.its s = k := ⟨_, rfl⟩
  rw [hKD2] at hKD ⊢
  obtain ⟨nu, zo, ro, l, its⟩ := b
  obtain ⟨la, lc, hl⟩ := hk.l.sl
  dsimp only [BV.cs] at *
  subst hl
  obtain ⟨N, hN⟩ : ∃ N, its.length = N := ⟨_, rfl⟩
  rw [hN] at hKD ⊢
  have hb2 := ((Fr.refl (fun _ => False) w).alloc (.cells #[.int .i64 nu, .int .i64 zo, .int .i64 ro, .slice la N lc] 64)).cell h1 (fun h => h)
  clear hk h1 hKD2 hN
  go_enter Tryz.func57, Tryz.ntmps57
  go_wp2_with (go_at_call 47; refine (hKD.out _ ((Fr.refl _ w).alloc _)).mono ?_; rintro e w2 ⟨rfl, hf2⟩; have HF2 := Lib.hid (((Fr.refl (fun _ => False) w).alloc _).trans hf2); clear hf2)
  go_ret
  exact ⟨rfl, HF2.out⟩
set_option maxRecDepth 100000 in
set_option maxHeartbeats 8000000 in
theorem bTk2 (w : World) (b : BV) (s : Str) (b1 b9 : Nat) (hk : BOk w b) (h1 : w.cell? ⟨b1, 0, none⟩ = some (vS s)) (h9 : w.cell? ⟨b9, 0, none⟩ = some (.func (.func 57) #[] #[.pointer (some ⟨b1, 0, none⟩)])) : Calls Tryz.prog 58 #[.agg b.cs, .pointer (some ⟨b9, 0, none⟩)] w fun e w' => e = .returned (.bool (decide (0 < ofF b.its s))) ∧ Fr (fun _ => False) w w' := by
  have hKD := Lib.hid (fun W (hf : Fr (fun _ => False) w W) => bTk1 W b s b1 (bokKeeps hk hf (fun _ e => e.elim)) (hf.cell h1 (fun e => e)))
  obtain ⟨n0, hn0⟩ : ∃ n0, w.heap.size = n0 := ⟨_, rfl⟩
  obtain ⟨KD, hKD2⟩ : ∃ k, ofF b.its s = k := ⟨_, rfl⟩
  rw [hKD2] at hKD ⊢
  obtain ⟨nu, zo, ro, l, its⟩ := b
  obtain ⟨la, lc, hl⟩ := hk.l.sl
  dsimp only [BV.cs] at *
  subst hl
  obtain ⟨N, hN⟩ : ∃ N, its.length = N := ⟨_, rfl⟩
  rw [hN] at hKD ⊢
  have hb2 := ((Fr.refl (fun _ => False) w).alloc (.cells #[.int .i64 nu, .int .i64 zo, .int .i64 ro, .slice la N lc] 64)).cell h9 (fun h => h)
  clear hk h1 h9 hKD2 hN
  go_enter Tryz.func58, Tryz.ntmps58
  go_wp2_with (go_at_call 57; refine (hKD.out _ ((Fr.refl _ w).alloc _)).mono ?_; rintro e w2 ⟨rfl, hf2⟩; have HF2 := Lib.hid (((Fr.refl (fun _ => False) w).alloc _).trans hf2); clear hf2)
  go_ret
  exact ⟨rfl, HF2.out⟩
set_option maxRecDepth 100000 in
set_option maxHeartbeats 8000000 in
theorem bTk3 (w : World) (a b : BV) (s : Str) (b1 b9 : Nat) (ha : BOk w a) (hb : BOk w b) (h1 : w.cell? ⟨b1, 0, none⟩ = some (vS s)) (h9 : w.cell? ⟨b9, 0, none⟩ = some (.func (.func 57) #[] #[.pointer (some ⟨b1, 0, none⟩)])) : Calls Tryz.prog 59 #[.agg a.cs, .agg b.cs, .pointer (some ⟨b9, 0, none⟩)] w fun e w' => e = .returned (.int .i64 (cfTake s a.e b.e)) ∧ Fr (fun _ => False) w w' := by
  have hKA := Lib.hid (fun W (hf : Fr (fun _ => False) w W) => bTk1 W a s b1 (bokKeeps ha hf (fun _ e => e.elim)) (hf.cell h1 (fun e => e)))
  have hKB := Lib.hid (fun W (hf : Fr (fun _ => False) w W) => bTk1 W b s b1 (bokKeeps hb hf (fun _ e => e.elim)) (hf.cell h1 (fun e => e)))
  have hCM := Lib.hid (fun x y W => cCompare x y W)
  obtain ⟨n0, hn0⟩ : ∃ n0, w.heap.size = n0 := ⟨_, rfl⟩
  obtain ⟨R, hR⟩ : ∃ R, cfTake s a.e b.e = R := ⟨_, rfl⟩
  have hR2 : cmpI (ofF a.its s) (ofF b.its s) = R := hR
  rw [hR]
  obtain ⟨KA, hKA2⟩ : ∃ k, ofF a.its s = k := ⟨_, rfl⟩
  obtain ⟨KB, hKB2⟩ : ∃ k, ofF b.its s = k := ⟨_, rfl⟩
  rw [hKA2] at hKA hR2; rw [hKB2] at hKB hR2
  have HR := Lib.hid hR2
  obtain ⟨nu, zo, ro, l, its⟩ := a
  obtain ⟨mu, yo, so, m, jts⟩ := b
  obtain ⟨la, lc, hl⟩ := ha.l.sl
  obtain ⟨ma, mc, hm⟩ := hb.l.sl
  dsimp only [BV.cs] at *
  subst hl hm
  obtain ⟨N, hN⟩ : ∃ N, its.length = N := ⟨_, rfl⟩
  obtain ⟨M, hM⟩ : ∃ M, jts.length = M := ⟨_, rfl⟩
  rw [hN] at hKA ⊢
  rw [hM] at hKB ⊢
  obtain ⟨W0, hW0⟩ : ∃ W0, (w.alloc (.cells #[.int .i64 nu, .int .i64 zo, .int .i64 ro, .slice la N lc] 64)).alloc (.cells #[.int .i64 mu, .int .i64 yo, .int .i64 so, .slice ma M mc] 64) = W0 := ⟨_, rfl⟩
  have hF0 : Fr (fun _ => False) w W0 := by rw [← hW0]; exact ((Fr.refl _ w).alloc _).alloc _
  have hx0 : W0.heap[n0]? = some (.cells #[.int .i64 nu, .int .i64 zo, .int .i64 ro, .slice la N lc] 64) := by rw [← hW0]; exact heap_keep (heap_at hn0.symm _) _
  have hx1 : W0.heap[n0 + 1]? = some (.cells #[.int .i64 mu, .int .i64 yo, .int .i64 so, .slice ma M mc] 64) := by rw [← hW0]; exact heap_at (by simp; omega) _
  have hc9 := hF0.cell h9 (fun e => e)
  have HF0 := Lib.hid hF0
  have p0 := FrW.cell (cell_obj hx0 0 (.int .i64 nu) rfl); have p1 := FrW.cell (cell_obj hx0 1 (.int .i64 zo) rfl); have p2 := FrW.cell (cell_obj hx0 2 (.int .i64 ro) rfl); have p3 := FrW.cell (cell_obj hx0 3 (.slice la N lc) rfl)
  have q0 := FrW.cell (cell_obj hx1 0 (.int .i64 mu) rfl); have q1 := FrW.cell (cell_obj hx1 1 (.int .i64 yo) rfl); have q2 := FrW.cell (cell_obj hx1 2 (.int .i64 so) rfl); have q3 := FrW.cell (cell_obj hx1 3 (.slice ma M mc) rfl)
  have r0 := FrW.cell hc9
  clear ha hb h1 h9 hKA2 hKB2 hN hM hR hR2 hx0 hx1 hc9 hF0
  go_enter Tryz.func59, Tryz.ntmps59
  go_wp2_with fail
  refine wp_region_fr (by kernel_rfl) (by kernel_rfl) ?_
  repeat (go_big_quiet_step (first | (go_at_call 57; rename_i X; (first | (with_reducible refine (hKA.out X.val (HF0.out.trans X.fr)).mono ?_) | (with_reducible refine (hKB.out X.val (HF0.out.trans X.fr)).mono ?_)); rintro e w2 ⟨rfl, hF⟩; exact ⟨rfl, ⟨w2, X.fr.trans hF⟩, rfl⟩) | (go_at_call 53; rename_i X; refine (hCM.out KA KB _).mono ?_; rw [HR.out]; rintro e w2 ⟨rfl, rfl⟩; exact ⟨rfl, ⟨_, X.fr⟩, rfl⟩)))
  refine wpQuiet_nil ?_
  rintro V ⟨⟨_, hV⟩, rfl⟩
  go_wp2_with fail
  go_ret
  exact ⟨rfl, HF0.out.trans hV⟩
set_option maxRecDepth 100000 in
set_option maxHeartbeats 8000000 in
theorem bTk4 (w : World) (b : BV) (s : Str) (k : Int) (b1 b9 : Nat) (hk : BOk w b) (hl : b.its.length ≤ 1000) (hr : RiseI b.its) (hs : okS s) (hn : okI (ofF b.its s - k)) (h1 : w.cell? ⟨b1, 0, none⟩ = some (vS s)) (h9 : w.cell? ⟨b9, 0, none⟩ = some (.func (.func 57) #[] #[.pointer (some ⟨b1, 0, none⟩)])) :
    Calls Tryz.prog 60 #[.agg b.cs, .int .i64 k, .pointer (some ⟨b1, 0, none⟩), .pointer (some ⟨b9, 0, none⟩)] w fun e w' =>
      ∃ v, e = .returned (.agg (BV.cs (b.put v s (ofF b.its s - k)))) ∧ BOk w' (b.put v s (ofF b.its s - k)) ∧ (∀ c, v.ownBlock = some c → w.heap.size ≤ c) ∧ Fr (fun _ => False) w w' := by
  obtain ⟨n0, hn0⟩ : ∃ n0, w.heap.size = n0 := ⟨_, rfl⟩
  have HK := Lib.hid hk; have HLN := Lib.hid hl; have HRI := Lib.hid hr; have HSS := Lib.hid hs
  have hOf := Lib.hid (fun W (hf : Fr (fun _ => False) w W) => bTk1 W b s b1 (bokKeeps hk hf (fun _ e => e.elim)) (hf.cell h1 (fun e => e)))
  obtain ⟨OF, hOF⟩ : ∃ x, ofF b.its s = x := ⟨_, rfl⟩
  rw [hOF] at hOf hn ⊢
  have HWI := Lib.hid (fun W (hf : Fr (fun _ => False) w W) => bWith W b s (OF - k) (bokKeeps hk hf (fun _ e => e.elim)) hl hr hs hn)
  obtain ⟨nu, zo, ro, l, its⟩ := b
  obtain ⟨la, lc, hl2⟩ := hk.l.sl
  dsimp only at hl2
  subst hl2
  have HBE : Hid (∀ v, BV.cs (BV.put ⟨nu, zo, ro, .slice la its.length lc, its⟩ v s (OF - k)) = #[.int .i64 nu, .int .i64 zo, .int .i64 ro, v]) := Lib.hid (fun v => rfl)
  have hcs : BV.cs ⟨nu, zo, ro, .slice la its.length lc, its⟩ = #[.int .i64 nu, .int .i64 zo, .int .i64 ro, .slice la its.length lc] := rfl
  rw [hcs] at HWI hOf ⊢
  obtain ⟨W0, hW0⟩ : ∃ W0, (w.alloc (.cells #[.int .i64 nu, .int .i64 zo, .int .i64 ro, .slice la its.length lc] 64)).alloc (.cells #[.int .i64 0, .int .i64 0, .int .i64 0, .slice none 0 0] 64) = W0 := ⟨_, rfl⟩
  have hF0 : Fr (fun _ => False) w W0 := by rw [← hW0]; exact ((Fr.refl _ w).alloc _).alloc _
  have hx0 : W0.heap[n0]? = some (.cells #[.int .i64 nu, .int .i64 zo, .int .i64 ro, .slice la its.length lc] 64) := by rw [← hW0]; exact heap_keep (heap_at hn0.symm _) _
  have hx1 : W0.heap[n0 + 1]? = some (.cells #[.int .i64 0, .int .i64 0, .int .i64 0, .slice none 0 0] 64) := by rw [← hW0]; exact heap_at (by simp; omega) _
  have hc1 := hF0.cell h1 (fun e => e)
  have hc9 := hF0.cell h9 (fun e => e)
  have hlt9 := World.block_lt_of_cell? w _ h9
  dsimp only at hlt9
  obtain ⟨N, hN⟩ : ∃ N, its.length = N := ⟨_, rfl⟩
  have HNN := Lib.hid hN
  rw [hN] at hOf HWI hx0 hW0 ⊢
  have hlt1 := World.block_lt_of_cell? w _ h1
  dsimp only at hlt1
  have hall : Hid (∀ W, Fr (fun c => c = n0 + 1) W0 W → W.cell? ⟨n0, 0, none⟩ = some (.int .i64 nu) ∧ W.cell? ⟨n0, 1, none⟩ = some (.int .i64 zo) ∧ W.cell? ⟨n0, 2, none⟩ = some (.int .i64 ro) ∧ W.cell? ⟨n0, 3, none⟩ = some (.slice la N lc) ∧ W.cell? ⟨b1, 0, none⟩ = some (vS s) ∧ W.cell? ⟨b9, 0, none⟩ = some (.func (.func 57) #[] #[.pointer (some ⟨b1, 0, none⟩)])) := Lib.hid (fun W hf => by
    have g : ¬ n0 = n0 + 1 := by omega
    exact ⟨hf.cell (cell_obj hx0 0 (.int .i64 nu) rfl) g, hf.cell (cell_obj hx0 1 (.int .i64 zo) rfl) g, hf.cell (cell_obj hx0 2 (.int .i64 ro) rfl) g, hf.cell (cell_obj hx0 3 (.slice la N lc) rfl) g, hf.cell hc1 (by show ¬ b1 = n0 + 1; omega), hf.cell hc9 (by show ¬ b9 = n0 + 1; omega)⟩)
  have HW : Hid (∀ W, Fr (fun c => c = n0 + 1) W0 W → Fr (fun _ => False) w W) := Lib.hid (fun W hf => hF0.trans' hf (fun b hb e => by omega))
  have HF0 := Lib.hid hF0; have HX1 := Lib.hid hx1
  have HF := Lib.hid (Fr.refl (fun c => c = n0 + 1) W0)
  have HX := Lib.hid (Fr.refl (fun _ => False) W0)
  have hwr : IntKind.i64.wrap (OF - k) = OF - k := IntWalk.i64_in _ hn
  clear hk hl hr hs h1 hOF hcs hx0 hx1 hc1 hF0 hN hn hlt1 h9 hc9 hlt9
  go_enter Tryz.func60, Tryz.ntmps60
  go_wp2_with fail
  go_region_held3 (fun w' => w'.cell? ⟨n0, 0, none⟩ = some (.int .i64 nu) ∧ w'.cell? ⟨n0, 1, none⟩ = some (.int .i64 zo) ∧ w'.cell? ⟨n0, 2, none⟩ = some (.int .i64 ro) ∧ w'.cell? ⟨n0, 3, none⟩ = some (.slice la N lc) ∧ w'.cell? ⟨b1, 0, none⟩ = some (vS s) ∧ w'.cell? ⟨b9, 0, none⟩ = some (.func (.func 57) #[] #[.pointer (some ⟨b1, 0, none⟩)]))
    (first | exact hall.out _ HF.out | (refine hall.out _ ?_; exact (Fr.trans HF.out (by (repeat (first | (with_reducible assumption) | (with_reducible exact Fr.refl _ _) | (with_reducible refine Fr.alloc ?_ _) | (with_reducible refine Fr.drew ?_) | (refine Fr.setCell ?_ (by intro _; rfl) _)))))))
    (first
    | (go_at_call 57
       refine (hOf.out _ (HW.out _ (Fr.trans HF.out (by (repeat (first | (with_reducible assumption) | (with_reducible exact Fr.refl _ _) | (with_reducible refine Fr.alloc ?_ _) | (with_reducible refine Fr.drew ?_) | (refine Fr.setCell ?_ (by intro _; rfl) _))))))).mono ?_
       rintro e w1 ⟨rfl, hf1⟩
       have HX := Lib.hid (Fr.trans (Fr.trans HX.out (by (repeat (first | (with_reducible assumption) | (with_reducible exact Fr.refl _ _) | (with_reducible refine Fr.alloc ?_ _) | (with_reducible refine Fr.drew ?_) | (with_reducible refine Fr.setCell ?_ (fun h => absurd h (Nat.not_lt.2 ?_)) _) | (exact Nat.le_refl _) | (exact Fr.size (by assumption)))))) hf1)
       have HF := Lib.hid (Fr.trans (Fr.trans HF.out (by (repeat (first | (with_reducible assumption) | (with_reducible exact Fr.refl _ _) | (with_reducible refine Fr.alloc ?_ _) | (with_reducible refine Fr.drew ?_) | (refine Fr.setCell ?_ (by intro _; rfl) _))))) (hf1.mono (fun _ _ e => e.elim)))
       clear hf1)
    | (go_at_call 56
       refine (HWI.out _ (HW.out _ (Fr.trans HF.out (by (repeat (first | (with_reducible assumption) | (with_reducible exact Fr.refl _ _) | (with_reducible refine Fr.alloc ?_ _) | (with_reducible refine Fr.drew ?_) | (refine Fr.setCell ?_ (by intro _; rfl) _))))))).mono ?_
       rintro e w2 ⟨v, rfl, hb2, hv2, hf2⟩
       dsimp only [BV.put, BV.cs]
       obtain ⟨va, vc, hve⟩ := hb2.l.sl
       dsimp only [BV.put] at hve
       subst hve
       have HB2 := Lib.hid hb2; have HV2 := Lib.hid hv2; have HSZ := Lib.hid (Fr.size (Fr.trans HF.out (by (repeat (first | (with_reducible assumption) | (with_reducible exact Fr.refl _ _) | (with_reducible refine Fr.alloc ?_ _) | (with_reducible refine Fr.drew ?_) | (refine Fr.setCell ?_ (by intro _; rfl) _))))))
       have hz := Fr.at_ (Fr.trans (Fr.trans HX.out (by (repeat (first | (with_reducible assumption) | (with_reducible exact Fr.refl _ _) | (with_reducible refine Fr.alloc ?_ _) | (with_reducible refine Fr.drew ?_) | (with_reducible refine Fr.setCell ?_ (fun h => absurd h (Nat.not_lt.2 ?_)) _) | (exact Nat.le_refl _) | (exact Fr.size (by assumption)))))) hf2) HX1.out (fun e => e)
       have HF := Lib.hid (Fr.trans (Fr.trans HF.out (by (repeat (first | (with_reducible assumption) | (with_reducible exact Fr.refl _ _) | (with_reducible refine Fr.alloc ?_ _) | (with_reducible refine Fr.drew ?_) | (refine Fr.setCell ?_ (by intro _; rfl) _))))) (hf2.mono (fun _ _ e => e.elim)))
       have z0 := cell_obj hz 0 (.int .i64 0) rfl; have z1 := cell_obj hz 1 (.int .i64 0) rfl; have z2 := cell_obj hz 2 (.int .i64 0) rfl; have z3 := cell_obj hz 3 (.slice none 0 0) rfl
       have f0 := obj_frozen hz 0; have f1 := obj_frozen hz 1; have f2 := obj_frozen hz 2; have f3 := obj_frozen hz 3
       have HZ := Lib.hid hz
       clear hb2 hv2 hf2 hz))
  obtain ⟨W, hW, hb, hf⟩ := put_end nu zo ro (.slice va (setF its s (OF - k)).length vc) HZ.out
  rw [← hW]
  have c0 := cell_obj hb 0 (.int .i64 nu) rfl
  have c1 := cell_obj hb 1 (.int .i64 zo) rfl
  have c2 := cell_obj hb 2 (.int .i64 ro) rfl
  have c3 := cell_obj hb 3 (.slice va (setF its s (OF - k)).length vc) rfl
  clear hW
  go_wp2_with fail
  refine bodyPost_ret (v := .agg #[.int .i64 nu, .int .i64 zo, .int .i64 ro, .slice va (setF its s (OF - k)).length vc]) (by simp [results, Tryz.results60, go_sem, c0, c1, c2, c3]) rfl ?_
  have hw := HW.out _ (HF.out.trans hf)
  have hlow : ∀ c, (Value.slice va (setF its s (OF - k)).length vc).ownBlock = some c → n0 + 2 ≤ c := fun c hc => by
    have h1 := HV2.out c hc
    have h2 := HSZ.out
    have h3 := (Array.getElem?_eq_some_iff.1 HX1.out).1
    omega
  refine ⟨_, rfl, HB2.out.keep hf (fun _ c hc e => by have := hlow c hc; omega), fun c hc => by have := hlow c hc; omega, hw⟩
end Go.Proofs.YtefjdcghdcbojaaGreat

