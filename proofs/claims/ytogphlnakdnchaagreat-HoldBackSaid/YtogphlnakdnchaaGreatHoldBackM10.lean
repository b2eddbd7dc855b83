/- Texts of this claim, joined: hold: move at a closure (written by wip/tools/move08.py); hold: move at a closure (written by wip/tools/move08.py); A region that draws its order: all its operations but the last only read (its calls may draw), and the last one (a store) waits for all: one walk in the text's order serves; A region that draws its order, whose operations only read, but for boxes of its own (each laid, and stored once): one walk in the text's order serves; A region that draws its order: operations that only read, and a chain of others (calls, then stores), each of which waits for the one ahead: one walk in the text's order serves; hold: copied, Hold; hold: Hold; hold: a shelf as a thing of its own (written by wip/tools/shelf08.py). -/
import Derived.Test.YtogphlnakdnchaaGreatHoldBackM9
import Derived.Test.YtogphlnakdnchaaGreatHoldBackM1
import Derived.BigQuiet
import Derived.StillTail
import Derived.Test.YtogphlnakdnchaaGreatHoldBackM8
import Derived.Deep.QuietTactic
namespace Go.Proofs.YtogphlnakdnchaaGreat
open Go.RowKit Go.Maps
theorem hmvU_of (W : World) (b : Nat) : Calls Tryz.prog 37 #[.pointer (some ⟨b, 0, none⟩)] W fun e w' => e = .returned (.tuple #[.pointer (some ⟨b, 2, none⟩), .pointer (some ⟨b, 1, none⟩)]) ∧ Fr (fun _ => False) W w' := by
  go_enter Tryz.func37, Tryz.ntmps37
  go_wp2_with fail
  refine wp_region_fr (by kernel_rfl) (by kernel_rfl) ?_
  repeat (go_big_quiet_step (fail))
  refine wpQuiet_nil ?_
  rintro _ ⟨⟨W2, hf2⟩, rfl⟩
  go_wp2_with fail
  go_ret2
  exact ⟨rfl, hf2⟩
set_option maxRecDepth 100000 in
set_option maxHeartbeats 16000000 in
theorem hmvU (w : World) (g gs m : Nat) (T0 TB : Nat → Prop) (A : Stk) (l : List (Int × HV)) (o : Int) (h : SB w g gs m T0 TB A l) (hA : SOk A) (ho : okI o) (hll : l.length ≤ 1000000) (hk : ∀ p ∈ mapE l, HEok p.1 p.2) :
    Calls Tryz.prog 34 #[.pointer (some ⟨g, 0, none⟩), .int .i64 o, .int .i64 5, .func (.func 37) #[] #[]] w fun e w' => ∃ v' T0' TB' l', e = .returned (.tuple #[v', .int .i64 (moveS A (mapE l) o 5 1 (some 0)).1.2]) ∧ SB w' g gs m T0' TB' (moveS A (mapE l) o 5 1 (some 0)).2.1 l' ∧ mapE l' = (moveS A (mapE l) o 5 1 (some 0)).2.2 ∧
      Il w' v' (moveS A (mapE l) o 5 1 (some 0)).1.1 ∧ (∀ b, v'.ownBlock = some b → w.heap.size ≤ b ∧ b < w'.heap.size ∧ ¬ T0' b ∧ ¬ TB' b) ∧ Shs w w' m T0 TB T0' TB' := by
  obtain ⟨R, hR'⟩ : ∃ R, moveS A (mapE l) o 5 1 (some 0) = R := ⟨_, rfl⟩
  have hRd : R = moveS A (mapE l) o 5 1 (some 0) := hR'.symm
  rw [hR']
  unfold moveS at hRd
  have HSB := Lib.hid h
  obtain ⟨c0, c1⟩ := h.cells
  have hm := Lib.hid (hmay w g m o c1)
  have hgc : Hid (∀ W, Fr (fun _ => False) w W → W.cell? ⟨g, 0, none⟩ = some (.pointer (some ⟨gs, 0, none⟩)) ∧ W.cell? ⟨g, 1, none⟩ = some (.map (some m))) := Lib.hid (fun W hf => (HSB.out.keep hf (fun _ _ e => e)).cells)
  have hhd := h.hold ho
  have hln0 := heOf_len hk o
  have hmy0 := heOf_may hk o
  rw [heOf_map] at hRd hln0 hmy0
  have hh := hhold w g gs m T0 TB A l o h ho
  obtain ⟨⟨xo, xh, xp, xs, he, pi, sh⟩, hX⟩ : ∃ X, holdOf l o = X := ⟨_, rfl⟩
  rw [hX] at hhd hh hRd hln0 hmy0
  obtain ⟨a1, d1, e1⟩ := hhd.1.lh.1.sl
  obtain ⟨a2, d2, e2⟩ := hhd.1.lp.1.sl
  obtain ⟨a3, d3, e3⟩ := hhd.1.ls.1.sl
  have hxo := hhd.2.symm
  dsimp only at e1 e2 e3 hxo
  subst e1 e2 e3 hxo
  simp only [HV.enc, HV.e, HE.get, HE.set] at hh hRd hln0 hmy0
  obtain ⟨n1, hn1⟩ : ∃ n, he.length = n := ⟨_, rfl⟩
  obtain ⟨n2, hn2⟩ : ∃ n, pi.length = n := ⟨_, rfl⟩
  obtain ⟨n3, hn3⟩ : ∃ n, sh.length = n := ⟨_, rfl⟩
  have HN1 := Lib.hid hn1; have HN2 := Lib.hid hn2; have HN3 := Lib.hid hn3; have HLN := Lib.hid hln0
  have HHD0 := hhd.1
  rw [hn1, hn2, hn3] at HHD0 hh
  have HHD := Lib.hid HHD0
  have HLL : Hid (l.length ≤ 1000000) := Lib.hid hll
  have hDo0 : ∀ W, Fr (fun _ => False) w W → Calls Tryz.prog 31 #[.pointer (some ⟨gs, 0, none⟩), .int .i64 5, .slice a2 n2 d2] W fun e w' => e = .returned (.int .i64 (doS A 5 pi).1) ∧ ∃ T0', SB w' g gs m T0' TB (doS A 5 pi).2 l ∧ Stp T0 W w' T0' := fun W hf => by
    have hW := HSB.out.keep hf (fun _ _ e => e)
    refine (sDo W gs T0 A 5 _ pi hW.stk hA (HHD.out.lp.1.keep hf (fun _ _ _ e => e))).mono ?_
    rintro e w' ⟨rfl, T0', h1, h2⟩
    exact ⟨rfl, T0', hW.stock h1 h2, h2⟩
  have hDA1 := doS_no (A := A) (k := 5) (L := pi)
  obtain ⟨⟨de, D⟩, hD⟩ : ∃ D, doS A 5 pi = D := ⟨_, rfl⟩
  rw [hD] at hDo0 hDA1
  simp only [hD] at hRd
  have hDA0 : de ≠ 0 → D = A := hDA1
  have hPl0 := fun W (hf : Fr (fun _ => False) w W) => iPlus W (.slice a1 n1 d1) (.slice a2 n2 d2) he pi (HHD.out.lh.1.keep hf (fun _ _ _ e => e)) (HHD.out.lp.1.keep hf (fun _ _ _ e => e))
  obtain ⟨⟨P, pe⟩, hP⟩ : ∃ P, plusF he pi = P := ⟨_, rfl⟩
  rw [hP] at hPl0
  simp only [hP] at hRd
  have HP := Lib.hid hP
  obtain ⟨nP, hnP⟩ : ∃ n, P.length = n := ⟨_, rfl⟩
  have hPN := Lib.hid hnP
  have hPl := Lib.hid hPl0
  clear hPl0 hP hnP
  have hnbT : Hid (∀ b, w.heap.size ≤ b → ¬ T0 b) := Lib.hid (fun b hb e => by have := h.stk.lt b e; omega)
  have hh := Lib.hid hh
  have hDo2 := Lib.hid hDo0
  clear h c0 c1 hR' hhd hX hD hmy0 hk hDo0 HHD0 hDA1 hln0 hll
  by_cases hq1 : mayO o = 0
  case neg =>
    rw [if_pos hq1] at hRd
    have hR := Lib.hid hRd
    have q1 : (mayO o != 0) = true := by simpa using hq1
    clear hRd
    go_enter Tryz.func34, Tryz.ntmps34
    go_wp2_with (go_at_call 26; refine hm.out.mono ?_; rintro e w0 ⟨rfl, rfl⟩)
    go_ret2
    rw [hR.out]
    exact ⟨_, T0, TB, l, rfl, HSB.out, rfl, il_nil _, fun b hb => (by cases hb), Fr.refl _ _, fun b hb => .inl hb, fun b hb => .inl hb⟩
  rw [if_neg (by simpa using hq1)] at hRd
  rw [hq1] at hm
  clear hq1
  by_cases hq4 : pi = []
  case pos =>
    rw [if_pos hq4] at hRd
    have hR := Lib.hid hRd
    have hz0 : n2 = 0 := by rw [← hn2, hq4]; rfl
    have hz1 : ((n2 : Int) == 0) = true := by simp; omega
    clear hRd hn2 hq4 hz0
    go_enter Tryz.func34, Tryz.ntmps34
    go_wp2_with (first
      | (go_at_call 26; refine hm.out.mono ?_; rintro e w0 ⟨rfl, rfl⟩)
      | (go_at_call 27; refine hh.out.mono ?_; rintro e w1 ⟨rfl, hf1⟩; have HF1 := Lib.hid hf1; clear hf1)
      | (go_at_call 37; refine (hmvU_of _ _).mono ?_; rintro e w2 ⟨rfl, hf2⟩; have hb2 := hf2.at_ (heap_at (w := w1) rfl (.cells #[.int .i64 o, .slice a1 n1 d1, .slice a2 n2 d2, .slice a3 n3 d3] 37)) (fun e => e); have HB2 := Lib.hid hb2; have y0 := cell_obj hb2 0 (.int .i64 o) rfl; have y1 := cell_obj hb2 1 (.slice a1 n1 d1) rfl; have y2 := cell_obj hb2 2 (.slice a2 n2 d2) rfl; have y3 := cell_obj hb2 3 (.slice a3 n3 d3) rfl; have HZ12 : Hid (w1.heap.size + 1 ≤ w2.heap.size) := Lib.hid (by have := hf2.size; rw [World.size_alloc] at this; exact this); have HF2 := Lib.hid ((HF1.out.alloc _).trans hf2); obtain ⟨g0, g1⟩ := hgc.out _ HF2.out; clear hf2 hb2))
    go_ret2
    rw [hR.out]
    exact ⟨_, T0, TB, l, rfl, HSB.out.keep HF2.out (fun _ _ e => e), rfl, il_nil _, fun b hb => (by cases hb), HF2.out.mono (fun _ _ e => e.elim), fun b hb => .inl hb, fun b hb => .inl hb⟩
  rw [if_neg hq4] at hRd
  have hF0 : 0 < n2 := by
    rcases Nat.eq_zero_or_pos n2 with h0 | h0
    · exact absurd (List.eq_nil_of_length_eq_zero (hn2.trans h0)) hq4
    · exact h0
  have hF1 : ((n2 : Int) == 0) = false := by simp; omega
  clear hn1 hn2 hn3 hq4
  (try dsimp only at hRd)
  by_cases hq6 : pe = 0
  case neg =>
    rw [if_pos hq6] at hRd
    have hR := Lib.hid hRd
    have q6 : (pe == 0) = false := by simpa using hq6
    have q7 : (pe != 0) = true := by simpa using hq6
    clear hRd hq6
    go_enter Tryz.func34, Tryz.ntmps34
    go_wp2_with (first
      | (go_at_call 26; refine hm.out.mono ?_; rintro e w0 ⟨rfl, rfl⟩)
      | (go_at_call 27; refine hh.out.mono ?_; rintro e w1 ⟨rfl, hf1⟩; have HF1 := Lib.hid hf1; clear hf1)
      | (go_at_call 37; refine (hmvU_of _ _).mono ?_; rintro e w2 ⟨rfl, hf2⟩; have hb2 := hf2.at_ (heap_at (w := w1) rfl (.cells #[.int .i64 o, .slice a1 n1 d1, .slice a2 n2 d2, .slice a3 n3 d3] 37)) (fun e => e); have HB2 := Lib.hid hb2; have y0 := cell_obj hb2 0 (.int .i64 o) rfl; have y1 := cell_obj hb2 1 (.slice a1 n1 d1) rfl; have y2 := cell_obj hb2 2 (.slice a2 n2 d2) rfl; have y3 := cell_obj hb2 3 (.slice a3 n3 d3) rfl; have HZ12 : Hid (w1.heap.size + 1 ≤ w2.heap.size) := Lib.hid (by have := hf2.size; rw [World.size_alloc] at this; exact this); have HF2 := Lib.hid ((HF1.out.alloc _).trans hf2); obtain ⟨g0, g1⟩ := hgc.out _ HF2.out; clear hf2 hb2)
      | (go_at_call 30; refine (hPl.out _ HF2.out).mono ?_; rintro e w4 ⟨v4, rfl, ho4, hf4⟩; obtain ⟨pa, pc, rfl⟩ := row_slice ho4; (try rw [hPN.out]); have HO4 := Lib.hid ho4; have HG4 := Lib.hid hf4; have HF4 := Lib.hid (HF2.out.trans hf4); have hb4 := hf4.at_ HB2.out (fun e => e); have HB4 := Lib.hid hb4; have z0 := cell_obj hb4 0 (.int .i64 o) rfl; have z1 := cell_obj hb4 1 (.slice a1 n1 d1) rfl; have z2 := cell_obj hb4 2 (.slice a2 n2 d2) rfl; have z3 := cell_obj hb4 3 (.slice a3 n3 d3) rfl; obtain ⟨g6, g7⟩ := hgc.out _ HF4.out; clear ho4 hf4 hb4))
    go_ret2
    rw [hR.out]
    exact ⟨_, T0, TB, l, rfl, HSB.out.keep HF4.out (fun _ _ e => e), rfl, il_nil _, fun b hb => (by cases hb), HF4.out.mono (fun _ _ e => e.elim), fun b hb => .inl hb, fun b hb => .inl hb⟩
  rw [if_neg (by simpa using hq6)] at hRd
  subst hq6
  by_cases hq7 : de = 0
  case neg =>
    rw [if_pos hq7] at hRd
    have hR := Lib.hid hRd
    have q7 : (de != 0) = true := by simpa using hq7
    have hDA : Hid (D = A) := Lib.hid (hDA0 hq7)
    clear hRd
    go_enter Tryz.func34, Tryz.ntmps34
    go_wp2_with (first
      | (go_at_call 26; refine hm.out.mono ?_; rintro e w0 ⟨rfl, rfl⟩)
      | (go_at_call 27; refine hh.out.mono ?_; rintro e w1 ⟨rfl, hf1⟩; have HF1 := Lib.hid hf1; clear hf1)
      | (go_at_call 37; refine (hmvU_of _ _).mono ?_; rintro e w2 ⟨rfl, hf2⟩; have hb2 := hf2.at_ (heap_at (w := w1) rfl (.cells #[.int .i64 o, .slice a1 n1 d1, .slice a2 n2 d2, .slice a3 n3 d3] 37)) (fun e => e); have HB2 := Lib.hid hb2; have y0 := cell_obj hb2 0 (.int .i64 o) rfl; have y1 := cell_obj hb2 1 (.slice a1 n1 d1) rfl; have y2 := cell_obj hb2 2 (.slice a2 n2 d2) rfl; have y3 := cell_obj hb2 3 (.slice a3 n3 d3) rfl; have HZ12 : Hid (w1.heap.size + 1 ≤ w2.heap.size) := Lib.hid (by have := hf2.size; rw [World.size_alloc] at this; exact this); have HF2 := Lib.hid ((HF1.out.alloc _).trans hf2); obtain ⟨g0, g1⟩ := hgc.out _ HF2.out; clear hf2 hb2)
      | (go_at_call 30; refine (hPl.out _ HF2.out).mono ?_; rintro e w4 ⟨v4, rfl, ho4, hf4⟩; obtain ⟨pa, pc, rfl⟩ := row_slice ho4; (try rw [hPN.out]); have HO4 := Lib.hid ho4; have HG4 := Lib.hid hf4; have HF4 := Lib.hid (HF2.out.trans hf4); have hb4 := hf4.at_ HB2.out (fun e => e); have HB4 := Lib.hid hb4; have z0 := cell_obj hb4 0 (.int .i64 o) rfl; have z1 := cell_obj hb4 1 (.slice a1 n1 d1) rfl; have z2 := cell_obj hb4 2 (.slice a2 n2 d2) rfl; have z3 := cell_obj hb4 3 (.slice a3 n3 d3) rfl; obtain ⟨g6, g7⟩ := hgc.out _ HF4.out; clear ho4 hf4 hb4)
      | (go_at_call 31; refine (hDo2.out _ HF4.out).mono ?_; rintro e w5 ⟨rfl, T0', hS5, hs5⟩; have HS5 := Lib.hid hS5; have Hs5 := Lib.hid hs5; clear hS5 hs5))
    go_ret2
    rw [hR.out]
    have hS5 := HS5.out
    rw [hDA.out] at hS5
    exact ⟨_, T0', TB, l, rfl, hS5, rfl, il_nil _, fun b hb => (by cases hb), (HF4.out.mono (fun _ _ e => e.elim)).trans' (Hs5.out.1.mono (fun _ _ e => .inl e)) (fun _ _ e => e), fun b hb => (Hs5.out.2 b hb).imp id (fun e => Nat.le_trans HF4.out.size e), fun b hb => .inl hb⟩
  rw [if_neg (by simpa using hq7)] at hRd
  subst hq7
  have hPk : mayL P = true := (plusF_ok HP.out).1
  have hPr := mayL_all hPk
  have hPok : ∀ p ∈ P, okS p.1 ∧ okI p.2 := fun p hp => by
    have h1 := hPr.row p hp
    have h2 := h1.1
    unfold goodB at h2
    simp only [Bool.and_eq_true, decide_eq_true_eq] at h2
    exact ⟨by unfold okS maxLen; omega, by unfold okI; omega⟩
  have hfinS : Hid (∀ (w1 w2 w4 w5 W7 : World) (T0' : Nat → Prop) (pa : Option Addr) (pc : Nat), Fr (fun _ => False) w2 w4 → Fr (fun _ => False) w w1 → w1.heap.size + 1 ≤ w2.heap.size → Fr (fun _ => False) w w4 → w4.ownsRow w2.heap.size 65 2 (.slice pa P.length pc) P.length (itCs P) → SB w5 g gs m T0' TB D l → Stp T0 w4 w5 T0' → Fr (fun b => b = w1.heap.size) w5 W7 →
      Calls Tryz.prog 32 #[.pointer (some ⟨g, 0, none⟩), .agg #[.int .i64 o, .slice pa nP pc, .slice none 0 0, .slice a3 n3 d3]] W7 fun e w6 => e = .returned (.tuple #[]) ∧ SB w6 g gs m T0' (fun b => TB b ∨ (w2.heap.size ≤ b ∧ b < w4.heap.size)) D (setH l ⟨o, .slice pa nP pc, .slice none 0 0, .slice a3 n3 d3, P, [], sh⟩) ∧ Fr (fun b => b = m) W7 w6) := Lib.hid (fun w1 w2 w4 w5 W7 T0' pa pc h34 hf1 hz hf4 ho hs hst hf5 => by
    have hsb := HSB.out
    have hlt := hsb.lt
    have z1 := hf1.size; have z4 := hf4.size; have z5 := hst.1.size; have z6 := hf5.size; have z34 := h34.size
    have hin : ∀ b, (b = g ∨ b = m ∨ T0' b ∨ TB b) → ¬ b = w1.heap.size := fun b hb e => by
      rcases hb with hb | hb | hb | hb
      · have := hlt b (.inl hb); omega
      · have := hlt b (.inr (.inl hb)); omega
      · rcases hst.2 b hb with hb | hb
        · have := hlt b (.inr (.inr (.inl hb))); omega
        · omega
      · have := hlt b (.inr (.inr (.inr hb))); omega
    have hS5 := hs.keep hf5 hin
    have hF : Fr (fun b => T0 b ∨ b = w1.heap.size) w W7 := ((hf4.mono (fun _ _ e => e.elim)).trans' (hst.1.mono (fun _ _ e => .inl e)) (fun _ _ e => e)).trans' (hf5.mono (fun _ _ e => .inr e)) (fun _ _ e => e)
    have hk1 : HOk W7 TB ⟨o, .slice a1 n1 d1, .slice a2 n2 d2, .slice a3 n3 d3, he, pi, sh⟩ := HHD.out.keep hF (fun b hb e => by
      rcases e with e | e
      · exact hsb.nb b hb e
      · exact hin b (.inr (.inr (.inr hb))) e)
    have hnil : ∀ TB : Nat → Prop, Lb W7 TB (.slice none 0 0) [] := fun TB => ⟨il_nil _, fun e => absurd rfl e⟩
    have hl0 := HLN.out; have hl1 := HN1.out; have hl2 := HN2.out; have hl3 := HN3.out
    have hi4 := (Il.own ho hPok)
    have hlP : Lb W7 (fun b => TB b ∨ (w2.heap.size ≤ b ∧ b < w4.heap.size)) (.slice pa nP pc) P := by
      have hfa : Fr (fun b => T0 b ∨ b = w1.heap.size) w4 W7 := (hst.1.mono (fun _ _ e => .inl e)).trans' (hf5.mono (fun _ _ e => .inr e)) (fun _ _ e => e)
      have h1 := hi4.1.keep hfa (fun _ b hb e => by
        have := hi4.2 b hb
        rcases e with e | e
        · have := hlt b (.inr (.inr (.inl e))); omega
        · omega)
      rw [hPN.out] at h1
      refine ⟨h1, fun _ b hb => .inr ?_⟩
      have := hi4.2 b (by rw [hPN.out]; exact hb)
      omega
    have hln := hPr.len
    have HTB : ∀ b, TB b → TB b ∨ (w2.heap.size ≤ b ∧ b < w4.heap.size) := fun b hb => .inl hb
    refine hset W7 g gs m T0' TB _ D l ⟨o, .slice pa nP pc, .slice none 0 0, .slice a3 n3 d3, P, [], sh⟩ hS5 HTB ⟨hk1.o, hlP, hnil _, hk1.ls.mono HTB⟩ (fun b hb => ?_) HLL.out (by dsimp only [List.length_nil]; omega)
    rcases hb with hb | hb
    · have hb1 := hsb.ltb b hb
      refine ⟨by omega, fun e => ?_, fun e => hsb.ng.2.1 (e ▸ hb), fun e => hsb.nm.2 (e ▸ hb)⟩
      rcases hst.2 b e with e | e
      · exact hsb.nb b hb e
      · omega
    · have hg := hlt g (.inl rfl); have hm' := hlt m (.inr (.inl rfl))
      refine ⟨by omega, fun e => ?_, fun e => by omega, fun e => by omega⟩
      rcases hst.2 b e with e | e
      · have := hlt b (.inr (.inr (.inl e))); omega
      · omega)
  have hfinC : Hid (∀ (w1 w4 w5 W7 w6 : World) (T0' : Nat → Prop), Fr (fun _ => False) w w1 → Fr (fun _ => False) w w4 → Stp T0 w4 w5 T0' → Fr (fun b => b = w1.heap.size) w5 W7 → Fr (fun b => b = m) W7 w6 →
      Calls Tryz.prog 33 #[.slice a2 n2 d2] w6 fun e w' => ∃ v', e = .returned v' ∧ w'.ownsRow w6.heap.size 65 2 v' n2 (itCs pi) ∧ Fr (fun _ => False) w6 w') := Lib.hid (fun w1 w4 w5 W7 w6 T0' hf1 hf4 hst hf5 hf6 => by
    have hsb := HSB.out
    have hlt := hsb.lt
    have z1 := hf1.size
    have hfa : Fr (fun b => T0 b ∨ b = w1.heap.size ∨ b = m) w w6 := (((hf4.mono (fun _ _ e => e.elim)).trans' (hst.1.mono (fun _ _ e => .inl e)) (fun _ _ e => e)).trans' (hf5.mono (fun _ _ e => .inr (.inl e))) (fun _ _ e => e)).trans' (hf6.mono (fun _ _ e => .inr (.inr e))) (fun _ _ e => e)
    have hi6 := HHD.out.lp.keep hfa (fun b hb e => by
      rcases e with e | e | e
      · exact hsb.nb b hb e
      · have := hsb.ltb b hb; omega
      · exact hsb.nm.2 (e ▸ hb))
    have hl0 := HLN.out; have hl1 := HN1.out; have hl2 := HN2.out; have hl3 := HN3.out
    have := itClone w6 _ pi hi6.1 (by omega)
    dsimp only at this
    rw [HN2.out] at this
    exact this)
  have hR := Lib.hid hRd
  clear hRd hDA0 hPk hPr hPok
  go_enter Tryz.func34, Tryz.ntmps34
  go_wp2_with (first
    | (go_at_call 26; refine hm.out.mono ?_; rintro e w0 ⟨rfl, rfl⟩)
    | (go_at_call 27; refine hh.out.mono ?_; rintro e w1 ⟨rfl, hf1⟩; have HF1 := Lib.hid hf1; clear hf1)
    | (go_at_call 37; refine (hmvU_of _ _).mono ?_; rintro e w2 ⟨rfl, hf2⟩; have hb2 := hf2.at_ (heap_at (w := w1) rfl (.cells #[.int .i64 o, .slice a1 n1 d1, .slice a2 n2 d2, .slice a3 n3 d3] 37)) (fun e => e); have HB2 := Lib.hid hb2; have y0 := cell_obj hb2 0 (.int .i64 o) rfl; have y1 := cell_obj hb2 1 (.slice a1 n1 d1) rfl; have y2 := cell_obj hb2 2 (.slice a2 n2 d2) rfl; have y3 := cell_obj hb2 3 (.slice a3 n3 d3) rfl; have HZ12 : Hid (w1.heap.size + 1 ≤ w2.heap.size) := Lib.hid (by have := hf2.size; rw [World.size_alloc] at this; exact this); have HF2 := Lib.hid ((HF1.out.alloc _).trans hf2); obtain ⟨g0, g1⟩ := hgc.out _ HF2.out; clear hf2 hb2)
    | (go_at_call 30; refine (hPl.out _ HF2.out).mono ?_; rintro e w4 ⟨v4, rfl, ho4, hf4⟩; obtain ⟨pa, pc, rfl⟩ := row_slice ho4; (try rw [hPN.out]); have HO4 := Lib.hid ho4; have HG4 := Lib.hid hf4; have HF4 := Lib.hid (HF2.out.trans hf4); have hb4 := hf4.at_ HB2.out (fun e => e); have HB4 := Lib.hid hb4; have z0 := cell_obj hb4 0 (.int .i64 o) rfl; have z1 := cell_obj hb4 1 (.slice a1 n1 d1) rfl; have z2 := cell_obj hb4 2 (.slice a2 n2 d2) rfl; have z3 := cell_obj hb4 3 (.slice a3 n3 d3) rfl; obtain ⟨g6, g7⟩ := hgc.out _ HF4.out; clear ho4 hf4 hb4)
    | (go_at_call 31; refine (hDo2.out _ HF4.out).mono ?_; rintro e w5 ⟨rfl, T0', hS5, hs5⟩; have HS5 := Lib.hid hS5; have Hs5 := Lib.hid hs5; have hb5 := hs5.1.at_ HB4.out (hnbT.out _ HF1.out.size); have f5 := obj_frozen hb5 2; have q0 := cell_obj hb5 0 (.int .i64 o) rfl; have q1 := cell_obj hb5 1 (.slice a1 n1 d1) rfl; have q2 := cell_obj hb5 2 (.slice a2 n2 d2) rfl; have q3 := cell_obj hb5 3 (.slice a3 n3 d3) rfl; obtain ⟨W6, hW6⟩ : ∃ W6, w5.setCell ⟨w1.heap.size, 2, none⟩ (.slice none 0 0) = W6 := ⟨_, rfl⟩; have hb6 := obj_set hb5 2 (.slice none 0 0); rw [hW6] at hb6; have hf56 : Fr (fun b => b = w1.heap.size) w5 W6 := (by rw [← hW6]; exact (Fr.refl (fun b => b = w1.heap.size) _).setCell (p := ⟨w1.heap.size, 2, none⟩) (fun _ => rfl) _); have r0 := cell_obj hb6 0 (.int .i64 o) rfl; have r1 := cell_obj hb6 1 (.slice a1 n1 d1) rfl; have r2 := cell_obj hb6 2 (.slice none 0 0) rfl; have r3 := cell_obj hb6 3 (.slice a3 n3 d3) rfl; have f6 := obj_frozen hb6 1; obtain ⟨W7, hW7⟩ : ∃ W7, W6.setCell ⟨w1.heap.size, 1, none⟩ (.slice pa nP pc) = W7 := ⟨_, rfl⟩; have hb7 := obj_set hb6 1 (.slice pa nP pc); rw [hW7] at hb7; have hf57 : Fr (fun b => b = w1.heap.size) w5 W7 := hf56.trans (by rw [← hW7]; exact (Fr.refl (fun b => b = w1.heap.size) _).setCell (p := ⟨w1.heap.size, 1, none⟩) (fun _ => rfl) _); have p0 := cell_obj hb7 0 (.int .i64 o) rfl; have p1 := cell_obj hb7 1 (.slice pa nP pc) rfl; have p2 := cell_obj hb7 2 (.slice none 0 0) rfl; have p3 := cell_obj hb7 3 (.slice a3 n3 d3) rfl; have hset5 := Lib.hid (hfinS.out w1 w2 w4 w5 W7 T0' pa pc HG4.out HF1.out HZ12.out HF4.out HO4.out HS5.out Hs5.out hf57); have HF57 := Lib.hid hf57; clear hS5 hs5 hb5 hb6 hf56 hf57)
    | (go_at_call 32; refine hset5.out.mono ?_; rintro e w8 ⟨rfl, hS6, hf6⟩; have HS6 := Lib.hid hS6; have HF6 := Lib.hid hf6; clear hS6 hf6)
    | (go_at_call 33; refine (hfinC.out w1 w4 w5 W7 w8 T0' HF1.out HF4.out Hs5.out HF57.out HF6.out).mono ?_; rintro e w9 ⟨v9, rfl, ho9, hf9⟩; obtain ⟨ra, rc, rfl⟩ := row_slice ho9; have HO9 := Lib.hid ho9; have HF9 := Lib.hid hf9; clear ho9 hf9))
  go_ret2
  rw [hR.out]
  have hlt := HSB.out.lt
  have z1 := HF1.out.size; have z12 := HZ12.out; have z4 := HF4.out.size; have z5 := Hs5.out.1.size; have z6 := HF57.out.size; have z7 := HF6.out.size; have z34 := HG4.out.size
  have hS7 := HS6.out.keep HF9.out (fun _ _ e => e)
  have hFk : ∀ p ∈ pi, okS p.1 ∧ okI p.2 := fun p hp => il_okm' HHD.out.lp.1 hp
  have ho9 := HO9.out
  rw [← HN2.out] at ho9
  have hi7 := Il.own ho9 hFk
  have hlt6 := HS6.out.lt
  refine ⟨_, T0', _, _, rfl, hS7, setE_map _ _, by rw [HN2.out] at hi7; exact hi7.1, fun b hb => ?_, ?_, fun b hb => ?_, fun b hb => ?_⟩
  · have := hi7.2 b (by rw [HN2.out]; exact hb)
    exact ⟨by omega, this.2, fun e => by have := hlt6 b (.inr (.inr (.inl e))); omega, fun e => by have := hlt6 b (.inr (.inr (.inr e))); omega⟩
  · exact (((HF4.out.mono (fun _ _ e => e.elim)).trans' (Hs5.out.1.mono (fun _ _ e => .inl e)) (fun _ _ e => e)).trans' (HF57.out.mono (S' := fun b => b = w1.heap.size) (fun _ _ e => e)) (fun b hb e => by omega)).trans' ((HF6.out.mono (fun _ _ e => .inr e)).trans (HF9.out.mono (fun _ _ e => e.elim))) (fun _ _ e => e)
  · rcases Hs5.out.2 b hb with e | e
    · exact .inl e
    · exact .inr (by omega)
  · rcases hb with e | e
    · exact .inl e
    · exact .inr (by omega)
end Go.Proofs.YtogphlnakdnchaaGreat

namespace Go.Proofs.YtogphlnakdnchaaGreat
open Go.RowKit Go.Maps
theorem hmvS_of (W : World) (b : Nat) : Calls Tryz.prog 38 #[.pointer (some ⟨b, 0, none⟩)] W fun e w' => e = .returned (.tuple #[.pointer (some ⟨b, 2, none⟩), .pointer (some ⟨b, 3, none⟩)]) ∧ Fr (fun _ => False) W w' := by
  go_enter Tryz.func38, Tryz.ntmps38
  go_wp2_with fail
  refine wp_region_fr (by kernel_rfl) (by kernel_rfl) ?_
  repeat (go_big_quiet_step (fail))
  refine wpQuiet_nil ?_
  rintro _ ⟨⟨W2, hf2⟩, rfl⟩
  go_wp2_with fail
  go_ret2
  exact ⟨rfl, hf2⟩
set_option maxRecDepth 100000 in
set_option maxHeartbeats 16000000 in
theorem hmvS (w : World) (g gs m : Nat) (T0 TB : Nat → Prop) (A : Stk) (l : List (Int × HV)) (o : Int) (h : SB w g gs m T0 TB A l) (hA : SOk A) (ho : okI o) (hll : l.length ≤ 1000000) (hk : ∀ p ∈ mapE l, HEok p.1 p.2) :
    Calls Tryz.prog 34 #[.pointer (some ⟨g, 0, none⟩), .int .i64 o, .int .i64 6, .func (.func 38) #[] #[]] w fun e w' => ∃ v' T0' TB' l', e = .returned (.tuple #[v', .int .i64 (moveS A (mapE l) o 6 1 (some 2)).1.2]) ∧ SB w' g gs m T0' TB' (moveS A (mapE l) o 6 1 (some 2)).2.1 l' ∧ mapE l' = (moveS A (mapE l) o 6 1 (some 2)).2.2 ∧
      Il w' v' (moveS A (mapE l) o 6 1 (some 2)).1.1 ∧ (∀ b, v'.ownBlock = some b → w.heap.size ≤ b ∧ b < w'.heap.size ∧ ¬ T0' b ∧ ¬ TB' b) ∧ Shs w w' m T0 TB T0' TB' := by
  obtain ⟨R, hR'⟩ : ∃ R, moveS A (mapE l) o 6 1 (some 2) = R := ⟨_, rfl⟩
  have hRd : R = moveS A (mapE l) o 6 1 (some 2) := hR'.symm
  rw [hR']
  unfold moveS at hRd
  have HSB := Lib.hid h
  obtain ⟨c0, c1⟩ := h.cells
  have hm := Lib.hid (hmay w g m o c1)
  have hgc : Hid (∀ W, Fr (fun _ => False) w W → W.cell? ⟨g, 0, none⟩ = some (.pointer (some ⟨gs, 0, none⟩)) ∧ W.cell? ⟨g, 1, none⟩ = some (.map (some m))) := Lib.hid (fun W hf => (HSB.out.keep hf (fun _ _ e => e)).cells)
  have hhd := h.hold ho
  have hln0 := heOf_len hk o
  have hmy0 := heOf_may hk o
  rw [heOf_map] at hRd hln0 hmy0
  have hh := hhold w g gs m T0 TB A l o h ho
  obtain ⟨⟨xo, xh, xp, xs, he, pi, sh⟩, hX⟩ : ∃ X, holdOf l o = X := ⟨_, rfl⟩
  rw [hX] at hhd hh hRd hln0 hmy0
  obtain ⟨a1, d1, e1⟩ := hhd.1.lh.1.sl
  obtain ⟨a2, d2, e2⟩ := hhd.1.lp.1.sl
  obtain ⟨a3, d3, e3⟩ := hhd.1.ls.1.sl
  have hxo := hhd.2.symm
  dsimp only at e1 e2 e3 hxo
  subst e1 e2 e3 hxo
  simp only [HV.enc, HV.e, HE.get, HE.set] at hh hRd hln0 hmy0
  obtain ⟨n1, hn1⟩ : ∃ n, he.length = n := ⟨_, rfl⟩
  obtain ⟨n2, hn2⟩ : ∃ n, pi.length = n := ⟨_, rfl⟩
  obtain ⟨n3, hn3⟩ : ∃ n, sh.length = n := ⟨_, rfl⟩
  have HN1 := Lib.hid hn1; have HN2 := Lib.hid hn2; have HN3 := Lib.hid hn3; have HLN := Lib.hid hln0
  have HHD0 := hhd.1
  rw [hn1, hn2, hn3] at HHD0 hh
  have HHD := Lib.hid HHD0
  have HLL : Hid (l.length ≤ 1000000) := Lib.hid hll
  have hDo0 : ∀ W, Fr (fun _ => False) w W → Calls Tryz.prog 31 #[.pointer (some ⟨gs, 0, none⟩), .int .i64 6, .slice a2 n2 d2] W fun e w' => e = .returned (.int .i64 (doS A 6 pi).1) ∧ ∃ T0', SB w' g gs m T0' TB (doS A 6 pi).2 l ∧ Stp T0 W w' T0' := fun W hf => by
    have hW := HSB.out.keep hf (fun _ _ e => e)
    refine (sDo W gs T0 A 6 _ pi hW.stk hA (HHD.out.lp.1.keep hf (fun _ _ _ e => e))).mono ?_
    rintro e w' ⟨rfl, T0', h1, h2⟩
    exact ⟨rfl, T0', hW.stock h1 h2, h2⟩
  have hDA1 := doS_no (A := A) (k := 6) (L := pi)
  obtain ⟨⟨de, D⟩, hD⟩ : ∃ D, doS A 6 pi = D := ⟨_, rfl⟩
  rw [hD] at hDo0 hDA1
  simp only [hD] at hRd
  have hDA0 : de ≠ 0 → D = A := hDA1
  have hPl0 := fun W (hf : Fr (fun _ => False) w W) => iPlus W (.slice a3 n3 d3) (.slice a2 n2 d2) sh pi (HHD.out.ls.1.keep hf (fun _ _ _ e => e)) (HHD.out.lp.1.keep hf (fun _ _ _ e => e))
  obtain ⟨⟨P, pe⟩, hP⟩ : ∃ P, plusF sh pi = P := ⟨_, rfl⟩
  rw [hP] at hPl0
  simp only [hP] at hRd
  have HP := Lib.hid hP
  obtain ⟨nP, hnP⟩ : ∃ n, P.length = n := ⟨_, rfl⟩
  have hPN := Lib.hid hnP
  have hPl := Lib.hid hPl0
  clear hPl0 hP hnP
  have hnbT : Hid (∀ b, w.heap.size ≤ b → ¬ T0 b) := Lib.hid (fun b hb e => by have := h.stk.lt b e; omega)
  have hh := Lib.hid hh
  have hDo2 := Lib.hid hDo0
  clear h c0 c1 hR' hhd hX hD hmy0 hk hDo0 HHD0 hDA1 hln0 hll
  by_cases hq1 : mayO o = 0
  case neg =>
    rw [if_pos hq1] at hRd
    have hR := Lib.hid hRd
    have q1 : (mayO o != 0) = true := by simpa using hq1
    clear hRd
    go_enter Tryz.func34, Tryz.ntmps34
    go_wp2_with (go_at_call 26; refine hm.out.mono ?_; rintro e w0 ⟨rfl, rfl⟩)
    go_ret2
    rw [hR.out]
    exact ⟨_, T0, TB, l, rfl, HSB.out, rfl, il_nil _, fun b hb => (by cases hb), Fr.refl _ _, fun b hb => .inl hb, fun b hb => .inl hb⟩
  rw [if_neg (by simpa using hq1)] at hRd
  rw [hq1] at hm
  clear hq1
  by_cases hq4 : pi = []
  case pos =>
    rw [if_pos hq4] at hRd
    have hR := Lib.hid hRd
    have hz0 : n2 = 0 := by rw [← hn2, hq4]; rfl
    have hz1 : ((n2 : Int) == 0) = true := by simp; omega
    clear hRd hn2 hq4 hz0
    go_enter Tryz.func34, Tryz.ntmps34
    go_wp2_with (first
      | (go_at_call 26; refine hm.out.mono ?_; rintro e w0 ⟨rfl, rfl⟩)
      | (go_at_call 27; refine hh.out.mono ?_; rintro e w1 ⟨rfl, hf1⟩; have HF1 := Lib.hid hf1; clear hf1)
      | (go_at_call 38; refine (hmvS_of _ _).mono ?_; rintro e w2 ⟨rfl, hf2⟩; have hb2 := hf2.at_ (heap_at (w := w1) rfl (.cells #[.int .i64 o, .slice a1 n1 d1, .slice a2 n2 d2, .slice a3 n3 d3] 37)) (fun e => e); have HB2 := Lib.hid hb2; have y0 := cell_obj hb2 0 (.int .i64 o) rfl; have y1 := cell_obj hb2 1 (.slice a1 n1 d1) rfl; have y2 := cell_obj hb2 2 (.slice a2 n2 d2) rfl; have y3 := cell_obj hb2 3 (.slice a3 n3 d3) rfl; have HZ12 : Hid (w1.heap.size + 1 ≤ w2.heap.size) := Lib.hid (by have := hf2.size; rw [World.size_alloc] at this; exact this); have HF2 := Lib.hid ((HF1.out.alloc _).trans hf2); obtain ⟨g0, g1⟩ := hgc.out _ HF2.out; clear hf2 hb2))
    go_ret2
    rw [hR.out]
    exact ⟨_, T0, TB, l, rfl, HSB.out.keep HF2.out (fun _ _ e => e), rfl, il_nil _, fun b hb => (by cases hb), HF2.out.mono (fun _ _ e => e.elim), fun b hb => .inl hb, fun b hb => .inl hb⟩
  rw [if_neg hq4] at hRd
  have hF0 : 0 < n2 := by
    rcases Nat.eq_zero_or_pos n2 with h0 | h0
    · exact absurd (List.eq_nil_of_length_eq_zero (hn2.trans h0)) hq4
    · exact h0
  have hF1 : ((n2 : Int) == 0) = false := by simp; omega
  clear hn1 hn2 hn3 hq4
  (try dsimp only at hRd)
  by_cases hq6 : pe = 0
  case neg =>
    rw [if_pos hq6] at hRd
    have hR := Lib.hid hRd
    have q6 : (pe == 0) = false := by simpa using hq6
    have q7 : (pe != 0) = true := by simpa using hq6
    clear hRd hq6
    go_enter Tryz.func34, Tryz.ntmps34
    go_wp2_with (first
      | (go_at_call 26; refine hm.out.mono ?_; rintro e w0 ⟨rfl, rfl⟩)
      | (go_at_call 27; refine hh.out.mono ?_; rintro e w1 ⟨rfl, hf1⟩; have HF1 := Lib.hid hf1; clear hf1)
      | (go_at_call 38; refine (hmvS_of _ _).mono ?_; rintro e w2 ⟨rfl, hf2⟩; have hb2 := hf2.at_ (heap_at (w := w1) rfl (.cells #[.int .i64 o, .slice a1 n1 d1, .slice a2 n2 d2, .slice a3 n3 d3] 37)) (fun e => e); have HB2 := Lib.hid hb2; have y0 := cell_obj hb2 0 (.int .i64 o) rfl; have y1 := cell_obj hb2 1 (.slice a1 n1 d1) rfl; have y2 := cell_obj hb2 2 (.slice a2 n2 d2) rfl; have y3 := cell_obj hb2 3 (.slice a3 n3 d3) rfl; have HZ12 : Hid (w1.heap.size + 1 ≤ w2.heap.size) := Lib.hid (by have := hf2.size; rw [World.size_alloc] at this; exact this); have HF2 := Lib.hid ((HF1.out.alloc _).trans hf2); obtain ⟨g0, g1⟩ := hgc.out _ HF2.out; clear hf2 hb2)
      | (go_at_call 30; refine (hPl.out _ HF2.out).mono ?_; rintro e w4 ⟨v4, rfl, ho4, hf4⟩; obtain ⟨pa, pc, rfl⟩ := row_slice ho4; (try rw [hPN.out]); have HO4 := Lib.hid ho4; have HG4 := Lib.hid hf4; have HF4 := Lib.hid (HF2.out.trans hf4); have hb4 := hf4.at_ HB2.out (fun e => e); have HB4 := Lib.hid hb4; have z0 := cell_obj hb4 0 (.int .i64 o) rfl; have z1 := cell_obj hb4 1 (.slice a1 n1 d1) rfl; have z2 := cell_obj hb4 2 (.slice a2 n2 d2) rfl; have z3 := cell_obj hb4 3 (.slice a3 n3 d3) rfl; obtain ⟨g6, g7⟩ := hgc.out _ HF4.out; clear ho4 hf4 hb4))
    go_ret2
    rw [hR.out]
    exact ⟨_, T0, TB, l, rfl, HSB.out.keep HF4.out (fun _ _ e => e), rfl, il_nil _, fun b hb => (by cases hb), HF4.out.mono (fun _ _ e => e.elim), fun b hb => .inl hb, fun b hb => .inl hb⟩
  rw [if_neg (by simpa using hq6)] at hRd
  subst hq6
  by_cases hq7 : de = 0
  case neg =>
    rw [if_pos hq7] at hRd
    have hR := Lib.hid hRd
    have q7 : (de != 0) = true := by simpa using hq7
    have hDA : Hid (D = A) := Lib.hid (hDA0 hq7)
    clear hRd
    go_enter Tryz.func34, Tryz.ntmps34
    go_wp2_with (first
      | (go_at_call 26; refine hm.out.mono ?_; rintro e w0 ⟨rfl, rfl⟩)
      | (go_at_call 27; refine hh.out.mono ?_; rintro e w1 ⟨rfl, hf1⟩; have HF1 := Lib.hid hf1; clear hf1)
      | (go_at_call 38; refine (hmvS_of _ _).mono ?_; rintro e w2 ⟨rfl, hf2⟩; have hb2 := hf2.at_ (heap_at (w := w1) rfl (.cells #[.int .i64 o, .slice a1 n1 d1, .slice a2 n2 d2, .slice a3 n3 d3] 37)) (fun e => e); have HB2 := Lib.hid hb2; have y0 := cell_obj hb2 0 (.int .i64 o) rfl; have y1 := cell_obj hb2 1 (.slice a1 n1 d1) rfl; have y2 := cell_obj hb2 2 (.slice a2 n2 d2) rfl; have y3 := cell_obj hb2 3 (.slice a3 n3 d3) rfl; have HZ12 : Hid (w1.heap.size + 1 ≤ w2.heap.size) := Lib.hid (by have := hf2.size; rw [World.size_alloc] at this; exact this); have HF2 := Lib.hid ((HF1.out.alloc _).trans hf2); obtain ⟨g0, g1⟩ := hgc.out _ HF2.out; clear hf2 hb2)
      | (go_at_call 30; refine (hPl.out _ HF2.out).mono ?_; rintro e w4 ⟨v4, rfl, ho4, hf4⟩; obtain ⟨pa, pc, rfl⟩ := row_slice ho4; (try rw [hPN.out]); have HO4 := Lib.hid ho4; have HG4 := Lib.hid hf4; have HF4 := Lib.hid (HF2.out.trans hf4); have hb4 := hf4.at_ HB2.out (fun e => e); have HB4 := Lib.hid hb4; have z0 := cell_obj hb4 0 (.int .i64 o) rfl; have z1 := cell_obj hb4 1 (.slice a1 n1 d1) rfl; have z2 := cell_obj hb4 2 (.slice a2 n2 d2) rfl; have z3 := cell_obj hb4 3 (.slice a3 n3 d3) rfl; obtain ⟨g6, g7⟩ := hgc.out _ HF4.out; clear ho4 hf4 hb4)
      | (go_at_call 31; refine (hDo2.out _ HF4.out).mono ?_; rintro e w5 ⟨rfl, T0', hS5, hs5⟩; have HS5 := Lib.hid hS5; have Hs5 := Lib.hid hs5; clear hS5 hs5))
    go_ret2
    rw [hR.out]
    have hS5 := HS5.out
    rw [hDA.out] at hS5
    exact ⟨_, T0', TB, l, rfl, hS5, rfl, il_nil _, fun b hb => (by cases hb), (HF4.out.mono (fun _ _ e => e.elim)).trans' (Hs5.out.1.mono (fun _ _ e => .inl e)) (fun _ _ e => e), fun b hb => (Hs5.out.2 b hb).imp id (fun e => Nat.le_trans HF4.out.size e), fun b hb => .inl hb⟩
  rw [if_neg (by simpa using hq7)] at hRd
  subst hq7
  have hPk : mayL P = true := (plusF_ok HP.out).1
  have hPr := mayL_all hPk
  have hPok : ∀ p ∈ P, okS p.1 ∧ okI p.2 := fun p hp => by
    have h1 := hPr.row p hp
    have h2 := h1.1
    unfold goodB at h2
    simp only [Bool.and_eq_true, decide_eq_true_eq] at h2
    exact ⟨by unfold okS maxLen; omega, by unfold okI; omega⟩
  have hfinS : Hid (∀ (w1 w2 w4 w5 W7 : World) (T0' : Nat → Prop) (pa : Option Addr) (pc : Nat), Fr (fun _ => False) w2 w4 → Fr (fun _ => False) w w1 → w1.heap.size + 1 ≤ w2.heap.size → Fr (fun _ => False) w w4 → w4.ownsRow w2.heap.size 65 2 (.slice pa P.length pc) P.length (itCs P) → SB w5 g gs m T0' TB D l → Stp T0 w4 w5 T0' → Fr (fun b => b = w1.heap.size) w5 W7 →
      Calls Tryz.prog 32 #[.pointer (some ⟨g, 0, none⟩), .agg #[.int .i64 o, .slice a1 n1 d1, .slice none 0 0, .slice pa nP pc]] W7 fun e w6 => e = .returned (.tuple #[]) ∧ SB w6 g gs m T0' (fun b => TB b ∨ (w2.heap.size ≤ b ∧ b < w4.heap.size)) D (setH l ⟨o, .slice a1 n1 d1, .slice none 0 0, .slice pa nP pc, he, [], P⟩) ∧ Fr (fun b => b = m) W7 w6) := Lib.hid (fun w1 w2 w4 w5 W7 T0' pa pc h34 hf1 hz hf4 ho hs hst hf5 => by
    have hsb := HSB.out
    have hlt := hsb.lt
    have z1 := hf1.size; have z4 := hf4.size; have z5 := hst.1.size; have z6 := hf5.size; have z34 := h34.size
    have hin : ∀ b, (b = g ∨ b = m ∨ T0' b ∨ TB b) → ¬ b = w1.heap.size := fun b hb e => by
      rcases hb with hb | hb | hb | hb
      · have := hlt b (.inl hb); omega
      · have := hlt b (.inr (.inl hb)); omega
      · rcases hst.2 b hb with hb | hb
        · have := hlt b (.inr (.inr (.inl hb))); omega
        · omega
      · have := hlt b (.inr (.inr (.inr hb))); omega
    have hS5 := hs.keep hf5 hin
    have hF : Fr (fun b => T0 b ∨ b = w1.heap.size) w W7 := ((hf4.mono (fun _ _ e => e.elim)).trans' (hst.1.mono (fun _ _ e => .inl e)) (fun _ _ e => e)).trans' (hf5.mono (fun _ _ e => .inr e)) (fun _ _ e => e)
    have hk1 : HOk W7 TB ⟨o, .slice a1 n1 d1, .slice a2 n2 d2, .slice a3 n3 d3, he, pi, sh⟩ := HHD.out.keep hF (fun b hb e => by
      rcases e with e | e
      · exact hsb.nb b hb e
      · exact hin b (.inr (.inr (.inr hb))) e)
    have hnil : ∀ TB : Nat → Prop, Lb W7 TB (.slice none 0 0) [] := fun TB => ⟨il_nil _, fun e => absurd rfl e⟩
    have hl0 := HLN.out; have hl1 := HN1.out; have hl2 := HN2.out; have hl3 := HN3.out
    have hi4 := (Il.own ho hPok)
    have hlP : Lb W7 (fun b => TB b ∨ (w2.heap.size ≤ b ∧ b < w4.heap.size)) (.slice pa nP pc) P := by
      have hfa : Fr (fun b => T0 b ∨ b = w1.heap.size) w4 W7 := (hst.1.mono (fun _ _ e => .inl e)).trans' (hf5.mono (fun _ _ e => .inr e)) (fun _ _ e => e)
      have h1 := hi4.1.keep hfa (fun _ b hb e => by
        have := hi4.2 b hb
        rcases e with e | e
        · have := hlt b (.inr (.inr (.inl e))); omega
        · omega)
      rw [hPN.out] at h1
      refine ⟨h1, fun _ b hb => .inr ?_⟩
      have := hi4.2 b (by rw [hPN.out]; exact hb)
      omega
    have hln := hPr.len
    have HTB : ∀ b, TB b → TB b ∨ (w2.heap.size ≤ b ∧ b < w4.heap.size) := fun b hb => .inl hb
    refine hset W7 g gs m T0' TB _ D l ⟨o, .slice a1 n1 d1, .slice none 0 0, .slice pa nP pc, he, [], P⟩ hS5 HTB ⟨hk1.o, hk1.lh.mono HTB, hnil _, hlP⟩ (fun b hb => ?_) HLL.out (by dsimp only [List.length_nil]; omega)
    rcases hb with hb | hb
    · have hb1 := hsb.ltb b hb
      refine ⟨by omega, fun e => ?_, fun e => hsb.ng.2.1 (e ▸ hb), fun e => hsb.nm.2 (e ▸ hb)⟩
      rcases hst.2 b e with e | e
      · exact hsb.nb b hb e
      · omega
    · have hg := hlt g (.inl rfl); have hm' := hlt m (.inr (.inl rfl))
      refine ⟨by omega, fun e => ?_, fun e => by omega, fun e => by omega⟩
      rcases hst.2 b e with e | e
      · have := hlt b (.inr (.inr (.inl e))); omega
      · omega)
  have hfinC : Hid (∀ (w1 w4 w5 W7 w6 : World) (T0' : Nat → Prop), Fr (fun _ => False) w w1 → Fr (fun _ => False) w w4 → Stp T0 w4 w5 T0' → Fr (fun b => b = w1.heap.size) w5 W7 → Fr (fun b => b = m) W7 w6 →
      Calls Tryz.prog 33 #[.slice a2 n2 d2] w6 fun e w' => ∃ v', e = .returned v' ∧ w'.ownsRow w6.heap.size 65 2 v' n2 (itCs pi) ∧ Fr (fun _ => False) w6 w') := Lib.hid (fun w1 w4 w5 W7 w6 T0' hf1 hf4 hst hf5 hf6 => by
    have hsb := HSB.out
    have hlt := hsb.lt
    have z1 := hf1.size
    have hfa : Fr (fun b => T0 b ∨ b = w1.heap.size ∨ b = m) w w6 := (((hf4.mono (fun _ _ e => e.elim)).trans' (hst.1.mono (fun _ _ e => .inl e)) (fun _ _ e => e)).trans' (hf5.mono (fun _ _ e => .inr (.inl e))) (fun _ _ e => e)).trans' (hf6.mono (fun _ _ e => .inr (.inr e))) (fun _ _ e => e)
    have hi6 := HHD.out.lp.keep hfa (fun b hb e => by
      rcases e with e | e | e
      · exact hsb.nb b hb e
      · have := hsb.ltb b hb; omega
      · exact hsb.nm.2 (e ▸ hb))
    have hl0 := HLN.out; have hl1 := HN1.out; have hl2 := HN2.out; have hl3 := HN3.out
    have := itClone w6 _ pi hi6.1 (by omega)
    dsimp only at this
    rw [HN2.out] at this
    exact this)
  have hR := Lib.hid hRd
  clear hRd hDA0 hPk hPr hPok
  go_enter Tryz.func34, Tryz.ntmps34
  go_wp2_with (first
    | (go_at_call 26; refine hm.out.mono ?_; rintro e w0 ⟨rfl, rfl⟩)
    | (go_at_call 27; refine hh.out.mono ?_; rintro e w1 ⟨rfl, hf1⟩; have HF1 := Lib.hid hf1; clear hf1)
    | (go_at_call 38; refine (hmvS_of _ _).mono ?_; rintro e w2 ⟨rfl, hf2⟩; have hb2 := hf2.at_ (heap_at (w := w1) rfl (.cells #[.int .i64 o, .slice a1 n1 d1, .slice a2 n2 d2, .slice a3 n3 d3] 37)) (fun e => e); have HB2 := Lib.hid hb2; have y0 := cell_obj hb2 0 (.int .i64 o) rfl; have y1 := cell_obj hb2 1 (.slice a1 n1 d1) rfl; have y2 := cell_obj hb2 2 (.slice a2 n2 d2) rfl; have y3 := cell_obj hb2 3 (.slice a3 n3 d3) rfl; have HZ12 : Hid (w1.heap.size + 1 ≤ w2.heap.size) := Lib.hid (by have := hf2.size; rw [World.size_alloc] at this; exact this); have HF2 := Lib.hid ((HF1.out.alloc _).trans hf2); obtain ⟨g0, g1⟩ := hgc.out _ HF2.out; clear hf2 hb2)
    | (go_at_call 30; refine (hPl.out _ HF2.out).mono ?_; rintro e w4 ⟨v4, rfl, ho4, hf4⟩; obtain ⟨pa, pc, rfl⟩ := row_slice ho4; (try rw [hPN.out]); have HO4 := Lib.hid ho4; have HG4 := Lib.hid hf4; have HF4 := Lib.hid (HF2.out.trans hf4); have hb4 := hf4.at_ HB2.out (fun e => e); have HB4 := Lib.hid hb4; have z0 := cell_obj hb4 0 (.int .i64 o) rfl; have z1 := cell_obj hb4 1 (.slice a1 n1 d1) rfl; have z2 := cell_obj hb4 2 (.slice a2 n2 d2) rfl; have z3 := cell_obj hb4 3 (.slice a3 n3 d3) rfl; obtain ⟨g6, g7⟩ := hgc.out _ HF4.out; clear ho4 hf4 hb4)
    | (go_at_call 31; refine (hDo2.out _ HF4.out).mono ?_; rintro e w5 ⟨rfl, T0', hS5, hs5⟩; have HS5 := Lib.hid hS5; have Hs5 := Lib.hid hs5; have hb5 := hs5.1.at_ HB4.out (hnbT.out _ HF1.out.size); have f5 := obj_frozen hb5 2; have q0 := cell_obj hb5 0 (.int .i64 o) rfl; have q1 := cell_obj hb5 1 (.slice a1 n1 d1) rfl; have q2 := cell_obj hb5 2 (.slice a2 n2 d2) rfl; have q3 := cell_obj hb5 3 (.slice a3 n3 d3) rfl; obtain ⟨W6, hW6⟩ : ∃ W6, w5.setCell ⟨w1.heap.size, 2, none⟩ (.slice none 0 0) = W6 := ⟨_, rfl⟩; have hb6 := obj_set hb5 2 (.slice none 0 0); rw [hW6] at hb6; have hf56 : Fr (fun b => b = w1.heap.size) w5 W6 := (by rw [← hW6]; exact (Fr.refl (fun b => b = w1.heap.size) _).setCell (p := ⟨w1.heap.size, 2, none⟩) (fun _ => rfl) _); have r0 := cell_obj hb6 0 (.int .i64 o) rfl; have r1 := cell_obj hb6 1 (.slice a1 n1 d1) rfl; have r2 := cell_obj hb6 2 (.slice none 0 0) rfl; have r3 := cell_obj hb6 3 (.slice a3 n3 d3) rfl; have f6 := obj_frozen hb6 3; obtain ⟨W7, hW7⟩ : ∃ W7, W6.setCell ⟨w1.heap.size, 3, none⟩ (.slice pa nP pc) = W7 := ⟨_, rfl⟩; have hb7 := obj_set hb6 3 (.slice pa nP pc); rw [hW7] at hb7; have hf57 : Fr (fun b => b = w1.heap.size) w5 W7 := hf56.trans (by rw [← hW7]; exact (Fr.refl (fun b => b = w1.heap.size) _).setCell (p := ⟨w1.heap.size, 3, none⟩) (fun _ => rfl) _); have p0 := cell_obj hb7 0 (.int .i64 o) rfl; have p1 := cell_obj hb7 1 (.slice a1 n1 d1) rfl; have p2 := cell_obj hb7 2 (.slice none 0 0) rfl; have p3 := cell_obj hb7 3 (.slice pa nP pc) rfl; have hset5 := Lib.hid (hfinS.out w1 w2 w4 w5 W7 T0' pa pc HG4.out HF1.out HZ12.out HF4.out HO4.out HS5.out Hs5.out hf57); have HF57 := Lib.hid hf57; clear hS5 hs5 hb5 hb6 hf56 hf57)
    | (go_at_call 32; refine hset5.out.mono ?_; rintro e w8 ⟨rfl, hS6, hf6⟩; have HS6 := Lib.hid hS6; have HF6 := Lib.hid hf6; clear hS6 hf6)
    | (go_at_call 33; refine (hfinC.out w1 w4 w5 W7 w8 T0' HF1.out HF4.out Hs5.out HF57.out HF6.out).mono ?_; rintro e w9 ⟨v9, rfl, ho9, hf9⟩; obtain ⟨ra, rc, rfl⟩ := row_slice ho9; have HO9 := Lib.hid ho9; have HF9 := Lib.hid hf9; clear ho9 hf9))
  go_ret2
  rw [hR.out]
  have hlt := HSB.out.lt
  have z1 := HF1.out.size; have z12 := HZ12.out; have z4 := HF4.out.size; have z5 := Hs5.out.1.size; have z6 := HF57.out.size; have z7 := HF6.out.size; have z34 := HG4.out.size
  have hS7 := HS6.out.keep HF9.out (fun _ _ e => e)
  have hFk : ∀ p ∈ pi, okS p.1 ∧ okI p.2 := fun p hp => il_okm' HHD.out.lp.1 hp
  have ho9 := HO9.out
  rw [← HN2.out] at ho9
  have hi7 := Il.own ho9 hFk
  have hlt6 := HS6.out.lt
  refine ⟨_, T0', _, _, rfl, hS7, setE_map _ _, by rw [HN2.out] at hi7; exact hi7.1, fun b hb => ?_, ?_, fun b hb => ?_, fun b hb => ?_⟩
  · have := hi7.2 b (by rw [HN2.out]; exact hb)
    exact ⟨by omega, this.2, fun e => by have := hlt6 b (.inr (.inr (.inl e))); omega, fun e => by have := hlt6 b (.inr (.inr (.inr e))); omega⟩
  · exact (((HF4.out.mono (fun _ _ e => e.elim)).trans' (Hs5.out.1.mono (fun _ _ e => .inl e)) (fun _ _ e => e)).trans' (HF57.out.mono (S' := fun b => b = w1.heap.size) (fun _ _ e => e)) (fun b hb e => by omega)).trans' ((HF6.out.mono (fun _ _ e => .inr e)).trans (HF9.out.mono (fun _ _ e => e.elim))) (fun _ _ e => e)
  · rcases Hs5.out.2 b hb with e | e
    · exact .inl e
    · exact .inr (by omega)
  · rcases hb with e | e
    · exact .inl e
    · exact .inr (by omega)
end Go.Proofs.YtogphlnakdnchaaGreat

namespace Go.Proofs.YtogphlnakdnchaaGreat
open Go
section
variable {P : Program} {md : Region.Mode} {l : List Oper} {z : Oper} {C : World → Prop}
/-- Each operation waits for earlier ones only. -/
def acyB (md : Region.Mode) (ops : Array Oper) : Bool := (List.range ops.size).all fun k => match ops[k]? with
  | some o => o.after.all fun e => !Region.binds md e || decide (e.on < k)
  | none => true
theorem ready_some {ops : Array Oper} {listed : Array Bool} (ha : acyB md ops = true) (hs : listed.size = ops.size) : ∀ (n k : Nat), k < ops.size → k ≤ n → listed.getD k true = false → Region.ready md ops listed ≠ []
  | n, k, hk, hn, hu => by
    by_cases hall : ∀ j, j < k → listed.getD j false = true
    · intro e
      have : k ∈ Region.ready md ops listed := by
        refine mem_ready.2 ⟨hu, ops[k], Array.getElem?_eq_getElem hk, fun e he hb => ?_⟩
        have h1 := List.all_eq_true.1 ha k (List.mem_range.2 hk)
        rw [Array.getElem?_eq_getElem hk] at h1
        obtain ⟨i, hi, rfl⟩ := Array.mem_iff_getElem.1 he
        have h2 := Array.all_eq_true.1 h1 i hi
        simp only [hb, Bool.not_true, Bool.false_or, decide_eq_true_eq] at h2
        exact hall _ h2
      rw [e] at this; cases this
    · cases n with
      | zero => exact absurd (fun j hj => by omega) hall
      | succ n =>
        have : ∃ j, j < k ∧ listed.getD j false ≠ true := Classical.byContradiction fun h => hall fun j hj => Classical.byContradiction fun hne => h ⟨j, hj, hne⟩
        obtain ⟨j, hj, hne⟩ := this
        refine ready_some ha hs n j (by omega) (by omega) ?_
        exact getD_in (by omega) (by simpa using hne)
end
end Go.Proofs.YtogphlnakdnchaaGreat

namespace Go.Proofs.YtogphlnakdnchaaGreat
open Go Go.RowKit
/-- A box: which operation lays it, in which slot, its type, its first cells; which operation stores there, out of which slot. -/
structure Bx where
  ia : Nat
  d : Tmp
  T : TypeId
  z : Array Value
  st : Nat
  s : Tmp
def idleU (o : Oper) : Oper := { o with op := .assign (.const undef) }
def boxedF (idx : List Nat) : Nat → List Oper → List Oper
  | _, [] => []
  | i, o :: r => (if idx.contains i then idleU o else o) :: boxedF idx (i + 1) r
def bxIdx (bx : List Bx) : List Nat := bx.flatMap fun b => [b.ia, b.st]
theorem boxedF_get (idx : List Nat) : ∀ (l : List Oper) (k i : Nat), (boxedF idx k l)[i]? = (l[i]?).map fun o => if idx.contains (k + i) then idleU o else o
  | [], _, _ => by simp [boxedF]
  | o :: r, k, 0 => by simp [boxedF]
  | o :: r, k, i + 1 => by
    simp only [boxedF, List.getElem?_cons_succ]
    rw [boxedF_get idx r (k + 1) i, show k + 1 + i = k + (i + 1) by omega]
section
variable {P : Program} {idx : List Nat} {l : List Oper} {md : Region.Mode}
theorem bxd_get (i : Nat) : (boxedF idx 0 l).toArray[i]? = (l.toArray[i]?).map fun o => if idx.contains i then idleU o else o := by
  rw [List.getElem?_toArray, List.getElem?_toArray, boxedF_get, Nat.zero_add]
theorem bxd_len : (boxedF idx 0 l).length = l.length := by
  suffices h : ∀ (l : List Oper) k, (boxedF idx k l).length = l.length from h l 0
  intro l
  induction l with
  | nil => intro k; rfl
  | cons o r ih => intro k; simp [boxedF, ih]
theorem bxd_size : (boxedF idx 0 l).toArray.size = l.toArray.size := by simp [bxd_len]
theorem bxd_after (i : Nat) : ((boxedF idx 0 l).toArray[i]?).map (·.after) = (l.toArray[i]?).map (·.after) := by
  rw [bxd_get]
  cases l.toArray[i]? with
  | none => rfl
  | some o => by_cases h : i ∈ idx <;> simp [h, idleU]
theorem bxd_dst (i : Nat) : ((boxedF idx 0 l).toArray[i]?).bind (·.dst) = (l.toArray[i]?).bind (·.dst) := by
  rw [bxd_get]
  cases l.toArray[i]? with
  | none => rfl
  | some o => by_cases h : i ∈ idx <;> simp [h, idleU]
theorem bxd_ready (listed : Array Bool) : Region.ready md (boxedF idx 0 l).toArray listed = Region.ready md l.toArray listed := by
  unfold Region.ready
  rw [bxd_size]
  refine List.filter_congr fun i _ => ?_
  have h := bxd_after (idx := idx) (l := l) i
  congr 1
  generalize (boxedF idx 0 l).toArray[i]? = x at *
  generalize l.toArray[i]? = y at *
  cases x <;> cases y <;> simp_all
theorem bxd_yielded (ts : Array Value) : yielded (boxedF idx 0 l).toArray ts = yielded l.toArray ts := by
  funext j
  unfold yielded
  rw [bxd_dst]
end
/-- Where all others have been written, the slots are as at the end. -/
theorem fin_at {P : Program} {md : Region.Mode} {ops : Array Oper} {C : World → Prop} {aF : Act} : ∀ (fuel : Nat) (listed : Array Bool) (a : Act), wpAnyQ P md ops C (fun x => x = aF) fuel listed a →
    ∀ t, (∀ (i : Nat) (o : Oper), ops[i]? = some o → listed.getD i true = false → o.dst ≠ some t) → a.tmps[t]? = aF.tmps[t]?
  | 0, _, a, h, t, _ => by have h2 : a = aF := h.2; rw [h2]
  | fuel + 1, listed, a, h, t, ht => by
    cases hr : Region.ready md ops listed with
    | nil => have h2 : a = aF := h.1 hr; rw [h2]
    | cons i r =>
      have hi : i ∈ Region.ready md ops listed := by rw [hr]; exact List.mem_cons_self
      have h1 := h.2 i hi
      obtain ⟨hun, o, ho, _⟩ := mem_ready.1 hi
      obtain ⟨v, _, hK⟩ := yieldsIn_of_qOp ho h1
      have h3 := fin_at fuel _ _ hK t (fun j oj hj hu => ht j oj hj (by
        by_cases e : i = j
        · subst e; exact hun
        · rwa [getD_set_ne true e] at hu))
      rw [← h3]
      have hd := ht i o ho hun
      cases hdd : o.dst with
      | none => rfl
      | some d =>
        have hne : d ≠ t := fun e => hd (by rw [hdd, e])
        simp [Act.put, Array.getElem?_setIfInBounds_ne hne]
def BxNe (b c : Bx) : Prop := b.ia ≠ c.ia ∧ b.ia ≠ c.st ∧ b.st ≠ c.ia ∧ b.st ≠ c.st ∧ b.d ≠ c.d
instance (b c : Bx) : Decidable (BxNe b c) := inferInstanceAs (Decidable (_ ∧ _))
theorem BxNe.symm {b c : Bx} (h : BxNe b c) : BxNe c b := ⟨Ne.symm h.1, Ne.symm h.2.2.1, Ne.symm h.2.1, Ne.symm h.2.2.2.1, Ne.symm h.2.2.2.2⟩
structure BxOk (l : List Oper) (bx : List Bx) : Prop where
  sel : Region.noSelect l.toArray = true
  ds : ∀ b ∈ bx, ∀ c ∈ bx, b = c ∨ BxNe b c
  dd : ∀ b ∈ bx, b.ia ≠ b.st
  acy : acyB .any l.toArray = true
  al : ∀ b ∈ bx, ∃ o, l[b.ia]? = some o ∧ o.op = .alloc b.T ∧ o.dst = some b.d ∧ o.guard = none
  st : ∀ b ∈ bx, ∃ o, l[b.st]? = some o ∧ o.op = .store b.T (.tmp b.d) (.tmp b.s) ∧ o.dst = none ∧ o.guard = none ∧ (∃ e ∈ o.after, Region.binds .any e = true ∧ e.on = b.ia) ∧ ∃ e ∈ o.after, Region.binds .any e = true ∧ ∃ x, l[e.on]? = some x ∧ x.dst = some b.s
  sd : ∀ b ∈ bx, ∀ c ∈ bx, b.s ≠ c.d
  ap : ∀ (i : Nat) (o : Oper), l[i]? = some o → i ∉ bxIdx bx → ∀ b ∈ bx, b.d ∉ o.looksAt l.toArray ∧ o.dst ≠ some b.d
  un : ∀ (i j : Nat) (x y : Oper) (t : Tmp), l[i]? = some x → l[j]? = some y → x.dst = some t → y.dst = some t → i = j
theorem put_out {a : Act} {dst : Option Tmp} {v : Value} {t : Nat} (h : dst ≠ some t) : (a.put dst v).tmps[t]? = a.tmps[t]? := by
  cases dst with
  | none => rfl
  | some d =>
    have hne : d ≠ t := fun e => h (by rw [e])
    simp [Act.put, Array.getElem?_setIfInBounds_ne hne]
theorem put_at {a : Act} {v : Value} {t : Nat} (h : t < a.tmps.size) : (a.put (some t) v).tmps[t]? = some v := by simp [Act.put, h]
theorem put_size {a : Act} {dst : Option Tmp} {v : Value} : (a.put dst v).tmps.size = a.tmps.size := by cases dst <;> simp [Act.put]
theorem put_dfr {a : Act} {dst : Option Tmp} {v : Value} : (a.put dst v).defers = a.defers := by cases dst <;> rfl
theorem put_same {a a' : Act} {dst : Option Tmp} {v : Value} {t : Nat} (h : a.tmps[t]? = a'.tmps[t]?) (hs : a.tmps.size = a'.tmps.size) : (a.put dst v).tmps[t]? = (a'.put dst v).tmps[t]? := by
  by_cases e : dst = some t
  · subst e
    by_cases ht : t < a.tmps.size
    · rw [put_at ht, put_at (by omega)]
    · rw [Array.getElem?_eq_none (by rw [put_size]; omega), Array.getElem?_eq_none (by rw [put_size]; omega)]
  · rw [put_out e, put_out e]; exact h
theorem act_ext {a b : Act} (h1 : a.defers = b.defers) (h2 : ∀ t : Nat, a.tmps[t]? = b.tmps[t]?) : a = b := by
  obtain ⟨x, y⟩ := a
  obtain ⟨z, u⟩ := b
  have : x = z := by
    apply Array.ext_getElem?
    exact h2
  subst this
  have h1' : y = u := h1
  rw [h1']
theorem look_congr {ops : Array Oper} {o : Oper} {a a' : Act} (hs : ∀ cs b, o.op ≠ .select cs b) (h : ∀ t ∈ o.looksAt ops, a.tmps[t]? = a'.tmps[t]?) :
    execOp a.eval o = execOp a'.eval o ∧ Region.wanted o (yielded ops a.tmps) = Region.wanted o (yielded ops a'.tmps) := by
  constructor
  · refine execOp_congr o hs (fun x hx => ?_)
    cases x with
    | tmp t =>
      have : t ∈ o.looksAt ops := by
        unfold Oper.looksAt
        refine List.mem_append_left _ (List.mem_filterMap.2 ⟨.tmp t, by simpa using hx, rfl⟩)
      simp [Act.eval, h t this]
    | _ => rfl
  · unfold Region.wanted
    cases hg : o.guard with
    | none => rfl
    | some q =>
      obtain ⟨g, want⟩ := q
      have : yielded ops a.tmps g = yielded ops a'.tmps g := by
        unfold yielded
        cases hd : (ops[g]?).bind (·.dst) with
        | none => rfl
        | some t =>
          have hm : t ∈ o.looksAt ops := by
            unfold Oper.looksAt
            refine List.mem_append_right _ ?_
            rw [hg]
            simp [hd]
          simp [h t hm]
      simp [this]
def bPtr (n : Nat) : Value := .pointer (some ⟨n, 0, none⟩)
def bSrc (aF : Act) (b : Bx) : Value := (aF.tmps[b.s]?).getD undef
structure BInv (l : List Oper) (bx : List Bx) (w0 : World) (aF : Act) (listed : Array Bool) (a' a : Act) (n : Nat → Nat) (w : World) : Prop where
  fr : Fr (fun _ => False) w0 w
  df : a.defers = a'.defers
  sz : a.tmps.size = a'.tmps.size
  out : ∀ t : Nat, (∀ b ∈ bx, listed.getD b.ia true = true → b.d ≠ t) → a.tmps[t]? = a'.tmps[t]?
  box : ∀ b ∈ bx, listed.getD b.ia true = true → a.tmps[b.d]? = some (bPtr (n b.ia)) ∧ w0.heap.size ≤ n b.ia ∧ w.heap[n b.ia]? = some (.cells (if listed.getD b.st true = true then (bSrc aF b).cells else b.z) b.T)
  ne : ∀ b ∈ bx, ∀ c ∈ bx, listed.getD b.ia true = true → listed.getD c.ia true = true → n b.ia = n c.ia → b = c
  ord : ∀ b ∈ bx, listed.getD b.st true = true → listed.getD b.ia true = true
  lsz : listed.size = l.length
  bnd : ∀ b ∈ bx, b.d < a.tmps.size
theorem getD_set_same {xs : Array Bool} {i : Nat} (h : i < xs.size) : (xs.setIfInBounds i true).getD i true = true := by simp [h]
section
variable {P : Program} {l : List Oper} {bx : List Bx} {w0 : World} {aF : Act} {Q : Exit → Act → World → Prop}
theorem wpAnyQ_end {C : World → Prop} {ops : Array Oper} {Q' : Act → Prop} {listed : Array Bool} {a : Act} (h : Region.ready .any ops listed = []) : ∀ f, wpAnyQ P .any ops C Q' f listed a → Q' a
  | 0, hq => hq.2
  | _ + 1, hq => hq.1 h
/-- What all classes say of one operation: one value. -/
theorem all_put {ops : Array Oper} {fuel : Nat} {listed : Array Bool} {a' : Act} {i : Nat} {o : Oper} (ho : ops[i]? = some o) (hr : i ∈ Region.ready .any ops listed)
    (hw : ∀ (j : Nat) (x : Oper) (t : Tmp), ops[j]? = some x → x.dst = some t → o.dst = some t → j = i) (hil : i < listed.size)
    (hH : ∀ wX, Fr (fun _ => False) w0 wX → wpAnyQ P .any ops (fun w' => ∃ Y : FrW wX, w' = Y.val) (fun x => x = aF) (fuel + 1) listed a') (wX : World) (hX : Fr (fun _ => False) w0 wX) :
    ∃ v, YieldsIn P ops (fun w' => ∃ Y : FrW wX, w' = Y.val) o v a' ∧ ∀ wY, Fr (fun _ => False) w0 wY → wpAnyQ P .any ops (fun w' => ∃ Y : FrW wY, w' = Y.val) (fun x => x = aF) fuel (listed.setIfInBounds i true) (a'.put o.dst v) := by
  have hset : (listed.setIfInBounds i true).getD i true = true := getD_set_same hil
  have fin : ∀ wY, Fr (fun _ => False) w0 wY → ∃ v, YieldsIn P ops (fun w' => ∃ Y : FrW wY, w' = Y.val) o v a' ∧ wpAnyQ P .any ops (fun w' => ∃ Y : FrW wY, w' = Y.val) (fun x => x = aF) fuel (listed.setIfInBounds i true) (a'.put o.dst v) ∧ ∀ t, o.dst = some t → (a'.put o.dst v).tmps[t]? = aF.tmps[t]? := fun wY hY => by
    obtain ⟨v, h1, h2⟩ := yieldsIn_of_qOp ho ((hH wY hY).2 i hr)
    refine ⟨v, h1, h2, fun t ht => fin_at fuel _ _ h2 t (fun j x hj hu hx => ?_)⟩
    have := hw j x t hj hx ht
    rw [this, hset] at hu
    cases hu
  obtain ⟨v, h1, h2, h3⟩ := fin wX hX
  refine ⟨v, h1, fun wY hY => ?_⟩
  obtain ⟨u, _, g2, g3⟩ := fin wY hY
  have e : a'.put o.dst v = a'.put o.dst u := by
    refine act_ext (by rw [put_dfr, put_dfr]) (fun t => ?_)
    by_cases ht : o.dst = some t
    · rw [h3 t ht, g3 t ht]
    · rw [put_out ht, put_out ht]
  rw [e]
  exact g2
end
end Go.Proofs.YtogphlnakdnchaaGreat

namespace Go.Proofs.YtogphlnakdnchaaGreat
open Go Go.RowKit
/-- The chain's operations: which ones, and whether what was there stays as it was. -/
abbrev Efs := List (Nat × Bool)
def efIdx (E : Efs) : List Nat := E.map (·.1)
/-- One operation of the chain behind the other, whatever was laid between. -/
def wpEf (P : Program) (ops : Array Oper) (Q : Act → World → Prop) : List (Oper × Bool) → Act → World → Prop
  | [], a, w => ∀ w1, Fr (fun _ => False) w w1 → Q a w1
  | (o, cl) :: es, a, w => ∀ w1, Fr (fun _ => False) w w1 → wpList P ops (fun ex a2 w2 => ex = Exit.normal ∧ a2.defers = a.defers ∧ (cl = true → Fr (fun _ => False) w1 w2) ∧ wpEf P ops Q es a2 w2) [o] a w1
def efOps (l : List Oper) (E : Efs) : List (Oper × Bool) := E.filterMap fun e => (l[e.1]?).map fun o => (o, e.2)
def waits (o : Oper) (j : Nat) : Bool := o.after.any fun e => Region.binds .any e && e.on == j
/-- It waits for it, or for one that waits for it .. (n steps). -/
def waitsT (l : List Oper) : Nat → Oper → Nat → Bool
  | 0, o, j => waits o j
  | n + 1, o, j => waits o j || o.after.any fun e => Region.binds .any e && (match l[e.on]? with | some x => waitsT l n x j | none => false)
/-- All that the slots it looks at are written by is waited for. -/
def seesB (l : List Oper) (o : Oper) : Bool := (o.looksAt l.toArray).all fun t => (List.range l.length).all fun j => match l[j]? with | some x => x.dst != some t || waits o j | none => true
def chainB2 (l : List Oper) : List Nat → Bool
  | a :: b :: r => (match l[b]? with | some o => waits o a | none => false) && chainB2 l (b :: r)
  | _ => true
def efB (l : List Oper) (E : Efs) (pu : List Nat) (dp : Nat) : Bool :=
  Region.noSelect l.toArray && acyB .any l.toArray && decide (efIdx E).Nodup && chainB2 l (efIdx E) &&
  E.all (fun e => match l[e.1]? with | some o => o.guard.isNone && seesB l o && (e.2 || (List.range l.length).all fun i => (efIdx E).contains i || pu.contains i || waitsT l dp o i) | none => false) &&
  pu.all (fun i => match l[i]? with | some o => o.guard.isNone && seesB l o | none => true) &&
  (List.range l.length).all (fun i => (efIdx E).contains i || (match l[i]? with | some o => (efIdx E).all (fun e => match (l[e]?).bind (·.dst) with | some d => !(o.looksAt l.toArray).contains d && o.dst != some d | none => true) | none => true)) &&
  (List.range l.length).all (fun i => (List.range l.length).all fun j => i == j || (match l[i]?, l[j]? with | some x, some y => x.dst.isNone || x.dst != y.dst | _, _ => true))
theorem waits_spec {o : Oper} {j : Nat} (h : waits o j = true) : ∃ e ∈ o.after, Region.binds .any e = true ∧ e.on = j := by
  unfold waits at h
  simp only [Array.any_eq_true, Bool.and_eq_true, beq_iff_eq] at h
  obtain ⟨i, hi, h1, h2⟩ := h
  exact ⟨_, Array.getElem_mem hi, h1, h2⟩
theorem chain_spec {l : List Oper} : ∀ {xs : List Nat}, chainB2 l xs = true → ∀ (p a b : Nat), xs[p]? = some a → xs[p + 1]? = some b → ∃ o, l[b]? = some o ∧ waits o a = true
  | [], _, _, _, _, h, _ => by simp at h
  | [_], _, p, _, _, _, h => by cases p <;> simp at h
  | x :: y :: r, hc, p, a, b, ha, hb => by
    have hc' : ((match l[y]? with | some o => waits o x | none => false) && chainB2 l (y :: r)) = true := hc
    simp only [Bool.and_eq_true] at hc'
    cases p with
    | zero =>
      simp at ha hb
      subst ha hb
      cases ho : l[y]? with
      | none => rw [ho] at hc'; cases hc'.1
      | some o => rw [ho] at hc'; exact ⟨o, rfl, hc'.1⟩
    | succ p => exact chain_spec hc'.2 p a b (by simpa using ha) (by simpa using hb)
structure EfOk (l : List Oper) (E : Efs) (pu : List Nat) (dp : Nat) : Prop where
  sel : Region.noSelect l.toArray = true
  acy : acyB .any l.toArray = true
  nod : (efIdx E).Nodup
  chn : ∀ (p a b : Nat), (efIdx E)[p]? = some a → (efIdx E)[p + 1]? = some b → ∃ o, l[b]? = some o ∧ waits o a = true
  eff : ∀ e ∈ E, ∃ o, l[e.1]? = some o ∧ o.guard = none ∧ seesB l o = true ∧ (e.2 = false → ∀ i, i < l.length → i ∉ efIdx E → i ∉ pu → waitsT l dp o i = true)
  pur : ∀ i ∈ pu, ∀ o, l[i]? = some o → o.guard = none ∧ seesB l o = true
  ap : ∀ (i : Nat) (o : Oper), l[i]? = some o → i ∉ efIdx E → ∀ e ∈ efIdx E, ∀ x d, l[e]? = some x → x.dst = some d → d ∉ o.looksAt l.toArray ∧ o.dst ≠ some d
  un : ∀ (i j : Nat) (x y : Oper) (t : Tmp), l[i]? = some x → l[j]? = some y → x.dst = some t → y.dst = some t → i = j
theorem efB_ok {l : List Oper} {E : Efs} {pu : List Nat} {dp : Nat} (h : efB l E pu dp = true) : EfOk l E pu dp := by
  unfold efB at h
  simp only [Bool.and_eq_true, List.all_eq_true, decide_eq_true_eq] at h
  obtain ⟨⟨⟨⟨⟨⟨⟨h1, h2⟩, h3⟩, h4⟩, h5⟩, h6⟩, h7⟩, h8⟩ := h
  refine ⟨h1, h2, h3, chain_spec h4, fun e he => ?_, fun i hi o ho => ?_, fun i o hi hn e he x d hx hd => ?_, fun i j x y t hi hj hx hy => ?_⟩
  · have := h5 e he
    cases ho : l[e.1]? with
    | none => rw [ho] at this; cases this
    | some o =>
      rw [ho] at this
      simp only [Bool.and_eq_true, Bool.or_eq_true, Option.isNone_iff_eq_none, List.all_eq_true] at this
      obtain ⟨⟨g1, g2⟩, g3⟩ := this
      refine ⟨o, rfl, g1, g2, fun hf i hi hn hp => ?_⟩
      rcases g3 with g3 | g3
      · rw [hf] at g3; cases g3
      · rcases g3 i (List.mem_range.2 hi) with (g | g) | g
        · exact absurd (by simpa using g) hn
        · exact absurd (by simpa using g) hp
        · exact g
  · have := h6 i hi
    rw [ho] at this
    simp only [Bool.and_eq_true, Option.isNone_iff_eq_none] at this
    exact this
  · have hil := (List.getElem?_eq_some_iff.1 hi).1
    have := h7 i (List.mem_range.2 hil)
    rw [hi] at this
    simp only [Bool.or_eq_true, List.all_eq_true] at this
    rcases this with h | h
    · exact absurd (by simpa using h) hn
    · have := h e he
      rw [hx] at this
      simp only [Option.bind_some, hd] at this
      simp at this
      exact ⟨this.1, this.2⟩
  · have hil := (List.getElem?_eq_some_iff.1 hi).1
    have hjl := (List.getElem?_eq_some_iff.1 hj).1
    have := h8 i (List.mem_range.2 hil) j (List.mem_range.2 hjl)
    rw [hi, hj] at this
    simp only [Bool.or_eq_true, beq_iff_eq] at this
    rcases this with h | h
    · exact h
    · rw [hx, hy] at h; simp at h
theorem sees_spec {l : List Oper} {o : Oper} (h : seesB l o = true) {t j : Nat} {x : Oper} (ht : t ∈ o.looksAt l.toArray) (hx : l[j]? = some x) (hd : x.dst = some t) : waits o j = true := by
  unfold seesB at h
  simp only [List.all_eq_true] at h
  have := h t ht j (List.mem_range.2 (List.getElem?_eq_some_iff.1 hx).1)
  rw [hx] at this
  simp only [Bool.or_eq_true] at this
  rcases this with h | h
  · rw [hd] at h; simp at h
  · exact h
/-- From one act to another that it cannot tell from it. -/
theorem eff_conv {P : Program} {o : Oper} {a ar : Act} {w : World} {K : Act → World → Prop} {K' : Act → World → Prop} {Q1 Q : Exit → Act → World → Prop} (he : execOp ar.eval o = execOp a.eval o) (hK : ∀ v w2, K (a.put o.dst v) w2 → K' (ar.put o.dst v) w2)
    (hKd : ∀ x w2, K x w2 → x.defers = a.defers) (hQ : ∀ ex x w2, Q1 ex x w2 → ex = Exit.normal) (h : o.wp P a w K Q1) : o.wp P ar w K' Q := by
  unfold Oper.wp at *
  rw [he]
  generalize (execOp a.eval o).run P w = r at *
  have hnl : ¬ LetsOut Q1 := fun ⟨x, y, hq⟩ => by have := hQ _ _ _ hq; cases this
  cases r with
  | ok n w' =>
    cases n with
    | value v => exact hK _ _ h
    | skip => exact hK _ _ h
    | defer d =>
      have := hKd _ _ h
      rw [put_dfr] at this
      have h2 : (d :: a.defers).length = a.defers.length := congrArg List.length this
      simp at h2
    | enter f args => exact Calls.mono h (fun e w'' he => by
        cases e with
        | returned v => exact hK _ _ he
        | panicked c => have := hQ _ _ _ he; cases this
        | outgrown => exact absurd he hnl)
    | row r args => exact Rows.mono h (fun v w'' he => hK _ _ he)
    | _ => exact h
  | halt x w' =>
    cases x with
    | panic v => have := hQ _ _ _ h; cases this
    | _ => exact h
/-- How far the chain is: k of its operations are done; af: the act as at the end, with what they gave. -/
structure EInv (P : Program) (l : List Oper) (E : Efs) (pu : List Nat) (w0 : World) (aF : Act) (Q : Act → World → Prop) (listed : Array Bool) (k : Nat) (a' a af : Act) (w : World) : Prop where
  lst : ∀ (p e : Nat), (efIdx E)[p]? = some e → (listed.getD e true = true ↔ p < k)
  kle : k ≤ E.length
  df : a.defers = a'.defers ∧ af.defers = aF.defers
  sz : a.tmps.size = a'.tmps.size ∧ af.tmps.size = aF.tmps.size ∧ a.tmps.size = af.tmps.size
  don : ∀ (p e t : Nat) (o : Oper), p < k → (efIdx E)[p]? = some e → l[e]? = some o → o.dst = some t → a.tmps[t]? = af.tmps[t]?
  out : ∀ t : Nat, (∀ (p e : Nat) (o : Oper), p < k → (efIdx E)[p]? = some e → l[e]? = some o → o.dst ≠ some t) → a.tmps[t]? = a'.tmps[t]? ∧ af.tmps[t]? = aF.tmps[t]?
  eff : ∃ wk, Fr (fun _ => False) wk w ∧ wpEf P l.toArray Q (efOps l (E.drop k)) af wk
  cls : (Fr (fun _ => False) w0 w) ∨ (∀ i, i < l.length → i ∉ efIdx E → listed.getD i true = false → i ∈ pu)
  lsz : listed.size = l.length
  cld : ∀ (j : Nat) (x : Oper), l[j]? = some x → listed.getD j true = true → ∀ e ∈ x.after, Region.binds .any e = true → listed.getD e.on false = true
theorem efIdx_get {E : Efs} {p : Nat} {e : Nat × Bool} (h : E[p]? = some e) : (efIdx E)[p]? = some e.1 := by unfold efIdx; rw [List.getElem?_map, h]; rfl
theorem efIdx_some {E : Efs} {p i : Nat} (h : (efIdx E)[p]? = some i) : ∃ b, E[p]? = some (i, b) := by
  unfold efIdx at h
  rw [List.getElem?_map] at h
  cases he : E[p]? with
  | none => rw [he] at h; cases h
  | some e => rw [he] at h; obtain ⟨x, b⟩ := e; exact ⟨b, by simp at h; rw [h]⟩
theorem efOps_drop {l : List Oper} {E : Efs} {k : Nat} {e : Nat × Bool} {o : Oper} (h : E[k]? = some e) (ho : l[e.1]? = some o) : efOps l (E.drop k) = (o, e.2) :: efOps l (E.drop (k + 1)) := by
  have hk := (List.getElem?_eq_some_iff.1 h).1
  have he := (List.getElem?_eq_some_iff.1 h).2
  rw [List.drop_eq_getElem_cons hk, he]
  unfold efOps
  rw [List.filterMap_cons, ho]
  rfl
section
variable {P : Program} {l : List Oper} {E : Efs} {pu : List Nat} {w0 : World} {aF : Act} {Q : Exit → Act → World → Prop}
theorem listed_dep {listed : Array Bool} {o : Oper} {j : Nat} (hdeps : ∀ e ∈ o.after, Region.binds .any e = true → listed.getD e.on false = true) (hj : j < listed.size) (hw : waits o j = true) : listed.getD j true = true := by
  obtain ⟨e, he, hb, rfl⟩ := waits_spec hw
  have := hdeps e he hb
  simp only [Array.getD_eq_getD_getElem?] at this ⊢
  rw [Array.getElem?_eq_getElem hj] at this ⊢
  exact this
theorem listed_depT {listed : Array Bool} (hc : ∀ (j : Nat) (x : Oper), l[j]? = some x → listed.getD j true = true → ∀ e ∈ x.after, Region.binds .any e = true → listed.getD e.on false = true) (hs : listed.size = l.length) : ∀ (n : Nat) {o : Oper} {j : Nat}, (∀ e ∈ o.after, Region.binds .any e = true → listed.getD e.on false = true) → j < listed.size → waitsT l n o j = true → listed.getD j true = true
  | 0, _, _, hd, hj, hw => listed_dep hd hj hw
  | n + 1, o, j, hd, hj, hw => by
    have hw' : (waits o j || o.after.any fun e => Region.binds .any e && (match l[e.on]? with | some x => waitsT l n x j | none => false)) = true := hw
    simp only [Bool.or_eq_true, Array.any_eq_true, Bool.and_eq_true] at hw'
    rcases hw' with h | ⟨i, hi, hb, hx⟩
    · exact listed_dep hd hj h
    · cases hx2 : l[(o.after[i]).on]? with
      | none => rw [hx2] at hx; cases hx
      | some x =>
        rw [hx2] at hx
        have hlt := (List.getElem?_eq_some_iff.1 hx2).1
        have h1 := hd _ (Array.getElem_mem hi) hb
        have h2 : listed.getD (o.after[i]).on true = true := by
          simp only [Array.getD_eq_getD_getElem?] at h1 ⊢
          rw [Array.getElem?_eq_getElem (by omega)] at h1 ⊢
          exact h1
        exact listed_depT hc hs n (hc _ x hx2 h2) hj hx
theorem cld_set {listed : Array Bool} {i : Nat} {o : Oper} (hol : l[i]? = some o) (hd : ∀ e ∈ o.after, Region.binds .any e = true → listed.getD e.on false = true)
    (hc : ∀ (j : Nat) (x : Oper), l[j]? = some x → listed.getD j true = true → ∀ e ∈ x.after, Region.binds .any e = true → listed.getD e.on false = true) :
    ∀ (j : Nat) (x : Oper), l[j]? = some x → (listed.setIfInBounds i true).getD j true = true → ∀ e ∈ x.after, Region.binds .any e = true → (listed.setIfInBounds i true).getD e.on false = true := by
  intro j x hx hj e he hb
  have h1 : listed.getD e.on false = true := by
    by_cases h : i = j
    · subst h
      rw [hol] at hx
      cases hx
      exact hd e he hb
    · rw [getD_set_ne true h] at hj
      exact hc j x hx hj e he hb
  by_cases h : i = e.on
  · subst h
    simp only [Array.getD_eq_getD_getElem?] at h1 ⊢
    rcases Nat.lt_or_ge e.on listed.size with h2 | h2
    · simp [h2]
    · rw [Array.getElem?_eq_none h2] at h1; cases h1
  · simp only [Array.getD_eq_getD_getElem?] at h1 ⊢
    rw [Array.getElem?_setIfInBounds_ne h]
    exact h1
theorem eff_sim {dp : Nat} (ok : EfOk l E pu dp)
    (hpu : ∀ i ∈ pu, ∀ o, l[i]? = some o → ∃ v, ∀ w, (execOp aF.eval o).run P w = .ok (.value v) w) :
    ∀ (fuel : Nat) (listed : Array Bool) (k : Nat) (a' a af : Act) (w : World), EInv P l E pu w0 aF (fun x y => Q .normal x y) listed k a' a af w →
      (∀ wX, Fr (fun _ => False) w0 wX → wpAnyQ P .any (boxedF (efIdx E) 0 l).toArray (fun w' => ∃ Y : FrW wX, w' = Y.val) (fun x => x = aF) fuel listed a') → wpAny P .any l.toArray Q fuel listed a w := by
  have hend : ∀ (fuel : Nat) (listed : Array Bool) (k : Nat) (a' a af : Act) (w : World), EInv P l E pu w0 aF (fun x y => Q .normal x y) listed k a' a af w →
      (∀ wX, Fr (fun _ => False) w0 wX → wpAnyQ P .any (boxedF (efIdx E) 0 l).toArray (fun w' => ∃ Y : FrW wX, w' = Y.val) (fun x => x = aF) fuel listed a') → Region.ready .any l.toArray listed = [] → Q .normal a w := fun fuel listed k a' a af w inv hH hr => by
    have hall : ∀ j, j < l.length → listed.getD j true = true := fun j hj => by
      cases e : listed.getD j true with
      | true => rfl
      | false => exact absurd hr (ready_some ok.acy (by rw [inv.lsz]; simp) j j (by simpa using hj) (Nat.le_refl _) e)
    have ea : a' = aF := wpAnyQ_end (P := P) (C := fun w' => ∃ Y : FrW w0, w' = Y.val) (Q' := fun x => x = aF) (ops := (boxedF (efIdx E) 0 l).toArray) (by rw [bxd_ready]; exact hr) fuel (hH w0 (Fr.refl _ _))
    have hk : k = E.length := by
      rcases Nat.lt_or_ge k E.length with h | h
      · exfalso
        obtain ⟨o, ho, _⟩ := ok.eff E[k] (List.getElem_mem h)
        have h1 := hall E[k].1 (List.getElem?_eq_some_iff.1 ho).1
        have := (inv.lst k E[k].1 (efIdx_get (List.getElem?_eq_getElem h))).1 h1
        omega
      · have := inv.kle; omega
    obtain ⟨wk, hf, he⟩ := inv.eff
    rw [hk, List.drop_length] at he
    have h2 := he w hf
    have e : a = af := by
      refine act_ext (by rw [inv.df.1, inv.df.2, ea]) (fun t => ?_)
      by_cases ht : ∀ (p e : Nat) (o : Oper), p < k → (efIdx E)[p]? = some e → l[e]? = some o → o.dst ≠ some t
      · rw [(inv.out t ht).1, (inv.out t ht).2, ea]
      · have : ∃ (p e : Nat) (o : Oper), p < k ∧ (efIdx E)[p]? = some e ∧ l[e]? = some o ∧ o.dst = some t := Classical.byContradiction fun hn => ht fun p e o h1 h2 h3 h4 => hn ⟨p, e, o, h1, h2, h3, h4⟩
        obtain ⟨p, e, o, h1, h2, h3, h4⟩ := this
        exact inv.don p e t o h1 h2 h3 h4
    rw [e]
    exact h2
  intro fuel
  induction fuel with
  | zero =>
    intro listed k a' a af w inv hH
    have hr : Region.ready .any l.toArray listed = [] := by have := (hH w0 (Fr.refl _ _)).1; rwa [bxd_ready] at this
    exact ⟨hr, hend 0 listed k a' a af w inv hH hr⟩
  | succ fuel ih =>
    intro listed k a' a af w inv hH
    refine ⟨hend _ listed k a' a af w inv hH, fun i hi => ?_⟩
    obtain ⟨hun, o, ho, hdeps⟩ := mem_ready.1 hi
    have hol : l[i]? = some o := by simpa using ho
    have hil : i < l.length := (List.getElem?_eq_some_iff.1 hol).1
    have hlsz := inv.lsz
    have hi' : i ∈ Region.ready .any (boxedF (efIdx E) 0 l).toArray listed := by rw [bxd_ready]; exact hi
    have back : ∀ (j : Nat) (x : Oper) (t : Tmp), (boxedF (efIdx E) 0 l).toArray[j]? = some x → x.dst = some t → ∃ y, l[j]? = some y ∧ y.dst = some t := fun j x t hj hx => by
      rw [bxd_get] at hj
      cases hy : l.toArray[j]? with
      | none => rw [hy] at hj; cases hj
      | some y =>
        rw [hy] at hj
        refine ⟨y, by simpa using hy, ?_⟩
        simp only [Option.map_some, Option.some.injEq] at hj
        rw [← hj] at hx
        by_cases hc : (efIdx E).contains j = true
        · rw [if_pos hc] at hx; exact hx
        · rw [if_neg hc] at hx; exact hx
    have uniq : ∀ (j : Nat) (x : Oper) (t : Tmp), (boxedF (efIdx E) 0 l).toArray[j]? = some x → x.dst = some t → o.dst = some t → j = i := fun j x t hj hx ht => by
      obtain ⟨y, hy, hyd⟩ := back j x t hj hx
      exact ok.un j i y o t hy hol hyd ht
    -- a slot all of whose writers are listed is as at the end
    have fin : ∀ t : Nat, (∀ (j : Nat) (y : Oper), l[j]? = some y → y.dst = some t → listed.getD j true = true) → a'.tmps[t]? = aF.tmps[t]? := fun t ht =>
      fin_at (fuel + 1) listed a' (hH w0 (Fr.refl _ _)) t (fun j y hj hu hy => by
        obtain ⟨z, hz, hzd⟩ := back j y t hj hy
        rw [ht j z hz hzd] at hu
        cases hu)
    by_cases hE : i ∈ efIdx E
    · -- the chain's next
      obtain ⟨p, hp⟩ := List.getElem?_of_mem hE
      have hpk : ¬ p < k := fun h => by rw [(inv.lst p i hp).2 h] at hun; cases hun
      have hpk2 : p = k := by
        rcases Nat.lt_or_ge k p with h | h
        · exfalso
          obtain ⟨q, rfl⟩ : ∃ q, p = q + 1 := ⟨p - 1, by omega⟩
          have hq := (List.getElem?_eq_some_iff.1 hp).1
          have hqe : (efIdx E)[q]? = some (efIdx E)[q] := List.getElem?_eq_getElem (by omega)
          obtain ⟨o', ho', hw⟩ := ok.chn q _ i hqe hp
          rw [hol] at ho'
          obtain rfl : o = o' := by injection ho'
          obtain ⟨b, hb⟩ := efIdx_some hqe
          obtain ⟨x, hx, _⟩ := ok.eff _ (List.mem_of_getElem? hb)
          have h1 := listed_dep hdeps (by rw [hlsz]; exact (List.getElem?_eq_some_iff.1 hx).1) hw
          have := (inv.lst q _ hqe).1 h1
          omega
        · omega
      obtain rfl : k = p := hpk2.symm
      obtain ⟨cl, hcl⟩ := efIdx_some hp
      obtain ⟨o', ho', hog, hos, hlate⟩ := ok.eff _ (List.mem_of_getElem? hcl)
      dsimp only at ho' hlate
      rw [hol] at ho'
      obtain rfl : o = o' := by injection ho'
      have hob : (boxedF (efIdx E) 0 l).toArray[i]? = some (idleU o) := by rw [bxd_get, ho]; simp [hE]
      obtain ⟨u, _, hK⟩ := all_put (w0 := w0) (fuel := fuel) (a' := a') hob hi' (fun j x t hj hx ht => uniq j x t hj hx ht) (by omega) hH w0 (Fr.refl _ _)
      have hK' : ∀ wY, Fr (fun _ => False) w0 wY → wpAnyQ P .any (boxedF (efIdx E) 0 l).toArray (fun w' => ∃ Y : FrW wY, w' = Y.val) (fun x => x = aF) fuel (listed.setIfInBounds i true) (a'.put o.dst u) := hK
      have hlk : ∀ t ∈ o.looksAt l.toArray, a.tmps[t]? = af.tmps[t]? := fun t ht => by
        have hw : ∀ (j : Nat) (y : Oper), l[j]? = some y → y.dst = some t → listed.getD j true = true := fun j y hy hyd => listed_dep hdeps (by rw [hlsz]; exact (List.getElem?_eq_some_iff.1 hy).1) (sees_spec hos ht hy hyd)
        by_cases hex : ∀ (p e : Nat) (x : Oper), p < k → (efIdx E)[p]? = some e → l[e]? = some x → x.dst ≠ some t
        · rw [(inv.out t hex).1, (inv.out t hex).2]
          exact fin t hw
        · have : ∃ (p e : Nat) (x : Oper), p < k ∧ (efIdx E)[p]? = some e ∧ l[e]? = some x ∧ x.dst = some t := Classical.byContradiction fun hn => hex fun p e x h1 h2 h3 h4 => hn ⟨p, e, x, h1, h2, h3, h4⟩
          obtain ⟨p, e, x, h1, h2, h3, h4⟩ := this
          exact inv.don p e t x h1 h2 h3 h4
      have hsel := Region.noSelect_spec ok.sel
      obtain ⟨c1, _⟩ := look_congr (ops := l.toArray) (o := o) (a := a) (a' := af) (fun cs b => hsel i o cs b ho) hlk
      obtain ⟨wk, hf, he⟩ := inv.eff
      rw [efOps_drop hcl hol] at he
      have he1 := he w hf
      have hwp : o.wp P af w (fun a2 w2 => Exit.normal = Exit.normal ∧ a2.defers = af.defers ∧ (cl = true → Fr (fun _ => False) w w2) ∧ wpEf P l.toArray (fun x y => Q .normal x y) (efOps l (E.drop (k + 1))) a2 w2) (fun ex a2 w2 => ex = Exit.normal ∧ a2.defers = af.defers ∧ (cl = true → Fr (fun _ => False) w w2) ∧ wpEf P l.toArray (fun x y => Q .normal x y) (efOps l (E.drop (k + 1))) a2 w2) := by
        have h1 : (if Region.wanted o (yielded l.toArray af.tmps) then _ else _) := he1
        simp only [Region.wanted, hog, if_true] at h1
        rcases h1 with h1 | ⟨_, x, y, h2⟩
        · exact h1
        · cases h2.1
      have hset : ∀ j, (listed.setIfInBounds i true).getD j true = true ↔ (j = i ∨ listed.getD j true = true) := fun j => by
        by_cases e : i = j
        · subst e; simp [getD_set_same (show i < listed.size by omega)]
        · rw [getD_set_ne true e]
          exact ⟨.inr, fun h => h.elim (fun e2 => absurd e2.symm e) id⟩
      unfold wpOp
      rw [ho]
      simp only [Region.wanted, hog, if_true]
      left
      refine eff_conv c1 (fun v w2 h => ?_) (fun x w2 h => h.2.1) (fun ex x w2 h => h.1) hwp
      obtain ⟨_, hd2, hcl2, hrest⟩ := h
      refine ih _ (k + 1) (a'.put o.dst u) _ (af.put o.dst v) w2 ⟨fun p e hpe => ?_, ?_, ⟨by rw [put_dfr, put_dfr]; exact inv.df.1, by rw [put_dfr]; exact inv.df.2⟩, ⟨by rw [put_size, put_size]; exact inv.sz.1, by rw [put_size]; exact inv.sz.2.1, by rw [put_size, put_size]; exact inv.sz.2.2⟩, fun p e t x h1 h2 h3 h4 => ?_, fun t ht => ?_, ⟨w2, Fr.refl _ _, hrest⟩, ?_, by simp [hlsz], cld_set hol hdeps inv.cld⟩ hK'
      · rw [hset e]
        by_cases hpk : p = k
        · subst hpk
          rw [hp] at hpe
          cases hpe
          simp
        · have hne : e ≠ i := fun he => by
            subst he
            have h1 := (List.getElem?_eq_some_iff.1 hp)
            have h2 := (List.getElem?_eq_some_iff.1 hpe)
            exact hpk ((List.getElem_inj ok.nod).1 (h2.2.trans h1.2.symm))
          rw [show (e = i ∨ listed.getD e true = true) ↔ listed.getD e true = true from ⟨fun h => h.elim (fun h => absurd h hne) id, .inr⟩, inv.lst p e hpe]
          omega
      · have := (List.getElem?_eq_some_iff.1 hcl).1; omega
      · by_cases hto : o.dst = some t
        · by_cases hts : t < a.tmps.size
          · rw [hto, put_at hts, put_at (by rw [← inv.sz.2.2]; exact hts)]
          · rw [Array.getElem?_eq_none (by rw [put_size]; omega), Array.getElem?_eq_none (by rw [put_size, ← inv.sz.2.2]; omega)]
        · rw [put_out hto, put_out hto]
          by_cases hpk : p = k
          · subst hpk
            rw [hp] at h2
            cases h2
            rw [hol] at h3
            cases h3
            exact absurd h4 hto
          · exact inv.don p e t x (by omega) h2 h3 h4
      · have hto : o.dst ≠ some t := ht k i o (by omega) hp hol
        rw [put_out hto, put_out hto, put_out hto]
        exact inv.out t (fun p e x h1 h2 h3 => ht p e x (by omega) h2 h3)
      · cases cl with
        | true =>
          rcases inv.cls with h | h
          · exact .inl (h.trans (hcl2 rfl))
          · refine .inr (fun j hj hjn hjl => h j hj hjn ?_)
            cases e : listed.getD j true with
            | false => rfl
            | true => rw [(hset j).2 (.inr e)] at hjl; cases hjl
        | false =>
          refine .inr (fun j hj hjn hjl => Classical.byContradiction fun hjp => ?_)
          have h1 := listed_depT inv.cld hlsz dp hdeps (by rw [hlsz]; exact hj) (hlate rfl j hj hjn hjp)
          rw [(hset j).2 (.inr h1)] at hjl
          cases hjl
    · -- one that only reads
      have hob : (boxedF (efIdx E) 0 l).toArray[i]? = some o := by rw [bxd_get, ho]; simp [hE]
      have hsel := Region.noSelect_spec ok.sel
      have hapart : ∀ t, (t ∈ o.looksAt l.toArray ∨ o.dst = some t) → ∀ (p e : Nat) (x : Oper), p < k → (efIdx E)[p]? = some e → l[e]? = some x → x.dst ≠ some t := fun t ht p e x _ h2 h3 h4 => by
        have := ok.ap i o hol hE e (List.mem_of_getElem? h2) x t h3 h4
        rcases ht with h | h
        · exact this.1 h
        · exact this.2 h
      obtain ⟨c1, c2⟩ := look_congr (ops := l.toArray) (o := o) (a := a) (a' := a') (fun cs b => hsel i o cs b ho) (fun t ht => (inv.out t (hapart t (.inl ht))).1)
      have hset : ∀ j, j ∈ efIdx E → (listed.setIfInBounds i true).getD j true = listed.getD j true := fun j hj => getD_set_ne true (fun e => hE (e ▸ hj))
      have hset2 : ∀ j, (listed.setIfInBounds i true).getD j true = false → listed.getD j true = false := fun j hj => by
        by_cases e : i = j
        · subst e; exact hun
        · rwa [getD_set_ne true e] at hj
      have key : ∀ v w', Fr (fun _ => False) w w' → (∀ wY, Fr (fun _ => False) w0 wY → wpAnyQ P .any (boxedF (efIdx E) 0 l).toArray (fun w' => ∃ Y : FrW wY, w' = Y.val) (fun x => x = aF) fuel (listed.setIfInBounds i true) (a'.put o.dst v)) → wpAny P .any l.toArray Q fuel (listed.setIfInBounds i true) (a.put o.dst v) w' := fun v w' hf hK => by
        refine ih _ k (a'.put o.dst v) _ af w' ⟨fun p e hpe => by rw [hset e (List.mem_of_getElem? hpe)]; exact inv.lst p e hpe, inv.kle, ⟨by rw [put_dfr, put_dfr]; exact inv.df.1, inv.df.2⟩, ⟨by rw [put_size, put_size]; exact inv.sz.1, inv.sz.2.1, by rw [put_size]; exact inv.sz.2.2⟩, fun p e t x h1 h2 h3 h4 => ?_, fun t ht => ?_, ?_, ?_, by simp [hlsz], cld_set hol hdeps inv.cld⟩ hK
        · have hto : o.dst ≠ some t := fun hd => hapart t (.inr hd) p e x h1 h2 h3 h4
          rw [put_out hto]
          exact inv.don p e t x h1 h2 h3 h4
        · exact ⟨put_same (inv.out t ht).1 inv.sz.1, (inv.out t ht).2⟩
        · obtain ⟨wk, h1, h2⟩ := inv.eff
          exact ⟨wk, h1.trans hf, h2⟩
        · exact inv.cls.imp (fun h => h.trans hf) (fun h j hj hjn hjl => h j hj hjn (hset2 j hjl))
      unfold wpOp
      rw [ho]
      simp only []
      rw [c2]
      rcases inv.cls with hcls | hcls
      · obtain ⟨v, hY, hK⟩ := all_put (w0 := w0) (fuel := fuel) (a' := a') hob hi' uniq (by omega) hH w hcls
        rcases hY with ⟨hw, hq⟩ | ⟨hw, rfl⟩
        · rw [bxd_yielded] at hw
          rw [if_pos hw]
          left
          refine Oper.wp_of_quiet (C := fun w' => ∃ Y : FrW w, w' = Y.val) (K := fun x => x = a.put o.dst v) ⟨⟨w, Fr.refl _ w⟩, rfl⟩ ?_ ⟨v, fun w1 h1 => ?_, rfl⟩
          · rintro x w' ⟨Y, rfl⟩ rfl
            exact key v _ Y.fr hK
          · have := hq w1 h1
            unfold Oper.quietAt at *
            rw [c1]
            exact this
        · rw [bxd_yielded] at hw
          rw [if_neg (by rw [hw]; simp)]
          exact key undef w (Fr.refl _ w) hK
      · have hip := hcls i hil hE hun
        obtain ⟨hog, hos⟩ := ok.pur i hip o hol
        obtain ⟨v, hv⟩ := hpu i hip o hol
        obtain ⟨v', hY, hK⟩ := all_put (w0 := w0) (fuel := fuel) (a' := a') hob hi' uniq (by omega) hH w0 (Fr.refl _ _)
        have hfin : ∀ t ∈ o.looksAt l.toArray, a'.tmps[t]? = aF.tmps[t]? := fun t ht => fin t (fun j y hy hyd => listed_dep hdeps (by rw [hlsz]; exact (List.getElem?_eq_some_iff.1 hy).1) (sees_spec hos ht hy hyd))
        obtain ⟨d1, _⟩ := look_congr (ops := l.toArray) (o := o) (a := a') (a' := aF) (fun cs b => hsel i o cs b ho) hfin
        have hvv : v' = v := by
          rcases hY with ⟨_, hq⟩ | ⟨hw, _⟩
          · have h1 := hq w0 ⟨⟨w0, Fr.refl _ _⟩, rfl⟩
            unfold Oper.quietAt at h1
            rw [d1, hv w0] at h1
            exact h1.2.symm
          · simp [Region.wanted, hog] at hw
        subst hvv
        simp only [Region.wanted, hog, if_true]
        left
        unfold Oper.wp
        rw [c1, d1, hv w]
        exact key v' w (Fr.refl _ w) hK
theorem fin_sz {md : Region.Mode} {ops : Array Oper} {C : World → Prop} : ∀ (fuel : Nat) (listed : Array Bool) (a : Act), wpAnyQ P md ops C (fun x => x = aF) fuel listed a → aF.tmps.size = a.tmps.size ∧ aF.defers = a.defers
  | 0, _, a, h => by have h2 : a = aF := h.2; rw [h2]; exact ⟨rfl, rfl⟩
  | fuel + 1, listed, a, h => by
    cases hr : Region.ready md ops listed with
    | nil => have h2 : a = aF := h.1 hr; rw [h2]; exact ⟨rfl, rfl⟩
    | cons i r =>
      have hi : i ∈ Region.ready md ops listed := by rw [hr]; exact List.mem_cons_self
      obtain ⟨_, o, ho, _⟩ := mem_ready.1 hi
      obtain ⟨v, _, hK⟩ := yieldsIn_of_qOp ho (h.2 i hi)
      have h3 := fin_sz fuel _ _ hK
      rw [put_size, put_dfr] at h3
      exact h3
theorem wp_region_eff {id : Nat} {a : Act} {w : World} (E : Efs) (pu : List Nat) (dp : Nat) {l' : List Oper} (hm : P.follows .mixedOrders = true) (hl : boxedF (efIdx E) 0 l = l') (hB : efB l E pu dp = true) (hL : Region.lexB .any l'.toArray = true)
    (h : ∃ aF : Act, (∀ X : FrW w, wpQuiet P l'.toArray (fun w' => ∃ Y : FrW X.val, w' = Y.val) (fun a' => a' = aF) l' a) ∧
      (∀ i ∈ pu, ∀ o, l[i]? = some o → ∃ v, ∀ w, (execOp aF.eval o).run P w = .ok (.value v) w) ∧ wpEf P l.toArray (fun x y => Q .normal x y) (efOps l E) aF w) : (Code.region id l.toArray true).wp P Q a w := by
  have ok := efB_ok hB
  obtain ⟨aF, h, hpu, he⟩ := h
  subst hl
  simp only [Region.lexB, Bool.and_eq_true] at hL
  have hH : ∀ wX, Fr (fun _ => False) w wX → wpAnyQ P .any (boxedF (efIdx E) 0 l).toArray (fun w' => ∃ Y : FrW wX, w' = Y.val) (fun x => x = aF) l.toArray.size (Array.replicate l.toArray.size false) a := fun wX hX => by
    have := wpAnyQ_lex (C := fun w' => ∃ Y : FrW wX, w' = Y.val) (md := .any) hL.1 (boxedF (efIdx E) 0 l) 0 (Array.replicate (boxedF (efIdx E) 0 l).toArray.size false) a (by simp) (by simpa using hL.2) (h ⟨wX, hX⟩)
    rw [bxd_size] at this
    simpa [bxd_len] using this
  obtain ⟨hs, hd⟩ := fin_sz _ _ _ (hH w (Fr.refl _ _))
  refine wp_region_any hm (eff_sim (w0 := w) (aF := aF) ok hpu _ _ 0 a a aF _ ⟨fun p e hpe => ?_, Nat.zero_le _, ⟨rfl, rfl⟩, ⟨rfl, rfl, hs.symm⟩, fun p e t o hp => by omega, fun t _ => ⟨rfl, rfl⟩, ⟨w, (Fr.refl _ w).drew, by simpa using he⟩, .inl (Fr.refl _ w).drew, by simp, fun j x hx hj => ?_⟩ hH)
  rotate_left
  · have := (List.getElem?_eq_some_iff.1 hx).1
    simp [this] at hj
  obtain ⟨b, hb⟩ := efIdx_some hpe
  obtain ⟨o, ho, _⟩ := ok.eff _ (List.mem_of_getElem? hb)
  have hel := (List.getElem?_eq_some_iff.1 ho).1
  dsimp only at hel
  constructor
  · intro h1
    simp [hel] at h1
  · intro h1; omega
end
end Go.Proofs.YtogphlnakdnchaaGreat

namespace Go.Proofs.YtogphlnakdnchaaGreat
open Go.RowKit Go.Maps
theorem hd_end {w4 : World} {n : Nat} {T : TypeId} (o : Int) (v1 v2 v3 : Value) (h2 : w4.heap[n]? = some (.cells #[.int .i64 0, .slice none 0 0, .slice none 0 0, .slice none 0 0] T)) :
    ∃ W, W = ((((w4.setCell ⟨n, 0, none⟩ (.int .i64 o)).setCell ⟨n, 1, none⟩ v1).setCell ⟨n, 2, none⟩ v2).setCell ⟨n, 3, none⟩ v3) ∧
      W.heap[n]? = some (.cells #[.int .i64 o, v1, v2, v3] T) ∧ Fr (fun c => c = n) w4 W := by
  refine ⟨_, rfl, obj_set (obj_set (obj_set (obj_set h2 0 _) 1 _) 2 _) 3 _, ?_⟩
  exact ((((Fr.refl (fun c => c = n) w4).setCell (p := ⟨n, 0, none⟩) (fun _ => rfl) _).setCell (p := ⟨n, 1, none⟩) (fun _ => rfl) _).setCell (p := ⟨n, 2, none⟩) (fun _ => rfl) _).setCell (p := ⟨n, 3, none⟩) (fun _ => rfl) _
theorem il_okm {w : World} {v : Value} {L : Its} (h : Il w v L) {p : Str × Int} (hp : p ∈ L) : okS p.1 ∧ okI p.2 := by
  obtain ⟨i, hi⟩ := List.getElem?_of_mem hp
  obtain ⟨_, _, _, _, hx⟩ := h
  exact ⟨(hx i p hi).1, (hx i p hi).2.1⟩
set_option maxRecDepth 100000 in
set_option maxHeartbeats 8000000 in
theorem hcopied (w : World) (TB : Nat → Prop) (x : HV) (hk : HOk w TB x) (hx : x.he.length ≤ 1000 ∧ x.pi.length ≤ 1000 ∧ x.sh.length ≤ 1000) :
    Calls Tryz.prog 40 #[x.enc] w fun e w' => ∃ y : HV, e = .returned y.enc ∧ y.e = x.e ∧ HOk w' (fun b => w.heap.size ≤ b ∧ b < w'.heap.size) y ∧ Fr (fun _ => False) w w' := by
  obtain ⟨a1, c1, e1⟩ := hk.lh.1.sl
  obtain ⟨a2, c2, e2⟩ := hk.lp.1.sl
  obtain ⟨a3, c3, e3⟩ := hk.ls.1.sl
  have ho := hk.o
  obtain ⟨o, xh, xp, xs, he, pi, sh⟩ := x
  dsimp only at e1 e2 e3 hx ho
  subst e1; subst e2; subst e3
  have hcl : ∀ (v : Value) (L : Its), Il w v L → (L.length : Int) ≤ 1000 → ∀ W, Fr (fun _ => False) w W → Calls Tryz.prog 33 #[v] W fun e w' => ∃ v', e = .returned v' ∧ w'.ownsRow W.heap.size 65 2 v' L.length (itCs L) ∧ Fr (fun _ => False) W w' := fun v L hv hl W hf => itClone W v L (hv.keep hf (fun _ _ _ e => e)) hl
  have hC1 := Lib.hid (hcl _ _ hk.lh.1 (by dsimp only; omega)); have hC2 := Lib.hid (hcl _ _ hk.lp.1 (by dsimp only; omega)); have hC3 := Lib.hid (hcl _ _ hk.ls.1 (by dsimp only; omega))
  have HK := Lib.hid hk
  dsimp only at hC1 hC2 hC3
  have HO1 : Hid (∀ p ∈ he, okS p.1 ∧ okI p.2) := Lib.hid (fun p hp => il_okm hk.lh.1 hp)
  have HO2 : Hid (∀ p ∈ pi, okS p.1 ∧ okI p.2) := Lib.hid (fun p hp => il_okm hk.lp.1 hp)
  have HO3 : Hid (∀ p ∈ sh, okS p.1 ∧ okI p.2) := Lib.hid (fun p hp => il_okm hk.ls.1 hp)
  dsimp only [HV.enc]
  clear hk hcl hx
  obtain ⟨n0, hn0⟩ : ∃ n0, w.heap.size = n0 := ⟨_, rfl⟩
  obtain ⟨W1, hW1⟩ : ∃ W1, (w.alloc (.cells #[.int .i64 o, .slice a1 he.length c1, .slice a2 pi.length c2, .slice a3 sh.length c3] 37)).alloc (.cells #[.int .i64 0, .slice none 0 0, .slice none 0 0, .slice none 0 0] 37) = W1 := ⟨_, rfl⟩
  have hf1 : Fr (fun _ => False) w W1 := by rw [← hW1]; exact ((Fr.refl _ w).alloc _).alloc _
  have hb0 : W1.heap[n0]? = some (.cells #[.int .i64 o, .slice a1 he.length c1, .slice a2 pi.length c2, .slice a3 sh.length c3] 37) := by rw [← hW1]; exact heap_keep (heap_at hn0.symm _) _
  have hb1 : W1.heap[n0 + 1]? = some (.cells #[.int .i64 0, .slice none 0 0, .slice none 0 0, .slice none 0 0] 37) := by rw [← hW1]; exact heap_at (by simp; omega) _
  have HF1 := Lib.hid hf1; have HB0 := Lib.hid hb0; have HB1 := Lib.hid hb1
  have x0 := cell_obj hb0 0 (.int .i64 o) rfl
  have x1 := cell_obj hb0 1 (.slice a1 he.length c1) rfl
  have x2 := cell_obj hb0 2 (.slice a2 pi.length c2) rfl
  have x3 := cell_obj hb0 3 (.slice a3 sh.length c3) rfl
  clear hf1 hb0 hb1
  have HN0 := Lib.hid hn0
  subst hn0
  go_enter Tryz.func40, Tryz.ntmps40
  go_wp2_with fail
  (try rw [hW1])
  clear hW1
  refine wp_region_eff [(4, true), (7, true), (10, true), (11, true), (12, false)] [] 12 (by kernel_rfl) rfl (by kernel_rfl) (by kernel_rfl) ?_
  apply Exists.intro
  refine ⟨?hh, ?pu, ?ef⟩
  case hh =>
    intro X
    have x0 := FrW.cell (X.fr.cell x0 (fun e => e)); have x1 := FrW.cell (X.fr.cell x1 (fun e => e)); have x2 := FrW.cell (X.fr.cell x2 (fun e => e)); have x3 := FrW.cell (X.fr.cell x3 (fun e => e))
    simp (config := { decide := true }) only [boxedF, efIdx, List.map_cons, List.map_nil, idleU, if_true, if_false, ite_true, ite_false]
    repeat (go_big_quiet_step (fail))
    exact wpQuiet_nil rfl
  case pu =>
    intro i' hi' o ho
    cases hi'
  case ef =>
    simp only [efOps, List.filterMap_cons, List.filterMap_nil, List.getElem?_cons_succ, List.getElem?_cons_zero, Option.map_some]
    clear x0 x1 x2 x3
    intro w2 hw2
    go_wp2_with (go_at_call 33; refine (hC1.out _ (HF1.out.trans hw2)).mono ?_; rintro e w3 ⟨v3, rfl, ho3, hf3⟩; have hi3 := Il.own ho3 HO1.out; obtain ⟨b3, d3, rfl⟩ := hi3.1.sl; have HI3 := Lib.hid hi3; have HF3 := Lib.hid hf3; clear ho3 hf3 hi3)
    refine ⟨HF3.out, ?_⟩
    intro w4 hw4
    have HF4 : Hid (Fr (fun _ => False) w w4) := Lib.hid (HF1.out.trans (hw2.trans (HF3.out.trans hw4)))
    go_wp2_with (go_at_call 33; refine (hC2.out _ HF4.out).mono ?_; rintro e w5 ⟨v5, rfl, ho5, hf5⟩; have hi5 := Il.own ho5 HO2.out; obtain ⟨b5, d5, rfl⟩ := hi5.1.sl; have HI5 := Lib.hid hi5; have HF5 := Lib.hid hf5; clear ho5 hf5 hi5)
    refine ⟨HF5.out, ?_⟩
    intro w6 hw6
    have HF6 : Hid (Fr (fun _ => False) w w6) := Lib.hid (HF4.out.trans (HF5.out.trans hw6))
    go_wp2_with (go_at_call 33; refine (hC3.out _ HF6.out).mono ?_; rintro e w7 ⟨v7, rfl, ho7, hf7⟩; have hi7 := Il.own ho7 HO3.out; obtain ⟨b7, d7, rfl⟩ := hi7.1.sl; have HI7 := Lib.hid hi7; have HF7 := Lib.hid hf7; clear ho7 hf7 hi7)
    refine ⟨HF7.out, ?_⟩
    intro w8 hw8
    go_wp2_with fail
    refine ⟨Fr.refl _ _, ?_⟩
    intro w9 hw9
    have HF9 : Hid (Fr (fun _ => False) w w9) := Lib.hid (HF6.out.trans (HF7.out.trans (hw8.trans hw9)))
    have hb9 : w9.heap[w.heap.size + 1]? = some (.cells #[.int .i64 0, .slice none 0 0, .slice none 0 0, .slice none 0 0] 37) := (hw2.trans (HF3.out.trans (hw4.trans (HF5.out.trans (hw6.trans (HF7.out.trans (hw8.trans hw9))))))).at_ HB1.out (fun e => e)
    have g1 : Fr (fun _ => False) w3 w9 := hw4.trans (HF5.out.trans (hw6.trans (HF7.out.trans (hw8.trans hw9))))
    have g2 : Fr (fun _ => False) w5 w9 := hw6.trans (HF7.out.trans (hw8.trans hw9))
    have g3 : Fr (fun _ => False) w7 w9 := hw8.trans hw9
    have z1 := (Array.getElem?_eq_some_iff.1 HB1.out).1
    have z2 := hw2.size
    have z4 := (HF3.out.trans hw4).size
    have z6 := (HF5.out.trans hw6).size
    have HZ : Hid (w.heap.size + 1 < w2.heap.size ∧ w2.heap.size ≤ w4.heap.size ∧ w4.heap.size ≤ w6.heap.size) := Lib.hid ⟨by omega, by omega, by omega⟩
    have HG1 := Lib.hid g1; have HG2 := Lib.hid g2; have HG3 := Lib.hid g3
    have f0 := obj_frozen hb9 0; have f1 := obj_frozen hb9 1; have f2 := obj_frozen hb9 2; have f3 := obj_frozen hb9 3
    have c0 := cell_obj hb9 0 (.int .i64 0) rfl; have c1 := cell_obj hb9 1 (.slice none 0 0) rfl; have c2 := cell_obj hb9 2 (.slice none 0 0) rfl; have c3 := cell_obj hb9 3 (.slice none 0 0) rfl
    obtain ⟨W, hW, hWh, hWf⟩ := hd_end o (.slice b3 he.length d3) (.slice b5 pi.length d5) (.slice b7 sh.length d7) hb9
    have HWH := Lib.hid hWh; have HWF := Lib.hid hWf
    clear g1 g2 g3 z1 z2 z4 z6 hw2 hw4 hw6 hw8 hw9 hb9 hWh hWf
    go_wp2_with fail
    rw [← hW]
    clear hW f0 f1 f2 f3 c0 c1 c2 c3
    intro w10 hw10
    have hb10 := hw10.at_ HWH.out (fun e => e)
    have q0 := cell_obj hb10 0 (.int .i64 o) rfl; have q1 := cell_obj hb10 1 (.slice b3 he.length d3) rfl; have q2 := cell_obj hb10 2 (.slice b5 pi.length d5) rfl; have q3 := cell_obj hb10 3 (.slice b7 sh.length d7) rfl
    have hfin : Fr (fun b => b = w.heap.size + 1) w9 w10 := HWF.out.trans (hw10.mono (fun _ _ e => e.elim))
    have HFIN := Lib.hid hfin
    clear hb10 hw10 hfin
    go_wp2_with fail
    refine bodyPost_ret (v := .agg #[.int .i64 o, .slice b3 he.length d3, .slice b5 pi.length d5, .slice b7 sh.length d7]) (by simp [results, Tryz.results40, go_sem, q0, q1, q2, q3]) rfl ?_
    have hz := HZ.out
    have key : ∀ {wa wb : World} {v : Value} {L : Its}, Il wb v L → (∀ b, v.ownBlock = some b → wa.heap.size ≤ b ∧ b < wb.heap.size) → w2.heap.size ≤ wa.heap.size → Fr (fun _ => False) wb w9 → Lb w10 (fun b => w.heap.size ≤ b ∧ b < w10.heap.size) v L := fun {wa wb v L} hi hb hs hf => by
      have h9 := hi.keep hf (fun _ _ _ e => e)
      have s1 := hf.size; have s2 := HFIN.out.size
      exact ⟨h9.keep HFIN.out (fun _ b hb' e => by have := (hb b hb').1; have e : b = w.heap.size + 1 := e; omega), fun _ b hb' => ⟨by have := (hb b hb').1; omega, by have := (hb b hb').2; omega⟩⟩
    exact ⟨⟨o, .slice b3 he.length d3, .slice b5 pi.length d5, .slice b7 sh.length d7, he, pi, sh⟩, rfl, rfl, ⟨ho, key HI3.out.1 HI3.out.2 (Nat.le_refl _) HG1.out, key HI5.out.1 HI5.out.2 (by omega) HG2.out, key HI7.out.1 HI7.out.2 (by omega) HG3.out⟩, HF9.out.trans' HFIN.out (fun b hb e => by have e : b = w.heap.size + 1 := e; omega)⟩
end Go.Proofs.YtogphlnakdnchaaGreat

namespace Go.Proofs.YtogphlnakdnchaaGreat
open Go.RowKit Go.Maps
set_option maxRecDepth 100000 in
set_option maxHeartbeats 8000000 in
theorem hHold (w : World) (g gs m : Nat) (T0 TB : Nat → Prop) (A : Stk) (l : List (Int × HV)) (o : Int) (h : SB w g gs m T0 TB A l) (ho : okI o) (hx : (holdOf l o).he.length ≤ 1000 ∧ (holdOf l o).pi.length ≤ 1000 ∧ (holdOf l o).sh.length ≤ 1000) :
    Calls Tryz.prog 15 #[.pointer (some ⟨g, 0, none⟩), .int .i64 o] w fun e w' => ∃ y : HV, e = .returned y.enc ∧ y.e = (holdOf l o).e ∧ HOk w' (fun b => w.heap.size ≤ b ∧ b < w'.heap.size) y ∧ Fr (fun _ => False) w w' := by
  have hk := (h.hold ho).1
  obtain ⟨n0, hn0⟩ : ∃ n0, w.heap.size = n0 := ⟨_, rfl⟩
  obtain ⟨W1, hW1⟩ : ∃ W1, w.alloc (.cells #[.int .i64 0, .slice none 0 0, .slice none 0 0, .slice none 0 0] 37) = W1 := ⟨_, rfl⟩
  have hf1 : Fr (fun _ => False) w W1 := by rw [← hW1]; exact (Fr.refl _ w).alloc _
  have hb1 : W1.heap[n0]? = some (.cells #[.int .i64 0, .slice none 0 0, .slice none 0 0, .slice none 0 0] 37) := by rw [← hW1]; exact heap_at hn0.symm _
  have hS := h.keep hf1 (fun _ _ e => e)
  have hh := Lib.hid (hhold W1 g gs m T0 TB A l o hS ho)
  have hm := Lib.hid (hmade W1 g m hS.cells.2)
  obtain ⟨X, hX⟩ : ∃ X, holdOf l o = X := ⟨_, rfl⟩
  rw [hX] at hk hx hh ⊢
  have hcp := Lib.hid (fun W (hf : Fr (fun _ => False) w W) => hcopied W TB X (hk.keep hf (fun _ _ e => e)) hx)
  have HF1 := Lib.hid hf1; have HB1 := Lib.hid hb1; have HN0 := Lib.hid hn0
  clear h hk hS hf1 hb1 hX
  subst hn0
  go_enter Tryz.func15, Tryz.ntmps15
  go_wp2_with (first
    | (go_at_call 39; refine hm.out.mono ?_; rintro e w' ⟨rfl, rfl⟩)
    | (go_at_call 27; refine hh.out.mono ?_; rintro e w2 ⟨rfl, hf2⟩; have HF2 := Lib.hid hf2; clear hf2)
    | (go_at_call 40; refine (hcp.out _ (HF1.out.trans HF2.out)).mono ?_; rintro e w3 ⟨⟨yo, yh, yp, ys, ye, yi, yj⟩, rfl, hy, hky, hf3⟩; obtain ⟨a1, c1, e1⟩ := hky.lh.1.sl; obtain ⟨a2, c2, e2⟩ := hky.lp.1.sl; obtain ⟨a3, c3, e3⟩ := hky.ls.1.sl; dsimp only at e1 e2 e3; subst e1; subst e2; subst e3; dsimp only [HV.enc]; have HY := Lib.hid hy; have HKY := Lib.hid hky; have HF3 := Lib.hid hf3; have hb3 := (HF2.out.trans hf3).at_ HB1.out (fun e => e); have HB3 := Lib.hid hb3; have f0 := obj_frozen hb3 0; have f1 := obj_frozen hb3 1; have f2 := obj_frozen hb3 2; have f3 := obj_frozen hb3 3; have c0' := cell_obj hb3 0 (.int .i64 0) rfl; have c1' := cell_obj hb3 1 (.slice none 0 0) rfl; have c2' := cell_obj hb3 2 (.slice none 0 0) rfl; have c3' := cell_obj hb3 3 (.slice none 0 0) rfl; clear hy hky hf3 hb3))
  obtain ⟨W, hW, hWh, hWf⟩ := hd_end yo (.slice a1 ye.length c1) (.slice a2 yi.length c2) (.slice a3 yj.length c3) HB3.out
  rw [← hW]
  have q0 := cell_obj hWh 0 (.int .i64 yo) rfl; have q1 := cell_obj hWh 1 (.slice a1 ye.length c1) rfl; have q2 := cell_obj hWh 2 (.slice a2 yi.length c2) rfl; have q3 := cell_obj hWh 3 (.slice a3 yj.length c3) rfl
  refine bodyPost_ret (v := .agg #[.int .i64 yo, .slice a1 ye.length c1, .slice a2 yi.length c2, .slice a3 yj.length c3]) (by simp [results, Tryz.results15, go_sem, q0, q1, q2, q3]) rfl ?_
  have z1 := (Array.getElem?_eq_some_iff.1 HB1.out).1
  have z2 := HF2.out.size
  have z3 := HF1.out.size
  have z4 := hWf.size
  refine ⟨⟨yo, .slice a1 ye.length c1, .slice a2 yi.length c2, .slice a3 yj.length c3, ye, yi, yj⟩, rfl, HY.out, (HKY.out.keep hWf (fun b hb e => by have e : b = w.heap.size := e; omega)).mono (fun b hb => ⟨by omega, by omega⟩), (HF1.out.trans (HF2.out.trans HF3.out)).trans' hWf (fun b hb e => by have e : b = w.heap.size := e; omega)⟩
end Go.Proofs.YtogphlnakdnchaaGreat

namespace Go.Proofs.YtogphlnakdnchaaGreat
open Go.RowKit Go.Maps
/-- Object g is a shelf: a stock that says A, and holds that say le; it owns the blocks of TS. -/
def SHE (w : World) (g : Nat) (TS : Nat → Prop) (A : Stk) (le : Hes) : Prop := ∃ l, SH w g TS A l ∧ mapE l = le
theorem SHE.lt {w : World} {g : Nat} {TS : Nat → Prop} {A : Stk} {le : Hes} (h : SHE w g TS A le) : ∀ b, TS b → b < w.heap.size := fun b hb => by
  obtain ⟨l, h1, -⟩ := h
  exact h1.lt b hb
theorem SHE.keep {S TS : Nat → Prop} {w w' : World} {g : Nat} {A : Stk} {le : Hes} (h : SHE w g TS A le) (hf : Fr S w w') (hS : ∀ b, TS b → ¬ S b) : SHE w' g TS A le := by
  obtain ⟨l, h1, h2⟩ := h
  exact ⟨l, h1.keep hf hS, h2⟩
theorem SB.she {w w' : World} {g gs m : Nat} {T0 TB T0' TB' TS : Nat → Prop} {A : Stk} {l : List (Int × HV)} {le : Hes} (h : SB w' g gs m T0' TB' A l) (hl : mapE l = le) (hT : ∀ b, TS b ↔ (b = g ∨ b = m ∨ T0 b ∨ TB b)) (hs : Shs w w' m T0 TB T0' TB') :
    SHE w' g (fun b => b = g ∨ b = m ∨ T0' b ∨ TB' b) A le ∧ Stp TS w w' (fun b => b = g ∨ b = m ∨ T0' b ∨ TB' b) := by
  obtain ⟨h1, h2, h3⟩ := hs
  refine ⟨⟨l, ⟨gs, m, T0', TB', h, fun b => Iff.rfl⟩, hl⟩, h1.mono (fun b _ e => (hT b).2 (e.elim (fun e => .inr (.inr (.inl e))) (fun e => .inr (.inl e)))), fun b hb => ?_⟩
  rcases hb with e | e | e | e
  · exact .inl ((hT b).2 (.inl e))
  · exact .inl ((hT b).2 (.inr (.inl e)))
  · exact (h2 b e).imp (fun e => (hT b).2 (.inr (.inr (.inl e)))) id
  · exact (h3 b e).imp (fun e => (hT b).2 (.inr (.inr (.inr e)))) id
/-- What a call that answers a list and an error leaves. -/
def Ans (w : World) (g : Nat) (TS : Nat → Prop) (R : (Its × Int) × Stk × Hes) (e : Ending) (w' : World) : Prop :=
  ∃ v' TS', e = .returned (.tuple #[v', .int .i64 R.1.2]) ∧ SHE w' g TS' R.2.1 R.2.2 ∧ Il w' v' R.1.1 ∧ (∀ b, v'.ownBlock = some b → w.heap.size ≤ b ∧ b < w'.heap.size ∧ ¬ TS' b) ∧ Stp TS w w' TS'
theorem ans_of {w w' : World} {g gs m : Nat} {T0 TB T0' TB' TS : Nat → Prop} {A : Stk} {l : List (Int × HV)} {R : (Its × Int) × Stk × Hes} {v' : Value} (h : SB w' g gs m T0' TB' R.2.1 l) (hlt : g < w.heap.size ∧ m < w.heap.size) (hl : mapE l = R.2.2) (hT : ∀ b, TS b ↔ (b = g ∨ b = m ∨ T0 b ∨ TB b)) (hs : Shs w w' m T0 TB T0' TB')
    (hi : Il w' v' R.1.1) (ho : ∀ b, v'.ownBlock = some b → w.heap.size ≤ b ∧ b < w'.heap.size ∧ ¬ T0' b ∧ ¬ TB' b) : Ans w g TS R (.returned (.tuple #[v', .int .i64 R.1.2])) w' := by
  obtain ⟨h1, h2⟩ := h.she hl hT hs
  refine ⟨v', _, rfl, h1, hi, fun b hb => ⟨(ho b hb).1, (ho b hb).2.1, fun e => ?_⟩, h2⟩
  have := ho b hb
  rcases e with e | e | e | e
  · omega
  · omega
  · exact this.2.2.1 e
  · exact this.2.2.2 e
section
variable {w : World} {g : Nat} {TS : Nat → Prop} {A : Stk} {le : Hes}
set_option maxRecDepth 100000 in
set_option maxHeartbeats 1000000 in
theorem eTake (o : Int) (v : Value) (L : Its) (h : SHE w g TS A le) (hk : ShOk A le) (ho : okI o) (hv : Il w v L) : Calls Tryz.prog 8 #[.pointer (some ⟨g, 0, none⟩), .int .i64 o, v] w (Ans w g TS (takeE A le o L)) := by
  obtain ⟨l, ⟨gs, m, T0, TB, h1, h2⟩, rfl⟩ := h
  refine (hTake w g gs m T0 TB A l o v L h1 hk.stk ho hv (by have := hk.len; rw [mapE_len] at this; omega) hk.row).mono ?_
  rintro e w' ⟨v', T0', TB', l', rfl, q1, q2, q3, q4, q5⟩
  exact ans_of (A := A) q1 ⟨h1.lt g (.inl rfl), h1.lt m (.inr (.inl rfl))⟩ q2 h2 q5 q3 q4
set_option maxHeartbeats 1000000 in
theorem ePick (o : Int) (h : SHE w g TS A le) (hk : ShOk A le) (ho : okI o) : Calls Tryz.prog 11 #[.pointer (some ⟨g, 0, none⟩), .int .i64 o] w (Ans w g TS (pickE A le o)) := by
  obtain ⟨l, ⟨gs, m, T0, TB, h1, h2⟩, rfl⟩ := h
  have hc : Calls Tryz.prog 34 _ w (Ans w g TS (pickE A (mapE l) o)) := (hmvP w g gs m T0 TB A l o h1 hk.stk ho (by have := hk.len; rw [mapE_len] at this; omega) hk.row).mono (by
    rintro e w' ⟨v', T0', TB', l', rfl, q1, q2, q3, q4, q5⟩
    exact ans_of (A := A) (R := pickE A (mapE l) o) q1 ⟨h1.lt g (.inl rfl), h1.lt m (.inr (.inl rfl))⟩ q2 h2 q5 q3 q4)
  obtain ⟨R, hR⟩ : ∃ R, pickE A (mapE l) o = R := ⟨_, rfl⟩
  rw [hR] at hc ⊢
  have HC := Lib.hid hc
  clear h1 h2 hk hc hR
  go_enter Tryz.func11, Tryz.ntmps11
  go_wp2_with (go_at_call 34; refine HC.out.mono ?_; rintro e w' ⟨v', TS', rfl, q1, q2, q3, q4⟩; have HA := Lib.hid (show Ans w g TS R (.returned (.tuple #[v', .int .i64 R.1.2])) w' from ⟨v', TS', rfl, q1, q2, q3, q4⟩); obtain ⟨xa, xc, rfl⟩ := q2.sl; clear q1 q2 q3 q4)
  go_ret2
  exact HA.out
set_option maxHeartbeats 1000000 in
theorem eUnpick (o : Int) (h : SHE w g TS A le) (hk : ShOk A le) (ho : okI o) : Calls Tryz.prog 12 #[.pointer (some ⟨g, 0, none⟩), .int .i64 o] w (Ans w g TS (unpickE A le o)) := by
  obtain ⟨l, ⟨gs, m, T0, TB, h1, h2⟩, rfl⟩ := h
  have hc : Calls Tryz.prog 34 _ w (Ans w g TS (unpickE A (mapE l) o)) := (hmvU w g gs m T0 TB A l o h1 hk.stk ho (by have := hk.len; rw [mapE_len] at this; omega) hk.row).mono (by
    rintro e w' ⟨v', T0', TB', l', rfl, q1, q2, q3, q4, q5⟩
    exact ans_of (A := A) (R := unpickE A (mapE l) o) q1 ⟨h1.lt g (.inl rfl), h1.lt m (.inr (.inl rfl))⟩ q2 h2 q5 q3 q4)
  obtain ⟨R, hR⟩ : ∃ R, unpickE A (mapE l) o = R := ⟨_, rfl⟩
  rw [hR] at hc ⊢
  have HC := Lib.hid hc
  clear h1 h2 hk hc hR
  go_enter Tryz.func12, Tryz.ntmps12
  go_wp2_with (go_at_call 34; refine HC.out.mono ?_; rintro e w' ⟨v', TS', rfl, q1, q2, q3, q4⟩; have HA := Lib.hid (show Ans w g TS R (.returned (.tuple #[v', .int .i64 R.1.2])) w' from ⟨v', TS', rfl, q1, q2, q3, q4⟩); obtain ⟨xa, xc, rfl⟩ := q2.sl; clear q1 q2 q3 q4)
  go_ret2
  exact HA.out
set_option maxHeartbeats 1000000 in
theorem eShip (o : Int) (h : SHE w g TS A le) (hk : ShOk A le) (ho : okI o) : Calls Tryz.prog 13 #[.pointer (some ⟨g, 0, none⟩), .int .i64 o] w (Ans w g TS (shipE A le o)) := by
  obtain ⟨l, ⟨gs, m, T0, TB, h1, h2⟩, rfl⟩ := h
  have hc : Calls Tryz.prog 34 _ w (Ans w g TS (shipE A (mapE l) o)) := (hmvS w g gs m T0 TB A l o h1 hk.stk ho (by have := hk.len; rw [mapE_len] at this; omega) hk.row).mono (by
    rintro e w' ⟨v', T0', TB', l', rfl, q1, q2, q3, q4, q5⟩
    exact ans_of (A := A) (R := shipE A (mapE l) o) q1 ⟨h1.lt g (.inl rfl), h1.lt m (.inr (.inl rfl))⟩ q2 h2 q5 q3 q4)
  obtain ⟨R, hR⟩ : ∃ R, shipE A (mapE l) o = R := ⟨_, rfl⟩
  rw [hR] at hc ⊢
  have HC := Lib.hid hc
  clear h1 h2 hk hc hR
  go_enter Tryz.func13, Tryz.ntmps13
  go_wp2_with (go_at_call 34; refine HC.out.mono ?_; rintro e w' ⟨v', TS', rfl, q1, q2, q3, q4⟩; have HA := Lib.hid (show Ans w g TS R (.returned (.tuple #[v', .int .i64 R.1.2])) w' from ⟨v', TS', rfl, q1, q2, q3, q4⟩); obtain ⟨xa, xc, rfl⟩ := q2.sl; clear q1 q2 q3 q4)
  go_ret2
  exact HA.out
set_option maxHeartbeats 2000000 in
theorem eFree (o : Int) (h : SHE w g TS A le) (hk : ShOk A le) (ho : okI o) : Calls Tryz.prog 10 #[.pointer (some ⟨g, 0, none⟩), .int .i64 o] w (Ans w g TS (freeE A le o)) := by
  have hh := h
  obtain ⟨l, ⟨gs, m, T0, TB, h1, h2⟩, rfl⟩ := h
  obtain ⟨R, hR⟩ : ∃ R, freeE A (mapE l) o = R := ⟨_, rfl⟩
  have hRd : R = freeE A (mapE l) o := hR.symm
  rw [hR]
  unfold freeE at hRd
  obtain ⟨c0, c1⟩ := h1.cells
  have hm := Lib.hid (hmay w g m o c1)
  have hho := hhold w g gs m T0 TB A l o h1 ho
  have hhd := h1.hold ho
  rw [heOf_map] at hRd
  have hlen := heOf_len hk.row o
  rw [heOf_map] at hlen
  have hnoth : ∀ w', Fr (fun _ => False) w w' → ∀ c, Ans w g TS (([], c), A, mapE l) (.returned (.tuple #[.slice none 0 0, .int .i64 c])) w' := fun w' hf c =>
    ⟨_, TS, rfl, hh.keep hf (fun _ _ e => e), il_nil _, fun b hb => (by cases hb), Stp.refl hf⟩
  have HNO := Lib.hid hnoth
  have hmv0 : ∀ W, Fr (fun _ => False) w W → Calls Tryz.prog 34 #[.pointer (some ⟨g, 0, none⟩), .int .i64 o, .int .i64 3, .func (.func 35) #[] #[]] W (Ans w g TS (moveS A (mapE l) o 3 0 none)) := fun W hf => by
    refine (hmvF W g gs m T0 TB A l o (h1.keep hf (fun _ _ e => e)) hk.stk ho (by have := hk.len; rw [mapE_len] at this; omega) hk.row).mono ?_
    rintro e w' ⟨v', T0', TB', l', rfl, q1, q2, q3, q4, q5⟩
    have hg := h1.lt g (.inl rfl); have hm := h1.lt m (.inr (.inl rfl))
    have hz := hf.size
    obtain ⟨v'', TS', r1, r2, r3, r4, r5⟩ := ans_of (w := W) (A := A) (R := moveS A (mapE l) o 3 0 none) q1 ⟨by omega, by omega⟩ q2 h2 q5 q3 q4
    exact ⟨v'', TS', r1, r2, r3, fun b hb => ⟨Nat.le_trans hz (r4 b hb).1, (r4 b hb).2⟩, (hf.mono (fun _ _ e => e.elim)).trans' r5.1 (fun _ _ e => e), fun b hb => (r5.2 b hb).imp id (fun e => Nat.le_trans hz e)⟩
  obtain ⟨RM, hRM⟩ : ∃ R, moveS A (mapE l) o 3 0 none = R := ⟨_, rfl⟩
  rw [hRM] at hmv0 hRd
  have HMV := Lib.hid hmv0
  obtain ⟨⟨xo, xh, xp, xs, he, pi, sh⟩, hX⟩ : ∃ X, holdOf l o = X := ⟨_, rfl⟩
  rw [hX] at hho hRd hhd hlen
  obtain ⟨a1, d1, e1⟩ := hhd.1.lh.1.sl
  obtain ⟨a2, d2, e2⟩ := hhd.1.lp.1.sl
  obtain ⟨a3, d3, e3⟩ := hhd.1.ls.1.sl
  dsimp only at e1 e2 e3
  subst e1 e2 e3
  simp only [HV.enc, HV.e] at hho hRd hlen
  obtain ⟨n2, hn2⟩ : ∃ n, pi.length = n := ⟨_, rfl⟩
  obtain ⟨n1, hn1⟩ : ∃ n, he.length = n := ⟨_, rfl⟩
  obtain ⟨n3, hn3⟩ : ∃ n, sh.length = n := ⟨_, rfl⟩
  rw [hn1, hn2, hn3] at hho
  simp only [hn2] at hRd
  have HHO := Lib.hid hho
  have hfd : ∀ w : World, (Instr.field 37 (.agg #[.int .i64 xo, .slice a1 n1 d1, .slice a2 n2 d2, .slice a3 n3 d3]) 2).run Tryz.prog w = .ok (.slice a2 n2 d2) w := fun _ => by kernel_rfl
  clear h1 h2 hk hh hR c0 c1 hho hhd hnoth hmv0 hRM hX hn1 hn2 hn3 hlen
  by_cases hq1 : mayO o = 0
  case neg =>
    rw [if_pos hq1] at hRd
    have HR := Lib.hid hRd
    have q1 : (mayO o != 0) = true := by simpa using hq1
    clear hRd
    go_enter Tryz.func10, Tryz.ntmps10
    go_wp2_with (go_at_call 26; refine hm.out.mono ?_; rintro e w0 ⟨rfl, rfl⟩)
    go_ret2
    rw [HR.out]
    exact HNO.out _ (Fr.refl _ _) _
  rw [if_neg (by simpa using hq1)] at hRd
  rw [hq1] at hm
  clear hq1
  by_cases hq2 : 0 < n2
  case pos =>
    rw [if_pos hq2] at hRd
    have HR := Lib.hid hRd
    have hI : (0 : Int) < n2 := by omega
    clear hRd hq2
    go_enter Tryz.func10, Tryz.ntmps10
    go_wp2_with (first
      | (go_at_call 26; refine hm.out.mono ?_; rintro e w0 ⟨rfl, rfl⟩)
      | (go_at_call 27; refine HHO.out.mono ?_; rintro e w1 ⟨rfl, hf1⟩; have HF1 := Lib.hid hf1; clear hf1))
    go_ret2
    rw [HR.out]
    exact HNO.out _ HF1.out _
  rw [if_neg hq2] at hRd
  have HR := Lib.hid hRd
  have hI : ¬ (0 : Int) < n2 := by omega
  clear hRd hq2
  go_enter Tryz.func10, Tryz.ntmps10
  go_wp2_with (first
    | (go_at_call 26; refine hm.out.mono ?_; rintro e w0 ⟨rfl, rfl⟩)
    | (go_at_call 27; refine HHO.out.mono ?_; rintro e w1 ⟨rfl, hf1⟩; have HF1 := Lib.hid hf1; clear hf1)
    | (go_at_call 34; refine (HMV.out _ HF1.out).mono ?_; rintro e w' ⟨v', TS', rfl, q1, q2, q3, q4⟩; have HA := Lib.hid (show Ans w g TS RM (.returned (.tuple #[v', .int .i64 RM.1.2])) w' from ⟨v', TS', rfl, q1, q2, q3, q4⟩); obtain ⟨xa, xc, rfl⟩ := q2.sl; clear q1 q2 q3 q4))
  go_ret2
  rw [HR.out]
  exact HA.out
theorem eDo (k : Int) (v : Value) (L : Its) (h : SHE w g TS A le) (hk : ShOk A le) (hv : Il w v L) : Calls Tryz.prog 14 #[.pointer (some ⟨g, 0, none⟩), .int .i64 k, v] w fun e w' => ∃ TS', e = .returned (.int .i64 (doH A k L).1) ∧ SHE w' g TS' (doH A k L).2 le ∧ Stp TS w w' TS' := by
  obtain ⟨l, ⟨gs, m, T0, TB, h1, h2⟩, rfl⟩ := h
  refine (hDo k v L h1 hk.stk hv).mono ?_
  rintro e w' ⟨rfl, T0', q1, q2⟩
  obtain ⟨r1, r2⟩ := q1.she rfl h2 (w := w) (T0 := T0) ⟨q2.1.mono (fun _ _ e => .inl e), q2.2, fun b hb => .inl hb⟩
  exact ⟨_, rfl, r1, r2⟩
theorem eCount (s : Str) (n : Int) (h : SHE w g TS A le) (hk : ShOk A le) (hs : okS s) : Calls Tryz.prog 20 #[.pointer (some ⟨g, 0, none⟩), vS s, .int .i64 n] w fun e w' => ∃ TS', e = .returned (.tuple #[.int .i64 (countS A s n).1, .int .i64 (countS A s n).2.1]) ∧ SHE w' g TS' (countS A s n).2.2 le ∧ Stp TS w w' TS' := by
  obtain ⟨l, ⟨gs, m, T0, TB, h1, h2⟩, rfl⟩ := h
  refine (hCount s n h1 hs hk.stk).mono ?_
  rintro e w' ⟨rfl, q1, q2⟩
  obtain ⟨r1, r2⟩ := q1.she rfl h2 (w := w) (T0 := T0) ⟨q2.mono (fun _ _ e => .inl e), fun b hb => .inl hb, fun b hb => .inl hb⟩
  exact ⟨_, rfl, r1, r2⟩
/-- A hold that was copied. -/
def Hd (w' : World) (B : Nat) (v : Value) (x : HE) : Prop := ∃ y : HV, v = y.enc ∧ y.e = x ∧ HOk w' (fun b => B ≤ b ∧ b < w'.heap.size) y
theorem eHold (o : Int) (h : SHE w g TS A le) (hk : ShOk A le) (ho : okI o) : Calls Tryz.prog 15 #[.pointer (some ⟨g, 0, none⟩), .int .i64 o] w fun e w' => ∃ v, e = .returned v ∧ Hd w' w.heap.size v (heOf le o) ∧ Fr (fun _ => False) w w' := by
  obtain ⟨l, ⟨gs, m, T0, TB, h1, h2⟩, rfl⟩ := h
  have hlen := heOf_len hk.row o
  rw [heOf_map] at hlen ⊢
  refine (hHold w g gs m T0 TB A l o h1 ho (by have h3 : (holdOf l o).e.he.length ≤ 16 ∧ (holdOf l o).e.pi.length ≤ 16 ∧ (holdOf l o).e.sh.length ≤ 16 := hlen; unfold HV.e at h3; simp only at h3; omega)).mono ?_
  rintro e w' ⟨y, rfl, q1, q2, q3⟩
  exact ⟨_, rfl, ⟨y, rfl, q1, q2⟩, q3⟩
theorem eStock (h : SHE w g TS A le) : Calls Tryz.prog 22 #[.pointer (some ⟨g, 0, none⟩)] w fun e w' => ∃ g' TS', e = .returned (.pointer (some ⟨g', 0, none⟩)) ∧ SA w' g' TS' A ∧ Fr (fun _ => False) w w' ∧ ∀ b, TS' b → w.heap.size ≤ b := by
  obtain ⟨l, ⟨gs, m, T0, TB, h1, h2⟩, rfl⟩ := h
  exact hStock h1
theorem eNew (w : World) : Calls Tryz.prog 6 #[] w fun e w' => ∃ g TS, e = .returned (.pointer (some ⟨g, 0, none⟩)) ∧ SHE w' g TS [] [] ∧ (∀ b, TS b → w.heap.size ≤ b) ∧ Fr (fun _ => False) w w' := by
  refine (hNew w).mono ?_
  rintro e w' ⟨g, TS, rfl, h1, h2, h3⟩
  exact ⟨g, TS, rfl, ⟨[], h1, rfl⟩, h2, h3⟩
end
end Go.Proofs.YtogphlnakdnchaaGreat

