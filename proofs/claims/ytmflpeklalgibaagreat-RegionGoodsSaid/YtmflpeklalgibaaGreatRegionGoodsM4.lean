/- Texts of this claim, joined: hold: Take (written by wip/tools/take08.py); hold: move at a closure (written by wip/tools/move08.py); hold: move at a closure (written by wip/tools/move08.py); hold: move at a closure (written by wip/tools/move08.py); hold: move at a closure (written by wip/tools/move08.py); A region that draws its order: all its operations but the last only read (its calls may draw), and the last one (a store) waits for all: one walk in the text's order serves; A region that draws its order, whose operations only read, but for boxes of its own (each laid, and stored once): one walk in the text's order serves. -/
import Derived.Test.YtmflpeklalgibaaGreatRegionGoodsM2
import Derived.Test.YtmflpeklalgibaaGreatRegionGoodsM3
import Derived.Test.YtmflpeklalgibaaGreatRegionGoodsM1
import Derived.BigQuiet
import Derived.StillTail
namespace Go.Proofs.YtmflpeklalgibaaGreat
open Go.RowKit Go.Maps
theorem il_nil (w : World) : Il w (.slice none 0 0) [] := ⟨by simp, none, 0, rfl, fun i p hp => by simp at hp⟩
/-- What a step of a shelf leaves: its stock, its lists' blocks. -/
def Shs (w w' : World) (m : Nat) (T0 TB T0' TB' : Nat → Prop) : Prop := Fr (fun b => T0 b ∨ b = m) w w' ∧ (∀ b, T0' b → T0 b ∨ w.heap.size ≤ b) ∧ (∀ b, TB' b → TB b ∨ w.heap.size ≤ b)
set_option maxRecDepth 100000 in
set_option maxHeartbeats 16000000 in
theorem hTake (w : World) (g gs m : Nat) (T0 TB : Nat → Prop) (A : Stk) (l : List (Int × HV)) (o : Int) (v : Value) (L : Its) (h : SB w g gs m T0 TB A l) (hA : SOk A) (ho : okI o) (hv : Il w v L) (hll : l.length ≤ 1000000) (hk : ∀ p ∈ mapE l, HEok p.1 p.2) :
    Calls Tryz.prog 25 #[.pointer (some ⟨g, 0, none⟩), .int .i64 o, v] w fun e w' => ∃ v' T0' TB' l', e = .returned (.tuple #[v', .int .i64 (takeE A (mapE l) o L).1.2]) ∧ SB w' g gs m T0' TB' (takeE A (mapE l) o L).2.1 l' ∧ mapE l' = (takeE A (mapE l) o L).2.2 ∧
      Il w' v' (takeE A (mapE l) o L).1.1 ∧ (∀ b, v'.ownBlock = some b → w.heap.size ≤ b ∧ b < w'.heap.size ∧ ¬ T0' b ∧ ¬ TB' b) ∧ Shs w w' m T0 TB T0' TB' := by
  obtain ⟨R, hR'⟩ : ∃ R, takeE A (mapE l) o L = R := ⟨_, rfl⟩
  have hRd : R = takeE A (mapE l) o L := hR'.symm
  rw [hR']
  unfold takeE at hRd
  obtain ⟨va, vc, rfl⟩ := hv.sl
  have HSB := Lib.hid h; have HVV := Lib.hid hv
  obtain ⟨c0, c1⟩ := h.cells
  have hm := Lib.hid (hmay w g m o c1)
  have hgc : Hid (∀ W, Fr (fun _ => False) w W → W.cell? ⟨g, 0, none⟩ = some (.pointer (some ⟨gs, 0, none⟩)) ∧ W.cell? ⟨g, 1, none⟩ = some (.map (some m))) := Lib.hid (fun W hf => (HSB.out.keep hf (fun _ _ e => e)).cells)
  have hMay := Lib.hid (fun W (hf : Fr (fun _ => False) w W) => iMay W _ L (hv.keep hf (fun _ _ _ e => e)))
  have hhd := h.hold ho
  have hln0 := heOf_len hk o
  have hmy0 := heOf_may hk o
  rw [heOf_map] at hRd hln0 hmy0
  have hh := hhold w g gs m T0 TB A l o h ho
  have hlook0 : ∀ W, Fr (fun _ => False) w W → (Instr.lookup 88 (.map (some m)) (.int .i64 o) true).run Tryz.prog W = .ok (.tuple #[((getS l o).getD ⟨0, .slice none 0 0, .slice none 0 0, .slice none 0 0, [], [], []⟩).enc, .bool (getS l o).isSome]) W := fun W hf => by
    have := (hf.mp h.mp (fun e => e)).look_ok (t := 88) kHI Tryz.underlying88 (z := .agg #[.int .i64 0, .slice none 0 0, .slice none 0 0, .slice none 0 0]) (by kernel_rfl) ho
    rw [show ktI.enc o = .int .i64 o from rfl] at this
    rw [this]
    cases getS l o <;> rfl
  have hlen : Hid (∀ W, Fr (fun _ => False) w W → ∀ ty, (Builtin.len_ #[88] ty #[.map (some m)]).run Tryz.prog W = .ok (.int .i64 l.length) W) := Lib.hid (fun W hf ty => (hf.mp h.mp (fun e => e)).len Tryz.underlying88 ty)
  obtain ⟨⟨lo, lv1, lv2, lv3, le1, le2, le3⟩, hlv⟩ : ∃ x, (getS l o).getD (⟨0, .slice none 0 0, .slice none 0 0, .slice none 0 0, [], [], []⟩ : HV) = x := ⟨_, rfl⟩
  have hlsl : (∃ b1 k1 d1, lv1 = .slice b1 k1 d1) ∧ (∃ b2 k2 d2, lv2 = .slice b2 k2 d2) ∧ (∃ b3 k3 d3, lv3 = .slice b3 k3 d3) := by
    cases e : getS l o with
    | none => rw [e] at hlv; cases hlv; exact ⟨⟨_, _, _, rfl⟩, ⟨_, _, _, rfl⟩, ⟨_, _, _, rfl⟩⟩
    | some x =>
      rw [e] at hlv
      obtain ⟨-, hx⟩ := h.rows _ (getS_mem e)
      have hlv : x = _ := hlv
      rw [hlv] at hx
      obtain ⟨q1, q2, q3⟩ := hx.lh.1.sl
      obtain ⟨r1, r2, r3⟩ := hx.lp.1.sl
      obtain ⟨s1, s2, s3⟩ := hx.ls.1.sl
      exact ⟨⟨_, _, _, q3⟩, ⟨_, _, _, r3⟩, ⟨_, _, _, s3⟩⟩
  rw [hlv] at hlook0
  obtain ⟨⟨b1, k1, d1, rfl⟩, ⟨b2, k2, d2, rfl⟩, ⟨b3, k3, d3, rfl⟩⟩ := hlsl
  dsimp only [HV.enc] at hlook0
  have hlook := Lib.hid hlook0
  have hno := getE_none l o
  have hmlen := mapE_len l
  rw [hno, hmlen] at hRd
  have hsm : (getS l o).isSome = !(getS l o).isNone := by cases getS l o <;> rfl
  obtain ⟨isn, hisn⟩ : ∃ b, (getS l o).isNone = b := ⟨_, rfl⟩
  rw [hisn] at hRd hsm
  rw [hsm] at hlook
  obtain ⟨ll, hllen⟩ : ∃ n, l.length = n := ⟨_, rfl⟩
  rw [hllen] at hRd hlen hll
  have HLLEN := Lib.hid hllen
  obtain ⟨⟨xo, xh, xp, xs, he, pi, sh⟩, hX⟩ : ∃ X, holdOf l o = X := ⟨_, rfl⟩
  rw [hX] at hhd hh hRd hln0 hmy0
  obtain ⟨a1, d1', e1⟩ := hhd.1.lh.1.sl
  obtain ⟨a2, d2', e2⟩ := hhd.1.lp.1.sl
  obtain ⟨a3, d3', e3⟩ := hhd.1.ls.1.sl
  have hxo := hhd.2.symm
  dsimp only at e1 e2 e3 hxo
  subst e1 e2 e3 hxo
  dsimp only [HV.enc, HV.e] at hh hRd hln0 hmy0
  obtain ⟨n1, hn1⟩ : ∃ n, he.length = n := ⟨_, rfl⟩
  obtain ⟨n2, hn2⟩ : ∃ n, pi.length = n := ⟨_, rfl⟩
  obtain ⟨n3, hn3⟩ : ∃ n, sh.length = n := ⟨_, rfl⟩
  have HHD := Lib.hid hhd.1
  rw [hn1, hn2, hn3] at HHD hh hln0
  simp only [hn2, hn3] at hRd
  have hOf0 := fun W (hf : Fr (fun _ => False) w W) => sOffer W gs T0 A _ L (h.stk.fr hf (fun _ _ e => e)) hA (hv.keep hf (fun _ _ _ e => e))
  have hFl := offer_len A L
  obtain ⟨F, hF⟩ : ∃ F, offerS A L = F := ⟨_, rfl⟩
  rw [hF] at hOf0 hRd hFl
  obtain ⟨nF, hnF⟩ : ∃ n, F.length = n := ⟨_, rfl⟩
  have hFN := Lib.hid hnF
  have hPl0 := fun W v' (hf : Fr (fun _ => False) w W) (hi : Il W v' F) => iPlus W (.slice a1 n1 d1') v' he F (HHD.out.lh.1.keep hf (fun _ _ _ e => e)) hi
  obtain ⟨⟨P, pe⟩, hP⟩ : ∃ P, plusF he F = P := ⟨_, rfl⟩
  rw [hP] at hPl0
  simp only [hP] at hRd
  have HP := Lib.hid hP
  obtain ⟨nP, hnP⟩ : ∃ n, P.length = n := ⟨_, rfl⟩
  have hPN := Lib.hid hnP
  have hDo0 : ∀ W v', Fr (fun _ => False) w W → Il W v' F → Calls Tryz.prog 52 #[.pointer (some ⟨gs, 0, none⟩), .int .i64 2, v'] W fun e w' => e = .returned (.int .i64 (doS A 2 F).1) ∧ ∃ T0', SB w' g gs m T0' TB (doS A 2 F).2 l ∧ Stp T0 W w' T0' := fun W v' hf hi => by
    have hW := HSB.out.keep hf (fun _ _ e => e)
    refine (sDo W gs T0 A 2 v' F hW.stk hA hi).mono ?_
    rintro e w' ⟨rfl, T0', h1, h2⟩
    exact ⟨rfl, T0', hW.stock h1 h2, h2⟩
  obtain ⟨⟨de, D⟩, hD⟩ : ∃ D, doS A 2 F = D := ⟨_, rfl⟩
  rw [hD] at hDo0
  simp only [hD] at hRd
  have hDA0 : de ≠ 0 → D = A := by
    have := doS_no (A := A) (k := 2) (L := F)
    rw [hD] at this
    exact this
  have hnbT : Hid (∀ b, w.heap.size ≤ b → ¬ T0 b) := Lib.hid (fun b hb e => by have := h.stk.lt b e; omega)
  have hh := Lib.hid hh
  have HMY := Lib.hid hmy0
  (try dsimp only at hRd)
  have HLN := Lib.hid hln0; have HN2 := Lib.hid hn2; have HN3 := Lib.hid hn3
  clear h hv c0 c1 hR' hhd hlook0 hno hmlen hlv hX hF hP hD hisn hsm hllen hmy0 hk
  by_cases hq1 : mayO o = 0
  case neg =>
    rw [if_pos hq1] at hRd
    have hR := Lib.hid hRd
    have q1 : (mayO o != 0) = true := by simpa using hq1
    clear hRd
    go_enter Tryz.func25, Tryz.ntmps25
    go_wp2_with (go_at_call 48; refine hm.out.mono ?_; rintro e w0 ⟨rfl, rfl⟩)
    go_ret2
    rw [hR.out]
    exact ⟨_, T0, TB, l, rfl, HSB.out, rfl, il_nil _, fun b hb => (by cases hb), Fr.refl _ _, fun b hb => .inl hb, fun b hb => .inl hb⟩
  rw [if_neg (by simpa using hq1)] at hRd
  rw [hq1] at hm
  clear hq1
  cases hq2 : mayL L with
  | false =>
    rw [if_pos hq2] at hRd
    have hR := Lib.hid hRd
    rw [hq2] at hMay
    clear hRd hq2
    go_enter Tryz.func25, Tryz.ntmps25
    go_wp2_with (first
      | (go_at_call 48; refine hm.out.mono ?_; rintro e w0 ⟨rfl, rfl⟩)
      | (go_at_call 49; refine hh.out.mono ?_; rintro e w1 ⟨rfl, hf1⟩; have HF1 := Lib.hid hf1; have HW1 := Lib.hid hf1.size; clear hf1)
      | (go_at_call 44; refine (hMay.out _ (HF1.out.alloc _)).mono ?_; rintro e w2 ⟨rfl, hf2⟩; have hb2 := hf2.at_ (heap_at (w := w1) rfl (.cells #[.int .i64 o, .slice a1 n1 d1', .slice a2 n2 d2', .slice a3 n3 d3'] 54)) (fun e => e); have HB2 := Lib.hid hb2; have y0 := cell_obj hb2 0 (.int .i64 o) rfl; have y1 := cell_obj hb2 1 (.slice a1 n1 d1') rfl; have y2 := cell_obj hb2 2 (.slice a2 n2 d2') rfl; have y3 := cell_obj hb2 3 (.slice a3 n3 d3') rfl; have HF2 := Lib.hid ((HF1.out.alloc _).trans hf2); have HZ12 : Hid (w1.heap.size + 1 ≤ w2.heap.size) := Lib.hid (by have := hf2.size; rw [World.size_alloc] at this; exact this); obtain ⟨g0, g1⟩ := hgc.out _ HF2.out; clear hf2 hb2))
    go_ret2
    rw [hR.out]
    exact ⟨_, T0, TB, l, rfl, HSB.out.keep HF2.out (fun _ _ e => e), rfl, il_nil _, fun b hb => (by cases hb), HF2.out.mono (fun _ _ e => e.elim), fun b hb => .inl hb, fun b hb => .inl hb⟩
  | true =>
  rw [if_neg (by rw [hq2]; simp)] at hRd
  rw [hq2] at hMay
  have hLl := (mayL_iff.1 hq2).2
  rw [if_pos hq2] at hOf0
  have hOf := Lib.hid hOf0
  have hPl := Lib.hid hPl0; have hDo2 := Lib.hid hDo0
  clear hq2 hOf0 hPl0 hDo0
  have hw1 : IntKind.i64.wrap ((n2 : Int) + n3) = (n2 : Int) + n3 := IntWalk.i64_in _ ⟨by omega, by omega⟩
  by_cases hq3 : 0 < n2 + n3
  case pos =>
    rw [if_pos hq3] at hRd
    have hR := Lib.hid hRd
    have hI : (0 : Int) < (n2 : Int) + n3 := by omega
    clear hRd hq3
    go_enter Tryz.func25, Tryz.ntmps25
    go_wp2_with (first
      | (go_at_call 48; refine hm.out.mono ?_; rintro e w0 ⟨rfl, rfl⟩)
      | (go_at_call 49; refine hh.out.mono ?_; rintro e w1 ⟨rfl, hf1⟩; have HF1 := Lib.hid hf1; have HW1 := Lib.hid hf1.size; clear hf1)
      | (go_at_call 44; refine (hMay.out _ (HF1.out.alloc _)).mono ?_; rintro e w2 ⟨rfl, hf2⟩; have hb2 := hf2.at_ (heap_at (w := w1) rfl (.cells #[.int .i64 o, .slice a1 n1 d1', .slice a2 n2 d2', .slice a3 n3 d3'] 54)) (fun e => e); have HB2 := Lib.hid hb2; have y0 := cell_obj hb2 0 (.int .i64 o) rfl; have y1 := cell_obj hb2 1 (.slice a1 n1 d1') rfl; have y2 := cell_obj hb2 2 (.slice a2 n2 d2') rfl; have y3 := cell_obj hb2 3 (.slice a3 n3 d3') rfl; have HF2 := Lib.hid ((HF1.out.alloc _).trans hf2); have HZ12 : Hid (w1.heap.size + 1 ≤ w2.heap.size) := Lib.hid (by have := hf2.size; rw [World.size_alloc] at this; exact this); obtain ⟨g0, g1⟩ := hgc.out _ HF2.out; clear hf2 hb2))
    go_ret2
    rw [hR.out]
    exact ⟨_, T0, TB, l, rfl, HSB.out.keep HF2.out (fun _ _ e => e), rfl, il_nil _, fun b hb => (by cases hb), HF2.out.mono (fun _ _ e => e.elim), fun b hb => .inl hb, fun b hb => .inl hb⟩
  rw [if_neg hq3] at hRd
  have hI3 : ¬ (0 : Int) < (n2 : Int) + n3 := by omega
  by_cases hq4 : F = []
  case pos =>
    rw [if_pos hq4] at hRd
    have hR := Lib.hid hRd
    obtain rfl : nF = 0 := by rw [← hnF, hq4]; rfl
    clear hRd hq3 hnF hq4
    go_enter Tryz.func25, Tryz.ntmps25
    go_wp2_with (first
      | (go_at_call 48; refine hm.out.mono ?_; rintro e w0 ⟨rfl, rfl⟩)
      | (go_at_call 49; refine hh.out.mono ?_; rintro e w1 ⟨rfl, hf1⟩; have HF1 := Lib.hid hf1; have HW1 := Lib.hid hf1.size; clear hf1)
      | (go_at_call 44; refine (hMay.out _ (HF1.out.alloc _)).mono ?_; rintro e w2 ⟨rfl, hf2⟩; have hb2 := hf2.at_ (heap_at (w := w1) rfl (.cells #[.int .i64 o, .slice a1 n1 d1', .slice a2 n2 d2', .slice a3 n3 d3'] 54)) (fun e => e); have HB2 := Lib.hid hb2; have y0 := cell_obj hb2 0 (.int .i64 o) rfl; have y1 := cell_obj hb2 1 (.slice a1 n1 d1') rfl; have y2 := cell_obj hb2 2 (.slice a2 n2 d2') rfl; have y3 := cell_obj hb2 3 (.slice a3 n3 d3') rfl; have HF2 := Lib.hid ((HF1.out.alloc _).trans hf2); have HZ12 : Hid (w1.heap.size + 1 ≤ w2.heap.size) := Lib.hid (by have := hf2.size; rw [World.size_alloc] at this; exact this); obtain ⟨g0, g1⟩ := hgc.out _ HF2.out; clear hf2 hb2)
      | (go_at_call 50; refine (hOf.out _ HF2.out).mono ?_; rintro e w3 ⟨v3, rfl, hi3, ho3, hf3⟩; obtain ⟨fa, fc, rfl⟩ := hi3.sl; rw [hFN.out] at hi3 ho3; (try rw [hFN.out]); have HF3 := Lib.hid (HF2.out.trans hf3); clear hi3 ho3 hf3))
    go_ret2
    rw [hR.out]
    exact ⟨_, T0, TB, l, rfl, HSB.out.keep HF3.out (fun _ _ e => e), rfl, il_nil _, fun b hb => (by cases hb), HF3.out.mono (fun _ _ e => e.elim), fun b hb => .inl hb, fun b hb => .inl hb⟩
  rw [if_neg hq4] at hRd
  have hF0 : 0 < nF := by
    rcases Nat.eq_zero_or_pos nF with h0 | h0
    · exact absurd (List.eq_nil_of_length_eq_zero (hnF.trans h0)) hq4
    · exact h0
  have hF1 : ((nF : Int) == 0) = false := by simp; omega
  have hFl2 : nF ≤ 16 := by omega
  clear hnF hq3 hq4 hFl
  by_cases hq5 : isn = true ∧ 256 ≤ ll
  case pos =>
    rw [if_pos hq5] at hRd
    have hR := Lib.hid hRd
    obtain ⟨rfl, hq5⟩ := hq5
    have hI : (256 : Int) ≤ ll := by omega
    clear hRd
    go_enter Tryz.func25, Tryz.ntmps25
    go_wp2_with (first
      | (go_at_call 48; refine hm.out.mono ?_; rintro e w0 ⟨rfl, rfl⟩)
      | (go_at_call 49; refine hh.out.mono ?_; rintro e w1 ⟨rfl, hf1⟩; have HF1 := Lib.hid hf1; have HW1 := Lib.hid hf1.size; clear hf1)
      | (go_at_call 44; refine (hMay.out _ (HF1.out.alloc _)).mono ?_; rintro e w2 ⟨rfl, hf2⟩; have hb2 := hf2.at_ (heap_at (w := w1) rfl (.cells #[.int .i64 o, .slice a1 n1 d1', .slice a2 n2 d2', .slice a3 n3 d3'] 54)) (fun e => e); have HB2 := Lib.hid hb2; have y0 := cell_obj hb2 0 (.int .i64 o) rfl; have y1 := cell_obj hb2 1 (.slice a1 n1 d1') rfl; have y2 := cell_obj hb2 2 (.slice a2 n2 d2') rfl; have y3 := cell_obj hb2 3 (.slice a3 n3 d3') rfl; have HF2 := Lib.hid ((HF1.out.alloc _).trans hf2); have HZ12 : Hid (w1.heap.size + 1 ≤ w2.heap.size) := Lib.hid (by have := hf2.size; rw [World.size_alloc] at this; exact this); obtain ⟨g0, g1⟩ := hgc.out _ HF2.out; clear hf2 hb2)
      | (go_at_call 50; refine (hOf.out _ HF2.out).mono ?_; rintro e w3 ⟨v3, rfl, hi3, ho3, hf3⟩; obtain ⟨fa, fc, rfl⟩ := hi3.sl; rw [hFN.out] at hi3 ho3; (try rw [hFN.out]); have HI3 := Lib.hid hi3; have HO3 := Lib.hid ho3; have hb3 := hf3.at_ HB2.out (fun e => e); have HB3 := Lib.hid hb3; have z0 := cell_obj hb3 0 (.int .i64 o) rfl; have z1 := cell_obj hb3 1 (.slice a1 n1 d1') rfl; have z2 := cell_obj hb3 2 (.slice a2 n2 d2') rfl; have z3 := cell_obj hb3 3 (.slice a3 n3 d3') rfl; have HF3 := Lib.hid (HF2.out.trans hf3); have HZ3 := Lib.hid hf3.size; have HZ13 := Lib.hid (Nat.le_trans HZ12.out hf3.size); obtain ⟨g2, g3⟩ := hgc.out _ HF3.out; have hlk := hlook.out _ HF3.out; obtain ⟨g4, g5⟩ := hgc.out _ (HF3.out.alloc (.cells #[.int .i64 lo, .slice b1 k1 d1, .slice b2 k2 d2, .slice b3 k3 d3] 54)); have hln := hlen.out _ (HF3.out.alloc (.cells #[.int .i64 lo, .slice b1 k1 d1, .slice b2 k2 d2, .slice b3 k3 d3] 54)); have hb4 := heap_keep hb3 (.cells #[.int .i64 lo, .slice b1 k1 d1, .slice b2 k2 d2, .slice b3 k3 d3] 54); have u0 := cell_obj hb4 0 (.int .i64 o) rfl; have u1 := cell_obj hb4 1 (.slice a1 n1 d1') rfl; have u2 := cell_obj hb4 2 (.slice a2 n2 d2') rfl; have u3 := cell_obj hb4 3 (.slice a3 n3 d3') rfl; clear hi3 ho3 hf3 hb3 hb4))
    go_ret2
    rw [hR.out]
    exact ⟨_, T0, TB, l, rfl, HSB.out.keep (HF3.out.alloc _) (fun _ _ e => e), rfl, il_nil _, fun b hb => (by cases hb), (HF3.out.alloc _).mono (fun _ _ e => e.elim), fun b hb => .inl hb, fun b hb => .inl hb⟩
  rw [if_neg hq5] at hRd
  have hI5 : isn = false ∨ (isn = true ∧ ¬ (256 : Int) ≤ ll) := by
    cases isn with
    | false => exact .inl rfl
    | true => exact .inr ⟨rfl, fun e => hq5 ⟨rfl, by omega⟩⟩
  clear hq5
  by_cases hq6 : pe = 0
  case neg =>
    rw [if_pos hq6] at hRd
    have hR := Lib.hid hRd
    have q6 : (pe == 0) = false := by simpa using hq6
    have q7 : (pe != 0) = true := by simpa using hq6
    clear hRd hq6
    rcases hI5 with rfl | ⟨rfl, hI5⟩
    all_goals
      go_enter Tryz.func25, Tryz.ntmps25
      go_wp2_with (first
        | (go_at_call 48; refine hm.out.mono ?_; rintro e w0 ⟨rfl, rfl⟩)
        | (go_at_call 49; refine hh.out.mono ?_; rintro e w1 ⟨rfl, hf1⟩; have HF1 := Lib.hid hf1; have HW1 := Lib.hid hf1.size; clear hf1)
        | (go_at_call 44; refine (hMay.out _ (HF1.out.alloc _)).mono ?_; rintro e w2 ⟨rfl, hf2⟩; have hb2 := hf2.at_ (heap_at (w := w1) rfl (.cells #[.int .i64 o, .slice a1 n1 d1', .slice a2 n2 d2', .slice a3 n3 d3'] 54)) (fun e => e); have HB2 := Lib.hid hb2; have y0 := cell_obj hb2 0 (.int .i64 o) rfl; have y1 := cell_obj hb2 1 (.slice a1 n1 d1') rfl; have y2 := cell_obj hb2 2 (.slice a2 n2 d2') rfl; have y3 := cell_obj hb2 3 (.slice a3 n3 d3') rfl; have HF2 := Lib.hid ((HF1.out.alloc _).trans hf2); have HZ12 : Hid (w1.heap.size + 1 ≤ w2.heap.size) := Lib.hid (by have := hf2.size; rw [World.size_alloc] at this; exact this); obtain ⟨g0, g1⟩ := hgc.out _ HF2.out; clear hf2 hb2)
        | (go_at_call 50; refine (hOf.out _ HF2.out).mono ?_; rintro e w3 ⟨v3, rfl, hi3, ho3, hf3⟩; obtain ⟨fa, fc, rfl⟩ := hi3.sl; rw [hFN.out] at hi3 ho3; (try rw [hFN.out]); have HI3 := Lib.hid hi3; have HO3 := Lib.hid ho3; have hb3 := hf3.at_ HB2.out (fun e => e); have HB3 := Lib.hid hb3; have z0 := cell_obj hb3 0 (.int .i64 o) rfl; have z1 := cell_obj hb3 1 (.slice a1 n1 d1') rfl; have z2 := cell_obj hb3 2 (.slice a2 n2 d2') rfl; have z3 := cell_obj hb3 3 (.slice a3 n3 d3') rfl; have HF3 := Lib.hid (HF2.out.trans hf3); have HZ3 := Lib.hid hf3.size; have HZ13 := Lib.hid (Nat.le_trans HZ12.out hf3.size); obtain ⟨g2, g3⟩ := hgc.out _ HF3.out; have hlk := hlook.out _ HF3.out; obtain ⟨g4, g5⟩ := hgc.out _ (HF3.out.alloc (.cells #[.int .i64 lo, .slice b1 k1 d1, .slice b2 k2 d2, .slice b3 k3 d3] 54)); have hln := hlen.out _ (HF3.out.alloc (.cells #[.int .i64 lo, .slice b1 k1 d1, .slice b2 k2 d2, .slice b3 k3 d3] 54)); have hb4 := heap_keep hb3 (.cells #[.int .i64 lo, .slice b1 k1 d1, .slice b2 k2 d2, .slice b3 k3 d3] 54); have u0 := cell_obj hb4 0 (.int .i64 o) rfl; have u1 := cell_obj hb4 1 (.slice a1 n1 d1') rfl; have u2 := cell_obj hb4 2 (.slice a2 n2 d2') rfl; have u3 := cell_obj hb4 3 (.slice a3 n3 d3') rfl; clear hi3 ho3 hf3 hb3 hb4)
        | (go_at_call 51; refine (hPl.out _ _ (HF3.out.alloc _) (HI3.out.keep ((Fr.refl (fun _ => False) _).alloc _) (fun _ _ _ e => e))).mono ?_; rintro e w4 ⟨v4, rfl, ho4, hf4⟩; obtain ⟨pa, pc, rfl⟩ := row_slice ho4; (try rw [hPN.out]); have HO4 := Lib.hid ho4; have HG4 := Lib.hid (((Fr.refl (fun _ => False) w3).alloc (.cells #[.int .i64 lo, .slice b1 k1 d1, .slice b2 k2 d2, .slice b3 k3 d3] 54)).trans hf4); have HF4 := Lib.hid (HF3.out.trans HG4.out); have HZ4 := Lib.hid hf4.size; have HI4 := Lib.hid (HI3.out.keep HG4.out (fun _ _ _ e => e)); obtain ⟨g6, g7⟩ := hgc.out _ HF4.out; clear ho4 hf4))
      go_ret2
      rw [hR.out]
      exact ⟨_, T0, TB, l, rfl, HSB.out.keep HF4.out (fun _ _ e => e), rfl, il_nil _, fun b hb => (by cases hb), HF4.out.mono (fun _ _ e => e.elim), fun b hb => .inl hb, fun b hb => .inl hb⟩
  rw [if_neg (by simpa using hq6)] at hRd
  subst hq6
  by_cases hq7 : de = 0
  case neg =>
    rw [if_pos hq7] at hRd
    have hR := Lib.hid hRd
    have q7 : (de != 0) = true := by simpa using hq7
    have hDA : Hid (D = A) := Lib.hid (hDA0 hq7)
    clear hRd
    rcases hI5 with rfl | ⟨rfl, hI5⟩
    all_goals
      go_enter Tryz.func25, Tryz.ntmps25
      go_wp2_with (first
        | (go_at_call 48; refine hm.out.mono ?_; rintro e w0 ⟨rfl, rfl⟩)
        | (go_at_call 49; refine hh.out.mono ?_; rintro e w1 ⟨rfl, hf1⟩; have HF1 := Lib.hid hf1; have HW1 := Lib.hid hf1.size; clear hf1)
        | (go_at_call 44; refine (hMay.out _ (HF1.out.alloc _)).mono ?_; rintro e w2 ⟨rfl, hf2⟩; have hb2 := hf2.at_ (heap_at (w := w1) rfl (.cells #[.int .i64 o, .slice a1 n1 d1', .slice a2 n2 d2', .slice a3 n3 d3'] 54)) (fun e => e); have HB2 := Lib.hid hb2; have y0 := cell_obj hb2 0 (.int .i64 o) rfl; have y1 := cell_obj hb2 1 (.slice a1 n1 d1') rfl; have y2 := cell_obj hb2 2 (.slice a2 n2 d2') rfl; have y3 := cell_obj hb2 3 (.slice a3 n3 d3') rfl; have HF2 := Lib.hid ((HF1.out.alloc _).trans hf2); have HZ12 : Hid (w1.heap.size + 1 ≤ w2.heap.size) := Lib.hid (by have := hf2.size; rw [World.size_alloc] at this; exact this); obtain ⟨g0, g1⟩ := hgc.out _ HF2.out; clear hf2 hb2)
        | (go_at_call 50; refine (hOf.out _ HF2.out).mono ?_; rintro e w3 ⟨v3, rfl, hi3, ho3, hf3⟩; obtain ⟨fa, fc, rfl⟩ := hi3.sl; rw [hFN.out] at hi3 ho3; (try rw [hFN.out]); have HI3 := Lib.hid hi3; have HO3 := Lib.hid ho3; have hb3 := hf3.at_ HB2.out (fun e => e); have HB3 := Lib.hid hb3; have z0 := cell_obj hb3 0 (.int .i64 o) rfl; have z1 := cell_obj hb3 1 (.slice a1 n1 d1') rfl; have z2 := cell_obj hb3 2 (.slice a2 n2 d2') rfl; have z3 := cell_obj hb3 3 (.slice a3 n3 d3') rfl; have HF3 := Lib.hid (HF2.out.trans hf3); have HZ3 := Lib.hid hf3.size; have HZ13 := Lib.hid (Nat.le_trans HZ12.out hf3.size); obtain ⟨g2, g3⟩ := hgc.out _ HF3.out; have hlk := hlook.out _ HF3.out; obtain ⟨g4, g5⟩ := hgc.out _ (HF3.out.alloc (.cells #[.int .i64 lo, .slice b1 k1 d1, .slice b2 k2 d2, .slice b3 k3 d3] 54)); have hln := hlen.out _ (HF3.out.alloc (.cells #[.int .i64 lo, .slice b1 k1 d1, .slice b2 k2 d2, .slice b3 k3 d3] 54)); have hb4 := heap_keep hb3 (.cells #[.int .i64 lo, .slice b1 k1 d1, .slice b2 k2 d2, .slice b3 k3 d3] 54); have u0 := cell_obj hb4 0 (.int .i64 o) rfl; have u1 := cell_obj hb4 1 (.slice a1 n1 d1') rfl; have u2 := cell_obj hb4 2 (.slice a2 n2 d2') rfl; have u3 := cell_obj hb4 3 (.slice a3 n3 d3') rfl; clear hi3 ho3 hf3 hb3 hb4)
        | (go_at_call 51; refine (hPl.out _ _ (HF3.out.alloc _) (HI3.out.keep ((Fr.refl (fun _ => False) _).alloc _) (fun _ _ _ e => e))).mono ?_; rintro e w4 ⟨v4, rfl, ho4, hf4⟩; obtain ⟨pa, pc, rfl⟩ := row_slice ho4; (try rw [hPN.out]); have HO4 := Lib.hid ho4; have HG4 := Lib.hid (((Fr.refl (fun _ => False) w3).alloc (.cells #[.int .i64 lo, .slice b1 k1 d1, .slice b2 k2 d2, .slice b3 k3 d3] 54)).trans hf4); have HF4 := Lib.hid (HF3.out.trans HG4.out); have HZ4 := Lib.hid hf4.size; have HI4 := Lib.hid (HI3.out.keep HG4.out (fun _ _ _ e => e)); obtain ⟨g6, g7⟩ := hgc.out _ HF4.out; clear ho4 hf4)
        | (go_at_call 52; refine (hDo2.out _ _ HF4.out HI4.out).mono ?_; rintro e w5 ⟨rfl, T0', hS5, hs5⟩; have HS5 := Lib.hid hS5; have Hs5 := Lib.hid hs5; clear hS5 hs5))
      go_ret2
      rw [hR.out]
      have hS5 := HS5.out
      rw [hDA.out] at hS5
      exact ⟨_, T0', TB, l, rfl, hS5, rfl, il_nil _, fun b hb => (by cases hb), (HF4.out.mono (fun _ _ e => e.elim)).trans' (Hs5.out.1.mono (fun _ _ e => .inl e)) (fun _ _ e => e), fun b hb => (Hs5.out.2 b hb).imp id (fun e => Nat.le_trans HF4.out.size e), fun b hb => .inl hb⟩
  rw [if_neg (by simpa using hq7)] at hRd
  subst hq7
  have hPk : mayL P = true := (plusF_ok HP.out).1
  have hPr := mayL_all hPk
  have hPok : ∀ p ∈ P, okS p.1 ∧ okI p.2 := fun p hp => by
    have h1 := hPr.row p hp
    have h2 := h1.1
    unfold goodB at h2
    simp only [Bool.and_eq_true, decide_eq_true_eq] at h2
    exact ⟨by unfold okS maxLen; omega, by unfold okI; omega⟩
  have hfinS : Hid (∀ (w1 w3 w4 w5 W5 : World) (T0' : Nat → Prop) (pa : Option Addr) (pc : Nat), Fr (fun _ => False) w3 w4 → Fr (fun _ => False) w w1 → w1.heap.size + 1 ≤ w3.heap.size → Fr (fun _ => False) w w4 → w4.ownsRow (w3.alloc (.cells #[.int .i64 lo, .slice b1 k1 d1, .slice b2 k2 d2, .slice b3 k3 d3] 54)).heap.size 45 2 (.slice pa P.length pc) P.length (itCs P) → SB w5 g gs m T0' TB D l → Stp T0 w4 w5 T0' → Fr (fun b => b = w1.heap.size) w5 W5 →
      Calls Tryz.prog 53 #[.pointer (some ⟨g, 0, none⟩), .agg #[.int .i64 o, .slice pa nP pc, .slice a2 n2 d2', .slice a3 n3 d3']] W5 fun e w6 => e = .returned (.tuple #[]) ∧ SB w6 g gs m T0' (fun b => TB b ∨ (w3.heap.size ≤ b ∧ b < w4.heap.size)) D (setH l ⟨o, .slice pa nP pc, .slice a2 n2 d2', .slice a3 n3 d3', P, pi, sh⟩) ∧ Fr (fun b => b = m) W5 w6) := Lib.hid (fun w1 w3 w4 w5 W5 T0' pa pc h34 hf1 hz hf4 ho hs hst hf5 => by
    have hsb := HSB.out
    have hlt := hsb.lt
    have z1 := hf1.size; have z4 := hf4.size; have z5 := hst.1.size; have z6 := hf5.size
    have hin : ∀ b, (b = g ∨ b = m ∨ T0' b ∨ TB b) → ¬ b = w1.heap.size := fun b hb e => by
      rcases hb with hb | hb | hb | hb
      · have := hlt b (.inl hb); omega
      · have := hlt b (.inr (.inl hb)); omega
      · rcases hst.2 b hb with hb | hb
        · have := hlt b (.inr (.inr (.inl hb))); omega
        · have := h34.size; omega
      · have := hlt b (.inr (.inr (.inr hb))); omega
    have hS5 := hs.keep hf5 hin
    have hF : Fr (fun b => T0 b ∨ b = w1.heap.size) w W5 := ((hf4.mono (fun _ _ e => e.elim)).trans' (hst.1.mono (fun _ _ e => .inl e)) (fun _ _ e => e)).trans' (hf5.mono (fun _ _ e => .inr e)) (fun _ _ e => e)
    have hi4 := (Il.own ho hPok)
    have hk1 : HOk W5 TB ⟨o, .slice a1 n1 d1', .slice a2 n2 d2', .slice a3 n3 d3', he, pi, sh⟩ := HHD.out.keep hF (fun b hb e => by
      rcases e with e | e
      · exact hsb.nb b hb e
      · exact hin b (.inr (.inr (.inr hb))) e)
    have hlP : Lb W5 (fun b => TB b ∨ (w3.heap.size ≤ b ∧ b < w4.heap.size)) (.slice pa nP pc) P := by
      have hfa : Fr (fun b => T0 b ∨ b = w1.heap.size) w4 W5 := (hst.1.mono (fun _ _ e => .inl e)).trans' (hf5.mono (fun _ _ e => .inr e)) (fun _ _ e => e)
      have h1 := hi4.1.keep hfa (fun _ b hb e => by
        have := hi4.2 b hb
        rw [World.size_alloc] at this
        rcases e with e | e
        · have := hlt b (.inr (.inr (.inl e))); omega
        · omega)
      rw [hPN.out] at h1
      refine ⟨h1, fun _ b hb => .inr ?_⟩
      have := hi4.2 b (by rw [hPN.out]; exact hb)
      rw [World.size_alloc] at this
      omega
    have hln := hPr.len
    refine hset W5 g gs m T0' TB _ D l ⟨o, .slice pa nP pc, .slice a2 n2 d2', .slice a3 n3 d3', P, pi, sh⟩ hS5 (fun b hb => .inl hb) ⟨hk1.o, hlP, hk1.lp.mono (fun b hb => .inl hb), hk1.ls.mono (fun b hb => .inl hb)⟩ (fun b hb => ?_) (by rw [HLLEN.out]; exact hll) ⟨by dsimp only; omega, by dsimp only; have := HLN.out.2.1; have := HN2.out; omega, by dsimp only; have := HLN.out.2.2; have := HN3.out; omega⟩
    rcases hb with hb | hb
    · have hb1 := hsb.ltb b hb
      refine ⟨by omega, fun e => ?_, fun e => hsb.ng.2.1 (e ▸ hb), fun e => hsb.nm.2 (e ▸ hb)⟩
      rcases hst.2 b e with e | e
      · exact hsb.nb b hb e
      · omega
    · have hg := hlt g (.inl rfl); have hm' := hlt m (.inr (.inl rfl))
      refine ⟨by omega, fun e => ?_, fun e => by omega, fun e => by omega⟩
      rcases hst.2 b e with e | e
      · have := hlt b (.inr (.inr (.inl e))); omega
      · omega)
  have hfinC : Hid (∀ (w1 w2 w3 w4 w5 W5 w6 : World) (T0' : Nat → Prop) (fa : Option Addr) (fc : Nat), Fr (fun _ => False) w w1 → w1.heap.size + 1 ≤ w2.heap.size → Fr (fun _ => False) w w2 → w2.heap.size ≤ w3.heap.size → Il w4 (.slice fa nF fc) F → (∀ b, (Value.slice fa nF fc).ownBlock = some b → w2.heap.size ≤ b ∧ b < w3.heap.size) → Fr (fun _ => False) w w4 → Stp T0 w4 w5 T0' → Fr (fun b => b = w1.heap.size) w5 W5 → Fr (fun b => b = m) W5 w6 →
      Calls Tryz.prog 54 #[.slice fa nF fc] w6 fun e w' => ∃ v', e = .returned v' ∧ w'.ownsRow w6.heap.size 45 2 v' nF (itCs F) ∧ Fr (fun _ => False) w6 w') := Lib.hid (fun w1 w2 w3 w4 w5 W5 w6 T0' fa fc hf1 hz hf2 hz3 hi ho hf4 hst hf5 hf6 => by
    have hlt := HSB.out.lt
    have z1 := hf1.size; have z2 := hf2.size
    have hfa : Fr (fun b => T0 b ∨ b = w1.heap.size ∨ b = m) w4 w6 := ((hst.1.mono (fun _ _ e => .inl e)).trans' (hf5.mono (fun _ _ e => .inr (.inl e))) (fun _ _ e => e)).trans' (hf6.mono (fun _ _ e => .inr (.inr e))) (fun _ _ e => e)
    have hi6 := hi.keep hfa (fun _ b hb e => by
      have := ho b hb
      rcases e with e | e | e
      · have := hlt b (.inr (.inr (.inl e))); omega
      · omega
      · have := hlt m (.inr (.inl rfl)); omega)
    have := itClone w6 _ F hi6 (by rw [hFN.out]; omega)
    rw [hFN.out] at this
    exact this)
  have hR := Lib.hid hRd
  clear hRd hPk hPr hPok hDA0
  rcases hI5 with rfl | ⟨rfl, hI5⟩
  all_goals
    go_enter Tryz.func25, Tryz.ntmps25
    go_wp2_with (first
      | (go_at_call 48; refine hm.out.mono ?_; rintro e w0 ⟨rfl, rfl⟩)
      | (go_at_call 49; refine hh.out.mono ?_; rintro e w1 ⟨rfl, hf1⟩; have HF1 := Lib.hid hf1; have HW1 := Lib.hid hf1.size; clear hf1)
      | (go_at_call 44; refine (hMay.out _ (HF1.out.alloc _)).mono ?_; rintro e w2 ⟨rfl, hf2⟩; have hb2 := hf2.at_ (heap_at (w := w1) rfl (.cells #[.int .i64 o, .slice a1 n1 d1', .slice a2 n2 d2', .slice a3 n3 d3'] 54)) (fun e => e); have HB2 := Lib.hid hb2; have y0 := cell_obj hb2 0 (.int .i64 o) rfl; have y1 := cell_obj hb2 1 (.slice a1 n1 d1') rfl; have y2 := cell_obj hb2 2 (.slice a2 n2 d2') rfl; have y3 := cell_obj hb2 3 (.slice a3 n3 d3') rfl; have HF2 := Lib.hid ((HF1.out.alloc _).trans hf2); have HZ12 : Hid (w1.heap.size + 1 ≤ w2.heap.size) := Lib.hid (by have := hf2.size; rw [World.size_alloc] at this; exact this); obtain ⟨g0, g1⟩ := hgc.out _ HF2.out; clear hf2 hb2)
      | (go_at_call 50; refine (hOf.out _ HF2.out).mono ?_; rintro e w3 ⟨v3, rfl, hi3, ho3, hf3⟩; obtain ⟨fa, fc, rfl⟩ := hi3.sl; rw [hFN.out] at hi3 ho3; (try rw [hFN.out]); have HI3 := Lib.hid hi3; have HO3 := Lib.hid ho3; have hb3 := hf3.at_ HB2.out (fun e => e); have HB3 := Lib.hid hb3; have z0 := cell_obj hb3 0 (.int .i64 o) rfl; have z1 := cell_obj hb3 1 (.slice a1 n1 d1') rfl; have z2 := cell_obj hb3 2 (.slice a2 n2 d2') rfl; have z3 := cell_obj hb3 3 (.slice a3 n3 d3') rfl; have HF3 := Lib.hid (HF2.out.trans hf3); have HZ3 := Lib.hid hf3.size; have HZ13 := Lib.hid (Nat.le_trans HZ12.out hf3.size); obtain ⟨g2, g3⟩ := hgc.out _ HF3.out; have hlk := hlook.out _ HF3.out; obtain ⟨g4, g5⟩ := hgc.out _ (HF3.out.alloc (.cells #[.int .i64 lo, .slice b1 k1 d1, .slice b2 k2 d2, .slice b3 k3 d3] 54)); have hln := hlen.out _ (HF3.out.alloc (.cells #[.int .i64 lo, .slice b1 k1 d1, .slice b2 k2 d2, .slice b3 k3 d3] 54)); have hb4 := heap_keep hb3 (.cells #[.int .i64 lo, .slice b1 k1 d1, .slice b2 k2 d2, .slice b3 k3 d3] 54); have u0 := cell_obj hb4 0 (.int .i64 o) rfl; have u1 := cell_obj hb4 1 (.slice a1 n1 d1') rfl; have u2 := cell_obj hb4 2 (.slice a2 n2 d2') rfl; have u3 := cell_obj hb4 3 (.slice a3 n3 d3') rfl; clear hi3 ho3 hf3 hb3 hb4)
      | (go_at_call 51; refine (hPl.out _ _ (HF3.out.alloc _) (HI3.out.keep ((Fr.refl (fun _ => False) _).alloc _) (fun _ _ _ e => e))).mono ?_; rintro e w4 ⟨v4, rfl, ho4, hf4⟩; obtain ⟨pa, pc, rfl⟩ := row_slice ho4; (try rw [hPN.out]); have HO4 := Lib.hid ho4; have HG4 := Lib.hid (((Fr.refl (fun _ => False) w3).alloc (.cells #[.int .i64 lo, .slice b1 k1 d1, .slice b2 k2 d2, .slice b3 k3 d3] 54)).trans hf4); have HF4 := Lib.hid (HF3.out.trans HG4.out); have HZ4 := Lib.hid hf4.size; have HI4 := Lib.hid (HI3.out.keep HG4.out (fun _ _ _ e => e)); obtain ⟨g6, g7⟩ := hgc.out _ HF4.out; clear ho4 hf4)
      | (go_at_call 52; refine (hDo2.out _ _ HF4.out HI4.out).mono ?_; rintro e w5 ⟨rfl, T0', hS5, hs5⟩; have HS5 := Lib.hid hS5; have Hs5 := Lib.hid hs5; have hb5 := hs5.1.at_ (HG4.out.at_ HB3.out (fun e => e)) (hnbT.out _ (by have := HW1.out; omega)); have f5 := obj_frozen hb5 1; have q0 := cell_obj hb5 0 (.int .i64 o) rfl; have q1 := cell_obj hb5 1 (.slice a1 n1 d1') rfl; have q2 := cell_obj hb5 2 (.slice a2 n2 d2') rfl; have q3 := cell_obj hb5 3 (.slice a3 n3 d3') rfl; obtain ⟨W5, hW5⟩ : ∃ W5, w5.setCell ⟨w1.heap.size, 1, none⟩ (.slice pa nP pc) = W5 := ⟨_, rfl⟩; have hb6 := obj_set hb5 1 (.slice pa nP pc); rw [hW5] at hb6; have hf56 : Fr (fun b => b = w1.heap.size) w5 W5 := (by rw [← hW5]; exact (Fr.refl (fun b => b = w1.heap.size) _).setCell (p := ⟨w1.heap.size, 1, none⟩) (fun _ => rfl) _); have HF56 := Lib.hid hf56; have HB6 := Lib.hid hb6; have p0 := cell_obj hb6 0 (.int .i64 o) rfl; have p1 := cell_obj hb6 1 (.slice pa nP pc) rfl; have p2 := cell_obj hb6 2 (.slice a2 n2 d2') rfl; have p3 := cell_obj hb6 3 (.slice a3 n3 d3') rfl; have hset5 := Lib.hid (hfinS.out w1 w3 w4 w5 W5 T0' pa pc HG4.out HF1.out HZ13.out HF4.out HO4.out HS5.out Hs5.out HF56.out); clear hf56 hb6 hS5 hs5 hb5)
      | (go_at_call 53; refine hset5.out.mono ?_; rintro e w6 ⟨rfl, hS6, hf6⟩; have HS6 := Lib.hid hS6; have HF6 := Lib.hid hf6; clear hS6 hf6)
      | (go_at_call 54; refine (hfinC.out w1 w2 w3 w4 w5 W5 w6 T0' fa fc HF1.out HZ12.out HF2.out HZ3.out HI4.out HO3.out HF4.out Hs5.out HF56.out HF6.out).mono ?_; rintro e w7 ⟨v7, rfl, ho7, hf7⟩; obtain ⟨ra, rc, rfl⟩ := row_slice ho7; have HO7 := Lib.hid ho7; have HF7 := Lib.hid hf7; clear ho7 hf7))
    go_ret2
    rw [hR.out]
    have hlt := HSB.out.lt
    have z1 := HF1.out.size; have z12 := HZ12.out; have z3 := HZ3.out; have z4 := HF4.out.size; have z5 := Hs5.out.1.size; have z6 := HF56.out.size; have z7 := HF6.out.size; have z13 := HZ13.out
    have hS7 := HS6.out.keep HF7.out (fun _ _ e => e)
    have hFk : ∀ p ∈ F, okS p.1 ∧ okI p.2 := fun p hp => il_okm' HI4.out hp
    have ho7 := HO7.out
    rw [← hFN.out] at ho7
    have hi7 := Il.own ho7 hFk
    have hlt6 := HS6.out.lt
    refine ⟨_, T0', _, _, rfl, hS7, setE_map _ _, by rw [hFN.out] at hi7; exact hi7.1, fun b hb => ?_, ?_, fun b hb => ?_, fun b hb => ?_⟩
    · have := hi7.2 b (by rw [hFN.out]; exact hb)
      exact ⟨by omega, this.2, fun e => by have := hlt6 b (.inr (.inr (.inl e))); omega, fun e => by have := hlt6 b (.inr (.inr (.inr e))); omega⟩
    · exact (((HF4.out.mono (fun _ _ e => e.elim)).trans' (Hs5.out.1.mono (fun _ _ e => .inl e)) (fun _ _ e => e)).trans' (HF56.out.mono (S' := fun b => b = w1.heap.size) (fun _ _ e => e)) (fun b hb e => by omega)).trans' ((HF6.out.mono (fun _ _ e => .inr e)).trans (HF7.out.mono (fun _ _ e => e.elim))) (fun _ _ e => e)
    · rcases Hs5.out.2 b hb with e | e
      · exact .inl e
      · exact .inr (by omega)
    · rcases hb with e | e
      · exact .inl e
      · exact .inr (by omega)
end Go.Proofs.YtmflpeklalgibaaGreat

namespace Go.Proofs.YtmflpeklalgibaaGreat
open Go.RowKit Go.Maps
theorem hmvF_of (W : World) (b : Nat) : Calls Tryz.prog 56 #[.pointer (some ⟨b, 0, none⟩)] W fun e w' => e = .returned (.tuple #[.pointer (some ⟨b, 1, none⟩), .pointer none]) ∧ Fr (fun _ => False) W w' := by
  go_enter Tryz.func56, Tryz.ntmps56
  go_wp2_with fail
  go_ret2
  exact ⟨rfl, Fr.refl _ _⟩
set_option maxRecDepth 100000 in
set_option maxHeartbeats 16000000 in
theorem hmvF (w : World) (g gs m : Nat) (T0 TB : Nat → Prop) (A : Stk) (l : List (Int × HV)) (o : Int) (h : SB w g gs m T0 TB A l) (hA : SOk A) (ho : okI o) (hll : l.length ≤ 1000000) (hk : ∀ p ∈ mapE l, HEok p.1 p.2) :
    Calls Tryz.prog 55 #[.pointer (some ⟨g, 0, none⟩), .int .i64 o, .int .i64 3, .func (.func 56) #[] #[]] w fun e w' => ∃ v' T0' TB' l', e = .returned (.tuple #[v', .int .i64 (moveS A (mapE l) o 3 0 none).1.2]) ∧ SB w' g gs m T0' TB' (moveS A (mapE l) o 3 0 none).2.1 l' ∧ mapE l' = (moveS A (mapE l) o 3 0 none).2.2 ∧
      Il w' v' (moveS A (mapE l) o 3 0 none).1.1 ∧ (∀ b, v'.ownBlock = some b → w.heap.size ≤ b ∧ b < w'.heap.size ∧ ¬ T0' b ∧ ¬ TB' b) ∧ Shs w w' m T0 TB T0' TB' := by
  obtain ⟨R, hR'⟩ : ∃ R, moveS A (mapE l) o 3 0 none = R := ⟨_, rfl⟩
  have hRd : R = moveS A (mapE l) o 3 0 none := hR'.symm
  rw [hR']
  unfold moveS at hRd
  have HSB := Lib.hid h
  obtain ⟨c0, c1⟩ := h.cells
  have hm := Lib.hid (hmay w g m o c1)
  have hgc : Hid (∀ W, Fr (fun _ => False) w W → W.cell? ⟨g, 0, none⟩ = some (.pointer (some ⟨gs, 0, none⟩)) ∧ W.cell? ⟨g, 1, none⟩ = some (.map (some m))) := Lib.hid (fun W hf => (HSB.out.keep hf (fun _ _ e => e)).cells)
  have hhd := h.hold ho
  have hln0 := heOf_len hk o
  have hmy0 := heOf_may hk o
  rw [heOf_map] at hRd hln0 hmy0
  have hh := hhold w g gs m T0 TB A l o h ho
  obtain ⟨⟨xo, xh, xp, xs, he, pi, sh⟩, hX⟩ : ∃ X, holdOf l o = X := ⟨_, rfl⟩
  rw [hX] at hhd hh hRd hln0 hmy0
  obtain ⟨a1, d1, e1⟩ := hhd.1.lh.1.sl
  obtain ⟨a2, d2, e2⟩ := hhd.1.lp.1.sl
  obtain ⟨a3, d3, e3⟩ := hhd.1.ls.1.sl
  have hxo := hhd.2.symm
  dsimp only at e1 e2 e3 hxo
  subst e1 e2 e3 hxo
  simp only [HV.enc, HV.e, HE.get, HE.set] at hh hRd hln0 hmy0
  obtain ⟨n1, hn1⟩ : ∃ n, he.length = n := ⟨_, rfl⟩
  obtain ⟨n2, hn2⟩ : ∃ n, pi.length = n := ⟨_, rfl⟩
  obtain ⟨n3, hn3⟩ : ∃ n, sh.length = n := ⟨_, rfl⟩
  have HN1 := Lib.hid hn1; have HN2 := Lib.hid hn2; have HN3 := Lib.hid hn3; have HLN := Lib.hid hln0
  have HHD0 := hhd.1
  rw [hn1, hn2, hn3] at HHD0 hh
  have HHD := Lib.hid HHD0
  have HLL : Hid (l.length ≤ 1000000) := Lib.hid hll
  have hDo0 : ∀ W, Fr (fun _ => False) w W → Calls Tryz.prog 52 #[.pointer (some ⟨gs, 0, none⟩), .int .i64 3, .slice a1 n1 d1] W fun e w' => e = .returned (.int .i64 (doS A 3 he).1) ∧ ∃ T0', SB w' g gs m T0' TB (doS A 3 he).2 l ∧ Stp T0 W w' T0' := fun W hf => by
    have hW := HSB.out.keep hf (fun _ _ e => e)
    refine (sDo W gs T0 A 3 _ he hW.stk hA (HHD.out.lh.1.keep hf (fun _ _ _ e => e))).mono ?_
    rintro e w' ⟨rfl, T0', h1, h2⟩
    exact ⟨rfl, T0', hW.stock h1 h2, h2⟩
  have hDA1 := doS_no (A := A) (k := 3) (L := he)
  obtain ⟨⟨de, D⟩, hD⟩ : ∃ D, doS A 3 he = D := ⟨_, rfl⟩
  rw [hD] at hDo0 hDA1
  simp only [hD] at hRd
  have hDA0 : de ≠ 0 → D = A := hDA1
  have hnbT : Hid (∀ b, w.heap.size ≤ b → ¬ T0 b) := Lib.hid (fun b hb e => by have := h.stk.lt b e; omega)
  have hh := Lib.hid hh
  have hDo2 := Lib.hid hDo0
  clear h c0 c1 hR' hhd hX hD hmy0 hk hDo0 HHD0 hDA1 hln0 hll
  by_cases hq1 : mayO o = 0
  case neg =>
    rw [if_pos hq1] at hRd
    have hR := Lib.hid hRd
    have q1 : (mayO o != 0) = true := by simpa using hq1
    clear hRd
    go_enter Tryz.func55, Tryz.ntmps55
    go_wp2_with (go_at_call 48; refine hm.out.mono ?_; rintro e w0 ⟨rfl, rfl⟩)
    go_ret2
    rw [hR.out]
    exact ⟨_, T0, TB, l, rfl, HSB.out, rfl, il_nil _, fun b hb => (by cases hb), Fr.refl _ _, fun b hb => .inl hb, fun b hb => .inl hb⟩
  rw [if_neg (by simpa using hq1)] at hRd
  rw [hq1] at hm
  clear hq1
  by_cases hq4 : he = []
  case pos =>
    rw [if_pos hq4] at hRd
    have hR := Lib.hid hRd
    have hz0 : n1 = 0 := by rw [← hn1, hq4]; rfl
    have hz1 : ((n1 : Int) == 0) = true := by simp; omega
    clear hRd hn1 hq4 hz0
    go_enter Tryz.func55, Tryz.ntmps55
    go_wp2_with (first
      | (go_at_call 48; refine hm.out.mono ?_; rintro e w0 ⟨rfl, rfl⟩)
      | (go_at_call 49; refine hh.out.mono ?_; rintro e w1 ⟨rfl, hf1⟩; have HF1 := Lib.hid hf1; clear hf1)
      | (go_at_call 56; refine (hmvF_of _ _).mono ?_; rintro e w2 ⟨rfl, hf2⟩; have hb2 := hf2.at_ (heap_at (w := w1) rfl (.cells #[.int .i64 o, .slice a1 n1 d1, .slice a2 n2 d2, .slice a3 n3 d3] 54)) (fun e => e); have HB2 := Lib.hid hb2; have y0 := cell_obj hb2 0 (.int .i64 o) rfl; have y1 := cell_obj hb2 1 (.slice a1 n1 d1) rfl; have y2 := cell_obj hb2 2 (.slice a2 n2 d2) rfl; have y3 := cell_obj hb2 3 (.slice a3 n3 d3) rfl; have HZ12 : Hid (w1.heap.size + 1 ≤ w2.heap.size) := Lib.hid (by have := hf2.size; rw [World.size_alloc] at this; exact this); have HF2 := Lib.hid ((HF1.out.alloc _).trans hf2); obtain ⟨g0, g1⟩ := hgc.out _ HF2.out; clear hf2 hb2))
    go_ret2
    rw [hR.out]
    exact ⟨_, T0, TB, l, rfl, HSB.out.keep HF2.out (fun _ _ e => e), rfl, il_nil _, fun b hb => (by cases hb), HF2.out.mono (fun _ _ e => e.elim), fun b hb => .inl hb, fun b hb => .inl hb⟩
  rw [if_neg hq4] at hRd
  have hF0 : 0 < n1 := by
    rcases Nat.eq_zero_or_pos n1 with h0 | h0
    · exact absurd (List.eq_nil_of_length_eq_zero (hn1.trans h0)) hq4
    · exact h0
  have hF1 : ((n1 : Int) == 0) = false := by simp; omega
  clear hn1 hn2 hn3 hq4
  (try dsimp only at hRd)
  by_cases hq7 : de = 0
  case neg =>
    rw [if_pos hq7] at hRd
    have hR := Lib.hid hRd
    have q7 : (de != 0) = true := by simpa using hq7
    have hDA : Hid (D = A) := Lib.hid (hDA0 hq7)
    clear hRd
    go_enter Tryz.func55, Tryz.ntmps55
    go_wp2_with (first
      | (go_at_call 48; refine hm.out.mono ?_; rintro e w0 ⟨rfl, rfl⟩)
      | (go_at_call 49; refine hh.out.mono ?_; rintro e w1 ⟨rfl, hf1⟩; have HF1 := Lib.hid hf1; clear hf1)
      | (go_at_call 56; refine (hmvF_of _ _).mono ?_; rintro e w2 ⟨rfl, hf2⟩; have hb2 := hf2.at_ (heap_at (w := w1) rfl (.cells #[.int .i64 o, .slice a1 n1 d1, .slice a2 n2 d2, .slice a3 n3 d3] 54)) (fun e => e); have HB2 := Lib.hid hb2; have y0 := cell_obj hb2 0 (.int .i64 o) rfl; have y1 := cell_obj hb2 1 (.slice a1 n1 d1) rfl; have y2 := cell_obj hb2 2 (.slice a2 n2 d2) rfl; have y3 := cell_obj hb2 3 (.slice a3 n3 d3) rfl; have HZ12 : Hid (w1.heap.size + 1 ≤ w2.heap.size) := Lib.hid (by have := hf2.size; rw [World.size_alloc] at this; exact this); have HF2 := Lib.hid ((HF1.out.alloc _).trans hf2); obtain ⟨g0, g1⟩ := hgc.out _ HF2.out; clear hf2 hb2)
      | (go_at_call 52; refine (hDo2.out _ HF2.out).mono ?_; rintro e w5 ⟨rfl, T0', hS5, hs5⟩; have HS5 := Lib.hid hS5; have Hs5 := Lib.hid hs5; clear hS5 hs5))
    go_ret2
    rw [hR.out]
    have hS5 := HS5.out
    rw [hDA.out] at hS5
    exact ⟨_, T0', TB, l, rfl, hS5, rfl, il_nil _, fun b hb => (by cases hb), (HF2.out.mono (fun _ _ e => e.elim)).trans' (Hs5.out.1.mono (fun _ _ e => .inl e)) (fun _ _ e => e), fun b hb => (Hs5.out.2 b hb).imp id (fun e => Nat.le_trans HF2.out.size e), fun b hb => .inl hb⟩
  rw [if_neg (by simpa using hq7)] at hRd
  subst hq7
  have hfinS : Hid (∀ (w1 w2 w5 W7 : World) (T0' : Nat → Prop), Fr (fun _ => False) w w1 → w1.heap.size + 1 ≤ w2.heap.size → Fr (fun _ => False) w w2 → SB w5 g gs m T0' TB D l → Stp T0 w2 w5 T0' → Fr (fun b => b = w1.heap.size) w5 W7 →
      Calls Tryz.prog 53 #[.pointer (some ⟨g, 0, none⟩), .agg #[.int .i64 o, .slice none 0 0, .slice a2 n2 d2, .slice a3 n3 d3]] W7 fun e w6 => e = .returned (.tuple #[]) ∧ SB w6 g gs m T0' TB D (setH l ⟨o, .slice none 0 0, .slice a2 n2 d2, .slice a3 n3 d3, [], pi, sh⟩) ∧ Fr (fun b => b = m) W7 w6) := Lib.hid (fun w1 w2 w5 W7 T0' hf1 hz hf4 hs hst hf5 => by
    have hsb := HSB.out
    have hlt := hsb.lt
    have z1 := hf1.size; have z4 := hf4.size; have z5 := hst.1.size; have z6 := hf5.size
    have hin : ∀ b, (b = g ∨ b = m ∨ T0' b ∨ TB b) → ¬ b = w1.heap.size := fun b hb e => by
      rcases hb with hb | hb | hb | hb
      · have := hlt b (.inl hb); omega
      · have := hlt b (.inr (.inl hb)); omega
      · rcases hst.2 b hb with hb | hb
        · have := hlt b (.inr (.inr (.inl hb))); omega
        · omega
      · have := hlt b (.inr (.inr (.inr hb))); omega
    have hS5 := hs.keep hf5 hin
    have hF : Fr (fun b => T0 b ∨ b = w1.heap.size) w W7 := ((hf4.mono (fun _ _ e => e.elim)).trans' (hst.1.mono (fun _ _ e => .inl e)) (fun _ _ e => e)).trans' (hf5.mono (fun _ _ e => .inr e)) (fun _ _ e => e)
    have hk1 : HOk W7 TB ⟨o, .slice a1 n1 d1, .slice a2 n2 d2, .slice a3 n3 d3, he, pi, sh⟩ := HHD.out.keep hF (fun b hb e => by
      rcases e with e | e
      · exact hsb.nb b hb e
      · exact hin b (.inr (.inr (.inr hb))) e)
    have hnil : ∀ TB : Nat → Prop, Lb W7 TB (.slice none 0 0) [] := fun TB => ⟨il_nil _, fun e => absurd rfl e⟩
    have hl0 := HLN.out; have hl1 := HN1.out; have hl2 := HN2.out; have hl3 := HN3.out
    have HTB : ∀ b, TB b → TB b := fun b hb => hb
    refine hset W7 g gs m T0' TB _ D l ⟨o, .slice none 0 0, .slice a2 n2 d2, .slice a3 n3 d3, [], pi, sh⟩ hS5 HTB ⟨hk1.o, hnil _, hk1.lp.mono HTB, hk1.ls.mono HTB⟩ (fun b hb => ?_) HLL.out (by dsimp only [List.length_nil]; omega)
    have hb1 := hsb.ltb b hb
    refine ⟨by omega, fun e => ?_, fun e => hsb.ng.2.1 (e ▸ hb), fun e => hsb.nm.2 (e ▸ hb)⟩
    rcases hst.2 b e with e | e
    · exact hsb.nb b hb e
    · omega)
  have hfinC : Hid (∀ (w1 w4 w5 W7 w6 : World) (T0' : Nat → Prop), Fr (fun _ => False) w w1 → Fr (fun _ => False) w w4 → Stp T0 w4 w5 T0' → Fr (fun b => b = w1.heap.size) w5 W7 → Fr (fun b => b = m) W7 w6 →
      Calls Tryz.prog 54 #[.slice a1 n1 d1] w6 fun e w' => ∃ v', e = .returned v' ∧ w'.ownsRow w6.heap.size 45 2 v' n1 (itCs he) ∧ Fr (fun _ => False) w6 w') := Lib.hid (fun w1 w4 w5 W7 w6 T0' hf1 hf4 hst hf5 hf6 => by
    have hsb := HSB.out
    have hlt := hsb.lt
    have z1 := hf1.size
    have hfa : Fr (fun b => T0 b ∨ b = w1.heap.size ∨ b = m) w w6 := (((hf4.mono (fun _ _ e => e.elim)).trans' (hst.1.mono (fun _ _ e => .inl e)) (fun _ _ e => e)).trans' (hf5.mono (fun _ _ e => .inr (.inl e))) (fun _ _ e => e)).trans' (hf6.mono (fun _ _ e => .inr (.inr e))) (fun _ _ e => e)
    have hi6 := HHD.out.lh.keep hfa (fun b hb e => by
      rcases e with e | e | e
      · exact hsb.nb b hb e
      · have := hsb.ltb b hb; omega
      · exact hsb.nm.2 (e ▸ hb))
    have hl0 := HLN.out; have hl1 := HN1.out; have hl2 := HN2.out; have hl3 := HN3.out
    have := itClone w6 _ he hi6.1 (by omega)
    dsimp only at this
    rw [HN1.out] at this
    exact this)
  have hR := Lib.hid hRd
  clear hRd hDA0
  go_enter Tryz.func55, Tryz.ntmps55
  go_wp2_with (first
    | (go_at_call 48; refine hm.out.mono ?_; rintro e w0 ⟨rfl, rfl⟩)
    | (go_at_call 49; refine hh.out.mono ?_; rintro e w1 ⟨rfl, hf1⟩; have HF1 := Lib.hid hf1; clear hf1)
    | (go_at_call 56; refine (hmvF_of _ _).mono ?_; rintro e w2 ⟨rfl, hf2⟩; have hb2 := hf2.at_ (heap_at (w := w1) rfl (.cells #[.int .i64 o, .slice a1 n1 d1, .slice a2 n2 d2, .slice a3 n3 d3] 54)) (fun e => e); have HB2 := Lib.hid hb2; have y0 := cell_obj hb2 0 (.int .i64 o) rfl; have y1 := cell_obj hb2 1 (.slice a1 n1 d1) rfl; have y2 := cell_obj hb2 2 (.slice a2 n2 d2) rfl; have y3 := cell_obj hb2 3 (.slice a3 n3 d3) rfl; have HZ12 : Hid (w1.heap.size + 1 ≤ w2.heap.size) := Lib.hid (by have := hf2.size; rw [World.size_alloc] at this; exact this); have HF2 := Lib.hid ((HF1.out.alloc _).trans hf2); obtain ⟨g0, g1⟩ := hgc.out _ HF2.out; clear hf2 hb2)
    | (go_at_call 52; refine (hDo2.out _ HF2.out).mono ?_; rintro e w5 ⟨rfl, T0', hS5, hs5⟩; have HS5 := Lib.hid hS5; have Hs5 := Lib.hid hs5; have hb5 := hs5.1.at_ HB2.out (hnbT.out _ HF1.out.size); have f5 := obj_frozen hb5 1; have q0 := cell_obj hb5 0 (.int .i64 o) rfl; have q1 := cell_obj hb5 1 (.slice a1 n1 d1) rfl; have q2 := cell_obj hb5 2 (.slice a2 n2 d2) rfl; have q3 := cell_obj hb5 3 (.slice a3 n3 d3) rfl; obtain ⟨W6, hW6⟩ : ∃ W6, w5.setCell ⟨w1.heap.size, 1, none⟩ (.slice none 0 0) = W6 := ⟨_, rfl⟩; have hb6 := obj_set hb5 1 (.slice none 0 0); rw [hW6] at hb6; have hf56 : Fr (fun b => b = w1.heap.size) w5 W6 := (by rw [← hW6]; exact (Fr.refl (fun b => b = w1.heap.size) _).setCell (p := ⟨w1.heap.size, 1, none⟩) (fun _ => rfl) _); have r0 := cell_obj hb6 0 (.int .i64 o) rfl; have r1 := cell_obj hb6 1 (.slice none 0 0) rfl; have r2 := cell_obj hb6 2 (.slice a2 n2 d2) rfl; have r3 := cell_obj hb6 3 (.slice a3 n3 d3) rfl; obtain ⟨W7, hW7⟩ : ∃ W7, W7 = W6 := ⟨_, rfl⟩; obtain rfl : W7 = W6 := hW7; have hf57 := hf56; have hset5 := Lib.hid (hfinS.out w1 w2 w5 W7 T0' HF1.out HZ12.out HF2.out HS5.out Hs5.out hf57); have HF57 := Lib.hid hf57; clear hS5 hs5 hb5 hb6 hf56 hf57)
    | (go_at_call 53; refine hset5.out.mono ?_; rintro e w8 ⟨rfl, hS6, hf6⟩; have HS6 := Lib.hid hS6; have HF6 := Lib.hid hf6; clear hS6 hf6)
    | (go_at_call 54; refine (hfinC.out w1 w2 w5 W7 w8 T0' HF1.out HF2.out Hs5.out HF57.out HF6.out).mono ?_; rintro e w9 ⟨v9, rfl, ho9, hf9⟩; obtain ⟨ra, rc, rfl⟩ := row_slice ho9; have HO9 := Lib.hid ho9; have HF9 := Lib.hid hf9; clear ho9 hf9))
  go_ret2
  rw [hR.out]
  have hlt := HSB.out.lt
  have z1 := HF1.out.size; have z12 := HZ12.out; have z4 := HF2.out.size; have z5 := Hs5.out.1.size; have z6 := HF57.out.size; have z7 := HF6.out.size
  have hS7 := HS6.out.keep HF9.out (fun _ _ e => e)
  have hFk : ∀ p ∈ he, okS p.1 ∧ okI p.2 := fun p hp => il_okm' HHD.out.lh.1 hp
  have ho9 := HO9.out
  rw [← HN1.out] at ho9
  have hi7 := Il.own ho9 hFk
  have hlt6 := HS6.out.lt
  refine ⟨_, T0', _, _, rfl, hS7, setE_map _ _, by rw [HN1.out] at hi7; exact hi7.1, fun b hb => ?_, ?_, fun b hb => ?_, fun b hb => ?_⟩
  · have := hi7.2 b (by rw [HN1.out]; exact hb)
    exact ⟨by omega, this.2, fun e => by have := hlt6 b (.inr (.inr (.inl e))); omega, fun e => by have := hlt6 b (.inr (.inr (.inr e))); omega⟩
  · exact (((HF2.out.mono (fun _ _ e => e.elim)).trans' (Hs5.out.1.mono (fun _ _ e => .inl e)) (fun _ _ e => e)).trans' (HF57.out.mono (S' := fun b => b = w1.heap.size) (fun _ _ e => e)) (fun b hb e => by omega)).trans' ((HF6.out.mono (fun _ _ e => .inr e)).trans (HF9.out.mono (fun _ _ e => e.elim))) (fun _ _ e => e)
  · rcases Hs5.out.2 b hb with e | e
    · exact .inl e
    · exact .inr (by omega)
  · exact .inl hb
end Go.Proofs.YtmflpeklalgibaaGreat

namespace Go.Proofs.YtmflpeklalgibaaGreat
open Go.RowKit Go.Maps
theorem hmvP_of (W : World) (b : Nat) : Calls Tryz.prog 57 #[.pointer (some ⟨b, 0, none⟩)] W fun e w' => e = .returned (.tuple #[.pointer (some ⟨b, 1, none⟩), .pointer (some ⟨b, 2, none⟩)]) ∧ Fr (fun _ => False) W w' := by
  go_enter Tryz.func57, Tryz.ntmps57
  go_wp2_with fail
  refine wp_region_fr (by kernel_rfl) (by kernel_rfl) ?_
  repeat (go_big_quiet_step (fail))
  refine wpQuiet_nil ?_
  rintro _ ⟨⟨W2, hf2⟩, rfl⟩
  go_wp2_with fail
  go_ret2
  exact ⟨rfl, hf2⟩
set_option maxRecDepth 100000 in
set_option maxHeartbeats 16000000 in
theorem hmvP (w : World) (g gs m : Nat) (T0 TB : Nat → Prop) (A : Stk) (l : List (Int × HV)) (o : Int) (h : SB w g gs m T0 TB A l) (hA : SOk A) (ho : okI o) (hll : l.length ≤ 1000000) (hk : ∀ p ∈ mapE l, HEok p.1 p.2) :
    Calls Tryz.prog 55 #[.pointer (some ⟨g, 0, none⟩), .int .i64 o, .int .i64 4, .func (.func 57) #[] #[]] w fun e w' => ∃ v' T0' TB' l', e = .returned (.tuple #[v', .int .i64 (moveS A (mapE l) o 4 0 (some 1)).1.2]) ∧ SB w' g gs m T0' TB' (moveS A (mapE l) o 4 0 (some 1)).2.1 l' ∧ mapE l' = (moveS A (mapE l) o 4 0 (some 1)).2.2 ∧
      Il w' v' (moveS A (mapE l) o 4 0 (some 1)).1.1 ∧ (∀ b, v'.ownBlock = some b → w.heap.size ≤ b ∧ b < w'.heap.size ∧ ¬ T0' b ∧ ¬ TB' b) ∧ Shs w w' m T0 TB T0' TB' := by
  obtain ⟨R, hR'⟩ : ∃ R, moveS A (mapE l) o 4 0 (some 1) = R := ⟨_, rfl⟩
  have hRd : R = moveS A (mapE l) o 4 0 (some 1) := hR'.symm
  rw [hR']
  unfold moveS at hRd
  have HSB := Lib.hid h
  obtain ⟨c0, c1⟩ := h.cells
  have hm := Lib.hid (hmay w g m o c1)
  have hgc : Hid (∀ W, Fr (fun _ => False) w W → W.cell? ⟨g, 0, none⟩ = some (.pointer (some ⟨gs, 0, none⟩)) ∧ W.cell? ⟨g, 1, none⟩ = some (.map (some m))) := Lib.hid (fun W hf => (HSB.out.keep hf (fun _ _ e => e)).cells)
  have hhd := h.hold ho
  have hln0 := heOf_len hk o
  have hmy0 := heOf_may hk o
  rw [heOf_map] at hRd hln0 hmy0
  have hh := hhold w g gs m T0 TB A l o h ho
  obtain ⟨⟨xo, xh, xp, xs, he, pi, sh⟩, hX⟩ : ∃ X, holdOf l o = X := ⟨_, rfl⟩
  rw [hX] at hhd hh hRd hln0 hmy0
  obtain ⟨a1, d1, e1⟩ := hhd.1.lh.1.sl
  obtain ⟨a2, d2, e2⟩ := hhd.1.lp.1.sl
  obtain ⟨a3, d3, e3⟩ := hhd.1.ls.1.sl
  have hxo := hhd.2.symm
  dsimp only at e1 e2 e3 hxo
  subst e1 e2 e3 hxo
  simp only [HV.enc, HV.e, HE.get, HE.set] at hh hRd hln0 hmy0
  obtain ⟨n1, hn1⟩ : ∃ n, he.length = n := ⟨_, rfl⟩
  obtain ⟨n2, hn2⟩ : ∃ n, pi.length = n := ⟨_, rfl⟩
  obtain ⟨n3, hn3⟩ : ∃ n, sh.length = n := ⟨_, rfl⟩
  have HN1 := Lib.hid hn1; have HN2 := Lib.hid hn2; have HN3 := Lib.hid hn3; have HLN := Lib.hid hln0
  have HHD0 := hhd.1
  rw [hn1, hn2, hn3] at HHD0 hh
  have HHD := Lib.hid HHD0
  have HLL : Hid (l.length ≤ 1000000) := Lib.hid hll
  have hDo0 : ∀ W, Fr (fun _ => False) w W → Calls Tryz.prog 52 #[.pointer (some ⟨gs, 0, none⟩), .int .i64 4, .slice a1 n1 d1] W fun e w' => e = .returned (.int .i64 (doS A 4 he).1) ∧ ∃ T0', SB w' g gs m T0' TB (doS A 4 he).2 l ∧ Stp T0 W w' T0' := fun W hf => by
    have hW := HSB.out.keep hf (fun _ _ e => e)
    refine (sDo W gs T0 A 4 _ he hW.stk hA (HHD.out.lh.1.keep hf (fun _ _ _ e => e))).mono ?_
    rintro e w' ⟨rfl, T0', h1, h2⟩
    exact ⟨rfl, T0', hW.stock h1 h2, h2⟩
  have hDA1 := doS_no (A := A) (k := 4) (L := he)
  obtain ⟨⟨de, D⟩, hD⟩ : ∃ D, doS A 4 he = D := ⟨_, rfl⟩
  rw [hD] at hDo0 hDA1
  simp only [hD] at hRd
  have hDA0 : de ≠ 0 → D = A := hDA1
  have hPl0 := fun W (hf : Fr (fun _ => False) w W) => iPlus W (.slice a2 n2 d2) (.slice a1 n1 d1) pi he (HHD.out.lp.1.keep hf (fun _ _ _ e => e)) (HHD.out.lh.1.keep hf (fun _ _ _ e => e))
  obtain ⟨⟨P, pe⟩, hP⟩ : ∃ P, plusF pi he = P := ⟨_, rfl⟩
  rw [hP] at hPl0
  simp only [hP] at hRd
  have HP := Lib.hid hP
  obtain ⟨nP, hnP⟩ : ∃ n, P.length = n := ⟨_, rfl⟩
  have hPN := Lib.hid hnP
  have hPl := Lib.hid hPl0
  clear hPl0 hP hnP
  have hnbT : Hid (∀ b, w.heap.size ≤ b → ¬ T0 b) := Lib.hid (fun b hb e => by have := h.stk.lt b e; omega)
  have hh := Lib.hid hh
  have hDo2 := Lib.hid hDo0
  clear h c0 c1 hR' hhd hX hD hmy0 hk hDo0 HHD0 hDA1 hln0 hll
  by_cases hq1 : mayO o = 0
  case neg =>
    rw [if_pos hq1] at hRd
    have hR := Lib.hid hRd
    have q1 : (mayO o != 0) = true := by simpa using hq1
    clear hRd
    go_enter Tryz.func55, Tryz.ntmps55
    go_wp2_with (go_at_call 48; refine hm.out.mono ?_; rintro e w0 ⟨rfl, rfl⟩)
    go_ret2
    rw [hR.out]
    exact ⟨_, T0, TB, l, rfl, HSB.out, rfl, il_nil _, fun b hb => (by cases hb), Fr.refl _ _, fun b hb => .inl hb, fun b hb => .inl hb⟩
  rw [if_neg (by simpa using hq1)] at hRd
  rw [hq1] at hm
  clear hq1
  by_cases hq4 : he = []
  case pos =>
    rw [if_pos hq4] at hRd
    have hR := Lib.hid hRd
    have hz0 : n1 = 0 := by rw [← hn1, hq4]; rfl
    have hz1 : ((n1 : Int) == 0) = true := by simp; omega
    clear hRd hn1 hq4 hz0
    go_enter Tryz.func55, Tryz.ntmps55
    go_wp2_with (first
      | (go_at_call 48; refine hm.out.mono ?_; rintro e w0 ⟨rfl, rfl⟩)
      | (go_at_call 49; refine hh.out.mono ?_; rintro e w1 ⟨rfl, hf1⟩; have HF1 := Lib.hid hf1; clear hf1)
      | (go_at_call 57; refine (hmvP_of _ _).mono ?_; rintro e w2 ⟨rfl, hf2⟩; have hb2 := hf2.at_ (heap_at (w := w1) rfl (.cells #[.int .i64 o, .slice a1 n1 d1, .slice a2 n2 d2, .slice a3 n3 d3] 54)) (fun e => e); have HB2 := Lib.hid hb2; have y0 := cell_obj hb2 0 (.int .i64 o) rfl; have y1 := cell_obj hb2 1 (.slice a1 n1 d1) rfl; have y2 := cell_obj hb2 2 (.slice a2 n2 d2) rfl; have y3 := cell_obj hb2 3 (.slice a3 n3 d3) rfl; have HZ12 : Hid (w1.heap.size + 1 ≤ w2.heap.size) := Lib.hid (by have := hf2.size; rw [World.size_alloc] at this; exact this); have HF2 := Lib.hid ((HF1.out.alloc _).trans hf2); obtain ⟨g0, g1⟩ := hgc.out _ HF2.out; clear hf2 hb2))
    go_ret2
    rw [hR.out]
    exact ⟨_, T0, TB, l, rfl, HSB.out.keep HF2.out (fun _ _ e => e), rfl, il_nil _, fun b hb => (by cases hb), HF2.out.mono (fun _ _ e => e.elim), fun b hb => .inl hb, fun b hb => .inl hb⟩
  rw [if_neg hq4] at hRd
  have hF0 : 0 < n1 := by
    rcases Nat.eq_zero_or_pos n1 with h0 | h0
    · exact absurd (List.eq_nil_of_length_eq_zero (hn1.trans h0)) hq4
    · exact h0
  have hF1 : ((n1 : Int) == 0) = false := by simp; omega
  clear hn1 hn2 hn3 hq4
  (try dsimp only at hRd)
  by_cases hq6 : pe = 0
  case neg =>
    rw [if_pos hq6] at hRd
    have hR := Lib.hid hRd
    have q6 : (pe == 0) = false := by simpa using hq6
    have q7 : (pe != 0) = true := by simpa using hq6
    clear hRd hq6
    go_enter Tryz.func55, Tryz.ntmps55
    go_wp2_with (first
      | (go_at_call 48; refine hm.out.mono ?_; rintro e w0 ⟨rfl, rfl⟩)
      | (go_at_call 49; refine hh.out.mono ?_; rintro e w1 ⟨rfl, hf1⟩; have HF1 := Lib.hid hf1; clear hf1)
      | (go_at_call 57; refine (hmvP_of _ _).mono ?_; rintro e w2 ⟨rfl, hf2⟩; have hb2 := hf2.at_ (heap_at (w := w1) rfl (.cells #[.int .i64 o, .slice a1 n1 d1, .slice a2 n2 d2, .slice a3 n3 d3] 54)) (fun e => e); have HB2 := Lib.hid hb2; have y0 := cell_obj hb2 0 (.int .i64 o) rfl; have y1 := cell_obj hb2 1 (.slice a1 n1 d1) rfl; have y2 := cell_obj hb2 2 (.slice a2 n2 d2) rfl; have y3 := cell_obj hb2 3 (.slice a3 n3 d3) rfl; have HZ12 : Hid (w1.heap.size + 1 ≤ w2.heap.size) := Lib.hid (by have := hf2.size; rw [World.size_alloc] at this; exact this); have HF2 := Lib.hid ((HF1.out.alloc _).trans hf2); obtain ⟨g0, g1⟩ := hgc.out _ HF2.out; clear hf2 hb2)
      | (go_at_call 51; refine (hPl.out _ HF2.out).mono ?_; rintro e w4 ⟨v4, rfl, ho4, hf4⟩; obtain ⟨pa, pc, rfl⟩ := row_slice ho4; (try rw [hPN.out]); have HO4 := Lib.hid ho4; have HG4 := Lib.hid hf4; have HF4 := Lib.hid (HF2.out.trans hf4); have hb4 := hf4.at_ HB2.out (fun e => e); have HB4 := Lib.hid hb4; have z0 := cell_obj hb4 0 (.int .i64 o) rfl; have z1 := cell_obj hb4 1 (.slice a1 n1 d1) rfl; have z2 := cell_obj hb4 2 (.slice a2 n2 d2) rfl; have z3 := cell_obj hb4 3 (.slice a3 n3 d3) rfl; obtain ⟨g6, g7⟩ := hgc.out _ HF4.out; clear ho4 hf4 hb4))
    go_ret2
    rw [hR.out]
    exact ⟨_, T0, TB, l, rfl, HSB.out.keep HF4.out (fun _ _ e => e), rfl, il_nil _, fun b hb => (by cases hb), HF4.out.mono (fun _ _ e => e.elim), fun b hb => .inl hb, fun b hb => .inl hb⟩
  rw [if_neg (by simpa using hq6)] at hRd
  subst hq6
  by_cases hq7 : de = 0
  case neg =>
    rw [if_pos hq7] at hRd
    have hR := Lib.hid hRd
    have q7 : (de != 0) = true := by simpa using hq7
    have hDA : Hid (D = A) := Lib.hid (hDA0 hq7)
    clear hRd
    go_enter Tryz.func55, Tryz.ntmps55
    go_wp2_with (first
      | (go_at_call 48; refine hm.out.mono ?_; rintro e w0 ⟨rfl, rfl⟩)
      | (go_at_call 49; refine hh.out.mono ?_; rintro e w1 ⟨rfl, hf1⟩; have HF1 := Lib.hid hf1; clear hf1)
      | (go_at_call 57; refine (hmvP_of _ _).mono ?_; rintro e w2 ⟨rfl, hf2⟩; have hb2 := hf2.at_ (heap_at (w := w1) rfl (.cells #[.int .i64 o, .slice a1 n1 d1, .slice a2 n2 d2, .slice a3 n3 d3] 54)) (fun e => e); have HB2 := Lib.hid hb2; have y0 := cell_obj hb2 0 (.int .i64 o) rfl; have y1 := cell_obj hb2 1 (.slice a1 n1 d1) rfl; have y2 := cell_obj hb2 2 (.slice a2 n2 d2) rfl; have y3 := cell_obj hb2 3 (.slice a3 n3 d3) rfl; have HZ12 : Hid (w1.heap.size + 1 ≤ w2.heap.size) := Lib.hid (by have := hf2.size; rw [World.size_alloc] at this; exact this); have HF2 := Lib.hid ((HF1.out.alloc _).trans hf2); obtain ⟨g0, g1⟩ := hgc.out _ HF2.out; clear hf2 hb2)
      | (go_at_call 51; refine (hPl.out _ HF2.out).mono ?_; rintro e w4 ⟨v4, rfl, ho4, hf4⟩; obtain ⟨pa, pc, rfl⟩ := row_slice ho4; (try rw [hPN.out]); have HO4 := Lib.hid ho4; have HG4 := Lib.hid hf4; have HF4 := Lib.hid (HF2.out.trans hf4); have hb4 := hf4.at_ HB2.out (fun e => e); have HB4 := Lib.hid hb4; have z0 := cell_obj hb4 0 (.int .i64 o) rfl; have z1 := cell_obj hb4 1 (.slice a1 n1 d1) rfl; have z2 := cell_obj hb4 2 (.slice a2 n2 d2) rfl; have z3 := cell_obj hb4 3 (.slice a3 n3 d3) rfl; obtain ⟨g6, g7⟩ := hgc.out _ HF4.out; clear ho4 hf4 hb4)
      | (go_at_call 52; refine (hDo2.out _ HF4.out).mono ?_; rintro e w5 ⟨rfl, T0', hS5, hs5⟩; have HS5 := Lib.hid hS5; have Hs5 := Lib.hid hs5; clear hS5 hs5))
    go_ret2
    rw [hR.out]
    have hS5 := HS5.out
    rw [hDA.out] at hS5
    exact ⟨_, T0', TB, l, rfl, hS5, rfl, il_nil _, fun b hb => (by cases hb), (HF4.out.mono (fun _ _ e => e.elim)).trans' (Hs5.out.1.mono (fun _ _ e => .inl e)) (fun _ _ e => e), fun b hb => (Hs5.out.2 b hb).imp id (fun e => Nat.le_trans HF4.out.size e), fun b hb => .inl hb⟩
  rw [if_neg (by simpa using hq7)] at hRd
  subst hq7
  have hPk : mayL P = true := (plusF_ok HP.out).1
  have hPr := mayL_all hPk
  have hPok : ∀ p ∈ P, okS p.1 ∧ okI p.2 := fun p hp => by
    have h1 := hPr.row p hp
    have h2 := h1.1
    unfold goodB at h2
    simp only [Bool.and_eq_true, decide_eq_true_eq] at h2
    exact ⟨by unfold okS maxLen; omega, by unfold okI; omega⟩
  have hfinS : Hid (∀ (w1 w2 w4 w5 W7 : World) (T0' : Nat → Prop) (pa : Option Addr) (pc : Nat), Fr (fun _ => False) w2 w4 → Fr (fun _ => False) w w1 → w1.heap.size + 1 ≤ w2.heap.size → Fr (fun _ => False) w w4 → w4.ownsRow w2.heap.size 45 2 (.slice pa P.length pc) P.length (itCs P) → SB w5 g gs m T0' TB D l → Stp T0 w4 w5 T0' → Fr (fun b => b = w1.heap.size) w5 W7 →
      Calls Tryz.prog 53 #[.pointer (some ⟨g, 0, none⟩), .agg #[.int .i64 o, .slice none 0 0, .slice pa nP pc, .slice a3 n3 d3]] W7 fun e w6 => e = .returned (.tuple #[]) ∧ SB w6 g gs m T0' (fun b => TB b ∨ (w2.heap.size ≤ b ∧ b < w4.heap.size)) D (setH l ⟨o, .slice none 0 0, .slice pa nP pc, .slice a3 n3 d3, [], P, sh⟩) ∧ Fr (fun b => b = m) W7 w6) := Lib.hid (fun w1 w2 w4 w5 W7 T0' pa pc h34 hf1 hz hf4 ho hs hst hf5 => by
    have hsb := HSB.out
    have hlt := hsb.lt
    have z1 := hf1.size; have z4 := hf4.size; have z5 := hst.1.size; have z6 := hf5.size; have z34 := h34.size
    have hin : ∀ b, (b = g ∨ b = m ∨ T0' b ∨ TB b) → ¬ b = w1.heap.size := fun b hb e => by
      rcases hb with hb | hb | hb | hb
      · have := hlt b (.inl hb); omega
      · have := hlt b (.inr (.inl hb)); omega
      · rcases hst.2 b hb with hb | hb
        · have := hlt b (.inr (.inr (.inl hb))); omega
        · omega
      · have := hlt b (.inr (.inr (.inr hb))); omega
    have hS5 := hs.keep hf5 hin
    have hF : Fr (fun b => T0 b ∨ b = w1.heap.size) w W7 := ((hf4.mono (fun _ _ e => e.elim)).trans' (hst.1.mono (fun _ _ e => .inl e)) (fun _ _ e => e)).trans' (hf5.mono (fun _ _ e => .inr e)) (fun _ _ e => e)
    have hk1 : HOk W7 TB ⟨o, .slice a1 n1 d1, .slice a2 n2 d2, .slice a3 n3 d3, he, pi, sh⟩ := HHD.out.keep hF (fun b hb e => by
      rcases e with e | e
      · exact hsb.nb b hb e
      · exact hin b (.inr (.inr (.inr hb))) e)
    have hnil : ∀ TB : Nat → Prop, Lb W7 TB (.slice none 0 0) [] := fun TB => ⟨il_nil _, fun e => absurd rfl e⟩
    have hl0 := HLN.out; have hl1 := HN1.out; have hl2 := HN2.out; have hl3 := HN3.out
    have hi4 := (Il.own ho hPok)
    have hlP : Lb W7 (fun b => TB b ∨ (w2.heap.size ≤ b ∧ b < w4.heap.size)) (.slice pa nP pc) P := by
      have hfa : Fr (fun b => T0 b ∨ b = w1.heap.size) w4 W7 := (hst.1.mono (fun _ _ e => .inl e)).trans' (hf5.mono (fun _ _ e => .inr e)) (fun _ _ e => e)
      have h1 := hi4.1.keep hfa (fun _ b hb e => by
        have := hi4.2 b hb
        rcases e with e | e
        · have := hlt b (.inr (.inr (.inl e))); omega
        · omega)
      rw [hPN.out] at h1
      refine ⟨h1, fun _ b hb => .inr ?_⟩
      have := hi4.2 b (by rw [hPN.out]; exact hb)
      omega
    have hln := hPr.len
    have HTB : ∀ b, TB b → TB b ∨ (w2.heap.size ≤ b ∧ b < w4.heap.size) := fun b hb => .inl hb
    refine hset W7 g gs m T0' TB _ D l ⟨o, .slice none 0 0, .slice pa nP pc, .slice a3 n3 d3, [], P, sh⟩ hS5 HTB ⟨hk1.o, hnil _, hlP, hk1.ls.mono HTB⟩ (fun b hb => ?_) HLL.out (by dsimp only [List.length_nil]; omega)
    rcases hb with hb | hb
    · have hb1 := hsb.ltb b hb
      refine ⟨by omega, fun e => ?_, fun e => hsb.ng.2.1 (e ▸ hb), fun e => hsb.nm.2 (e ▸ hb)⟩
      rcases hst.2 b e with e | e
      · exact hsb.nb b hb e
      · omega
    · have hg := hlt g (.inl rfl); have hm' := hlt m (.inr (.inl rfl))
      refine ⟨by omega, fun e => ?_, fun e => by omega, fun e => by omega⟩
      rcases hst.2 b e with e | e
      · have := hlt b (.inr (.inr (.inl e))); omega
      · omega)
  have hfinC : Hid (∀ (w1 w4 w5 W7 w6 : World) (T0' : Nat → Prop), Fr (fun _ => False) w w1 → Fr (fun _ => False) w w4 → Stp T0 w4 w5 T0' → Fr (fun b => b = w1.heap.size) w5 W7 → Fr (fun b => b = m) W7 w6 →
      Calls Tryz.prog 54 #[.slice a1 n1 d1] w6 fun e w' => ∃ v', e = .returned v' ∧ w'.ownsRow w6.heap.size 45 2 v' n1 (itCs he) ∧ Fr (fun _ => False) w6 w') := Lib.hid (fun w1 w4 w5 W7 w6 T0' hf1 hf4 hst hf5 hf6 => by
    have hsb := HSB.out
    have hlt := hsb.lt
    have z1 := hf1.size
    have hfa : Fr (fun b => T0 b ∨ b = w1.heap.size ∨ b = m) w w6 := (((hf4.mono (fun _ _ e => e.elim)).trans' (hst.1.mono (fun _ _ e => .inl e)) (fun _ _ e => e)).trans' (hf5.mono (fun _ _ e => .inr (.inl e))) (fun _ _ e => e)).trans' (hf6.mono (fun _ _ e => .inr (.inr e))) (fun _ _ e => e)
    have hi6 := HHD.out.lh.keep hfa (fun b hb e => by
      rcases e with e | e | e
      · exact hsb.nb b hb e
      · have := hsb.ltb b hb; omega
      · exact hsb.nm.2 (e ▸ hb))
    have hl0 := HLN.out; have hl1 := HN1.out; have hl2 := HN2.out; have hl3 := HN3.out
    have := itClone w6 _ he hi6.1 (by omega)
    dsimp only at this
    rw [HN1.out] at this
    exact this)
  have hR := Lib.hid hRd
  clear hRd hDA0 hPk hPr hPok
  go_enter Tryz.func55, Tryz.ntmps55
  go_wp2_with (first
    | (go_at_call 48; refine hm.out.mono ?_; rintro e w0 ⟨rfl, rfl⟩)
    | (go_at_call 49; refine hh.out.mono ?_; rintro e w1 ⟨rfl, hf1⟩; have HF1 := Lib.hid hf1; clear hf1)
    | (go_at_call 57; refine (hmvP_of _ _).mono ?_; rintro e w2 ⟨rfl, hf2⟩; have hb2 := hf2.at_ (heap_at (w := w1) rfl (.cells #[.int .i64 o, .slice a1 n1 d1, .slice a2 n2 d2, .slice a3 n3 d3] 54)) (fun e => e); have HB2 := Lib.hid hb2; have y0 := cell_obj hb2 0 (.int .i64 o) rfl; have y1 := cell_obj hb2 1 (.slice a1 n1 d1) rfl; have y2 := cell_obj hb2 2 (.slice a2 n2 d2) rfl; have y3 := cell_obj hb2 3 (.slice a3 n3 d3) rfl; have HZ12 : Hid (w1.heap.size + 1 ≤ w2.heap.size) := Lib.hid (by have := hf2.size; rw [World.size_alloc] at this; exact this); have HF2 := Lib.hid ((HF1.out.alloc _).trans hf2); obtain ⟨g0, g1⟩ := hgc.out _ HF2.out; clear hf2 hb2)
    | (go_at_call 51; refine (hPl.out _ HF2.out).mono ?_; rintro e w4 ⟨v4, rfl, ho4, hf4⟩; obtain ⟨pa, pc, rfl⟩ := row_slice ho4; (try rw [hPN.out]); have HO4 := Lib.hid ho4; have HG4 := Lib.hid hf4; have HF4 := Lib.hid (HF2.out.trans hf4); have hb4 := hf4.at_ HB2.out (fun e => e); have HB4 := Lib.hid hb4; have z0 := cell_obj hb4 0 (.int .i64 o) rfl; have z1 := cell_obj hb4 1 (.slice a1 n1 d1) rfl; have z2 := cell_obj hb4 2 (.slice a2 n2 d2) rfl; have z3 := cell_obj hb4 3 (.slice a3 n3 d3) rfl; obtain ⟨g6, g7⟩ := hgc.out _ HF4.out; clear ho4 hf4 hb4)
    | (go_at_call 52; refine (hDo2.out _ HF4.out).mono ?_; rintro e w5 ⟨rfl, T0', hS5, hs5⟩; have HS5 := Lib.hid hS5; have Hs5 := Lib.hid hs5; have hb5 := hs5.1.at_ HB4.out (hnbT.out _ HF1.out.size); have f5 := obj_frozen hb5 1; have q0 := cell_obj hb5 0 (.int .i64 o) rfl; have q1 := cell_obj hb5 1 (.slice a1 n1 d1) rfl; have q2 := cell_obj hb5 2 (.slice a2 n2 d2) rfl; have q3 := cell_obj hb5 3 (.slice a3 n3 d3) rfl; obtain ⟨W6, hW6⟩ : ∃ W6, w5.setCell ⟨w1.heap.size, 1, none⟩ (.slice none 0 0) = W6 := ⟨_, rfl⟩; have hb6 := obj_set hb5 1 (.slice none 0 0); rw [hW6] at hb6; have hf56 : Fr (fun b => b = w1.heap.size) w5 W6 := (by rw [← hW6]; exact (Fr.refl (fun b => b = w1.heap.size) _).setCell (p := ⟨w1.heap.size, 1, none⟩) (fun _ => rfl) _); have r0 := cell_obj hb6 0 (.int .i64 o) rfl; have r1 := cell_obj hb6 1 (.slice none 0 0) rfl; have r2 := cell_obj hb6 2 (.slice a2 n2 d2) rfl; have r3 := cell_obj hb6 3 (.slice a3 n3 d3) rfl; have f6 := obj_frozen hb6 2; obtain ⟨W7, hW7⟩ : ∃ W7, W6.setCell ⟨w1.heap.size, 2, none⟩ (.slice pa nP pc) = W7 := ⟨_, rfl⟩; have hb7 := obj_set hb6 2 (.slice pa nP pc); rw [hW7] at hb7; have hf57 : Fr (fun b => b = w1.heap.size) w5 W7 := hf56.trans (by rw [← hW7]; exact (Fr.refl (fun b => b = w1.heap.size) _).setCell (p := ⟨w1.heap.size, 2, none⟩) (fun _ => rfl) _); have p0 := cell_obj hb7 0 (.int .i64 o) rfl; have p1 := cell_obj hb7 1 (.slice none 0 0) rfl; have p2 := cell_obj hb7 2 (.slice pa nP pc) rfl; have p3 := cell_obj hb7 3 (.slice a3 n3 d3) rfl; have hset5 := Lib.hid (hfinS.out w1 w2 w4 w5 W7 T0' pa pc HG4.out HF1.out HZ12.out HF4.out HO4.out HS5.out Hs5.out hf57); have HF57 := Lib.hid hf57; clear hS5 hs5 hb5 hb6 hf56 hf57)
    | (go_at_call 53; refine hset5.out.mono ?_; rintro e w8 ⟨rfl, hS6, hf6⟩; have HS6 := Lib.hid hS6; have HF6 := Lib.hid hf6; clear hS6 hf6)
    | (go_at_call 54; refine (hfinC.out w1 w4 w5 W7 w8 T0' HF1.out HF4.out Hs5.out HF57.out HF6.out).mono ?_; rintro e w9 ⟨v9, rfl, ho9, hf9⟩; obtain ⟨ra, rc, rfl⟩ := row_slice ho9; have HO9 := Lib.hid ho9; have HF9 := Lib.hid hf9; clear ho9 hf9))
  go_ret2
  rw [hR.out]
  have hlt := HSB.out.lt
  have z1 := HF1.out.size; have z12 := HZ12.out; have z4 := HF4.out.size; have z5 := Hs5.out.1.size; have z6 := HF57.out.size; have z7 := HF6.out.size; have z34 := HG4.out.size
  have hS7 := HS6.out.keep HF9.out (fun _ _ e => e)
  have hFk : ∀ p ∈ he, okS p.1 ∧ okI p.2 := fun p hp => il_okm' HHD.out.lh.1 hp
  have ho9 := HO9.out
  rw [← HN1.out] at ho9
  have hi7 := Il.own ho9 hFk
  have hlt6 := HS6.out.lt
  refine ⟨_, T0', _, _, rfl, hS7, setE_map _ _, by rw [HN1.out] at hi7; exact hi7.1, fun b hb => ?_, ?_, fun b hb => ?_, fun b hb => ?_⟩
  · have := hi7.2 b (by rw [HN1.out]; exact hb)
    exact ⟨by omega, this.2, fun e => by have := hlt6 b (.inr (.inr (.inl e))); omega, fun e => by have := hlt6 b (.inr (.inr (.inr e))); omega⟩
  · exact (((HF4.out.mono (fun _ _ e => e.elim)).trans' (Hs5.out.1.mono (fun _ _ e => .inl e)) (fun _ _ e => e)).trans' (HF57.out.mono (S' := fun b => b = w1.heap.size) (fun _ _ e => e)) (fun b hb e => by omega)).trans' ((HF6.out.mono (fun _ _ e => .inr e)).trans (HF9.out.mono (fun _ _ e => e.elim))) (fun _ _ e => e)
  · rcases Hs5.out.2 b hb with e | e
    · exact .inl e
    · exact .inr (by omega)
  · rcases hb with e | e
    · exact .inl e
    · exact .inr (by omega)
end Go.Proofs.YtmflpeklalgibaaGreat

namespace Go.Proofs.YtmflpeklalgibaaGreat
open Go.RowKit Go.Maps
end Go.Proofs.YtmflpeklalgibaaGreat

namespace Go.Proofs.YtmflpeklalgibaaGreat
open Go.RowKit Go.Maps
theorem hmvS_of (W : World) (b : Nat) : Calls Tryz.prog 58 #[.pointer (some ⟨b, 0, none⟩)] W fun e w' => e = .returned (.tuple #[.pointer (some ⟨b, 2, none⟩), .pointer (some ⟨b, 3, none⟩)]) ∧ Fr (fun _ => False) W w' := by
  go_enter Tryz.func58, Tryz.ntmps58
  go_wp2_with fail
  refine wp_region_fr (by kernel_rfl) (by kernel_rfl) ?_
  repeat (go_big_quiet_step (fail))
  refine wpQuiet_nil ?_
  rintro _ ⟨⟨W2, hf2⟩, rfl⟩
  go_wp2_with fail
  go_ret2
  exact ⟨rfl, hf2⟩
set_option maxRecDepth 100000 in
set_option maxHeartbeats 16000000 in
theorem hmvS (w : World) (g gs m : Nat) (T0 TB : Nat → Prop) (A : Stk) (l : List (Int × HV)) (o : Int) (h : SB w g gs m T0 TB A l) (hA : SOk A) (ho : okI o) (hll : l.length ≤ 1000000) (hk : ∀ p ∈ mapE l, HEok p.1 p.2) :
    Calls Tryz.prog 55 #[.pointer (some ⟨g, 0, none⟩), .int .i64 o, .int .i64 6, .func (.func 58) #[] #[]] w fun e w' => ∃ v' T0' TB' l', e = .returned (.tuple #[v', .int .i64 (moveS A (mapE l) o 6 1 (some 2)).1.2]) ∧ SB w' g gs m T0' TB' (moveS A (mapE l) o 6 1 (some 2)).2.1 l' ∧ mapE l' = (moveS A (mapE l) o 6 1 (some 2)).2.2 ∧
      Il w' v' (moveS A (mapE l) o 6 1 (some 2)).1.1 ∧ (∀ b, v'.ownBlock = some b → w.heap.size ≤ b ∧ b < w'.heap.size ∧ ¬ T0' b ∧ ¬ TB' b) ∧ Shs w w' m T0 TB T0' TB' := by
  obtain ⟨R, hR'⟩ : ∃ R, moveS A (mapE l) o 6 1 (some 2) = R := ⟨_, rfl⟩
  have hRd : R = moveS A (mapE l) o 6 1 (some 2) := hR'.symm
  rw [hR']
  unfold moveS at hRd
  have HSB := Lib.hid h
  obtain ⟨c0, c1⟩ := h.cells
  have hm := Lib.hid (hmay w g m o c1)
  have hgc : Hid (∀ W, Fr (fun _ => False) w W → W.cell? ⟨g, 0, none⟩ = some (.pointer (some ⟨gs, 0, none⟩)) ∧ W.cell? ⟨g, 1, none⟩ = some (.map (some m))) := Lib.hid (fun W hf => (HSB.out.keep hf (fun _ _ e => e)).cells)
  have hhd := h.hold ho
  have hln0 := heOf_len hk o
  have hmy0 := heOf_may hk o
  rw [heOf_map] at hRd hln0 hmy0
  have hh := hhold w g gs m T0 TB A l o h ho
  obtain ⟨⟨xo, xh, xp, xs, he, pi, sh⟩, hX⟩ : ∃ X, holdOf l o = X := ⟨_, rfl⟩
  rw [hX] at hhd hh hRd hln0 hmy0
  obtain ⟨a1, d1, e1⟩ := hhd.1.lh.1.sl
  obtain ⟨a2, d2, e2⟩ := hhd.1.lp.1.sl
  obtain ⟨a3, d3, e3⟩ := hhd.1.ls.1.sl
  have hxo := hhd.2.symm
  dsimp only at e1 e2 e3 hxo
  subst e1 e2 e3 hxo
  simp only [HV.enc, HV.e, HE.get, HE.set] at hh hRd hln0 hmy0
  obtain ⟨n1, hn1⟩ : ∃ n, he.length = n := ⟨_, rfl⟩
  obtain ⟨n2, hn2⟩ : ∃ n, pi.length = n := ⟨_, rfl⟩
  obtain ⟨n3, hn3⟩ : ∃ n, sh.length = n := ⟨_, rfl⟩
  have HN1 := Lib.hid hn1; have HN2 := Lib.hid hn2; have HN3 := Lib.hid hn3; have HLN := Lib.hid hln0
  have HHD0 := hhd.1
  rw [hn1, hn2, hn3] at HHD0 hh
  have HHD := Lib.hid HHD0
  have HLL : Hid (l.length ≤ 1000000) := Lib.hid hll
  have hDo0 : ∀ W, Fr (fun _ => False) w W → Calls Tryz.prog 52 #[.pointer (some ⟨gs, 0, none⟩), .int .i64 6, .slice a2 n2 d2] W fun e w' => e = .returned (.int .i64 (doS A 6 pi).1) ∧ ∃ T0', SB w' g gs m T0' TB (doS A 6 pi).2 l ∧ Stp T0 W w' T0' := fun W hf => by
    have hW := HSB.out.keep hf (fun _ _ e => e)
    refine (sDo W gs T0 A 6 _ pi hW.stk hA (HHD.out.lp.1.keep hf (fun _ _ _ e => e))).mono ?_
    rintro e w' ⟨rfl, T0', h1, h2⟩
    exact ⟨rfl, T0', hW.stock h1 h2, h2⟩
  have hDA1 := doS_no (A := A) (k := 6) (L := pi)
  obtain ⟨⟨de, D⟩, hD⟩ : ∃ D, doS A 6 pi = D := ⟨_, rfl⟩
  rw [hD] at hDo0 hDA1
  simp only [hD] at hRd
  have hDA0 : de ≠ 0 → D = A := hDA1
  have hPl0 := fun W (hf : Fr (fun _ => False) w W) => iPlus W (.slice a3 n3 d3) (.slice a2 n2 d2) sh pi (HHD.out.ls.1.keep hf (fun _ _ _ e => e)) (HHD.out.lp.1.keep hf (fun _ _ _ e => e))
  obtain ⟨⟨P, pe⟩, hP⟩ : ∃ P, plusF sh pi = P := ⟨_, rfl⟩
  rw [hP] at hPl0
  simp only [hP] at hRd
  have HP := Lib.hid hP
  obtain ⟨nP, hnP⟩ : ∃ n, P.length = n := ⟨_, rfl⟩
  have hPN := Lib.hid hnP
  have hPl := Lib.hid hPl0
  clear hPl0 hP hnP
  have hnbT : Hid (∀ b, w.heap.size ≤ b → ¬ T0 b) := Lib.hid (fun b hb e => by have := h.stk.lt b e; omega)
  have hh := Lib.hid hh
  have hDo2 := Lib.hid hDo0
  clear h c0 c1 hR' hhd hX hD hmy0 hk hDo0 HHD0 hDA1 hln0 hll
  by_cases hq1 : mayO o = 0
  case neg =>
    rw [if_pos hq1] at hRd
    have hR := Lib.hid hRd
    have q1 : (mayO o != 0) = true := by simpa using hq1
    clear hRd
    go_enter Tryz.func55, Tryz.ntmps55
    go_wp2_with (go_at_call 48; refine hm.out.mono ?_; rintro e w0 ⟨rfl, rfl⟩)
    go_ret2
    rw [hR.out]
    exact ⟨_, T0, TB, l, rfl, HSB.out, rfl, il_nil _, fun b hb => (by cases hb), Fr.refl _ _, fun b hb => .inl hb, fun b hb => .inl hb⟩
  rw [if_neg (by simpa using hq1)] at hRd
  rw [hq1] at hm
  clear hq1
  by_cases hq4 : pi = []
  case pos =>
    rw [if_pos hq4] at hRd
    have hR := Lib.hid hRd
    have hz0 : n2 = 0 := by rw [← hn2, hq4]; rfl
    have hz1 : ((n2 : Int) == 0) = true := by simp; omega
    clear hRd hn2 hq4 hz0
    go_enter Tryz.func55, Tryz.ntmps55
    go_wp2_with (first
      | (go_at_call 48; refine hm.out.mono ?_; rintro e w0 ⟨rfl, rfl⟩)
      | (go_at_call 49; refine hh.out.mono ?_; rintro e w1 ⟨rfl, hf1⟩; have HF1 := Lib.hid hf1; clear hf1)
      | (go_at_call 58; refine (hmvS_of _ _).mono ?_; rintro e w2 ⟨rfl, hf2⟩; have hb2 := hf2.at_ (heap_at (w := w1) rfl (.cells #[.int .i64 o, .slice a1 n1 d1, .slice a2 n2 d2, .slice a3 n3 d3] 54)) (fun e => e); have HB2 := Lib.hid hb2; have y0 := cell_obj hb2 0 (.int .i64 o) rfl; have y1 := cell_obj hb2 1 (.slice a1 n1 d1) rfl; have y2 := cell_obj hb2 2 (.slice a2 n2 d2) rfl; have y3 := cell_obj hb2 3 (.slice a3 n3 d3) rfl; have HZ12 : Hid (w1.heap.size + 1 ≤ w2.heap.size) := Lib.hid (by have := hf2.size; rw [World.size_alloc] at this; exact this); have HF2 := Lib.hid ((HF1.out.alloc _).trans hf2); obtain ⟨g0, g1⟩ := hgc.out _ HF2.out; clear hf2 hb2))
    go_ret2
    rw [hR.out]
    exact ⟨_, T0, TB, l, rfl, HSB.out.keep HF2.out (fun _ _ e => e), rfl, il_nil _, fun b hb => (by cases hb), HF2.out.mono (fun _ _ e => e.elim), fun b hb => .inl hb, fun b hb => .inl hb⟩
  rw [if_neg hq4] at hRd
  have hF0 : 0 < n2 := by
    rcases Nat.eq_zero_or_pos n2 with h0 | h0
    · exact absurd (List.eq_nil_of_length_eq_zero (hn2.trans h0)) hq4
    · exact h0
  have hF1 : ((n2 : Int) == 0) = false := by simp; omega
  clear hn1 hn2 hn3 hq4
  (try dsimp only at hRd)
  by_cases hq6 : pe = 0
  case neg =>
    rw [if_pos hq6] at hRd
    have hR := Lib.hid hRd
    have q6 : (pe == 0) = false := by simpa using hq6
    have q7 : (pe != 0) = true := by simpa using hq6
    clear hRd hq6
    go_enter Tryz.func55, Tryz.ntmps55
    go_wp2_with (first
      | (go_at_call 48; refine hm.out.mono ?_; rintro e w0 ⟨rfl, rfl⟩)
      | (go_at_call 49; refine hh.out.mono ?_; rintro e w1 ⟨rfl, hf1⟩; have HF1 := Lib.hid hf1; clear hf1)
      | (go_at_call 58; refine (hmvS_of _ _).mono ?_; rintro e w2 ⟨rfl, hf2⟩; have hb2 := hf2.at_ (heap_at (w := w1) rfl (.cells #[.int .i64 o, .slice a1 n1 d1, .slice a2 n2 d2, .slice a3 n3 d3] 54)) (fun e => e); have HB2 := Lib.hid hb2; have y0 := cell_obj hb2 0 (.int .i64 o) rfl; have y1 := cell_obj hb2 1 (.slice a1 n1 d1) rfl; have y2 := cell_obj hb2 2 (.slice a2 n2 d2) rfl; have y3 := cell_obj hb2 3 (.slice a3 n3 d3) rfl; have HZ12 : Hid (w1.heap.size + 1 ≤ w2.heap.size) := Lib.hid (by have := hf2.size; rw [World.size_alloc] at this; exact this); have HF2 := Lib.hid ((HF1.out.alloc _).trans hf2); obtain ⟨g0, g1⟩ := hgc.out _ HF2.out; clear hf2 hb2)
      | (go_at_call 51; refine (hPl.out _ HF2.out).mono ?_; rintro e w4 ⟨v4, rfl, ho4, hf4⟩; obtain ⟨pa, pc, rfl⟩ := row_slice ho4; (try rw [hPN.out]); have HO4 := Lib.hid ho4; have HG4 := Lib.hid hf4; have HF4 := Lib.hid (HF2.out.trans hf4); have hb4 := hf4.at_ HB2.out (fun e => e); have HB4 := Lib.hid hb4; have z0 := cell_obj hb4 0 (.int .i64 o) rfl; have z1 := cell_obj hb4 1 (.slice a1 n1 d1) rfl; have z2 := cell_obj hb4 2 (.slice a2 n2 d2) rfl; have z3 := cell_obj hb4 3 (.slice a3 n3 d3) rfl; obtain ⟨g6, g7⟩ := hgc.out _ HF4.out; clear ho4 hf4 hb4))
    go_ret2
    rw [hR.out]
    exact ⟨_, T0, TB, l, rfl, HSB.out.keep HF4.out (fun _ _ e => e), rfl, il_nil _, fun b hb => (by cases hb), HF4.out.mono (fun _ _ e => e.elim), fun b hb => .inl hb, fun b hb => .inl hb⟩
  rw [if_neg (by simpa using hq6)] at hRd
  subst hq6
  by_cases hq7 : de = 0
  case neg =>
    rw [if_pos hq7] at hRd
    have hR := Lib.hid hRd
    have q7 : (de != 0) = true := by simpa using hq7
    have hDA : Hid (D = A) := Lib.hid (hDA0 hq7)
    clear hRd
    go_enter Tryz.func55, Tryz.ntmps55
    go_wp2_with (first
      | (go_at_call 48; refine hm.out.mono ?_; rintro e w0 ⟨rfl, rfl⟩)
      | (go_at_call 49; refine hh.out.mono ?_; rintro e w1 ⟨rfl, hf1⟩; have HF1 := Lib.hid hf1; clear hf1)
      | (go_at_call 58; refine (hmvS_of _ _).mono ?_; rintro e w2 ⟨rfl, hf2⟩; have hb2 := hf2.at_ (heap_at (w := w1) rfl (.cells #[.int .i64 o, .slice a1 n1 d1, .slice a2 n2 d2, .slice a3 n3 d3] 54)) (fun e => e); have HB2 := Lib.hid hb2; have y0 := cell_obj hb2 0 (.int .i64 o) rfl; have y1 := cell_obj hb2 1 (.slice a1 n1 d1) rfl; have y2 := cell_obj hb2 2 (.slice a2 n2 d2) rfl; have y3 := cell_obj hb2 3 (.slice a3 n3 d3) rfl; have HZ12 : Hid (w1.heap.size + 1 ≤ w2.heap.size) := Lib.hid (by have := hf2.size; rw [World.size_alloc] at this; exact this); have HF2 := Lib.hid ((HF1.out.alloc _).trans hf2); obtain ⟨g0, g1⟩ := hgc.out _ HF2.out; clear hf2 hb2)
      | (go_at_call 51; refine (hPl.out _ HF2.out).mono ?_; rintro e w4 ⟨v4, rfl, ho4, hf4⟩; obtain ⟨pa, pc, rfl⟩ := row_slice ho4; (try rw [hPN.out]); have HO4 := Lib.hid ho4; have HG4 := Lib.hid hf4; have HF4 := Lib.hid (HF2.out.trans hf4); have hb4 := hf4.at_ HB2.out (fun e => e); have HB4 := Lib.hid hb4; have z0 := cell_obj hb4 0 (.int .i64 o) rfl; have z1 := cell_obj hb4 1 (.slice a1 n1 d1) rfl; have z2 := cell_obj hb4 2 (.slice a2 n2 d2) rfl; have z3 := cell_obj hb4 3 (.slice a3 n3 d3) rfl; obtain ⟨g6, g7⟩ := hgc.out _ HF4.out; clear ho4 hf4 hb4)
      | (go_at_call 52; refine (hDo2.out _ HF4.out).mono ?_; rintro e w5 ⟨rfl, T0', hS5, hs5⟩; have HS5 := Lib.hid hS5; have Hs5 := Lib.hid hs5; clear hS5 hs5))
    go_ret2
    rw [hR.out]
    have hS5 := HS5.out
    rw [hDA.out] at hS5
    exact ⟨_, T0', TB, l, rfl, hS5, rfl, il_nil _, fun b hb => (by cases hb), (HF4.out.mono (fun _ _ e => e.elim)).trans' (Hs5.out.1.mono (fun _ _ e => .inl e)) (fun _ _ e => e), fun b hb => (Hs5.out.2 b hb).imp id (fun e => Nat.le_trans HF4.out.size e), fun b hb => .inl hb⟩
  rw [if_neg (by simpa using hq7)] at hRd
  subst hq7
  have hPk : mayL P = true := (plusF_ok HP.out).1
  have hPr := mayL_all hPk
  have hPok : ∀ p ∈ P, okS p.1 ∧ okI p.2 := fun p hp => by
    have h1 := hPr.row p hp
    have h2 := h1.1
    unfold goodB at h2
    simp only [Bool.and_eq_true, decide_eq_true_eq] at h2
    exact ⟨by unfold okS maxLen; omega, by unfold okI; omega⟩
  have hfinS : Hid (∀ (w1 w2 w4 w5 W7 : World) (T0' : Nat → Prop) (pa : Option Addr) (pc : Nat), Fr (fun _ => False) w2 w4 → Fr (fun _ => False) w w1 → w1.heap.size + 1 ≤ w2.heap.size → Fr (fun _ => False) w w4 → w4.ownsRow w2.heap.size 45 2 (.slice pa P.length pc) P.length (itCs P) → SB w5 g gs m T0' TB D l → Stp T0 w4 w5 T0' → Fr (fun b => b = w1.heap.size) w5 W7 →
      Calls Tryz.prog 53 #[.pointer (some ⟨g, 0, none⟩), .agg #[.int .i64 o, .slice a1 n1 d1, .slice none 0 0, .slice pa nP pc]] W7 fun e w6 => e = .returned (.tuple #[]) ∧ SB w6 g gs m T0' (fun b => TB b ∨ (w2.heap.size ≤ b ∧ b < w4.heap.size)) D (setH l ⟨o, .slice a1 n1 d1, .slice none 0 0, .slice pa nP pc, he, [], P⟩) ∧ Fr (fun b => b = m) W7 w6) := Lib.hid (fun w1 w2 w4 w5 W7 T0' pa pc h34 hf1 hz hf4 ho hs hst hf5 => by
    have hsb := HSB.out
    have hlt := hsb.lt
    have z1 := hf1.size; have z4 := hf4.size; have z5 := hst.1.size; have z6 := hf5.size; have z34 := h34.size
    have hin : ∀ b, (b = g ∨ b = m ∨ T0' b ∨ TB b) → ¬ b = w1.heap.size := fun b hb e => by
      rcases hb with hb | hb | hb | hb
      · have := hlt b (.inl hb); omega
      · have := hlt b (.inr (.inl hb)); omega
      · rcases hst.2 b hb with hb | hb
        · have := hlt b (.inr (.inr (.inl hb))); omega
        · omega
      · have := hlt b (.inr (.inr (.inr hb))); omega
    have hS5 := hs.keep hf5 hin
    have hF : Fr (fun b => T0 b ∨ b = w1.heap.size) w W7 := ((hf4.mono (fun _ _ e => e.elim)).trans' (hst.1.mono (fun _ _ e => .inl e)) (fun _ _ e => e)).trans' (hf5.mono (fun _ _ e => .inr e)) (fun _ _ e => e)
    have hk1 : HOk W7 TB ⟨o, .slice a1 n1 d1, .slice a2 n2 d2, .slice a3 n3 d3, he, pi, sh⟩ := HHD.out.keep hF (fun b hb e => by
      rcases e with e | e
      · exact hsb.nb b hb e
      · exact hin b (.inr (.inr (.inr hb))) e)
    have hnil : ∀ TB : Nat → Prop, Lb W7 TB (.slice none 0 0) [] := fun TB => ⟨il_nil _, fun e => absurd rfl e⟩
    have hl0 := HLN.out; have hl1 := HN1.out; have hl2 := HN2.out; have hl3 := HN3.out
    have hi4 := (Il.own ho hPok)
    have hlP : Lb W7 (fun b => TB b ∨ (w2.heap.size ≤ b ∧ b < w4.heap.size)) (.slice pa nP pc) P := by
      have hfa : Fr (fun b => T0 b ∨ b = w1.heap.size) w4 W7 := (hst.1.mono (fun _ _ e => .inl e)).trans' (hf5.mono (fun _ _ e => .inr e)) (fun _ _ e => e)
      have h1 := hi4.1.keep hfa (fun _ b hb e => by
        have := hi4.2 b hb
        rcases e with e | e
        · have := hlt b (.inr (.inr (.inl e))); omega
        · omega)
      rw [hPN.out] at h1
      refine ⟨h1, fun _ b hb => .inr ?_⟩
      have := hi4.2 b (by rw [hPN.out]; exact hb)
      omega
    have hln := hPr.len
    have HTB : ∀ b, TB b → TB b ∨ (w2.heap.size ≤ b ∧ b < w4.heap.size) := fun b hb => .inl hb
    refine hset W7 g gs m T0' TB _ D l ⟨o, .slice a1 n1 d1, .slice none 0 0, .slice pa nP pc, he, [], P⟩ hS5 HTB ⟨hk1.o, hk1.lh.mono HTB, hnil _, hlP⟩ (fun b hb => ?_) HLL.out (by dsimp only [List.length_nil]; omega)
    rcases hb with hb | hb
    · have hb1 := hsb.ltb b hb
      refine ⟨by omega, fun e => ?_, fun e => hsb.ng.2.1 (e ▸ hb), fun e => hsb.nm.2 (e ▸ hb)⟩
      rcases hst.2 b e with e | e
      · exact hsb.nb b hb e
      · omega
    · have hg := hlt g (.inl rfl); have hm' := hlt m (.inr (.inl rfl))
      refine ⟨by omega, fun e => ?_, fun e => by omega, fun e => by omega⟩
      rcases hst.2 b e with e | e
      · have := hlt b (.inr (.inr (.inl e))); omega
      · omega)
  have hfinC : Hid (∀ (w1 w4 w5 W7 w6 : World) (T0' : Nat → Prop), Fr (fun _ => False) w w1 → Fr (fun _ => False) w w4 → Stp T0 w4 w5 T0' → Fr (fun b => b = w1.heap.size) w5 W7 → Fr (fun b => b = m) W7 w6 →
      Calls Tryz.prog 54 #[.slice a2 n2 d2] w6 fun e w' => ∃ v', e = .returned v' ∧ w'.ownsRow w6.heap.size 45 2 v' n2 (itCs pi) ∧ Fr (fun _ => False) w6 w') := Lib.hid (fun w1 w4 w5 W7 w6 T0' hf1 hf4 hst hf5 hf6 => by
    have hsb := HSB.out
    have hlt := hsb.lt
    have z1 := hf1.size
    have hfa : Fr (fun b => T0 b ∨ b = w1.heap.size ∨ b = m) w w6 := (((hf4.mono (fun _ _ e => e.elim)).trans' (hst.1.mono (fun _ _ e => .inl e)) (fun _ _ e => e)).trans' (hf5.mono (fun _ _ e => .inr (.inl e))) (fun _ _ e => e)).trans' (hf6.mono (fun _ _ e => .inr (.inr e))) (fun _ _ e => e)
    have hi6 := HHD.out.lp.keep hfa (fun b hb e => by
      rcases e with e | e | e
      · exact hsb.nb b hb e
      · have := hsb.ltb b hb; omega
      · exact hsb.nm.2 (e ▸ hb))
    have hl0 := HLN.out; have hl1 := HN1.out; have hl2 := HN2.out; have hl3 := HN3.out
    have := itClone w6 _ pi hi6.1 (by omega)
    dsimp only at this
    rw [HN2.out] at this
    exact this)
  have hR := Lib.hid hRd
  clear hRd hDA0 hPk hPr hPok
  go_enter Tryz.func55, Tryz.ntmps55
  go_wp2_with (first
    | (go_at_call 48; refine hm.out.mono ?_; rintro e w0 ⟨rfl, rfl⟩)
    | (go_at_call 49; refine hh.out.mono ?_; rintro e w1 ⟨rfl, hf1⟩; have HF1 := Lib.hid hf1; clear hf1)
    | (go_at_call 58; refine (hmvS_of _ _).mono ?_; rintro e w2 ⟨rfl, hf2⟩; have hb2 := hf2.at_ (heap_at (w := w1) rfl (.cells #[.int .i64 o, .slice a1 n1 d1, .slice a2 n2 d2, .slice a3 n3 d3] 54)) (fun e => e); have HB2 := Lib.hid hb2; have y0 := cell_obj hb2 0 (.int .i64 o) rfl; have y1 := cell_obj hb2 1 (.slice a1 n1 d1) rfl; have y2 := cell_obj hb2 2 (.slice a2 n2 d2) rfl; have y3 := cell_obj hb2 3 (.slice a3 n3 d3) rfl; have HZ12 : Hid (w1.heap.size + 1 ≤ w2.heap.size) := Lib.hid (by have := hf2.size; rw [World.size_alloc] at this; exact this); have HF2 := Lib.hid ((HF1.out.alloc _).trans hf2); obtain ⟨g0, g1⟩ := hgc.out _ HF2.out; clear hf2 hb2)
    | (go_at_call 51; refine (hPl.out _ HF2.out).mono ?_; rintro e w4 ⟨v4, rfl, ho4, hf4⟩; obtain ⟨pa, pc, rfl⟩ := row_slice ho4; (try rw [hPN.out]); have HO4 := Lib.hid ho4; have HG4 := Lib.hid hf4; have HF4 := Lib.hid (HF2.out.trans hf4); have hb4 := hf4.at_ HB2.out (fun e => e); have HB4 := Lib.hid hb4; have z0 := cell_obj hb4 0 (.int .i64 o) rfl; have z1 := cell_obj hb4 1 (.slice a1 n1 d1) rfl; have z2 := cell_obj hb4 2 (.slice a2 n2 d2) rfl; have z3 := cell_obj hb4 3 (.slice a3 n3 d3) rfl; obtain ⟨g6, g7⟩ := hgc.out _ HF4.out; clear ho4 hf4 hb4)
    | (go_at_call 52; refine (hDo2.out _ HF4.out).mono ?_; rintro e w5 ⟨rfl, T0', hS5, hs5⟩; have HS5 := Lib.hid hS5; have Hs5 := Lib.hid hs5; have hb5 := hs5.1.at_ HB4.out (hnbT.out _ HF1.out.size); have f5 := obj_frozen hb5 2; have q0 := cell_obj hb5 0 (.int .i64 o) rfl; have q1 := cell_obj hb5 1 (.slice a1 n1 d1) rfl; have q2 := cell_obj hb5 2 (.slice a2 n2 d2) rfl; have q3 := cell_obj hb5 3 (.slice a3 n3 d3) rfl; obtain ⟨W6, hW6⟩ : ∃ W6, w5.setCell ⟨w1.heap.size, 2, none⟩ (.slice none 0 0) = W6 := ⟨_, rfl⟩; have hb6 := obj_set hb5 2 (.slice none 0 0); rw [hW6] at hb6; have hf56 : Fr (fun b => b = w1.heap.size) w5 W6 := (by rw [← hW6]; exact (Fr.refl (fun b => b = w1.heap.size) _).setCell (p := ⟨w1.heap.size, 2, none⟩) (fun _ => rfl) _); have r0 := cell_obj hb6 0 (.int .i64 o) rfl; have r1 := cell_obj hb6 1 (.slice a1 n1 d1) rfl; have r2 := cell_obj hb6 2 (.slice none 0 0) rfl; have r3 := cell_obj hb6 3 (.slice a3 n3 d3) rfl; have f6 := obj_frozen hb6 3; obtain ⟨W7, hW7⟩ : ∃ W7, W6.setCell ⟨w1.heap.size, 3, none⟩ (.slice pa nP pc) = W7 := ⟨_, rfl⟩; have hb7 := obj_set hb6 3 (.slice pa nP pc); rw [hW7] at hb7; have hf57 : Fr (fun b => b = w1.heap.size) w5 W7 := hf56.trans (by rw [← hW7]; exact (Fr.refl (fun b => b = w1.heap.size) _).setCell (p := ⟨w1.heap.size, 3, none⟩) (fun _ => rfl) _); have p0 := cell_obj hb7 0 (.int .i64 o) rfl; have p1 := cell_obj hb7 1 (.slice a1 n1 d1) rfl; have p2 := cell_obj hb7 2 (.slice none 0 0) rfl; have p3 := cell_obj hb7 3 (.slice pa nP pc) rfl; have hset5 := Lib.hid (hfinS.out w1 w2 w4 w5 W7 T0' pa pc HG4.out HF1.out HZ12.out HF4.out HO4.out HS5.out Hs5.out hf57); have HF57 := Lib.hid hf57; clear hS5 hs5 hb5 hb6 hf56 hf57)
    | (go_at_call 53; refine hset5.out.mono ?_; rintro e w8 ⟨rfl, hS6, hf6⟩; have HS6 := Lib.hid hS6; have HF6 := Lib.hid hf6; clear hS6 hf6)
    | (go_at_call 54; refine (hfinC.out w1 w4 w5 W7 w8 T0' HF1.out HF4.out Hs5.out HF57.out HF6.out).mono ?_; rintro e w9 ⟨v9, rfl, ho9, hf9⟩; obtain ⟨ra, rc, rfl⟩ := row_slice ho9; have HO9 := Lib.hid ho9; have HF9 := Lib.hid hf9; clear ho9 hf9))
  go_ret2
  rw [hR.out]
  have hlt := HSB.out.lt
  have z1 := HF1.out.size; have z12 := HZ12.out; have z4 := HF4.out.size; have z5 := Hs5.out.1.size; have z6 := HF57.out.size; have z7 := HF6.out.size; have z34 := HG4.out.size
  have hS7 := HS6.out.keep HF9.out (fun _ _ e => e)
  have hFk : ∀ p ∈ pi, okS p.1 ∧ okI p.2 := fun p hp => il_okm' HHD.out.lp.1 hp
  have ho9 := HO9.out
  rw [← HN2.out] at ho9
  have hi7 := Il.own ho9 hFk
  have hlt6 := HS6.out.lt
  refine ⟨_, T0', _, _, rfl, hS7, setE_map _ _, by rw [HN2.out] at hi7; exact hi7.1, fun b hb => ?_, ?_, fun b hb => ?_, fun b hb => ?_⟩
  · have := hi7.2 b (by rw [HN2.out]; exact hb)
    exact ⟨by omega, this.2, fun e => by have := hlt6 b (.inr (.inr (.inl e))); omega, fun e => by have := hlt6 b (.inr (.inr (.inr e))); omega⟩
  · exact (((HF4.out.mono (fun _ _ e => e.elim)).trans' (Hs5.out.1.mono (fun _ _ e => .inl e)) (fun _ _ e => e)).trans' (HF57.out.mono (S' := fun b => b = w1.heap.size) (fun _ _ e => e)) (fun b hb e => by omega)).trans' ((HF6.out.mono (fun _ _ e => .inr e)).trans (HF9.out.mono (fun _ _ e => e.elim))) (fun _ _ e => e)
  · rcases Hs5.out.2 b hb with e | e
    · exact .inl e
    · exact .inr (by omega)
  · rcases hb with e | e
    · exact .inl e
    · exact .inr (by omega)
end Go.Proofs.YtmflpeklalgibaaGreat

namespace Go.Proofs.YtmflpeklalgibaaGreat
open Go
section
variable {P : Program} {md : Region.Mode} {l : List Oper} {z : Oper} {C : World → Prop}
/-- Each operation waits for earlier ones only. -/
def acyB (md : Region.Mode) (ops : Array Oper) : Bool := (List.range ops.size).all fun k => match ops[k]? with
  | some o => o.after.all fun e => !Region.binds md e || decide (e.on < k)
  | none => true
theorem ready_some {ops : Array Oper} {listed : Array Bool} (ha : acyB md ops = true) (hs : listed.size = ops.size) : ∀ (n k : Nat), k < ops.size → k ≤ n → listed.getD k true = false → Region.ready md ops listed ≠ []
  | n, k, hk, hn, hu => by
    by_cases hall : ∀ j, j < k → listed.getD j false = true
    · intro e
      have : k ∈ Region.ready md ops listed := by
        refine mem_ready.2 ⟨hu, ops[k], Array.getElem?_eq_getElem hk, fun e he hb => ?_⟩
        have h1 := List.all_eq_true.1 ha k (List.mem_range.2 hk)
        rw [Array.getElem?_eq_getElem hk] at h1
        obtain ⟨i, hi, rfl⟩ := Array.mem_iff_getElem.1 he
        have h2 := Array.all_eq_true.1 h1 i hi
        simp only [hb, Bool.not_true, Bool.false_or, decide_eq_true_eq] at h2
        exact hall _ h2
      rw [e] at this; cases this
    · cases n with
      | zero => exact absurd (fun j hj => by omega) hall
      | succ n =>
        have : ∃ j, j < k ∧ listed.getD j false ≠ true := Classical.byContradiction fun h => hall fun j hj => Classical.byContradiction fun hne => h ⟨j, hj, hne⟩
        obtain ⟨j, hj, hne⟩ := this
        refine ready_some ha hs n j (by omega) (by omega) ?_
        exact getD_in (by omega) (by simpa using hne)
end
end Go.Proofs.YtmflpeklalgibaaGreat

namespace Go.Proofs.YtmflpeklalgibaaGreat
open Go Go.RowKit
/-- A box: which operation lays it, in which slot, its type, its first cells; which operation stores there, out of which slot. -/
structure Bx where
  ia : Nat
  d : Tmp
  T : TypeId
  z : Array Value
  st : Nat
  s : Tmp
def idleU (o : Oper) : Oper := { o with op := .assign (.const undef) }
def boxedF (idx : List Nat) : Nat → List Oper → List Oper
  | _, [] => []
  | i, o :: r => (if idx.contains i then idleU o else o) :: boxedF idx (i + 1) r
def bxIdx (bx : List Bx) : List Nat := bx.flatMap fun b => [b.ia, b.st]
theorem boxedF_get (idx : List Nat) : ∀ (l : List Oper) (k i : Nat), (boxedF idx k l)[i]? = (l[i]?).map fun o => if idx.contains (k + i) then idleU o else o
  | [], _, _ => by simp [boxedF]
  | o :: r, k, 0 => by simp [boxedF]
  | o :: r, k, i + 1 => by
    simp only [boxedF, List.getElem?_cons_succ]
    rw [boxedF_get idx r (k + 1) i, show k + 1 + i = k + (i + 1) by omega]
section
variable {P : Program} {idx : List Nat} {l : List Oper} {md : Region.Mode}
theorem bxd_get (i : Nat) : (boxedF idx 0 l).toArray[i]? = (l.toArray[i]?).map fun o => if idx.contains i then idleU o else o := by
  rw [List.getElem?_toArray, List.getElem?_toArray, boxedF_get, Nat.zero_add]
theorem bxd_len : (boxedF idx 0 l).length = l.length := by
  suffices h : ∀ (l : List Oper) k, (boxedF idx k l).length = l.length from h l 0
  intro l
  induction l with
  | nil => intro k; rfl
  | cons o r ih => intro k; simp [boxedF, ih]
theorem bxd_size : (boxedF idx 0 l).toArray.size = l.toArray.size := by simp [bxd_len]
theorem bxd_after (i : Nat) : ((boxedF idx 0 l).toArray[i]?).map (·.after) = (l.toArray[i]?).map (·.after) := by
  rw [bxd_get]
  cases l.toArray[i]? with
  | none => rfl
  | some o => by_cases h : i ∈ idx <;> simp [h, idleU]
theorem bxd_dst (i : Nat) : ((boxedF idx 0 l).toArray[i]?).bind (·.dst) = (l.toArray[i]?).bind (·.dst) := by
  rw [bxd_get]
  cases l.toArray[i]? with
  | none => rfl
  | some o => by_cases h : i ∈ idx <;> simp [h, idleU]
theorem bxd_ready (listed : Array Bool) : Region.ready md (boxedF idx 0 l).toArray listed = Region.ready md l.toArray listed := by
  unfold Region.ready
  rw [bxd_size]
  refine List.filter_congr fun i _ => ?_
  have h := bxd_after (idx := idx) (l := l) i
  congr 1
  generalize (boxedF idx 0 l).toArray[i]? = x at *
  generalize l.toArray[i]? = y at *
  cases x <;> cases y <;> simp_all
theorem bxd_yielded (ts : Array Value) : yielded (boxedF idx 0 l).toArray ts = yielded l.toArray ts := by
  funext j
  unfold yielded
  rw [bxd_dst]
end
/-- Where all others have been written, the slots are as at the end. -/
theorem fin_at {P : Program} {md : Region.Mode} {ops : Array Oper} {C : World → Prop} {aF : Act} : ∀ (fuel : Nat) (listed : Array Bool) (a : Act), wpAnyQ P md ops C (fun x => x = aF) fuel listed a →
    ∀ t, (∀ (i : Nat) (o : Oper), ops[i]? = some o → listed.getD i true = false → o.dst ≠ some t) → a.tmps[t]? = aF.tmps[t]?
  | 0, _, a, h, t, _ => by have h2 : a = aF := h.2; rw [h2]
  | fuel + 1, listed, a, h, t, ht => by
    cases hr : Region.ready md ops listed with
    | nil => have h2 : a = aF := h.1 hr; rw [h2]
    | cons i r =>
      have hi : i ∈ Region.ready md ops listed := by rw [hr]; exact List.mem_cons_self
      have h1 := h.2 i hi
      obtain ⟨hun, o, ho, _⟩ := mem_ready.1 hi
      obtain ⟨v, _, hK⟩ := yieldsIn_of_qOp ho h1
      have h3 := fin_at fuel _ _ hK t (fun j oj hj hu => ht j oj hj (by
        by_cases e : i = j
        · subst e; exact hun
        · rwa [getD_set_ne true e] at hu))
      rw [← h3]
      have hd := ht i o ho hun
      cases hdd : o.dst with
      | none => rfl
      | some d =>
        have hne : d ≠ t := fun e => hd (by rw [hdd, e])
        simp [Act.put, Array.getElem?_setIfInBounds_ne hne]
def BxNe (b c : Bx) : Prop := b.ia ≠ c.ia ∧ b.ia ≠ c.st ∧ b.st ≠ c.ia ∧ b.st ≠ c.st ∧ b.d ≠ c.d
instance (b c : Bx) : Decidable (BxNe b c) := inferInstanceAs (Decidable (_ ∧ _))
theorem BxNe.symm {b c : Bx} (h : BxNe b c) : BxNe c b := ⟨Ne.symm h.1, Ne.symm h.2.2.1, Ne.symm h.2.1, Ne.symm h.2.2.2.1, Ne.symm h.2.2.2.2⟩
theorem bxNe_all : ∀ {bx : List Bx}, bx.Pairwise BxNe → ∀ b ∈ bx, ∀ c ∈ bx, b = c ∨ BxNe b c
  | [], _, b, hb, _, _ => by cases hb
  | x :: r, h, b, hb, c, hc => by
    obtain ⟨h1, h2⟩ := List.pairwise_cons.1 h
    rcases List.mem_cons.1 hb with hb' | hb' <;> rcases List.mem_cons.1 hc with hc' | hc'
    · exact .inl (hb'.trans hc'.symm)
    · exact .inr (hb' ▸ h1 c hc')
    · exact .inr (hc' ▸ (h1 b hb').symm)
    · exact bxNe_all h2 b hb' c hc'
/-- What is asked of the boxes. -/
def boxB (l : List Oper) (bx : List Bx) : Bool :=
  Region.noSelect l.toArray && decide (bx.Pairwise BxNe) && bx.all (fun b => b.ia != b.st) && acyB .any l.toArray &&
  bx.all (fun b =>
    (match l[b.ia]? with
     | some o => (match o.op with | .alloc T => T == b.T | _ => false) && o.dst == some b.d && o.guard.isNone
     | none => false) &&
    (match l[b.st]? with
     | some o => (match o.op with | .store T (.tmp d) (.tmp s) => T == b.T && d == b.d && s == b.s | _ => false) && o.dst.isNone && o.guard.isNone &&
        o.after.any (fun e => Region.binds .any e && e.on == b.ia) && o.after.any (fun e => Region.binds .any e && (match l[e.on]? with | some x => x.dst == some b.s | none => false))
     | none => false) &&
    bx.all (fun c => b.s != c.d)) &&
  (List.range l.length).all (fun i => (bxIdx bx).contains i || (match l[i]? with | some o => bx.all (fun b => !(o.looksAt l.toArray).contains b.d && o.dst != some b.d) | none => true)) &&
  (List.range l.length).all (fun i => (List.range l.length).all fun j => i == j || (match l[i]?, l[j]? with | some x, some y => x.dst.isNone || x.dst != y.dst | _, _ => true))
structure BxOk (l : List Oper) (bx : List Bx) : Prop where
  sel : Region.noSelect l.toArray = true
  ds : ∀ b ∈ bx, ∀ c ∈ bx, b = c ∨ BxNe b c
  dd : ∀ b ∈ bx, b.ia ≠ b.st
  acy : acyB .any l.toArray = true
  al : ∀ b ∈ bx, ∃ o, l[b.ia]? = some o ∧ o.op = .alloc b.T ∧ o.dst = some b.d ∧ o.guard = none
  st : ∀ b ∈ bx, ∃ o, l[b.st]? = some o ∧ o.op = .store b.T (.tmp b.d) (.tmp b.s) ∧ o.dst = none ∧ o.guard = none ∧ (∃ e ∈ o.after, Region.binds .any e = true ∧ e.on = b.ia) ∧ ∃ e ∈ o.after, Region.binds .any e = true ∧ ∃ x, l[e.on]? = some x ∧ x.dst = some b.s
  sd : ∀ b ∈ bx, ∀ c ∈ bx, b.s ≠ c.d
  ap : ∀ (i : Nat) (o : Oper), l[i]? = some o → i ∉ bxIdx bx → ∀ b ∈ bx, b.d ∉ o.looksAt l.toArray ∧ o.dst ≠ some b.d
  un : ∀ (i j : Nat) (x y : Oper) (t : Tmp), l[i]? = some x → l[j]? = some y → x.dst = some t → y.dst = some t → i = j
theorem boxB_ok {l : List Oper} {bx : List Bx} (h : boxB l bx = true) : BxOk l bx := by
  unfold boxB at h
  simp only [Bool.and_eq_true, List.all_eq_true, decide_eq_true_eq] at h
  obtain ⟨⟨⟨⟨⟨⟨h1, h2⟩, h3⟩, h4⟩, h5⟩, h6⟩, h7⟩ := h
  refine ⟨h1, bxNe_all h2, fun b hb => by simpa using h3 b hb, h4, fun b hb => ?_, fun b hb => ?_, fun b hb c hc => ?_, fun i o hi hn b hb => ?_, fun i j x y t hi hj hx hy => ?_⟩
  · have := (h5 b hb).1.1
    cases ho : l[b.ia]? with
    | none => rw [ho] at this; cases this
    | some o =>
      rw [ho] at this
      simp only [Bool.and_eq_true, beq_iff_eq, Option.isNone_iff_eq_none] at this
      obtain ⟨⟨g1, g2⟩, g3⟩ := this
      refine ⟨o, rfl, ?_, g2, g3⟩
      cases hop : o.op <;> rw [hop] at g1 <;> simp at g1
      rw [g1]
  · have := (h5 b hb).1.2
    cases ho : l[b.st]? with
    | none => rw [ho] at this; cases this
    | some o =>
      rw [ho] at this
      simp only [Bool.and_eq_true, beq_iff_eq, Option.isNone_iff_eq_none, Array.any_eq_true] at this
      obtain ⟨⟨⟨⟨g1, g2⟩, g3⟩, ⟨i, hi, g4⟩⟩, ⟨j, hj, g5⟩⟩ := this
      refine ⟨o, rfl, ?_, g2, g3, ⟨_, Array.getElem_mem hi, ?_, ?_⟩, ⟨_, Array.getElem_mem hj, ?_, ?_⟩⟩
      · revert g1
        split
        · rename_i T d s hop
          intro g1
          simp only [Bool.and_eq_true, beq_iff_eq] at g1
          obtain ⟨⟨rfl, rfl⟩, rfl⟩ := g1
          exact hop
        · intro g1; cases g1
      · exact g4.1
      · exact g4.2
      · exact g5.1
      · have g6 := g5.2
        cases hx : l[(o.after[j]).on]? with
        | none => rw [hx] at g6; cases g6
        | some x => rw [hx] at g6; exact ⟨x, rfl, by simpa using g6⟩
  · have := (h5 b hb).2 c hc
    simpa using this
  · have hil := (List.getElem?_eq_some_iff.1 hi).1
    have := h6 i (List.mem_range.2 hil)
    rw [hi] at this
    simp only [Bool.or_eq_true, List.contains_iff_mem, List.all_eq_true, Bool.and_eq_true] at this
    rcases this with h | h
    · exact absurd (by simpa using h) hn
    · have := h b hb
      simp at this
      exact ⟨this.1, this.2⟩
  · have hil := (List.getElem?_eq_some_iff.1 hi).1
    have hjl := (List.getElem?_eq_some_iff.1 hj).1
    have := h7 i (List.mem_range.2 hil) j (List.mem_range.2 hjl)
    rw [hi, hj] at this
    simp only [Bool.or_eq_true, beq_iff_eq] at this
    rcases this with h | h
    · exact h
    · rw [hx, hy] at h; simp at h
theorem put_out {a : Act} {dst : Option Tmp} {v : Value} {t : Nat} (h : dst ≠ some t) : (a.put dst v).tmps[t]? = a.tmps[t]? := by
  cases dst with
  | none => rfl
  | some d =>
    have hne : d ≠ t := fun e => h (by rw [e])
    simp [Act.put, Array.getElem?_setIfInBounds_ne hne]
theorem put_at {a : Act} {v : Value} {t : Nat} (h : t < a.tmps.size) : (a.put (some t) v).tmps[t]? = some v := by simp [Act.put, h]
theorem put_size {a : Act} {dst : Option Tmp} {v : Value} : (a.put dst v).tmps.size = a.tmps.size := by cases dst <;> simp [Act.put]
theorem put_dfr {a : Act} {dst : Option Tmp} {v : Value} : (a.put dst v).defers = a.defers := by cases dst <;> rfl
theorem put_same {a a' : Act} {dst : Option Tmp} {v : Value} {t : Nat} (h : a.tmps[t]? = a'.tmps[t]?) (hs : a.tmps.size = a'.tmps.size) : (a.put dst v).tmps[t]? = (a'.put dst v).tmps[t]? := by
  by_cases e : dst = some t
  · subst e
    by_cases ht : t < a.tmps.size
    · rw [put_at ht, put_at (by omega)]
    · rw [Array.getElem?_eq_none (by rw [put_size]; omega), Array.getElem?_eq_none (by rw [put_size]; omega)]
  · rw [put_out e, put_out e]; exact h
theorem act_ext {a b : Act} (h1 : a.defers = b.defers) (h2 : ∀ t : Nat, a.tmps[t]? = b.tmps[t]?) : a = b := by
  obtain ⟨x, y⟩ := a
  obtain ⟨z, u⟩ := b
  have : x = z := by
    apply Array.ext_getElem?
    exact h2
  subst this
  have h1' : y = u := h1
  rw [h1']
theorem look_congr {ops : Array Oper} {o : Oper} {a a' : Act} (hs : ∀ cs b, o.op ≠ .select cs b) (h : ∀ t ∈ o.looksAt ops, a.tmps[t]? = a'.tmps[t]?) :
    execOp a.eval o = execOp a'.eval o ∧ Region.wanted o (yielded ops a.tmps) = Region.wanted o (yielded ops a'.tmps) := by
  constructor
  · refine execOp_congr o hs (fun x hx => ?_)
    cases x with
    | tmp t =>
      have : t ∈ o.looksAt ops := by
        unfold Oper.looksAt
        refine List.mem_append_left _ (List.mem_filterMap.2 ⟨.tmp t, by simpa using hx, rfl⟩)
      simp [Act.eval, h t this]
    | _ => rfl
  · unfold Region.wanted
    cases hg : o.guard with
    | none => rfl
    | some q =>
      obtain ⟨g, want⟩ := q
      have : yielded ops a.tmps g = yielded ops a'.tmps g := by
        unfold yielded
        cases hd : (ops[g]?).bind (·.dst) with
        | none => rfl
        | some t =>
          have hm : t ∈ o.looksAt ops := by
            unfold Oper.looksAt
            refine List.mem_append_right _ ?_
            rw [hg]
            simp [hd]
          simp [h t hm]
      simp [this]
def bPtr (n : Nat) : Value := .pointer (some ⟨n, 0, none⟩)
def bSrc (aF : Act) (b : Bx) : Value := (aF.tmps[b.s]?).getD undef
structure BInv (l : List Oper) (bx : List Bx) (w0 : World) (aF : Act) (listed : Array Bool) (a' a : Act) (n : Nat → Nat) (w : World) : Prop where
  fr : Fr (fun _ => False) w0 w
  df : a.defers = a'.defers
  sz : a.tmps.size = a'.tmps.size
  out : ∀ t : Nat, (∀ b ∈ bx, listed.getD b.ia true = true → b.d ≠ t) → a.tmps[t]? = a'.tmps[t]?
  box : ∀ b ∈ bx, listed.getD b.ia true = true → a.tmps[b.d]? = some (bPtr (n b.ia)) ∧ w0.heap.size ≤ n b.ia ∧ w.heap[n b.ia]? = some (.cells (if listed.getD b.st true = true then (bSrc aF b).cells else b.z) b.T)
  ne : ∀ b ∈ bx, ∀ c ∈ bx, listed.getD b.ia true = true → listed.getD c.ia true = true → n b.ia = n c.ia → b = c
  ord : ∀ b ∈ bx, listed.getD b.st true = true → listed.getD b.ia true = true
  lsz : listed.size = l.length
  bnd : ∀ b ∈ bx, b.d < a.tmps.size
theorem ia_idx {bx : List Bx} {b : Bx} (h : b ∈ bx) : b.ia ∈ bxIdx bx := List.mem_flatMap.2 ⟨b, h, by simp⟩
theorem st_idx {bx : List Bx} {b : Bx} (h : b ∈ bx) : b.st ∈ bxIdx bx := List.mem_flatMap.2 ⟨b, h, by simp⟩
theorem getD_set_same {xs : Array Bool} {i : Nat} (h : i < xs.size) : (xs.setIfInBounds i true).getD i true = true := by simp [h]
/-- A box is laid. -/
theorem BInv.laid {l : List Oper} {bx : List Bx} (ok : BxOk l bx) {w0 : World} {aF : Act} {listed : Array Bool} {a' a : Act} {n : Nat → Nat} {w : World} (h : BInv l bx w0 aF listed a' a n w) {b : Bx} (hb : b ∈ bx) (hu : listed.getD b.ia true = false) (hlt : b.ia < l.length) (v : Value) :
    BInv l bx w0 aF (listed.setIfInBounds b.ia true) (a'.put (some b.d) v) (a.put (some b.d) (bPtr w.heap.size)) (fun i => if i = b.ia then w.heap.size else n i) (w.alloc (.cells b.z b.T)) := by
  have hls := h.lsz
  have hset : (listed.setIfInBounds b.ia true).getD b.ia true = true := getD_set_same (by omega)
  have hst0 : listed.getD b.st true = false := by
    cases e : listed.getD b.st true with
    | false => rfl
    | true => have := h.ord b hb e; rw [hu] at this; cases this
  have hne : b.ia ≠ b.st := ok.dd b hb
  have hst1 : (listed.setIfInBounds b.ia true).getD b.st true = false := by rw [getD_set_ne true hne]; exact hst0
  have old : ∀ c ∈ bx, c ≠ b → (listed.setIfInBounds b.ia true).getD c.ia true = listed.getD c.ia true ∧ (listed.setIfInBounds b.ia true).getD c.st true = listed.getD c.st true ∧ c.d ≠ b.d ∧ c.ia ≠ b.ia := fun c hc hcb => by
    rcases ok.ds b hb c hc with e | ⟨h1, h2, _, _, h5⟩
    · exact absurd e.symm hcb
    · exact ⟨getD_set_ne true h1, getD_set_ne true h2, Ne.symm h5, Ne.symm h1⟩
  refine ⟨h.fr.alloc _, by rw [put_dfr, put_dfr, h.df], by rw [put_size, put_size, h.sz], fun t ht => ?_, fun c hc hl => ?_, fun c hc e he hl hm hn => ?_, fun c hc hl => ?_, by simp [h.lsz], fun c hc => by rw [put_size]; exact h.bnd c hc⟩
  · have h1 : (some b.d : Option Tmp) ≠ some t := fun e => ht b hb hset (by injection e)
    rw [put_out h1, put_out h1]
    refine h.out t (fun c hc hl => ?_)
    by_cases hcb : c = b
    · rw [hcb, hu] at hl; cases hl
    · exact ht c hc (by rw [(old c hc hcb).1]; exact hl)
  · by_cases hcb : c = b
    · subst hcb
      refine ⟨by rw [put_at (h.bnd c hc), if_pos rfl], by rw [if_pos rfl]; exact h.fr.size, ?_⟩
      rw [if_pos rfl, hst1, if_neg (by simp)]
      exact heap_new _ _
    · obtain ⟨o1, o2, o3, o4⟩ := old c hc hcb
      rw [o1] at hl
      obtain ⟨h1, h2, h3⟩ := h.box c hc hl
      refine ⟨by rw [put_out (fun e => o3 (by injection e with e; exact e.symm)), if_neg o4]; exact h1, by rw [if_neg o4]; exact h2, ?_⟩
      rw [if_neg o4, o2]
      exact heap_keep h3 _
  · by_cases hcb : c = b <;> by_cases heb : e = b
    · rw [hcb, heb]
    · obtain ⟨o1, _, _, o4⟩ := old e he heb
      rw [o1] at hm
      have := (Array.getElem?_eq_some_iff.1 (h.box e he hm).2.2).1
      rw [hcb, if_pos rfl, if_neg o4] at hn
      omega
    · obtain ⟨o1, _, _, o4⟩ := old c hc hcb
      rw [o1] at hl
      have := (Array.getElem?_eq_some_iff.1 (h.box c hc hl).2.2).1
      rw [heb, if_pos rfl, if_neg o4] at hn
      omega
    · obtain ⟨o1, _, _, o4⟩ := old c hc hcb
      obtain ⟨p1, _, _, p4⟩ := old e he heb
      rw [o1] at hl
      rw [p1] at hm
      rw [if_neg o4, if_neg p4] at hn
      exact h.ne c hc e he hl hm hn
  · by_cases hcb : c = b
    · rw [hcb]; exact hset
    · obtain ⟨o1, o2, _, _⟩ := old c hc hcb
      rw [o2] at hl
      rw [o1]
      exact h.ord c hc hl
/-- A box is stored. -/
theorem BInv.stored {l : List Oper} {bx : List Bx} (ok : BxOk l bx) {w0 : World} {aF : Act} {listed : Array Bool} {a' a : Act} {n : Nat → Nat} {w w' : World} (h : BInv l bx w0 aF listed a' a n w) {b : Bx} (hb : b ∈ bx) (hia : listed.getD b.ia true = true) (hlt : b.st < l.length)
    (hc : w'.heap[n b.ia]? = some (.cells (bSrc aF b).cells b.T)) (hf : Fr (fun c => c = n b.ia) w w') (v u : Value) :
    BInv l bx w0 aF (listed.setIfInBounds b.st true) (a'.put none v) (a.put none u) n w' := by
  have hls := h.lsz
  have hset : (listed.setIfInBounds b.st true).getD b.st true = true := getD_set_same (by omega)
  have hia' : ∀ c ∈ bx, (listed.setIfInBounds b.st true).getD c.ia true = listed.getD c.ia true := fun c hc => by
    refine getD_set_ne true ?_
    rcases ok.ds b hb c hc with e | e
    · rw [← e]; exact Ne.symm (ok.dd b hb)
    · exact e.2.2.1
  have hst' : ∀ c ∈ bx, c ≠ b → (listed.setIfInBounds b.st true).getD c.st true = listed.getD c.st true := fun c hc hcb => by
    rcases ok.ds b hb c hc with e | e
    · exact absurd e.symm hcb
    · exact getD_set_ne true e.2.2.2.1
  refine ⟨h.fr.trans' hf (fun x hx e => by have := (h.box b hb hia).2.1; omega), h.df, h.sz, fun t ht => h.out t (fun c hc hl => ht c hc (by rw [hia' c hc]; exact hl)), fun c hcm hl => ?_, fun c hc e he hl hm hn => ?_, fun c hcm hl => ?_, by simp [h.lsz], h.bnd⟩
  · rw [hia' c hcm] at hl
    obtain ⟨h1, h2, h3⟩ := h.box c hcm hl
    refine ⟨h1, h2, ?_⟩
    by_cases hcb : c = b
    · subst hcb
      rw [hset, if_pos rfl]
      exact hc
    · rw [hst' c hcm hcb]
      exact hf.at_ h3 (fun e => hcb (h.ne c hcm b hb hl hia e))
  · rw [hia' c hc] at hl
    rw [hia' e he] at hm
    exact h.ne c hc e he hl hm hn
  · rw [hia' c hcm]
    by_cases hcb : c = b
    · rw [hcb]; exact hia
    · rw [hst' c hcm hcb] at hl
      exact h.ord c hcm hl
/-- A core operation. -/
theorem BInv.core {l : List Oper} {bx : List Bx} {w0 : World} {aF : Act} {listed : Array Bool} {a' a : Act} {n : Nat → Nat} {w w' : World} (h : BInv l bx w0 aF listed a' a n w) (hf : Fr (fun _ => False) w w') {i : Nat} (hi : i ∉ bxIdx bx) {dst : Option Tmp} (hd : ∀ b ∈ bx, dst ≠ some b.d) (v : Value) :
    BInv l bx w0 aF (listed.setIfInBounds i true) (a'.put dst v) (a.put dst v) n w' := by
  have e : ∀ j, j ∈ bxIdx bx → (listed.setIfInBounds i true).getD j true = listed.getD j true := fun j hj => getD_set_ne true (fun e => hi (e ▸ hj))
  refine ⟨h.fr.trans hf, by rw [put_dfr, put_dfr, h.df], by rw [put_size, put_size, h.sz], fun t ht => put_same (h.out t (fun b hb hl => ht b hb (by rw [e _ (ia_idx hb)]; exact hl))) h.sz, fun b hb hl => ?_, fun b hb c hc hl hm => ?_, fun b hb hl => ?_, by simp [h.lsz], fun b hb => by rw [put_size]; exact h.bnd b hb⟩
  · rw [e _ (ia_idx hb)] at hl
    obtain ⟨h1, h2, h3⟩ := h.box b hb hl
    refine ⟨by rw [put_out (hd b hb)]; exact h1, h2, ?_⟩
    rw [e _ (st_idx hb)]
    exact hf.at_ h3 (fun e => e)
  · rw [e _ (ia_idx hb)] at hl
    rw [e _ (ia_idx hc)] at hm
    exact h.ne b hb c hc hl hm
  · rw [e _ (st_idx hb)] at hl
    rw [e _ (ia_idx hb)]
    exact h.ord b hb hl
section
variable {P : Program} {l : List Oper} {bx : List Bx} {w0 : World} {aF : Act} {Q : Exit → Act → World → Prop}
theorem wpAnyQ_end {C : World → Prop} {ops : Array Oper} {Q' : Act → Prop} {listed : Array Bool} {a : Act} (h : Region.ready .any ops listed = []) : ∀ f, wpAnyQ P .any ops C Q' f listed a → Q' a
  | 0, hq => hq.2
  | _ + 1, hq => hq.1 h
/-- What all classes say of one operation: one value. -/
theorem all_put {ops : Array Oper} {fuel : Nat} {listed : Array Bool} {a' : Act} {i : Nat} {o : Oper} (ho : ops[i]? = some o) (hr : i ∈ Region.ready .any ops listed)
    (hw : ∀ (j : Nat) (x : Oper) (t : Tmp), ops[j]? = some x → x.dst = some t → o.dst = some t → j = i) (hil : i < listed.size)
    (hH : ∀ wX, Fr (fun _ => False) w0 wX → wpAnyQ P .any ops (fun w' => ∃ Y : FrW wX, w' = Y.val) (fun x => x = aF) (fuel + 1) listed a') (wX : World) (hX : Fr (fun _ => False) w0 wX) :
    ∃ v, YieldsIn P ops (fun w' => ∃ Y : FrW wX, w' = Y.val) o v a' ∧ ∀ wY, Fr (fun _ => False) w0 wY → wpAnyQ P .any ops (fun w' => ∃ Y : FrW wY, w' = Y.val) (fun x => x = aF) fuel (listed.setIfInBounds i true) (a'.put o.dst v) := by
  have hset : (listed.setIfInBounds i true).getD i true = true := getD_set_same hil
  have fin : ∀ wY, Fr (fun _ => False) w0 wY → ∃ v, YieldsIn P ops (fun w' => ∃ Y : FrW wY, w' = Y.val) o v a' ∧ wpAnyQ P .any ops (fun w' => ∃ Y : FrW wY, w' = Y.val) (fun x => x = aF) fuel (listed.setIfInBounds i true) (a'.put o.dst v) ∧ ∀ t, o.dst = some t → (a'.put o.dst v).tmps[t]? = aF.tmps[t]? := fun wY hY => by
    obtain ⟨v, h1, h2⟩ := yieldsIn_of_qOp ho ((hH wY hY).2 i hr)
    refine ⟨v, h1, h2, fun t ht => fin_at fuel _ _ h2 t (fun j x hj hu hx => ?_)⟩
    have := hw j x t hj hx ht
    rw [this, hset] at hu
    cases hu
  obtain ⟨v, h1, h2, h3⟩ := fin wX hX
  refine ⟨v, h1, fun wY hY => ?_⟩
  obtain ⟨u, _, g2, g3⟩ := fin wY hY
  have e : a'.put o.dst v = a'.put o.dst u := by
    refine act_ext (by rw [put_dfr, put_dfr]) (fun t => ?_)
    by_cases ht : o.dst = some t
    · rw [h3 t ht, g3 t ht]
    · rw [put_out ht, put_out ht]
  rw [e]
  exact g2
theorem box_sim (ok : BxOk l bx)
    (hal : ∀ b ∈ bx, ∀ w, (Instr.alloc b.T true (.tuple #[])).run P w = .ok (bPtr w.heap.size) (w.alloc (.cells b.z b.T)))
    (hst : ∀ b ∈ bx, ∀ w n, w.heap[n]? = some (.cells b.z b.T) → ∃ w', (Instr.storeAt b.T (bPtr n) (bSrc aF b)).run P w = .ok () w' ∧ w'.heap[n]? = some (.cells (bSrc aF b).cells b.T) ∧ Fr (fun c => c = n) w w')
    (hQ : ∀ (n : Nat → Nat) (w' : World) (a : Act), Fr (fun _ => False) w0 w' → (∀ b ∈ bx, w0.heap.size ≤ n b.ia ∧ w'.heap[n b.ia]? = some (.cells (bSrc aF b).cells b.T)) → (∀ b ∈ bx, ∀ c ∈ bx, n b.ia = n c.ia → b = c) → a.defers = aF.defers → a.tmps.size = aF.tmps.size → (∀ t : Nat, (∀ b ∈ bx, b.d ≠ t) → a.tmps[t]? = aF.tmps[t]?) → (∀ b ∈ bx, a.tmps[b.d]? = some (bPtr (n b.ia))) → Q .normal a w') :
    ∀ (fuel : Nat) (listed : Array Bool) (a' a : Act) (n : Nat → Nat) (w : World), BInv l bx w0 aF listed a' a n w →
      (∀ wX, Fr (fun _ => False) w0 wX → wpAnyQ P .any (boxedF (bxIdx bx) 0 l).toArray (fun w' => ∃ Y : FrW wX, w' = Y.val) (fun x => x = aF) fuel listed a') → wpAny P .any l.toArray Q fuel listed a w := by
  have hend : ∀ (fuel : Nat) (listed : Array Bool) (a' a : Act) (n : Nat → Nat) (w : World), BInv l bx w0 aF listed a' a n w →
      (∀ wX, Fr (fun _ => False) w0 wX → wpAnyQ P .any (boxedF (bxIdx bx) 0 l).toArray (fun w' => ∃ Y : FrW wX, w' = Y.val) (fun x => x = aF) fuel listed a') → Region.ready .any l.toArray listed = [] → Q .normal a w := fun fuel listed a' a n w inv hH hr => by
    have hall : ∀ k, k < l.length → listed.getD k true = true := fun k hk => by
      cases e : listed.getD k true with
      | true => rfl
      | false => exact absurd hr (ready_some ok.acy (by rw [inv.lsz]; simp) k k (by simpa using hk) (Nat.le_refl _) e)
    have ea : a' = aF := wpAnyQ_end (P := P) (C := fun w' => ∃ Y : FrW w0, w' = Y.val) (Q' := fun x => x = aF) (ops := (boxedF (bxIdx bx) 0 l).toArray) (by rw [bxd_ready]; exact hr) fuel (hH w0 (Fr.refl _ _))
    have hia : ∀ b ∈ bx, listed.getD b.ia true = true := fun b hb => by
      obtain ⟨o, ho, _⟩ := ok.al b hb
      exact hall _ (List.getElem?_eq_some_iff.1 ho).1
    have hsa : ∀ b ∈ bx, listed.getD b.st true = true := fun b hb => by
      obtain ⟨o, ho, _⟩ := ok.st b hb
      exact hall _ (List.getElem?_eq_some_iff.1 ho).1
    refine hQ n w a inv.fr (fun b hb => ?_) (fun b hb c hc e => inv.ne b hb c hc (hia b hb) (hia c hc) e) (by rw [inv.df, ea]) (by rw [inv.sz, ea]) (fun t ht => by rw [inv.out t (fun b hb _ => ht b hb), ea]) (fun b hb => (inv.box b hb (hia b hb)).1)
    obtain ⟨_, h2, h3⟩ := inv.box b hb (hia b hb)
    rw [hsa b hb, if_pos rfl] at h3
    exact ⟨h2, h3⟩
  intro fuel
  induction fuel with
  | zero =>
    intro listed a' a n w inv hH
    have hr : Region.ready .any l.toArray listed = [] := by have := (hH w0 (Fr.refl _ _)).1; rwa [bxd_ready] at this
    exact ⟨hr, hend 0 listed a' a n w inv hH hr⟩
  | succ fuel ih =>
    intro listed a' a n w inv hH
    refine ⟨hend _ listed a' a n w inv hH, fun i hi => ?_⟩
    obtain ⟨hun, o, ho, hdeps⟩ := mem_ready.1 hi
    have hol : l[i]? = some o := by simpa using ho
    have hil : i < l.length := (List.getElem?_eq_some_iff.1 hol).1
    have hlsz := inv.lsz
    have hi' : i ∈ Region.ready .any (boxedF (bxIdx bx) 0 l).toArray listed := by rw [bxd_ready]; exact hi
    have uniq : ∀ (j : Nat) (x : Oper) (t : Tmp), (boxedF (bxIdx bx) 0 l).toArray[j]? = some x → x.dst = some t → o.dst = some t → j = i := fun j x t hj hx ht => by
      rw [bxd_get] at hj
      cases hy : l.toArray[j]? with
      | none => rw [hy] at hj; cases hj
      | some y =>
        rw [hy] at hj
        have hyd : y.dst = some t := by
          simp only [Option.map_some, Option.some.injEq] at hj
          rw [← hj] at hx
          by_cases hc : (bxIdx bx).contains j = true
          · rw [if_pos hc] at hx; exact hx
          · rw [if_neg hc] at hx; exact hx
        exact ok.un j i y o t (by simpa using hy) hol hyd ht
    by_cases hA : ∃ b ∈ bx, b.ia = i
    · -- a box is laid
      obtain ⟨b, hb, rfl⟩ := hA
      obtain ⟨o', ho', hop, hod, hog⟩ := ok.al b hb
      rw [hol] at ho'
      obtain rfl : o = o' := by injection ho'
      have hob : (boxedF (bxIdx bx) 0 l).toArray[b.ia]? = some (idleU o) := by rw [bxd_get, ho]; simp [ia_idx hb]
      obtain ⟨v, _, hK⟩ := all_put (w0 := w0) (fuel := fuel) (a' := a') hob hi' (fun j x t hj hx ht => uniq j x t hj hx ht) (by omega) hH w0 (Fr.refl _ _)
      have hK' : ∀ wY, Fr (fun _ => False) w0 wY → wpAnyQ P .any (boxedF (bxIdx bx) 0 l).toArray (fun w' => ∃ Y : FrW wY, w' = Y.val) (fun x => x = aF) fuel (listed.setIfInBounds b.ia true) (a'.put (some b.d) v) := by rw [← hod]; exact hK
      unfold wpOp
      rw [ho]
      simp only [Region.wanted, hog, if_true]
      left
      unfold Oper.wp execOp
      simp only [hop, hod, Sem.run_bind, hal b hb w, Result.andThen_ok, Sem.run_pure, Oper.upon_value]
      exact ih _ _ _ _ _ (inv.laid ok hb hun hil v) hK'
    · by_cases hS : ∃ b ∈ bx, b.st = i
      · -- a box is stored
        obtain ⟨b, hb, rfl⟩ := hS
        obtain ⟨o', ho', hop, hod, hog, ⟨e1, he1, hb1, hon1⟩, ⟨e2, he2, hb2, x, hx, hxd⟩⟩ := ok.st b hb
        rw [hol] at ho'
        obtain rfl : o = o' := by injection ho'
        have hob : (boxedF (bxIdx bx) 0 l).toArray[b.st]? = some (idleU o) := by rw [bxd_get, ho]; simp [st_idx hb]
        obtain ⟨v, _, hK⟩ := all_put (w0 := w0) (fuel := fuel) (a' := a') hob hi' (fun j x t hj hx ht => uniq j x t hj hx ht) (by omega) hH w0 (Fr.refl _ _)
        have hK' : ∀ wY, Fr (fun _ => False) w0 wY → wpAnyQ P .any (boxedF (bxIdx bx) 0 l).toArray (fun w' => ∃ Y : FrW wY, w' = Y.val) (fun x => x = aF) fuel (listed.setIfInBounds b.st true) (a'.put none v) := by rw [← hod]; exact hK
        have hia : listed.getD b.ia true = true := by
          have h1 := hdeps e1 he1 hb1
          rw [hon1] at h1
          obtain ⟨oa, hoa, _⟩ := ok.al b hb
          have := (List.getElem?_eq_some_iff.1 hoa).1
          simp only [Array.getD_eq_getD_getElem?] at h1 ⊢
          rw [Array.getElem?_eq_getElem (by omega)] at h1 ⊢
          exact h1
        have hsrc : (a.tmps[b.s]?).getD undef = bSrc aF b := by
          unfold bSrc
          have h1 : a.tmps[b.s]? = a'.tmps[b.s]? := inv.out b.s (fun c hc _ e => ok.sd b hb c hc e.symm)
          have h2 : a'.tmps[b.s]? = aF.tmps[b.s]? := fin_at (fuel + 1) listed a' (hH w0 (Fr.refl _ _)) b.s (fun j y hj hu hy => by
            rw [bxd_get] at hj
            cases hz : l.toArray[j]? with
            | none => rw [hz] at hj; cases hj
            | some z =>
              rw [hz] at hj
              have hzd : z.dst = some b.s := by
                simp only [Option.map_some, Option.some.injEq] at hj
                rw [← hj] at hy
                by_cases hc : (bxIdx bx).contains j = true
                · rw [if_pos hc] at hy; exact hy
                · rw [if_neg hc] at hy; exact hy
              have ej := ok.un j e2.on z x b.s (by simpa using hz) hx hzd hxd
              have h3 := hdeps e2 he2 hb2
              have := (List.getElem?_eq_some_iff.1 hx).1
              rw [ej] at hu
              simp only [Array.getD_eq_getD_getElem?] at h3 hu
              rw [Array.getElem?_eq_getElem (by omega)] at h3 hu
              simp only [Option.getD_some] at h3 hu
              rw [h3] at hu
              cases hu)
          rw [h1, h2]
        obtain ⟨q1, q2, q3⟩ := inv.box b hb hia
        rw [hun, if_neg (by simp)] at q3
        obtain ⟨w', r1, r2, r3⟩ := hst b hb w (n b.ia) q3
        have ed : a.eval (.tmp b.d) = bPtr (n b.ia) := by simp [Act.eval, q1]
        have es : a.eval (.tmp b.s) = bSrc aF b := by rw [← hsrc]; simp [Act.eval]
        unfold wpOp
        rw [ho]
        simp only [Region.wanted, hog, if_true]
        left
        unfold Oper.wp execOp
        simp only [hop, hod, ed, es, Sem.run_bind, r1, Result.andThen_ok, Sem.run_pure, Oper.upon_skip]
        exact ih _ _ _ _ _ (inv.stored ok hb hia hil r2 r3 v undef) hK'
      · -- a core operation
        have hni : i ∉ bxIdx bx := fun h => by
          obtain ⟨b, hb, hm⟩ := List.mem_flatMap.1 h
          simp only [List.mem_cons, List.not_mem_nil, or_false] at hm
          rcases hm with e | e
          · exact hA ⟨b, hb, e.symm⟩
          · exact hS ⟨b, hb, e.symm⟩
        have hob : (boxedF (bxIdx bx) 0 l).toArray[i]? = some o := by rw [bxd_get, ho]; simp [hni]
        obtain ⟨v, hY, hK⟩ := all_put (w0 := w0) (fuel := fuel) (a' := a') hob hi' uniq (by omega) hH w inv.fr
        have hap := ok.ap i o hol hni
        have hsel := Region.noSelect_spec ok.sel
        obtain ⟨c1, c2⟩ := look_congr (ops := l.toArray) (o := o) (a := a) (a' := a') (fun cs b => hsel i o cs b ho) (fun t ht => inv.out t (fun b hb _ e => (hap b hb).1 (e ▸ ht)))
        have key : ∀ w', Fr (fun _ => False) w w' → wpAny P .any l.toArray Q fuel (listed.setIfInBounds i true) (a.put o.dst v) w' := fun w' hf => ih _ _ _ _ _ (inv.core hf hni (fun b hb => (hap b hb).2) v) hK
        unfold wpOp
        rw [ho]
        simp only []
        rw [c2]
        rcases hY with ⟨hw, hq⟩ | ⟨hw, rfl⟩
        · rw [bxd_yielded] at hw
          rw [if_pos hw]
          left
          refine Oper.wp_of_quiet (C := fun w' => ∃ Y : FrW w, w' = Y.val) (K := fun x => x = a.put o.dst v) ⟨⟨w, Fr.refl _ w⟩, rfl⟩ ?_ ⟨v, fun w1 h1 => ?_, rfl⟩
          · rintro x w' ⟨Y, rfl⟩ rfl
            exact key _ Y.fr
          · have := hq w1 h1
            unfold Oper.quietAt at *
            rw [c1]
            exact this
        · rw [bxd_yielded] at hw
          rw [if_neg (by rw [hw]; simp)]
          exact key w (Fr.refl _ w)
def bPuts (bx : List Bx) (n : Nat → Nat) (x : Act) : Act := bx.foldl (fun x b => x.put (some b.d) (bPtr (n b.ia))) x
theorem bPuts_dfr {n : Nat → Nat} : ∀ {bx : List Bx} {x : Act}, (bPuts bx n x).defers = x.defers
  | [], _ => rfl
  | b :: r, x => (bPuts_dfr (bx := r)).trans put_dfr
theorem bPuts_out {n : Nat → Nat} {t : Nat} : ∀ {bx : List Bx} {x : Act}, (∀ b ∈ bx, b.d ≠ t) → (bPuts bx n x).tmps[t]? = x.tmps[t]?
  | [], _, _ => rfl
  | b :: r, x, h => (bPuts_out (bx := r) (fun c hc => h c (List.mem_cons_of_mem _ hc))).trans (put_out (fun e => h b List.mem_cons_self (by injection e)))
theorem bPuts_at {n : Nat → Nat} : ∀ {bx : List Bx} {x : Act}, bx.Pairwise (fun b c => b.d ≠ c.d) → ∀ b ∈ bx, b.d < x.tmps.size → (bPuts bx n x).tmps[b.d]? = some (bPtr (n b.ia))
  | [], _, _, b, hb, _ => by cases hb
  | c :: r, x, h, b, hb, hs => by
    obtain ⟨h1, h2⟩ := List.pairwise_cons.1 h
    rcases List.mem_cons.1 hb with e | hb'
    · subst e
      exact (bPuts_out (bx := r) (fun c hc => Ne.symm (h1 c hc))).trans (put_at hs)
    · exact bPuts_at h2 b hb' (by rw [put_size]; exact hs)
theorem wp_region_box {id : Nat} {a : Act} {w : World} (bx : List Bx) {l' : List Oper} (hm : P.follows .mixedOrders = true) (hl : boxedF (bxIdx bx) 0 l = l') (hB : boxB l bx = true) (hL : Region.lexB .any l'.toArray = true) (hd : bx.all (fun b => decide (b.d < a.tmps.size)) = true)
    (hal : ∀ b ∈ bx, ∀ w, (Instr.alloc b.T true (.tuple #[])).run P w = .ok (bPtr w.heap.size) (w.alloc (.cells b.z b.T)))
    (h : ∃ aF : Act, (∀ X : FrW w, wpQuiet P l'.toArray (fun w' => ∃ Y : FrW X.val, w' = Y.val) (fun a' => a' = aF) l' a) ∧
      (∀ b ∈ bx, ∀ w n, w.heap[n]? = some (.cells b.z b.T) → ∃ w', (Instr.storeAt b.T (bPtr n) (bSrc aF b)).run P w = .ok () w' ∧ w'.heap[n]? = some (.cells (bSrc aF b).cells b.T) ∧ Fr (fun c => c = n) w w') ∧
      ∀ (n : Nat → Nat) (w' : World), Fr (fun _ => False) w w' → (∀ b ∈ bx, w.heap.size ≤ n b.ia ∧ w'.heap[n b.ia]? = some (.cells (bSrc aF b).cells b.T)) → (∀ b ∈ bx, ∀ c ∈ bx, n b.ia = n c.ia → b = c) → Q .normal (bPuts bx n aF) w') : (Code.region id l.toArray true).wp P Q a w := by
  have ok := boxB_ok hB
  obtain ⟨aF, h, hst, hQ⟩ := h
  subst hl
  have hd' : ∀ b ∈ bx, b.d < a.tmps.size := fun b hb => of_decide_eq_true (List.all_eq_true.1 hd b hb)
  have hf : ∀ i, (Array.replicate l.toArray.size false).getD i true = true → l.length ≤ i := fun i hi => by
    rcases Nat.lt_or_ge i l.length with h | h
    · simp [h] at hi
    · exact h
  have hdp : bx.Pairwise (fun b c => b.d ≠ c.d) := by
    have : bx.Pairwise BxNe := by
      unfold boxB at hB
      simp only [Bool.and_eq_true, decide_eq_true_eq] at hB
      exact hB.1.1.1.1.1.2
    exact this.imp (fun h => h.2.2.2.2)
  refine wp_region_any hm (box_sim (w0 := w) (aF := aF) ok hal hst ?_ _ _ a a (fun _ => 0) _ ?_ ?_)
  · intro n w' x h1 h2 h3 h4 h5 h6 h7
    have e : x = bPuts bx n aF := by
      refine act_ext (h4.trans bPuts_dfr.symm) (fun t => ?_)
      by_cases ht : ∀ b ∈ bx, b.d ≠ t
      · rw [h6 t ht, bPuts_out ht]
      · have : ∃ b ∈ bx, b.d = t := Classical.byContradiction fun hne => ht fun b hb e => hne ⟨b, hb, e⟩
        obtain ⟨b, hb, rfl⟩ := this
        have h8 := h7 b hb
        have h9 := (Array.getElem?_eq_some_iff.1 h8).1
        rw [h8, bPuts_at hdp b hb (by rw [← h5]; exact h9)]
    rw [e]
    exact hQ n w' h1 h2 h3
  · refine ⟨(Fr.refl _ w).drew, rfl, rfl, fun _ _ => rfl, fun b hb hl => ?_, fun b hb c hc hl => ?_, fun b hb hl => ?_, by simp, hd'⟩
    · obtain ⟨o, ho, _⟩ := ok.al b hb
      have := (List.getElem?_eq_some_iff.1 ho).1
      have := hf _ hl
      omega
    · obtain ⟨o, ho, _⟩ := ok.al b hb
      have := (List.getElem?_eq_some_iff.1 ho).1
      have := hf _ hl
      omega
    · obtain ⟨o, ho, _⟩ := ok.st b hb
      have := (List.getElem?_eq_some_iff.1 ho).1
      have := hf _ hl
      omega
  · intro wX hX
    simp only [Region.lexB, Bool.and_eq_true] at hL
    have := wpAnyQ_lex (C := fun w' => ∃ Y : FrW wX, w' = Y.val) (md := .any) hL.1 (boxedF (bxIdx bx) 0 l) 0 (Array.replicate (boxedF (bxIdx bx) 0 l).toArray.size false) a (by simp) (by simpa using hL.2) (h ⟨wX, hX⟩)
    rw [bxd_size] at this
    simpa [bxd_len] using this
end
end Go.Proofs.YtmflpeklalgibaaGreat

