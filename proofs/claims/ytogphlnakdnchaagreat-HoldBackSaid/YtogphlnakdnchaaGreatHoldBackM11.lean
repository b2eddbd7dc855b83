/- stock: Pack, walked. -/
import Derived.Test.YtogphlnakdnchaaGreatHoldBackM9
import Derived.Stop.RegionWithIn
namespace Go.Proofs.YtogphlnakdnchaaGreat
open Go.RowKit Go.Maps
attribute [local go_sem] Oper.semAt_some
theorem Fr.setNew {S : Nat → Prop} {w w' : World} {b : Nat} (h : Fr S w w') (hb : w.heap.size ≤ b) (u : Value) : Fr S w (w'.setCell ⟨b, 0, none⟩ u) := h.setCell (p := ⟨b, 0, none⟩) (fun e => by have e : b < w.heap.size := e; omega) u
/-- The maker, in a box of its own. -/
structure PkS (W0 : World) (n0 : Nat) (W : World) (mb gm : Nat) (TM : Nat → Prop) (bs : List Int) : Prop where
  mkr : MK W gm TM bs false
  box : W.heap[mb]? = some (.cells #[.pointer (some ⟨gm, 0, none⟩)] 79)
  nb : ¬ TM mb
  fr : Fr (fun b => n0 + 1 ≤ b) W0 W
  low : ∀ b, TM b → n0 + 1 ≤ b
  mb : n0 + 1 ≤ mb
theorem PkS.a {W0 w2 : World} {n0 gm : Nat} {TM : Nat → Prop} {bs : List Int} (h : MK w2 gm TM bs false) (hl : ∀ b, TM b → n0 + 1 ≤ b) (hf : Fr (fun b => n0 + 1 ≤ b) W0 w2) (hs : W0.heap.size = n0 + 1) :
    PkS W0 n0 (w2.alloc (.cells #[.pointer (some ⟨gm, 0, none⟩)] 79)) w2.heap.size gm TM bs :=
  ⟨h.fr ((Fr.refl (fun _ => False) _).alloc _) (fun _ _ e => e), heap_new _ _, fun e => by have := h.lt _ e; omega, hf.alloc _, hl, by have := hf.size; omega⟩
theorem PkS.b {W0 w2 : World} {n0 gm mb : Nat} {TM : Nat → Prop} {bs : List Int} (h : MK w2 gm TM bs false) (hl : ∀ b, TM b → n0 + 1 ≤ b) (hf : Fr (fun b => n0 + 1 ≤ b) W0 w2) (hs : W0.heap.size = n0 + 1) (hm : W0.heap.size ≤ mb)
    (hb : w2.heap[mb]? = some (.cells #[.pointer none] 79)) (hn : ¬ TM mb) : PkS W0 n0 (w2.setCell ⟨mb, 0, none⟩ (.pointer (some ⟨gm, 0, none⟩))) mb gm TM bs :=
  ⟨h.fr ((Fr.refl (fun b => b = mb) _).setCell (p := ⟨mb, 0, none⟩) (fun _ => rfl) _) (fun b hb e => hn (e ▸ hb)), obj_set hb 0 _, hn, Fr.setNew hf hm _, hl, by omega⟩
theorem PkS.fa {B : Nat} {W0 W W' : World} {n0 mb gm : Nat} {TM : Nat → Prop} {bs : List Int} (h : PkS W0 n0 W mb gm TM bs) (hf : Fa B W W') (hB : W0.heap.size ≤ B) : PkS W0 n0 W' mb gm TM bs :=
  ⟨h.mkr.fa hf, Fa.cells hf h.box, h.nb, Fa.old hf h.fr hB, h.low, h.mb⟩
theorem PkS.step {W0 W W' : World} {n0 mb gm : Nat} {TM TM' : Nat → Prop} {bs bs' : List Int} (h : PkS W0 n0 W mb gm TM bs) (hm : MK W' gm TM' bs' false) (hs : Stp TM W W' TM') (hsz : n0 + 1 ≤ W.heap.size) : PkS W0 n0 W' mb gm TM' bs' :=
  have hl := (Array.getElem?_eq_some_iff.1 h.box).1
  ⟨hm, hs.1.at_ h.box h.nb, fun e => (hs.2 _ e).elim h.nb (fun e => by omega), hs.fr h.fr h.low, hs.low h.low hsz, h.mb⟩
def PkI (W0 : World) (n0 mb gm : Nat) (TM0 : Nat → Prop) (A : Stk) (k : Nat) (C : Nat → Prop) (W : World) : Prop :=
  ∃ TM, PkS W0 n0 W mb gm TM (numB (A.length : Int) ++ (A.take k).flatMap rowB) ∧ ∀ b, TM b → TM0 b ∨ C b
theorem getS_at {A : Stk} (h : RiseS A) {k : Nat} {p : Str × SR} (hp : A[k]? = some p) : rowAt A p.1 = p.2 := by
  unfold rowAt
  rw [getK_of (riseS_nd h) (List.mem_of_getElem? hp)]
  rfl
theorem bs_le {A : Stk} (h : SOk A) (k : Nat) : (numB (A.length : Int) ++ (A.take k).flatMap rowB).length ≤ 7945 := by
  rw [List.length_append]
  have := (numB_len (n := (A.length : Int)) (by have := h.len; unfold okI; omega)).2
  have := rows_len (L := A.take k) (fun p hp => ⟨h.good p (List.mem_of_mem_take hp), h.row p (List.mem_of_mem_take hp)⟩)
  have := h.len
  have : (A.take k).length ≤ A.length := by rw [List.length_take]; omega
  omega
set_option maxRecDepth 100000 in
set_option maxHeartbeats 8000000 in
theorem sPack (w : World) (g : Nat) (TS : Nat → Prop) (A : Stk) (h : SA w g TS A) (hA : SOk A) :
    Calls Tryz.prog 50 #[.pointer (some ⟨g, 0, none⟩)] w fun e w' => ∃ v, e = .returned v ∧ w'.ownsRow w.heap.size 5 1 v (packS A).length (u8s (packS A)) ∧ Fr (fun _ => False) w w' := by
  obtain ⟨n0, hn0⟩ : ∃ n0, w.heap.size = n0 := ⟨_, rfl⟩
  have HS := Lib.hid hn0
  have HSA := Lib.hid h
  have HAA := Lib.hid hA
  have HGL : Hid (g < w.heap.size) := Lib.hid (h.lt g h.own)
  obtain ⟨m, hc, hm, hTm⟩ := h.cell
  obtain ⟨W0, hW0⟩ : ∃ W0, w.alloc (.cells #[.pointer (some ⟨g, 0, none⟩)] 58) = W0 := ⟨_, rfl⟩
  have hF0 : Fr (fun _ => False) w W0 := by rw [← hW0]; exact (Fr.refl _ w).alloc _
  have hs0 : W0.heap.size = n0 + 1 := by rw [← hW0]; simp; omega
  have hb0 : W0.heap[n0]? = some (.cells #[.pointer (some ⟨g, 0, none⟩)] 58) := by rw [← hW0]; exact heap_at hn0.symm _
  have HF0 := Lib.hid hF0; have HS0 := Lib.hid hs0; have HB0 := Lib.hid hb0
  have hmd := Lib.hid (callsIn_wide (n := 0) |>.2 (smade W0 g m (hF0.cell hc (fun h => h))))
  have hcs := cell_obj hb0 0 (.pointer (some ⟨g, 0, none⟩)) rfl
  have hfacts : Hid (∀ W, Fr (fun b => n0 + 1 ≤ b) W0 W → W.cell? ⟨n0, 0, none⟩ = some (.pointer (some ⟨g, 0, none⟩)) ∧ W.cell? ⟨g, 0, none⟩ = some (.map (some m)) ∧ (Builtin.len_ #[100] 3 #[.map (some m)]).run Tryz.prog W = .ok (.int .i64 A.length) W) := Lib.hid (fun W hf => by
    have hf1 := hF0.trans' hf (fun b hb e => by omega)
    exact ⟨hf.cell hcs (by show ¬ n0 + 1 ≤ n0; omega), hf1.cell hc (fun h => h), (hf1.mp hm (fun h => h)).len Tryz.underlying100 3⟩)
  have HM := Lib.hid hm; have HC := Lib.hid hc
  clear hm hTm hA hF0 hb0 hc hs0
  refine (callsIn_wide (n := 0)).1 ?_
  refine callsIn_of_wp_marks Tryz.func50 rfl trivial ?_ rfl
  simp only [Tryz.ntmps50, List.size_toArray, List.length_cons, List.length_nil, Nat.reduceAdd, Nat.reduceSub, Array.replicate_succ, Array.replicate_zero, List.push_toArray, List.append_toArray, List.nil_append, List.cons_append]
  have hfn : ∀ f, Fence.wide.fn f := fun _ => trivial
  have hdp : Fence.wide.depth.isSome = false := rfl
  gi_wp2_with (first
    | (gi_at_call 69; refine hmd.out.mono ?_; rintro e w1 ⟨rfl, rfl⟩))
  have hl64 : Hid (A.length ≤ 64) := Lib.hid HAA.out.len
  have hFF : Hid (Fr (fun b => n0 + 1 ≤ b) W0 W0.drew) := Lib.hid (Fr.refl _ W0).drew
  obtain ⟨f1, f2, f3⟩ := hfacts.out _ hFF.out
  refine wpIn_wide.2 ?_
  refine Code.wp_mono (Q := fun e a' w' => e = .normal ∧ ∃ mb gm TM1, PkS W0 n0 w' mb gm TM1 ([] ++ numB A.length) ∧ a' = { tmps := List.toArray (.pointer (some ⟨g, 0, none⟩) :: .pointer (some ⟨n0, 0, none⟩) :: .slice none 0 0 :: .pointer (some ⟨mb, 0, none⟩) :: undef :: undef :: undef :: undef :: undef :: undef :: .pointer (some ⟨g, 0, none⟩) :: .bool true :: .bool false :: .pointer (some ⟨gm, 0, none⟩) :: .pointer (some ⟨g, 0, none⟩) :: .pointer (some ⟨g, 0, none⟩) :: .pointer (some ⟨g, 0, none⟩) :: .map (some m) :: .int .i64 A.length :: .pointer (some ⟨gm, 0, none⟩) :: undef :: undef :: undef :: undef :: undef :: undef :: undef :: undef :: undef :: undef :: undef :: undef :: undef :: undef :: undef :: undef :: undef :: undef :: undef :: undef :: undef :: undef :: undef :: undef :: undef :: undef :: undef :: undef :: []), defers := [] }) ?_ ?_
  · rintro e a' W5 ⟨rfl, mb, gm, TM1, hP, rfl⟩
    have HP := Lib.hid hP
    clear f1 f2 f3 hmd hcs hP hFF
    have hc5 := (hfacts.out _ HP.out.fr).1
    gi_wp2_with (first
      | (gi_at_call 59; refine (callsIn_wide.2 (sGoods _ _)).mono ?_; rintro e w6 ⟨rfl, rfl⟩))
    have hBx : Boxed (W5.alloc (.cells #[.pointer (some ⟨g, 0, none⟩)] 58)) W5.heap.size 58 (.pointer (some ⟨g, 0, none⟩)) := heap_new _ _
    have hF6 : Fr (fun b => n0 + 1 ≤ b) W0 (W5.alloc (.cells #[.pointer (some ⟨g, 0, none⟩)] 58)) := HP.out.fr.alloc _
    have hw6 : Fr (fun _ => False) w (W5.alloc (.cells #[.pointer (some ⟨g, 0, none⟩)] 58)) := HF0.out.trans' hF6 (fun b hb e => by have := HS.out; omega)
    have hP6 : PkS W0 n0 (W5.alloc (.cells #[.pointer (some ⟨g, 0, none⟩)] 58)) mb gm TM1 ([] ++ numB A.length) := HP.out.step (HP.out.mkr.fr ((Fr.refl (fun _ => False) _).alloc _) (fun _ _ e => e)) (Stp.refl ((Fr.refl _ _).alloc _)) (by have := HP.out.fr.size; have := HS0.out; omega)
    have hlt5 : Hid (∀ b, TM1 b → b < W5.heap.size) := Lib.hid HP.out.mkr.lt
    have hs6 : (W5.alloc (.cells #[.pointer (some ⟨g, 0, none⟩)] 58)).heap.size = W5.heap.size + 1 := by simp
    obtain ⟨z5, hz5⟩ : ∃ z5, W5.heap.size = z5 := ⟨_, rfl⟩
    obtain ⟨W6, hW6⟩ : ∃ W6, W5.alloc (.cells #[.pointer (some ⟨g, 0, none⟩)] 58) = W6 := ⟨_, rfl⟩
    rw [hz5] at hlt5 hBx hs6 ⊢
    rw [hW6] at hBx hF6 hw6 hP6 hs6 ⊢
    have HP6 := Lib.hid hP6; have HS6 := Lib.hid hs6
    clear hW6 hz5 hP6 HP hc5 hs6
    have hz6 : Hid (W0.heap.size ≤ W6.heap.size) := Lib.hid hF6.size
    refine rangeX (w0 := W6) (X := A.map (·.1)) (S := TM1) rfl (enters_of Tryz.func96 (by kernel_rfl) rfl)
      (sGoods1 TM1 W6 z5 g TS A hBx (HSA.out.fr hw6 (fun _ _ h => h)) (by have := hl64.out; omega) (fun e => by have := hlt5.out _ e; omega) (fun b hb e => by have := HSA.out.lt b hb; have := HP6.out.low b e; have := HS.out; omega)) (Below.refl _ _) (fun b hb => by have := hlt5.out b hb; have := HS6.out; omega) (fun _ => rfl)
      (PkI W0 n0 mb gm TM1 A) (fun _ _ _ _ => False)
      (fun k C W W' hs hf => hs.elim fun TM h => ⟨TM, h.1.fa hf hz6.out, h.2⟩) (fun c k C W W' hs hf => hs)
      ⟨TM1, by simpa using HP6.out, fun b hb => .inl hb⟩ ?round ?done ?stop
    case stop => intro D c k C W hD hk hX; exact hX.elim
    case round =>
      rintro lp j x C W hx hlp hi hr
      dsimp only [encS]
      gi_wp2
      refine Took.mk (Fr.refl _ _) hi ?_
      rintro Wb ⟨TM, hPb, hTC⟩ hrb hf hsz hsw hCC _
      obtain ⟨p, hp, rfl⟩ : ∃ p, A[j]? = some p ∧ p.1 = x := by
        rw [List.getElem?_map] at hx
        cases e : A[j]? with
        | none => rw [e] at hx; cases hx
        | some p => rw [e] at hx; injection hx with hx; exact ⟨p, rfl, hx⟩
      obtain ⟨q1, q2, -⟩ := hfacts.out _ hPb.fr
      have hrow := getS_at HAA.out.rise hp
      have hgd := HAA.out.good p (List.mem_of_getElem? hp)
      have hok : okS p.1 := by have := goodB_len hgd; unfold okS maxLen; omega
      have hlk := mp_row ((HF0.out.trans' hPb.fr (fun b hb e => by have := HS.out; omega)).mp HM.out (fun h => h)) hok
      rw [hrow] at hlk
      have hcm := cell_obj hPb.box 0 (.pointer (some ⟨gm, 0, none⟩)) rfl
      have hRb := HAA.out.row p (List.mem_of_getElem? hp)
      obtain ⟨gd, R⟩ := p
      dsimp only at hlk hgd hok hRb
      unfold SR.enc SR.cs at hlk
      obtain ⟨f0, f1, f2, f3, f4, f5, f6, f7, f8, f9, f10⟩ := R
      dsimp only at hlk
      have hcmA : ∀ o, (Wb.alloc o).cell? ⟨mb, 0, none⟩ = some (.pointer (some ⟨gm, 0, none⟩)) := fun o => ((Fr.refl (fun _ => False) Wb).alloc o).cell hcm (fun h => h)
      have HPB := Lib.hid hPb; have HTC := Lib.hid hTC; have HX := Lib.hid hp; have HRB := Lib.hid hRb; have HCC := Lib.hid hCC; have HGD := Lib.hid hgd
      have HSZ := Lib.hid hsz
      clear hi hr hf hrb hx hPb hTC hp hRb hCC hgd hok hrow
      have hszb : Hid (n0 + 1 ≤ Wb.heap.size) := Lib.hid (by have := HPB.out.fr.size; have := HS0.out; omega)
      have hbsl := Lib.hid (bs_le HAA.out j)
      gi_wp2_with (first
        | (gi_at_call 49; refine (callsIn_wide.2 (mText gd (HPB.out.mkr.fr ((Fr.refl (fun _ => False) _).alloc _) (fun _ _ h => h)) (goodB_len HGD.out) (by have := hbsl.out; omega))).mono ?_; rintro e w8 ⟨rfl, TM8, hM8, hS8⟩; have HM8 := Lib.hid hM8; have HS8 := Lib.hid hS8; clear hM8 hS8)
        | (gi_at_call 91; refine (callsIn_wide.2 (sNumbers _ _)).mono ?_; rintro e w9 ⟨rfl, hf9⟩; have HF9 := Lib.hid hf9; clear hf9))
      obtain ⟨R, hR⟩ : ∃ R : SR, R = ⟨f0, f1, f2, f3, f4, f5, f6, f7, f8, f9, f10⟩ := ⟨_, rfl⟩
      have hcs : R.cs = #[.int .i64 f0, .int .i64 f1, .int .i64 f2, .int .i64 f3, .int .i64 f4, .int .i64 f5, .int .i64 f6, .int .i64 f7, .int .i64 f8, .int .i64 f9, .int .i64 f10] := by rw [hR]; rfl
      rw [← hcs] at HS8
      rw [← hR] at HX HRB
      obtain ⟨WR, hWR⟩ : ∃ WR, Wb.alloc (.cells R.cs 121) = WR := ⟨_, rfl⟩
      have hRA : RowAt WR Wb.heap.size R := by rw [← hWR]; exact heap_new _ _
      have hmbR : WR.heap[mb]? = some (.cells #[.pointer (some ⟨gm, 0, none⟩)] 79) := by rw [← hWR]; exact heap_keep HPB.out.box _
      have hfR : Fr (fun _ => False) Wb WR := by rw [← hWR]; exact (Fr.refl _ _).alloc _
      have hsR : WR.heap.size = Wb.heap.size + 1 := by rw [← hWR]; simp
      rw [hWR] at HS8
      obtain ⟨bs0, hbs0⟩ : ∃ bs0, numB (A.length : Int) ++ (A.take j).flatMap rowB = bs0 := ⟨_, rfl⟩
      rw [hbs0] at HM8 hbsl
      have hbl : Hid (bs0.length + (textB gd).length ≤ 7970) := Lib.hid (by have := hbsl.out; have := textB_len (goodB_len HGD.out); omega)
      obtain ⟨rb, hrb⟩ : ∃ rb, Wb.heap.size = rb := ⟨_, rfl⟩
      have hnrb : Hid (¬ TM rb) := Lib.hid (fun e => by have := HPB.out.mkr.lt _ e; omega)
      obtain ⟨Pt, hPt⟩ : ∃ Pt, ptrs rb = Pt := ⟨_, rfl⟩
      rw [hrb] at hRA hsR ⊢
      rw [hPt]
      have HST := Lib.hid (HS8.out.trans (Stp.refl HF9.out))
      have HM9 := Lib.hid (HM8.out.fr HF9.out (fun _ _ h => h))
      have HRA := Lib.hid hRA; have HMB := Lib.hid hmbR; have HFR := Lib.hid hfR; have HSR := Lib.hid hsR; have HPT := Lib.hid hPt; have HBS0 := Lib.hid hbs0; have HRBs := Lib.hid hrb; have HQ1 := Lib.hid q1
      clear hcm hcmA hlk q1 q2 hRA hmbR hfR hsR hPt hbs0 hrb hWR hcs hR HS8 HM8 HF9
      gi_loopw [33] (fun i wr => ∃ (k : Nat) (TMr : Nat → Prop), k ≤ 11 ∧ i = .int .i64 k ∧ MK wr gm TMr (bs0 ++ textB gd ++ numsB R k) false ∧ Stp TM WR wr TMr) (fun i _ => 11 - (intOf i).toNat)
      case atStart => exact ⟨0, TM8, Nat.zero_le _, rfl, by simpa [numsB] using HM9.out, HST.out⟩
      case round =>
        obtain ⟨k, TMr, hk, rfl, hMr, hSr⟩ := hrel
        by_cases hlt : k < 11
        · have hix := idxPtr wr rb hlt
          rw [HPT.out] at hix
          have hrw := hSr.1.at_ HRA.out hnrb.out
          have hcr := cell_obj hrw k _ (R.cs_get hlt)
          have hcm := cell_obj (hSr.1.at_ HMB.out HPB.out.nb) 0 (.pointer (some ⟨gm, 0, none⟩)) rfl
          have hcrd : wr.drew.cell? ⟨rb, k, none⟩ = some (.int .i64 (R.get k)) := hcr
          have hcmd : wr.drew.cell? ⟨mb, 0, none⟩ = some (.pointer (some ⟨gm, 0, none⟩)) := hcm
          have hlI : (k : Int) < 11 := by omega
          have hnb : Hid (okI (R.get k)) := Lib.hid (HRB.out.get k)
          have hln : Hid ((bs0 ++ textB gd ++ numsB R k).length ≤ 262100) := Lib.hid (by rw [List.length_append, List.length_append]; have := hbl.out; have := numsB_len HRB.out k; omega)
          have HMr := Lib.hid hMr; have HSr := Lib.hid hSr
          clear hMr hSr hrw
          gi_wp2_with fail
          gi_region_with (gi_at_call 51; refine (callsIn_wide.2 (mNum _ (HMr.out.fr ((Fr.refl (fun _ => False) _).drew) (fun _ _ h => h)) hnb.out hln.out)).mono ?_; rintro e w2 ⟨rfl, TM2, hM2, hS2⟩; have HM2 := Lib.hid hM2; have HS2 := Lib.hid hS2; clear hM2 hS2)
          all_goals
            gi_wp2_with fail
            go_roundw
            case rel => exact ⟨k + 1, TM2, by omega, by go_num, by rw [numsB_succ, ← List.append_assoc]; exact HM2.out, HSr.out.trans ((Stp.refl ((Fr.refl _ _).drew)).trans HS2.out)⟩
            case measure => simp [intOf]; omega
        · obtain rfl : k = 11 := by omega
          have HMr := Lib.hid hMr; have HSr := Lib.hid hSr
          clear hMr hSr
          gi_wp2_with fail
          have hszW := HSZ.out
          have hrbs := HRBs.out
          have hsR := HSR.out
          have hszr := HSr.out.1.size
          have hfw : Fr TM Wb wr := (HFR.out.mono (fun _ _ e => e.elim)).trans HSr.out.1
          refine ⟨hfw.mono (fun b hb e => (HTC.out b e).elim .inl (fun e => .inr (.inl e))), TMr, ?_, ?_⟩
          · rw [show numB (A.length : Int) ++ (A.take (j + 1)).flatMap rowB = bs0 ++ textB gd ++ numsB R 11 by rw [List.take_add_one, HX.out, List.flatMap_append, ← List.append_assoc, HBS0.out, List.append_assoc]; simp [rowB]]
            exact HPB.out.step HMr.out ((Stp.refl HFR.out).trans HSr.out) hszb.out
          · intro b hb
            rcases HSr.out.2 b hb with e | e
            · exact (HTC.out b e).elim .inl (fun e => .inr (.inl e))
            · have := HMr.out.lt b hb
              exact .inr (.inr ⟨by omega, this⟩)
    case done =>
      rintro D C W hD ⟨TM, hPS, -⟩ hr hK
      rw [List.length_map, List.take_length] at hPS
      have hcm := cell_obj hPS.box 0 (.pointer (some ⟨gm, 0, none⟩)) rfl
      have HPS := Lib.hid hPS; have HKK := Lib.hid hK; have HD := Lib.hid hD; have HR := Lib.hid hr
      have hby := Lib.hid (packS_byt HAA.out)
      clear hPS hK hD hr
      gi_wp2_with (gi_at_call 53; refine (callsIn_wide.2 (cMDone _ gm TM _ false HPS.out.mkr hby.out)).mono ?_; rintro e w7 ⟨hb7, v7, rfl, ho7⟩; have HB7 := Lib.hid hb7; have HO7 := Lib.hid ho7; clear hb7 ho7)
      have hK7 := (Fr.below (S := fun _ => False) HB7.out).at_ HKK.out (fun e => e)
      refine ⟨by simp, .inl ⟨_, _, rfl, run_takeDeferred hK7, ?_⟩⟩
      have hsz := HPS.out.fr.size
      have hs0 := HS0.out
      have hn := HS.out
      have hzz := hz6.out
      have hDD := HD.out
      refine ⟨_, results_tmp rfl _ _ _, v7, rfl, ?_, ?_⟩
      · exact ownsRow_putObj (ownsRow_base_a HO7.out (by omega)) _ hK7 rfl
      · have h1 : Fr (fun b => n0 + 1 ≤ b) W0 w7 := HPS.out.fr.trans' (Fr.below (S := fun _ => False) HB7.out) (fun b _ e => e.elim)
        exact HF0.out.trans' (h1.putObj (l := D) (fun h => by omega) _) (fun b hb e => by omega)
  go_region_held3 (fun w' => w'.cell? ⟨n0, 0, none⟩ = some (.pointer (some ⟨g, 0, none⟩)) ∧ w'.cell? ⟨g, 0, none⟩ = some (.map (some m)) ∧ (Builtin.len_ #[100] 3 #[.map (some m)]).run Tryz.prog w' = .ok (.int .i64 A.length) w')
    (first | exact ⟨f1, f2, f3⟩ | exact hfacts.out _ hFF.out | exact hfacts.out _ (hFF.out.alloc _) | exact hfacts.out _ (Fr.setNew (hFF.out.alloc _) (by omega) _) | exact hfacts.out _ (Fr.setNew hFF.out (by omega) _))
    (first
      | (go_at_call 48; refine (xMN _).mono ?_; rintro e w1 ⟨gm, TM, rfl, hM0, hT0, hN⟩; have hF1 : Hid (Fr (fun b => n0 + 1 ≤ b) W0 w1) := Lib.hid (by first | exact hFF.out.trans (hN.mono (fun _ _ h => h.elim)) | exact (hFF.out.alloc _).trans (hN.mono (fun _ _ h => h.elim))); have hFF := hF1; have hz1 : W0.heap.size ≤ w1.heap.size := hF1.out.size; have HM0 := Lib.hid hM0; have HT0 := Lib.hid hT0; have HN := Lib.hid hN; have hTS : Hid (∀ b, TM b → n0 + 1 ≤ b) := Lib.hid (fun b hb => by have := hT0 b hb; have h9 := HS0.out; first | omega | (simp at this; omega)); (try (have hbx : w1.heap[W0.heap.size]? = some (.cells #[.pointer none] 79) := hN.at_ (heap_new _ _) (fun e => e); have hbn : Hid (¬ TM W0.heap.size) := Lib.hid (fun e => by have := hT0 _ e; simp at this; omega))); clear hM0 hT0 hN)
      | (go_at_call 51; refine (mNum _ (by first | exact HM0.out | exact HM0.out.fr ((Fr.refl (fun _ => False) _).alloc _) (fun _ _ h => h)) ⟨by have := hl64.out; omega, by have := hl64.out; omega⟩ (by simp)).mono ?_; rintro e w2 ⟨rfl, TM1, hM1, hS1⟩; have hF2 : Hid (Fr (fun b => n0 + 1 ≤ b) W0 w2) := Lib.hid (by first | exact hS1.fr hFF.out hTS.out | exact hS1.fr (hFF.out.alloc _) hTS.out); have hFF := hF2; have hz2 : W0.heap.size ≤ w2.heap.size := hF2.out.size; have hTS1 : Hid (∀ b, TM1 b → n0 + 1 ≤ b) := Lib.hid (hS1.low hTS.out (by have := HS0.out; first | omega | (simp; omega))); have HM1 := Lib.hid hM1; have HS1 := Lib.hid hS1; (try (have hbx2 := hS1.1.at_ hbx hbn.out)); (try (have hbx2 : w2.heap[w1.heap.size]? = some (.cells #[.pointer none] 79) := hS1.1.at_ (heap_new _ _) (fun e => by have := HM0.out.lt _ e; omega))); (try (have hbc := cell_obj hbx2 0 (.pointer none) rfl; have hbf := obj_frozen hbx2 0)); clear hM1 hS1))
  all_goals
    first
      | exact ⟨rfl, _, _, _, PkS.b HM1.out hTS1.out hFF.out HS0.out (Nat.le_refl _) hbx2 (fun e => (HS1.out.2 _ e).elim hbn.out (fun e => by have := (Array.getElem?_eq_some_iff.1 hbx).1; omega)), rfl⟩
      | exact ⟨rfl, _, _, _, PkS.b HM1.out hTS1.out hFF.out HS0.out hz1 hbx2 (fun e => (HS1.out.2 _ e).elim (fun e => by have := HM0.out.lt _ e; omega) (fun e => by simp at e; omega)), rfl⟩
      | exact ⟨rfl, _, _, _, PkS.a HM1.out hTS1.out hFF.out HS0.out, rfl⟩
end Go.Proofs.YtogphlnakdnchaaGreat

