/- region: for every input RegionGoods returns true and leaves its input as it was (written by wip/tools/goods22.py). -/
import Derived.Test.YtmflpeklalgibaaGreatRows
import Derived.Test.YtmflpeklalgibaaGreatRegionGoodsM11
import Derived.Test.YtmflpeklalgibaaGreatRegionGoodsM1
namespace Go.Proofs.YtmflpeklalgibaaGreat.regionGoods
open Go.ChangeShapes Go.WideShapes Go.ChangeAt Go.RowKit Go.Maps
/-- What stands between two letters. -/
structure RgI (w W : World) (r : Nat) (TS : Nat → Prop) (x : RSt) (k : Nat) : Prop where
  lv : LvR w W r TS 0 3 x
  ws : x.ws.length ≤ 256
  st : x.S.length ≤ k
theorem RgI.keep {w W W' : World} {r : Nat} {TS : Nat → Prop} {x : RSt} {k : Nat} (h : RgI w W r TS x k) (hf : Fr (fun _ => False) W W') : RgI w W' r TS x k := ⟨h.lv.keep hf, h.ws, h.st⟩
/-- A letter comes. -/
theorem RgI.mail {w W : World} {r : Nat} {TS : Nat → Prop} {x : RSt} {k : Nat} (h : RgI w W r TS x k) (hk : k ≤ 1000) {m : MV} {fr : Int} (hm : MOk w m) (hfr : okI fr) :
    Calls Tryz.prog 9 #[.pointer (some ⟨r, 0, none⟩), .agg m.cs, .int .i64 fr] W fun e w' => ∃ v TS', e = .returned v ∧ RgI w w' r TS' (mailR 0 3 x m fr).2 (k + 1) ∧ (∃ L, Pst w' W.heap.size v L TS' ∧ L.map nfP = (mailR 0 3 x m fr).1) ∧ Stp TS W w' TS' := by
  refine (h.lv.mail (hm.keep h.lv.fr (fun _ _ e => e)) (fun b hb e => by have := hm.lt hb; have := h.lv.lo b e; omega) hfr h.ws (by have := h.st; omega) (by decide)).mono ?_
  rintro e w' ⟨v, TS', L, rfl, q1, q2, q3, q4⟩
  have hi := mailR_inv 0 3 x m fr h.ws
  exact ⟨v, TS', rfl, ⟨q1, hi.1, by have := h.st; omega⟩, ⟨L, q2, q3⟩, q4⟩
/-- Behind all mail: two copies of the stock, the region. -/
structure GdI (w W : World) (r g8 g9 : Nat) (T8 T9 TS : Nat → Prop) (A : Stk) (x : RSt) : Prop where
  s8 : SA W g8 T8 A
  s9 : SA W g9 T9 x.A
  lv : LvR w W r TS 0 3 x
theorem GdI.keep {w W W' : World} {r g8 g9 : Nat} {T8 T9 TS : Nat → Prop} {A : Stk} {x : RSt} (h : GdI w W r g8 g9 T8 T9 TS A x) (hf : Fr (fun _ => False) W W') : GdI w W' r g8 g9 T8 T9 TS A x := ⟨h.s8.fr hf (fun _ _ e => e), h.s9.fr hf (fun _ _ e => e), h.lv.keep hf⟩
set_option maxRecDepth 100000 in
set_option maxHeartbeats 32000000 in
theorem walk (w : World) (v vm : Value) (L : List (Int × MV)) (G : Its) (hL : Sq 17 pcs LOk w v L) (hG : Il w vm G) : Calls Tryz.prog 3 #[v, vm] w fun e w' => e = .returned (.bool true) ∧ Below w.heap.size w w' := by
  obtain ⟨la, lc, rfl⟩ := hL.sl
  obtain ⟨ma, mc, rfl⟩ := hG.sl
  have hNI := hL.len
  have hKI : (G.length : Int) ≤ 9223372036854775807 := by have := hG.1; omega
  obtain ⟨N, hN⟩ : ∃ n, L.length = n := ⟨_, rfl⟩
  obtain ⟨K, hK⟩ : ∃ n, G.length = n := ⟨_, rfl⟩
  rw [hN] at hL hNI ⊢
  rw [hK] at hG hKI ⊢
  have HL := Lib.hid hL; have HG := Lib.hid hG; have HN := Lib.hid hN; have HK := Lib.hid hK
  have hMy : Hid (∀ W, Fr (fun _ => False) w W → Calls Tryz.prog 7 #[.slice ma K mc] W fun e w' => e = .returned (.bool (mayL G)) ∧ ∃ n, w' = W.drewN n) := Lib.hid (fun W hf => by
    refine (r6May W _ G (hG.keep hf (fun _ _ _ e => e))).mono ?_
    rintro e w' ⟨rfl, n, rfl⟩
    exact ⟨rfl, n, rfl⟩)
  obtain ⟨MB, hMB⟩ : ∃ b, mayL G = b := ⟨_, rfl⟩
  rw [hMB] at hMy
  have HMB := Lib.hid hMB
  clear hL hG hN hK hMB
  have hbel : ∀ W, Fr (fun _ => False) w W → Below w.heap.size w W := fun W hf => hf.toBelow (fun _ e => e.elim) (Nat.le_refl _)
  have HBEL := Lib.hid hbel
  clear hbel
  cases MB with
  | false =>
    go_enter Tryz.func3, Tryz.ntmps3
    go_wp2_with (first
      | (go_at_call 6; refine (gLives _).mono ?_; rintro e w4 ⟨rfl, hf⟩; have HF4 := Lib.hid (HF3.out.trans hf); clear hf)
      | (go_at_call 7; refine (hMy.out _ HF2.out).mono ?_; rintro e w3 ⟨rfl, n3, rfl⟩; have HF3 := Lib.hid (HF2.out.drewN n3))
      | (go_at_call 6; refine (gLives _).mono ?_; rintro e w2 ⟨rfl, hf⟩; have HF2 := Lib.hid (HF1.out.trans hf); clear hf)
      | (go_at_call 5; refine (gNew _ 0 3).mono ?_; rintro e w1 ⟨hf, -, hy⟩; obtain ⟨r, TS, rfl, hr, hlo⟩ := hy (by decide); have HF1 := Lib.hid hf; clear hf hy hr hlo))
    go_ret
    exact ⟨rfl, HBEL.out _ HF4.out⟩
  | true =>
  go_enter Tryz.func3, Tryz.ntmps3
  go_wp2_with (first
    | (go_at_call 7; refine (hMy.out _ HF2.out.lv.fr).mono ?_; rintro e w3 ⟨rfl, n3, hw3⟩; have HF3 := Lib.hid (HF2.out.keep (show Fr (fun _ => False) w2 w3 by rw [hw3]; exact (Fr.refl _ w2).drewN n3)); clear hw3)
    | (go_at_call 6; refine (gLives _).mono ?_; rintro e w2 ⟨rfl, hf⟩; have HF2 := Lib.hid (HF1.out.keep hf); clear hf)
    | (go_at_call 5; refine (gNew _ 0 3).mono ?_; rintro e w1 ⟨hf, -, hy⟩; obtain ⟨r, TS, rfl, hr, hlo⟩ := hy (by decide); have HF1 : Hid (RgI w w1 r TS rX0 0) := Lib.hid ⟨⟨⟨[], hr, rfl⟩, hlo, hf⟩, by decide, by decide⟩; clear hf hy hr hlo))
  go_loopw [7] (fun i wr => ∃ (k : Nat) (TS : Nat → Prop) (x : RSt), k ≤ 40 ∧ i = .int .i64 k ∧ RgI w wr r TS x k) (fun i _ => 40 - (intOf i).toNat)
  case atStart => exact ⟨0, TS, rX0, by omega, rfl, HF3.out⟩
  case round =>
    obtain ⟨k, TR, x, hk, rfl, hI⟩ := hrel
    have HI := Lib.hid hI
    have hkI : (k : Int) ≤ 40 := by omega
    obtain ⟨wo, rfl⟩ : ∃ wo : World, wo = wr := ⟨_, rfl⟩
    clear hI
    by_cases hgo : k < N ∧ k < 40
    · obtain ⟨hlt, hlt4⟩ := hgo
      have hltI : (k : Int) < N := by omega
      have hlt4I : (k : Int) < 40 := by omega
      obtain ⟨p, hp⟩ : ∃ p, L[k]? = some p := ⟨L[k]'(by rw [HN.out]; exact hlt), List.getElem?_eq_getElem _⟩
      obtain ⟨ad, rfl, hok, z0, zs⟩ := (HL.out.fr0 lokKeeps HI.out.lv.fr).at_ hp
      have hok0 := HL.out.okm (List.mem_of_getElem? hp)
      have HM := Lib.hid hok0.2; have HMr := Lib.hid hok.2; have HFR := Lib.hid hok.1
      have hlg := Lib.hid (gLarge wo p.2 hok.2)
      have hml := Lib.hid (HI.out.mail (by omega) hok0.2 hok.1)
      have hlgm := fun W (hf : Fr (fun _ => False) wo W) => (HI.out.keep hf).mail (by omega) hok0.2 hok.1
      have HLGM := Lib.hid hlgm
      obtain ⟨fr, ⟨kd, od, l, its, ⟨c, nn, kk, o, rr, t, mm, g, al, ai⟩, ⟨yc, yn, ycd, ym⟩⟩⟩ := p
      obtain ⟨pl, cl, hsl⟩ : ∃ a c, l = .slice a its.length c := hok0.2.l.sl
      obtain ⟨pa, ca, hsa⟩ : ∃ a c, al = .slice a ai.length c := hok0.2.a.l.sl
      subst hsl
      subst hsa
      obtain ⟨NI, hNI2⟩ : ∃ x, its.length = x := ⟨_, rfl⟩
      obtain ⟨MI, hMI2⟩ : ∃ x, ai.length = x := ⟨_, rfl⟩
      dsimp only [MV.cs] at hlg HLGM
      rw [hNI2, hMI2] at hlg HLGM z0 zs
      have y0 := z0 (.int .i64 fr) rfl
      have x0 := zs 0 (.int .i64 kd) rfl
      have x1 := zs 1 (.int .i64 od) rfl
      have x2 := zs 2 (.slice pl NI cl) rfl
      have x3 := zs 3 (.int .i64 c) rfl
      have x4 := zs 4 (.int .i64 nn) rfl
      have x5 := zs 5 (.int .i64 kk) rfl
      have x6 := zs 6 (.int .i64 o) rfl
      have x7 := zs 7 (.int .i64 rr) rfl
      have x8 := zs 8 (.int .i64 t) rfl
      have x9 := zs 9 (.int .i64 mm) rfl
      have x10 := zs 10 (vS g) rfl
      have x11 := zs 11 (.slice pa MI ca) rfl
      have x12 := zs 12 (.int .i64 yc) rfl
      have x13 := zs 13 (.int .i64 yn) rfl
      have x14 := zs 14 (.int .i64 ycd) rfl
      have x15 := zs 15 (.int .i64 ym) rfl
      obtain ⟨lg, hlgb⟩ : ∃ b, (decide ((100 : Int) < NI) || decide ((100 : Int) < MI)) = b := ⟨_, rfl⟩
      rw [hlgb] at hlg
      clear hok hok0 z0 zs hp hlgb hlgm hml
      dsimp only [Nat.zero_add, Nat.reduceAdd] at x0 x1 x2 x3 x4 x5 x6 x7 x8 x9 x10 x11 x12 x13 x14 x15
      cases lg with
      | true =>
        go_wp2_with (go_at_call 8; refine hlg.out.mono ?_; rintro e w5 ⟨rfl, hf⟩; have HI5 := Lib.hid (HI.out.keep hf); clear hf)
        go_roundw
        case rel => exact ⟨k + 1, TR, x, by omega, by go_num, ⟨HI5.out.lv, HI5.out.ws, Nat.le_succ_of_le HI5.out.st⟩⟩
        case measure => simp [intOf]; omega
      | false =>
        go_upto_region 8 with (go_at_call 8; refine hlg.out.mono ?_; rintro e w5 ⟨rfl, hf⟩; have HF5 := Lib.hid hf; have y0 := hf.cell y0 (fun e => e); have x0 := hf.cell x0 (fun e => e); have x1 := hf.cell x1 (fun e => e); have x2 := hf.cell x2 (fun e => e); have x3 := hf.cell x3 (fun e => e); have x4 := hf.cell x4 (fun e => e); have x5 := hf.cell x5 (fun e => e); have x6 := hf.cell x6 (fun e => e); have x7 := hf.cell x7 (fun e => e); have x8 := hf.cell x8 (fun e => e); have x9 := hf.cell x9 (fun e => e); have x10 := hf.cell x10 (fun e => e); have x11 := hf.cell x11 (fun e => e); have x12 := hf.cell x12 (fun e => e); have x13 := hf.cell x13 (fun e => e); have x14 := hf.cell x14 (fun e => e); have x15 := hf.cell x15 (fun e => e); clear hf)
        refine wp_region_still_tail 11 (by kernel_rfl) (by kernel_rfl) ?_
        simp only [List.take_succ_cons, List.take_zero, List.drop_succ_cons, List.drop_zero]
        change wpStill _ _ w5.drew (fun a' => wpList _ _ _ _ a' w5.drew) _ _
        have HF6 := Lib.hid HF5.out.drew
        have y0 : w5.drew.cell? _ = _ := y0
        have x0 : w5.drew.cell? _ = _ := x0
        have x1 : w5.drew.cell? _ = _ := x1
        have x2 : w5.drew.cell? _ = _ := x2
        have x3 : w5.drew.cell? _ = _ := x3
        have x4 : w5.drew.cell? _ = _ := x4
        have x5 : w5.drew.cell? _ = _ := x5
        have x6 : w5.drew.cell? _ = _ := x6
        have x7 : w5.drew.cell? _ = _ := x7
        have x8 : w5.drew.cell? _ = _ := x8
        have x9 : w5.drew.cell? _ = _ := x9
        have x10 : w5.drew.cell? _ = _ := x10
        have x11 : w5.drew.cell? _ = _ := x11
        have x12 : w5.drew.cell? _ = _ := x12
        have x13 : w5.drew.cell? _ = _ := x13
        have x14 : w5.drew.cell? _ = _ := x14
        have x15 : w5.drew.cell? _ = _ := x15
        generalize w5.drew = V at HF6 y0 x0 x1 x2 x3 x4 x5 x6 x7 x8 x9 x10 x11 x12 x13 x14 x15 ⊢
        repeat still_step
        refine wpStill_nil ?_
        clear y0 x0 x1 x2 x3 x4 x5 x6 x7 x8 x9 x10 x11 x12 x13 x14 x15
        go_wp2_with (go_at_call 9; refine (HLGM.out _ HF6.out).mono ?_; rintro e w7 ⟨v7, T7, rfl, hr7, -, -⟩; have HI7 := Lib.hid hr7; clear hr7)
        go_roundw
        case rel => exact ⟨k + 1, T7, _, by omega, by go_num, HI7.out⟩
        case measure => simp [intOf]; omega
    · have hst : x.S.length ≤ 40 := by have := HI.out.st; omega
      have HKX := Lib.hid HI.out.lv.ok
      have HST := Lib.hid hst
      obtain ⟨NS, hNS⟩ : ∃ n, x.S.length = n := ⟨_, rfl⟩
      have HNS := Lib.hid hNS
      have hNSI : (NS : Int) ≤ 40 := by omega
      have hwS : IntKind.i64.wrap ((NS : Int) + 1) = (NS : Int) + 1 := IntWalk.i64_in _ ⟨by omega, by omega⟩
      have hwS2 : wrap64 ((NS : Int) + 1) = (NS : Int) + 1 := by unfold wrap64; omega
      obtain ⟨R, hR⟩ : ∃ R, mailR 0 3 x ⟨13, 5, .slice ma K mc, G, av0, yv0⟩ 1 = R := ⟨_, rfl⟩
      have hlaw := goods_law (R := R) HKX.out HMB.out hR.symm
      rw [hNS] at hlaw
      have HRR := Lib.hid hR
      have hinv := mailR_inv 0 3 x ⟨13, 5, .slice ma K mc, G, av0, yv0⟩ 1 HI.out.ws
      rw [hR] at hinv
      have hml : Hid (∀ W, Fr (fun _ => False) wo W → Calls Tryz.prog 9 #[.pointer (some ⟨r, 0, none⟩), .agg #[.int .i64 13, .int .i64 5, .slice ma K mc, .int .i64 0, .int .i64 0, .int .i64 0, .int .i64 0, .int .i64 0, .int .i64 0, .int .i64 0, .string ⟨#[]⟩, .slice none 0 0, .int .i64 0, .int .i64 0, .int .i64 0, .int .i64 0], .int .i64 1] W fun e w' => ∃ v TS', e = .returned v ∧ RgI w w' r TS' R.2 (k + 1) ∧ (∃ L, Pst w' W.heap.size v L TS' ∧ L.map nfP = R.1) ∧ Stp TR W w' TS') := Lib.hid (fun W hf => by
        have := (HI.out.keep hf).mail (by omega) (m := ⟨13, 5, .slice ma K mc, G, av0, yv0⟩) (fr := 1) (mok_its (by decide) (okI_lit (n := 5) (by decide)) HG.out) (okI_lit (n := 1) (by decide))
        rw [hR] at this
        exact this)
      obtain ⟨PN, hPN⟩ : ∃ n, R.1.length = n := ⟨_, rfl⟩
      obtain ⟨RN, hRN⟩ : ∃ n, R.2.S.length = n := ⟨_, rfl⟩
      rw [hPN, hRN] at hlaw
      have HPN := Lib.hid hPN; have HRN := Lib.hid hRN; have HLAW := Lib.hid hlaw
      have hRNI : (RN : Int) ≤ 41 := by have := hinv.2; omega
      clear hst hR hinv hPN hRN hlaw hNS
      have hcase : (¬ k < N) ∨ (k < N ∧ ¬ k < 40) := by omega
      clear hgo
      have hNP : (NS < RN ∧ RN = NS + 1 ∧ PN = 0) ∨ (¬ NS < RN ∧ PN = 0) ∨ (¬ NS < RN ∧ PN = 3) := by
        by_cases h : NS < RN
        · exact .inl ⟨h, (HLAW.out.2.1 h).1, (HLAW.out.2.1 h).2⟩
        · exact .inr (HLAW.out.1.imp (fun e => ⟨h, e⟩) (fun e => ⟨h, e⟩))
      rcases hcase with hlt | ⟨hlt, hlt4⟩
      · have hb1 : ¬ (k : Int) < N := by omega
        clear hlt
        rcases hNP with ⟨hgt, rfl, rfl⟩ | ⟨hgt, rfl⟩ | ⟨hgt, rfl⟩
        · have hgtI : (NS : Int) < ((NS + 1 : Nat) : Int) := by omega
          have hgte : ((NS + 1 : Nat) : Int) = (NS : Int) + 1 := by omega
          rw [hgte] at hgtI
          clear hgt
          go_wp2_with (first
            | (go_at_call 10; refine HL9.out.lv.shelf.mono ?_; rintro e wa ⟨ga, Ta, rfl, hsa, hla, hfa, hta⟩; have HLA := Lib.hid hla; clear hsa hla hfa hta)
            | (go_at_call 9; refine (hml.out _ HF8.out).mono ?_; rintro e w9 ⟨v9, T9, rfl, hr9, ⟨L9, hp9, hl9⟩, hs9⟩; obtain ⟨sa, sc, hv9⟩ := row_sl hp9.row; have hl9' : L9.length = R.1.length := (by rw [← hl9, List.length_map]); rw [HPN.out] at hl9'; rw [hl9'] at hv9; subst hv9; have HL9 := Lib.hid hr9; clear hr9 hp9 hl9 hs9 hl9')
            | (go_at_call 11; refine HLA.out.stuck.mono ?_; rw [HRN.out]; rintro e wb ⟨rfl, rfl⟩)
            | (go_at_call 11; refine HL8.out.stuck.mono ?_; rw [HNS.out]; rintro e wc ⟨rfl, rfl⟩)
            | (go_at_call 10; refine HI.out.lv.shelf.mono ?_; rintro e w8 ⟨g8, T8, rfl, hs8, hl8, hf8, ht8⟩; have HL8 := Lib.hid hl8; have HF8 := Lib.hid hf8; clear hs8 hl8 hf8 ht8))
          go_ret
          exact ⟨rfl, HBEL.out _ HLA.out.fr⟩
        · have hgtI : ¬ (NS : Int) < (RN : Int) := by omega
          clear hgt
          go_wp2_with (first
            | (go_at_call 10; refine HL9.out.lv.shelf.mono ?_; rintro e wa ⟨ga, Ta, rfl, hsa, hla, hfa, hta⟩; have HLA := Lib.hid hla; have HGD : Hid (GdI w wa r g8 ga T8 Ta T9 x.A R.2) := Lib.hid ⟨HS9.out.fr hfa (fun _ _ e => e), hsa, hla⟩; clear hsa hla hfa hta)
            | (go_at_call 9; refine (hml.out _ HF8.out).mono ?_; rintro e w9 ⟨v9, T9, rfl, hr9, ⟨L9, hp9, hl9⟩, hs9⟩; obtain ⟨sa, sc, hv9⟩ := row_sl hp9.row; have hl9' : L9.length = R.1.length := (by rw [← hl9, List.length_map]); rw [HPN.out] at hl9'; rw [hl9'] at hv9; subst hv9; have HL9 := Lib.hid hr9; have HS9 := Lib.hid (HS8.out.fr hs9.1 (fun b hb e => by have := HT8.out b hb; have := HI.out.lv.lt b e; omega)); clear hr9 hp9 hl9 hs9 hl9')
            | (go_at_call 11; refine HLA.out.stuck.mono ?_; rw [HRN.out]; rintro e wb ⟨rfl, rfl⟩)
            | (go_at_call 11; refine HL8.out.stuck.mono ?_; rw [HNS.out]; rintro e wc ⟨rfl, rfl⟩)
            | (go_at_call 10; refine HI.out.lv.shelf.mono ?_; rintro e w8 ⟨g8, T8, rfl, hs8, hl8, hf8, ht8⟩; have HL8 := Lib.hid hl8; have HF8 := Lib.hid hf8; have HS8 := Lib.hid hs8; have HT8 := Lib.hid ht8; clear hs8 hl8 hf8 ht8))
          go_loopw [12] (fun i wr => ∃ (q : Nat), q ≤ K ∧ i = .int .i64 q ∧ GdI w wr r g8 ga T8 Ta T9 x.A R.2) (fun i _ => K - (intOf i).toNat)
          case atStart => exact ⟨0, Nat.zero_le _, rfl, HGD.out⟩
          case round =>
            obtain ⟨q, hq, rfl, hJ⟩ := hrel
            have HJ := Lib.hid hJ
            obtain ⟨wj, rfl⟩ : ∃ wj : World, wj = wr := ⟨_, rfl⟩
            clear hJ
            by_cases hqK : q < K
            · have hqI : (q : Int) < K := by omega
              obtain ⟨p, hp⟩ : ∃ p, G[q]? = some p := ⟨G[q]'(by rw [HK.out]; exact hqK), List.getElem?_eq_getElem _⟩
              obtain ⟨ad, rfl, ok1, ok2, e0, e1⟩ := (HG.out.keep HJ.out.lv.fr (fun _ _ _ e => e)).at_ hp
              have hpm := List.mem_of_getElem? hp
              have HOK1 := Lib.hid ok1
              have hB := row_free HKX.out.stk p.1
              have hL8 : Hid (∀ W, Fr (fun _ => False) wj W → Calls Tryz.prog 12 #[.pointer (some ⟨g8, 0, none⟩), vS p.1] W fun e w' => e = .returned (rowAt x.A p.1).lev ∧ Fr (fun _ => False) W w') := Lib.hid (fun W hf => sLevel W g8 T8 x.A p.1 (HJ.out.s8.fr hf (fun _ _ e => e)) ok1)
              have hL9 : Hid (∀ W, Fr (fun _ => False) wj W → Calls Tryz.prog 12 #[.pointer (some ⟨ga, 0, none⟩), vS p.1] W fun e w' => e = .returned (rowAt R.2.A p.1).lev ∧ Fr (fun _ => False) W w') := Lib.hid (fun W hf => sLevel W ga Ta R.2.A p.1 (HJ.out.s9.fr hf (fun _ _ e => e)) ok1)
              have hfree : NS = 0 → RN = 0 → (rowAt R.2.A p.1).free = (rowAt x.A p.1).free + p.2 := fun h1 h2 => HLAW.out.2.2 h1 h2 p hpm
              have hpn : 1 ≤ p.2 ∧ p.2 ≤ 1099511627776 := ((mayL_all HMB.out).row p hpm).2
              obtain ⟨b0, hb0⟩ : ∃ y, (rowAt x.A p.1).free = y := ⟨_, rfl⟩
              obtain ⟨a0, ha0⟩ : ∃ y, (rowAt R.2.A p.1).free = y := ⟨_, rfl⟩
              unfold SR.lev at hL8 hL9
              rw [hb0] at hB hL8 hfree
              rw [ha0] at hL9 hfree
              obtain ⟨b1, hb1'⟩ : ∃ y, (rowAt x.A p.1).held = y := ⟨_, rfl⟩
              obtain ⟨b2, hb2⟩ : ∃ y, (rowAt x.A p.1).picked = y := ⟨_, rfl⟩
              obtain ⟨b3, hb3⟩ : ∃ y, (rowAt x.A p.1).aside = y := ⟨_, rfl⟩
              obtain ⟨a1, ha1⟩ : ∃ y, (rowAt R.2.A p.1).held = y := ⟨_, rfl⟩
              obtain ⟨a2, ha2⟩ : ∃ y, (rowAt R.2.A p.1).picked = y := ⟨_, rfl⟩
              obtain ⟨a3, ha3⟩ : ∃ y, (rowAt R.2.A p.1).aside = y := ⟨_, rfl⟩
              rw [hb1', hb2, hb3] at hL8
              rw [ha1, ha2, ha3] at hL9
              obtain ⟨gd, pn⟩ := p
              dsimp only at hL8 hL9 hfree hpn e0 e1 ok1
              have hfd : ∀ (W : World) (f0 f1 f2 f3 : Int), (Instr.field 47 (.agg #[.int .i64 f0, .int .i64 f1, .int .i64 f2, .int .i64 f3]) 0).run Tryz.prog W = .ok (.int .i64 f0) W := fun _ _ _ _ _ => (by kernel_rfl)
              have hw1 : IntKind.i64.wrap (b0 + pn) = b0 + pn := IntWalk.i64_in _ ⟨by omega, by omega⟩
              have hw2 : wrap64 (b0 + pn) = b0 + pn := by unfold wrap64; omega
              clear hp hpm hB hpn hb0 ha0 hb1' hb2 hb3 ha1 ha2 ha3 ok2
              have pe0 := FrW.cell e0; have pe1 := FrW.cell e1
              have HJS : Hid (∀ X : FrW wj, Calls Tryz.prog 11 #[.pointer (some ⟨r, 0, none⟩)] X.val fun e w' => e = .returned (.int .i64 RN) ∧ X.val = w') := Lib.hid (fun X => by have := (HJ.out.lv.keep X.fr).stuck; rw [HRN.out] at this; exact this)
              by_cases hns : NS = 0
              · by_cases hrn : RN = 0
                · obtain rfl : a0 = b0 + pn := hfree hns hrn
                  subst hns hrn
                  clear hfree
                  go_upto_region 20 with (fail)
                  refine wp_region_fr (by kernel_rfl) (by kernel_rfl) ?_
                  repeat (go_big_quiet_step ((first | (go_at_call 11; rename_i X; refine (HJS.out X).mono ?_; rintro e w2 ⟨rfl, rfl⟩; exact ⟨rfl, X, rfl⟩) | (go_at_call 12; rename_i X; with_reducible refine (hL8.out X.val X.fr).mono ?_; rintro e w2 ⟨rfl, hF⟩; exact ⟨rfl, ⟨w2, X.fr.trans hF⟩, rfl⟩) | (go_at_call 12; rename_i X; with_reducible refine (hL9.out X.val X.fr).mono ?_; rintro e w2 ⟨rfl, hF⟩; exact ⟨rfl, ⟨w2, X.fr.trans hF⟩, rfl⟩))))
                  refine wpQuiet_nil ?_
                  rintro V ⟨⟨_, hV⟩, rfl⟩
                  have HJ2 := Lib.hid (HJ.out.keep hV)
                  clear hV pe0 pe1
                  go_wp2_with fail
                  go_roundw
                  case rel => exact ⟨q + 1, by omega, by go_num, HJ2.out⟩
                  case measure => simp [intOf]; omega
                · have hrnI : ((RN : Int) == 0) = false := by simpa using hrn
                  subst hns
                  clear hfree hrn
                  go_upto_region 20 with (fail)
                  refine wp_region_fr (by kernel_rfl) (by kernel_rfl) ?_
                  repeat (go_big_quiet_step ((go_at_call 11; rename_i X; refine (HJS.out X).mono ?_; rintro e w2 ⟨rfl, rfl⟩; exact ⟨rfl, X, rfl⟩)))
                  refine wpQuiet_nil ?_
                  rintro V ⟨⟨_, hV⟩, rfl⟩
                  have HJ2 := Lib.hid (HJ.out.keep hV)
                  clear hV pe0 pe1
                  go_wp2_with fail
                  go_roundw
                  case rel => exact ⟨q + 1, by omega, by go_num, HJ2.out⟩
                  case measure => simp [intOf]; omega
              · have hnsI : ((NS : Int) == 0) = false := by simpa using hns
                clear hfree hns
                go_upto_region 20 with (fail)
                refine wp_region_fr (by kernel_rfl) (by kernel_rfl) ?_
                repeat (go_big_quiet_step (fail))
                refine wpQuiet_nil ?_
                rintro V ⟨⟨_, hV⟩, rfl⟩
                have HJ2 := Lib.hid (HJ.out.keep hV)
                clear hV pe0 pe1
                go_wp2_with fail
                go_roundw
                case rel => exact ⟨q + 1, by omega, by go_num, HJ2.out⟩
                case measure => simp [intOf]; omega
            · have hqI : ¬ (q : Int) < K := by omega
              go_wp2_with fail
              go_ret
              exact ⟨rfl, HBEL.out _ HJ.out.lv.fr⟩
        · have hgtI : ¬ (NS : Int) < (RN : Int) := by omega
          clear hgt
          go_wp2_with (first
            | (go_at_call 10; refine HL9.out.lv.shelf.mono ?_; rintro e wa ⟨ga, Ta, rfl, hsa, hla, hfa, hta⟩; have HLA := Lib.hid hla; have HGD : Hid (GdI w wa r g8 ga T8 Ta T9 x.A R.2) := Lib.hid ⟨HS9.out.fr hfa (fun _ _ e => e), hsa, hla⟩; clear hsa hla hfa hta)
            | (go_at_call 9; refine (hml.out _ HF8.out).mono ?_; rintro e w9 ⟨v9, T9, rfl, hr9, ⟨L9, hp9, hl9⟩, hs9⟩; obtain ⟨sa, sc, hv9⟩ := row_sl hp9.row; have hl9' : L9.length = R.1.length := (by rw [← hl9, List.length_map]); rw [HPN.out] at hl9'; rw [hl9'] at hv9; subst hv9; have HL9 := Lib.hid hr9; have HS9 := Lib.hid (HS8.out.fr hs9.1 (fun b hb e => by have := HT8.out b hb; have := HI.out.lv.lt b e; omega)); clear hr9 hp9 hl9 hs9 hl9')
            | (go_at_call 11; refine HLA.out.stuck.mono ?_; rw [HRN.out]; rintro e wb ⟨rfl, rfl⟩)
            | (go_at_call 11; refine HL8.out.stuck.mono ?_; rw [HNS.out]; rintro e wc ⟨rfl, rfl⟩)
            | (go_at_call 10; refine HI.out.lv.shelf.mono ?_; rintro e w8 ⟨g8, T8, rfl, hs8, hl8, hf8, ht8⟩; have HL8 := Lib.hid hl8; have HF8 := Lib.hid hf8; have HS8 := Lib.hid hs8; have HT8 := Lib.hid ht8; clear hs8 hl8 hf8 ht8))
          go_loopw [12] (fun i wr => ∃ (q : Nat), q ≤ K ∧ i = .int .i64 q ∧ GdI w wr r g8 ga T8 Ta T9 x.A R.2) (fun i _ => K - (intOf i).toNat)
          case atStart => exact ⟨0, Nat.zero_le _, rfl, HGD.out⟩
          case round =>
            obtain ⟨q, hq, rfl, hJ⟩ := hrel
            have HJ := Lib.hid hJ
            obtain ⟨wj, rfl⟩ : ∃ wj : World, wj = wr := ⟨_, rfl⟩
            clear hJ
            by_cases hqK : q < K
            · have hqI : (q : Int) < K := by omega
              obtain ⟨p, hp⟩ : ∃ p, G[q]? = some p := ⟨G[q]'(by rw [HK.out]; exact hqK), List.getElem?_eq_getElem _⟩
              obtain ⟨ad, rfl, ok1, ok2, e0, e1⟩ := (HG.out.keep HJ.out.lv.fr (fun _ _ _ e => e)).at_ hp
              have hpm := List.mem_of_getElem? hp
              have HOK1 := Lib.hid ok1
              have hB := row_free HKX.out.stk p.1
              have hL8 : Hid (∀ W, Fr (fun _ => False) wj W → Calls Tryz.prog 12 #[.pointer (some ⟨g8, 0, none⟩), vS p.1] W fun e w' => e = .returned (rowAt x.A p.1).lev ∧ Fr (fun _ => False) W w') := Lib.hid (fun W hf => sLevel W g8 T8 x.A p.1 (HJ.out.s8.fr hf (fun _ _ e => e)) ok1)
              have hL9 : Hid (∀ W, Fr (fun _ => False) wj W → Calls Tryz.prog 12 #[.pointer (some ⟨ga, 0, none⟩), vS p.1] W fun e w' => e = .returned (rowAt R.2.A p.1).lev ∧ Fr (fun _ => False) W w') := Lib.hid (fun W hf => sLevel W ga Ta R.2.A p.1 (HJ.out.s9.fr hf (fun _ _ e => e)) ok1)
              have hfree : NS = 0 → RN = 0 → (rowAt R.2.A p.1).free = (rowAt x.A p.1).free + p.2 := fun h1 h2 => HLAW.out.2.2 h1 h2 p hpm
              have hpn : 1 ≤ p.2 ∧ p.2 ≤ 1099511627776 := ((mayL_all HMB.out).row p hpm).2
              obtain ⟨b0, hb0⟩ : ∃ y, (rowAt x.A p.1).free = y := ⟨_, rfl⟩
              obtain ⟨a0, ha0⟩ : ∃ y, (rowAt R.2.A p.1).free = y := ⟨_, rfl⟩
              unfold SR.lev at hL8 hL9
              rw [hb0] at hB hL8 hfree
              rw [ha0] at hL9 hfree
              obtain ⟨b1, hb1'⟩ : ∃ y, (rowAt x.A p.1).held = y := ⟨_, rfl⟩
              obtain ⟨b2, hb2⟩ : ∃ y, (rowAt x.A p.1).picked = y := ⟨_, rfl⟩
              obtain ⟨b3, hb3⟩ : ∃ y, (rowAt x.A p.1).aside = y := ⟨_, rfl⟩
              obtain ⟨a1, ha1⟩ : ∃ y, (rowAt R.2.A p.1).held = y := ⟨_, rfl⟩
              obtain ⟨a2, ha2⟩ : ∃ y, (rowAt R.2.A p.1).picked = y := ⟨_, rfl⟩
              obtain ⟨a3, ha3⟩ : ∃ y, (rowAt R.2.A p.1).aside = y := ⟨_, rfl⟩
              rw [hb1', hb2, hb3] at hL8
              rw [ha1, ha2, ha3] at hL9
              obtain ⟨gd, pn⟩ := p
              dsimp only at hL8 hL9 hfree hpn e0 e1 ok1
              have hfd : ∀ (W : World) (f0 f1 f2 f3 : Int), (Instr.field 47 (.agg #[.int .i64 f0, .int .i64 f1, .int .i64 f2, .int .i64 f3]) 0).run Tryz.prog W = .ok (.int .i64 f0) W := fun _ _ _ _ _ => (by kernel_rfl)
              have hw1 : IntKind.i64.wrap (b0 + pn) = b0 + pn := IntWalk.i64_in _ ⟨by omega, by omega⟩
              have hw2 : wrap64 (b0 + pn) = b0 + pn := by unfold wrap64; omega
              clear hp hpm hB hpn hb0 ha0 hb1' hb2 hb3 ha1 ha2 ha3 ok2
              have pe0 := FrW.cell e0; have pe1 := FrW.cell e1
              have HJS : Hid (∀ X : FrW wj, Calls Tryz.prog 11 #[.pointer (some ⟨r, 0, none⟩)] X.val fun e w' => e = .returned (.int .i64 RN) ∧ X.val = w') := Lib.hid (fun X => by have := (HJ.out.lv.keep X.fr).stuck; rw [HRN.out] at this; exact this)
              by_cases hns : NS = 0
              · by_cases hrn : RN = 0
                · obtain rfl : a0 = b0 + pn := hfree hns hrn
                  subst hns hrn
                  clear hfree
                  go_upto_region 20 with (fail)
                  refine wp_region_fr (by kernel_rfl) (by kernel_rfl) ?_
                  repeat (go_big_quiet_step ((first | (go_at_call 11; rename_i X; refine (HJS.out X).mono ?_; rintro e w2 ⟨rfl, rfl⟩; exact ⟨rfl, X, rfl⟩) | (go_at_call 12; rename_i X; with_reducible refine (hL8.out X.val X.fr).mono ?_; rintro e w2 ⟨rfl, hF⟩; exact ⟨rfl, ⟨w2, X.fr.trans hF⟩, rfl⟩) | (go_at_call 12; rename_i X; with_reducible refine (hL9.out X.val X.fr).mono ?_; rintro e w2 ⟨rfl, hF⟩; exact ⟨rfl, ⟨w2, X.fr.trans hF⟩, rfl⟩))))
                  refine wpQuiet_nil ?_
                  rintro V ⟨⟨_, hV⟩, rfl⟩
                  have HJ2 := Lib.hid (HJ.out.keep hV)
                  clear hV pe0 pe1
                  go_wp2_with fail
                  go_roundw
                  case rel => exact ⟨q + 1, by omega, by go_num, HJ2.out⟩
                  case measure => simp [intOf]; omega
                · have hrnI : ((RN : Int) == 0) = false := by simpa using hrn
                  subst hns
                  clear hfree hrn
                  go_upto_region 20 with (fail)
                  refine wp_region_fr (by kernel_rfl) (by kernel_rfl) ?_
                  repeat (go_big_quiet_step ((go_at_call 11; rename_i X; refine (HJS.out X).mono ?_; rintro e w2 ⟨rfl, rfl⟩; exact ⟨rfl, X, rfl⟩)))
                  refine wpQuiet_nil ?_
                  rintro V ⟨⟨_, hV⟩, rfl⟩
                  have HJ2 := Lib.hid (HJ.out.keep hV)
                  clear hV pe0 pe1
                  go_wp2_with fail
                  go_roundw
                  case rel => exact ⟨q + 1, by omega, by go_num, HJ2.out⟩
                  case measure => simp [intOf]; omega
              · have hnsI : ((NS : Int) == 0) = false := by simpa using hns
                clear hfree hns
                go_upto_region 20 with (fail)
                refine wp_region_fr (by kernel_rfl) (by kernel_rfl) ?_
                repeat (go_big_quiet_step (fail))
                refine wpQuiet_nil ?_
                rintro V ⟨⟨_, hV⟩, rfl⟩
                have HJ2 := Lib.hid (HJ.out.keep hV)
                clear hV pe0 pe1
                go_wp2_with fail
                go_roundw
                case rel => exact ⟨q + 1, by omega, by go_num, HJ2.out⟩
                case measure => simp [intOf]; omega
            · have hqI : ¬ (q : Int) < K := by omega
              go_wp2_with fail
              go_ret
              exact ⟨rfl, HBEL.out _ HJ.out.lv.fr⟩
      · have hb1 : (k : Int) < N := by omega
        have hb4 : ¬ (k : Int) < 40 := by omega
        clear hlt hlt4
        rcases hNP with ⟨hgt, rfl, rfl⟩ | ⟨hgt, rfl⟩ | ⟨hgt, rfl⟩
        · have hgtI : (NS : Int) < ((NS + 1 : Nat) : Int) := by omega
          have hgte : ((NS + 1 : Nat) : Int) = (NS : Int) + 1 := by omega
          rw [hgte] at hgtI
          clear hgt
          go_wp2_with (first
            | (go_at_call 10; refine HL9.out.lv.shelf.mono ?_; rintro e wa ⟨ga, Ta, rfl, hsa, hla, hfa, hta⟩; have HLA := Lib.hid hla; clear hsa hla hfa hta)
            | (go_at_call 9; refine (hml.out _ HF8.out).mono ?_; rintro e w9 ⟨v9, T9, rfl, hr9, ⟨L9, hp9, hl9⟩, hs9⟩; obtain ⟨sa, sc, hv9⟩ := row_sl hp9.row; have hl9' : L9.length = R.1.length := (by rw [← hl9, List.length_map]); rw [HPN.out] at hl9'; rw [hl9'] at hv9; subst hv9; have HL9 := Lib.hid hr9; clear hr9 hp9 hl9 hs9 hl9')
            | (go_at_call 11; refine HLA.out.stuck.mono ?_; rw [HRN.out]; rintro e wb ⟨rfl, rfl⟩)
            | (go_at_call 11; refine HL8.out.stuck.mono ?_; rw [HNS.out]; rintro e wc ⟨rfl, rfl⟩)
            | (go_at_call 10; refine HI.out.lv.shelf.mono ?_; rintro e w8 ⟨g8, T8, rfl, hs8, hl8, hf8, ht8⟩; have HL8 := Lib.hid hl8; have HF8 := Lib.hid hf8; clear hs8 hl8 hf8 ht8))
          go_ret
          exact ⟨rfl, HBEL.out _ HLA.out.fr⟩
        · have hgtI : ¬ (NS : Int) < (RN : Int) := by omega
          clear hgt
          go_wp2_with (first
            | (go_at_call 10; refine HL9.out.lv.shelf.mono ?_; rintro e wa ⟨ga, Ta, rfl, hsa, hla, hfa, hta⟩; have HLA := Lib.hid hla; have HGD : Hid (GdI w wa r g8 ga T8 Ta T9 x.A R.2) := Lib.hid ⟨HS9.out.fr hfa (fun _ _ e => e), hsa, hla⟩; clear hsa hla hfa hta)
            | (go_at_call 9; refine (hml.out _ HF8.out).mono ?_; rintro e w9 ⟨v9, T9, rfl, hr9, ⟨L9, hp9, hl9⟩, hs9⟩; obtain ⟨sa, sc, hv9⟩ := row_sl hp9.row; have hl9' : L9.length = R.1.length := (by rw [← hl9, List.length_map]); rw [HPN.out] at hl9'; rw [hl9'] at hv9; subst hv9; have HL9 := Lib.hid hr9; have HS9 := Lib.hid (HS8.out.fr hs9.1 (fun b hb e => by have := HT8.out b hb; have := HI.out.lv.lt b e; omega)); clear hr9 hp9 hl9 hs9 hl9')
            | (go_at_call 11; refine HLA.out.stuck.mono ?_; rw [HRN.out]; rintro e wb ⟨rfl, rfl⟩)
            | (go_at_call 11; refine HL8.out.stuck.mono ?_; rw [HNS.out]; rintro e wc ⟨rfl, rfl⟩)
            | (go_at_call 10; refine HI.out.lv.shelf.mono ?_; rintro e w8 ⟨g8, T8, rfl, hs8, hl8, hf8, ht8⟩; have HL8 := Lib.hid hl8; have HF8 := Lib.hid hf8; have HS8 := Lib.hid hs8; have HT8 := Lib.hid ht8; clear hs8 hl8 hf8 ht8))
          go_loopw [12] (fun i wr => ∃ (q : Nat), q ≤ K ∧ i = .int .i64 q ∧ GdI w wr r g8 ga T8 Ta T9 x.A R.2) (fun i _ => K - (intOf i).toNat)
          case atStart => exact ⟨0, Nat.zero_le _, rfl, HGD.out⟩
          case round =>
            obtain ⟨q, hq, rfl, hJ⟩ := hrel
            have HJ := Lib.hid hJ
            obtain ⟨wj, rfl⟩ : ∃ wj : World, wj = wr := ⟨_, rfl⟩
            clear hJ
            by_cases hqK : q < K
            · have hqI : (q : Int) < K := by omega
              obtain ⟨p, hp⟩ : ∃ p, G[q]? = some p := ⟨G[q]'(by rw [HK.out]; exact hqK), List.getElem?_eq_getElem _⟩
              obtain ⟨ad, rfl, ok1, ok2, e0, e1⟩ := (HG.out.keep HJ.out.lv.fr (fun _ _ _ e => e)).at_ hp
              have hpm := List.mem_of_getElem? hp
              have HOK1 := Lib.hid ok1
              have hB := row_free HKX.out.stk p.1
              have hL8 : Hid (∀ W, Fr (fun _ => False) wj W → Calls Tryz.prog 12 #[.pointer (some ⟨g8, 0, none⟩), vS p.1] W fun e w' => e = .returned (rowAt x.A p.1).lev ∧ Fr (fun _ => False) W w') := Lib.hid (fun W hf => sLevel W g8 T8 x.A p.1 (HJ.out.s8.fr hf (fun _ _ e => e)) ok1)
              have hL9 : Hid (∀ W, Fr (fun _ => False) wj W → Calls Tryz.prog 12 #[.pointer (some ⟨ga, 0, none⟩), vS p.1] W fun e w' => e = .returned (rowAt R.2.A p.1).lev ∧ Fr (fun _ => False) W w') := Lib.hid (fun W hf => sLevel W ga Ta R.2.A p.1 (HJ.out.s9.fr hf (fun _ _ e => e)) ok1)
              have hfree : NS = 0 → RN = 0 → (rowAt R.2.A p.1).free = (rowAt x.A p.1).free + p.2 := fun h1 h2 => HLAW.out.2.2 h1 h2 p hpm
              have hpn : 1 ≤ p.2 ∧ p.2 ≤ 1099511627776 := ((mayL_all HMB.out).row p hpm).2
              obtain ⟨b0, hb0⟩ : ∃ y, (rowAt x.A p.1).free = y := ⟨_, rfl⟩
              obtain ⟨a0, ha0⟩ : ∃ y, (rowAt R.2.A p.1).free = y := ⟨_, rfl⟩
              unfold SR.lev at hL8 hL9
              rw [hb0] at hB hL8 hfree
              rw [ha0] at hL9 hfree
              obtain ⟨b1, hb1'⟩ : ∃ y, (rowAt x.A p.1).held = y := ⟨_, rfl⟩
              obtain ⟨b2, hb2⟩ : ∃ y, (rowAt x.A p.1).picked = y := ⟨_, rfl⟩
              obtain ⟨b3, hb3⟩ : ∃ y, (rowAt x.A p.1).aside = y := ⟨_, rfl⟩
              obtain ⟨a1, ha1⟩ : ∃ y, (rowAt R.2.A p.1).held = y := ⟨_, rfl⟩
              obtain ⟨a2, ha2⟩ : ∃ y, (rowAt R.2.A p.1).picked = y := ⟨_, rfl⟩
              obtain ⟨a3, ha3⟩ : ∃ y, (rowAt R.2.A p.1).aside = y := ⟨_, rfl⟩
              rw [hb1', hb2, hb3] at hL8
              rw [ha1, ha2, ha3] at hL9
              obtain ⟨gd, pn⟩ := p
              dsimp only at hL8 hL9 hfree hpn e0 e1 ok1
              have hfd : ∀ (W : World) (f0 f1 f2 f3 : Int), (Instr.field 47 (.agg #[.int .i64 f0, .int .i64 f1, .int .i64 f2, .int .i64 f3]) 0).run Tryz.prog W = .ok (.int .i64 f0) W := fun _ _ _ _ _ => (by kernel_rfl)
              have hw1 : IntKind.i64.wrap (b0 + pn) = b0 + pn := IntWalk.i64_in _ ⟨by omega, by omega⟩
              have hw2 : wrap64 (b0 + pn) = b0 + pn := by unfold wrap64; omega
              clear hp hpm hB hpn hb0 ha0 hb1' hb2 hb3 ha1 ha2 ha3 ok2
              have pe0 := FrW.cell e0; have pe1 := FrW.cell e1
              have HJS : Hid (∀ X : FrW wj, Calls Tryz.prog 11 #[.pointer (some ⟨r, 0, none⟩)] X.val fun e w' => e = .returned (.int .i64 RN) ∧ X.val = w') := Lib.hid (fun X => by have := (HJ.out.lv.keep X.fr).stuck; rw [HRN.out] at this; exact this)
              by_cases hns : NS = 0
              · by_cases hrn : RN = 0
                · obtain rfl : a0 = b0 + pn := hfree hns hrn
                  subst hns hrn
                  clear hfree
                  go_upto_region 20 with (fail)
                  refine wp_region_fr (by kernel_rfl) (by kernel_rfl) ?_
                  repeat (go_big_quiet_step ((first | (go_at_call 11; rename_i X; refine (HJS.out X).mono ?_; rintro e w2 ⟨rfl, rfl⟩; exact ⟨rfl, X, rfl⟩) | (go_at_call 12; rename_i X; with_reducible refine (hL8.out X.val X.fr).mono ?_; rintro e w2 ⟨rfl, hF⟩; exact ⟨rfl, ⟨w2, X.fr.trans hF⟩, rfl⟩) | (go_at_call 12; rename_i X; with_reducible refine (hL9.out X.val X.fr).mono ?_; rintro e w2 ⟨rfl, hF⟩; exact ⟨rfl, ⟨w2, X.fr.trans hF⟩, rfl⟩))))
                  refine wpQuiet_nil ?_
                  rintro V ⟨⟨_, hV⟩, rfl⟩
                  have HJ2 := Lib.hid (HJ.out.keep hV)
                  clear hV pe0 pe1
                  go_wp2_with fail
                  go_roundw
                  case rel => exact ⟨q + 1, by omega, by go_num, HJ2.out⟩
                  case measure => simp [intOf]; omega
                · have hrnI : ((RN : Int) == 0) = false := by simpa using hrn
                  subst hns
                  clear hfree hrn
                  go_upto_region 20 with (fail)
                  refine wp_region_fr (by kernel_rfl) (by kernel_rfl) ?_
                  repeat (go_big_quiet_step ((go_at_call 11; rename_i X; refine (HJS.out X).mono ?_; rintro e w2 ⟨rfl, rfl⟩; exact ⟨rfl, X, rfl⟩)))
                  refine wpQuiet_nil ?_
                  rintro V ⟨⟨_, hV⟩, rfl⟩
                  have HJ2 := Lib.hid (HJ.out.keep hV)
                  clear hV pe0 pe1
                  go_wp2_with fail
                  go_roundw
                  case rel => exact ⟨q + 1, by omega, by go_num, HJ2.out⟩
                  case measure => simp [intOf]; omega
              · have hnsI : ((NS : Int) == 0) = false := by simpa using hns
                clear hfree hns
                go_upto_region 20 with (fail)
                refine wp_region_fr (by kernel_rfl) (by kernel_rfl) ?_
                repeat (go_big_quiet_step (fail))
                refine wpQuiet_nil ?_
                rintro V ⟨⟨_, hV⟩, rfl⟩
                have HJ2 := Lib.hid (HJ.out.keep hV)
                clear hV pe0 pe1
                go_wp2_with fail
                go_roundw
                case rel => exact ⟨q + 1, by omega, by go_num, HJ2.out⟩
                case measure => simp [intOf]; omega
            · have hqI : ¬ (q : Int) < K := by omega
              go_wp2_with fail
              go_ret
              exact ⟨rfl, HBEL.out _ HJ.out.lv.fr⟩
        · have hgtI : ¬ (NS : Int) < (RN : Int) := by omega
          clear hgt
          go_wp2_with (first
            | (go_at_call 10; refine HL9.out.lv.shelf.mono ?_; rintro e wa ⟨ga, Ta, rfl, hsa, hla, hfa, hta⟩; have HLA := Lib.hid hla; have HGD : Hid (GdI w wa r g8 ga T8 Ta T9 x.A R.2) := Lib.hid ⟨HS9.out.fr hfa (fun _ _ e => e), hsa, hla⟩; clear hsa hla hfa hta)
            | (go_at_call 9; refine (hml.out _ HF8.out).mono ?_; rintro e w9 ⟨v9, T9, rfl, hr9, ⟨L9, hp9, hl9⟩, hs9⟩; obtain ⟨sa, sc, hv9⟩ := row_sl hp9.row; have hl9' : L9.length = R.1.length := (by rw [← hl9, List.length_map]); rw [HPN.out] at hl9'; rw [hl9'] at hv9; subst hv9; have HL9 := Lib.hid hr9; have HS9 := Lib.hid (HS8.out.fr hs9.1 (fun b hb e => by have := HT8.out b hb; have := HI.out.lv.lt b e; omega)); clear hr9 hp9 hl9 hs9 hl9')
            | (go_at_call 11; refine HLA.out.stuck.mono ?_; rw [HRN.out]; rintro e wb ⟨rfl, rfl⟩)
            | (go_at_call 11; refine HL8.out.stuck.mono ?_; rw [HNS.out]; rintro e wc ⟨rfl, rfl⟩)
            | (go_at_call 10; refine HI.out.lv.shelf.mono ?_; rintro e w8 ⟨g8, T8, rfl, hs8, hl8, hf8, ht8⟩; have HL8 := Lib.hid hl8; have HF8 := Lib.hid hf8; have HS8 := Lib.hid hs8; have HT8 := Lib.hid ht8; clear hs8 hl8 hf8 ht8))
          go_loopw [12] (fun i wr => ∃ (q : Nat), q ≤ K ∧ i = .int .i64 q ∧ GdI w wr r g8 ga T8 Ta T9 x.A R.2) (fun i _ => K - (intOf i).toNat)
          case atStart => exact ⟨0, Nat.zero_le _, rfl, HGD.out⟩
          case round =>
            obtain ⟨q, hq, rfl, hJ⟩ := hrel
            have HJ := Lib.hid hJ
            obtain ⟨wj, rfl⟩ : ∃ wj : World, wj = wr := ⟨_, rfl⟩
            clear hJ
            by_cases hqK : q < K
            · have hqI : (q : Int) < K := by omega
              obtain ⟨p, hp⟩ : ∃ p, G[q]? = some p := ⟨G[q]'(by rw [HK.out]; exact hqK), List.getElem?_eq_getElem _⟩
              obtain ⟨ad, rfl, ok1, ok2, e0, e1⟩ := (HG.out.keep HJ.out.lv.fr (fun _ _ _ e => e)).at_ hp
              have hpm := List.mem_of_getElem? hp
              have HOK1 := Lib.hid ok1
              have hB := row_free HKX.out.stk p.1
              have hL8 : Hid (∀ W, Fr (fun _ => False) wj W → Calls Tryz.prog 12 #[.pointer (some ⟨g8, 0, none⟩), vS p.1] W fun e w' => e = .returned (rowAt x.A p.1).lev ∧ Fr (fun _ => False) W w') := Lib.hid (fun W hf => sLevel W g8 T8 x.A p.1 (HJ.out.s8.fr hf (fun _ _ e => e)) ok1)
              have hL9 : Hid (∀ W, Fr (fun _ => False) wj W → Calls Tryz.prog 12 #[.pointer (some ⟨ga, 0, none⟩), vS p.1] W fun e w' => e = .returned (rowAt R.2.A p.1).lev ∧ Fr (fun _ => False) W w') := Lib.hid (fun W hf => sLevel W ga Ta R.2.A p.1 (HJ.out.s9.fr hf (fun _ _ e => e)) ok1)
              have hfree : NS = 0 → RN = 0 → (rowAt R.2.A p.1).free = (rowAt x.A p.1).free + p.2 := fun h1 h2 => HLAW.out.2.2 h1 h2 p hpm
              have hpn : 1 ≤ p.2 ∧ p.2 ≤ 1099511627776 := ((mayL_all HMB.out).row p hpm).2
              obtain ⟨b0, hb0⟩ : ∃ y, (rowAt x.A p.1).free = y := ⟨_, rfl⟩
              obtain ⟨a0, ha0⟩ : ∃ y, (rowAt R.2.A p.1).free = y := ⟨_, rfl⟩
              unfold SR.lev at hL8 hL9
              rw [hb0] at hB hL8 hfree
              rw [ha0] at hL9 hfree
              obtain ⟨b1, hb1'⟩ : ∃ y, (rowAt x.A p.1).held = y := ⟨_, rfl⟩
              obtain ⟨b2, hb2⟩ : ∃ y, (rowAt x.A p.1).picked = y := ⟨_, rfl⟩
              obtain ⟨b3, hb3⟩ : ∃ y, (rowAt x.A p.1).aside = y := ⟨_, rfl⟩
              obtain ⟨a1, ha1⟩ : ∃ y, (rowAt R.2.A p.1).held = y := ⟨_, rfl⟩
              obtain ⟨a2, ha2⟩ : ∃ y, (rowAt R.2.A p.1).picked = y := ⟨_, rfl⟩
              obtain ⟨a3, ha3⟩ : ∃ y, (rowAt R.2.A p.1).aside = y := ⟨_, rfl⟩
              rw [hb1', hb2, hb3] at hL8
              rw [ha1, ha2, ha3] at hL9
              obtain ⟨gd, pn⟩ := p
              dsimp only at hL8 hL9 hfree hpn e0 e1 ok1
              have hfd : ∀ (W : World) (f0 f1 f2 f3 : Int), (Instr.field 47 (.agg #[.int .i64 f0, .int .i64 f1, .int .i64 f2, .int .i64 f3]) 0).run Tryz.prog W = .ok (.int .i64 f0) W := fun _ _ _ _ _ => (by kernel_rfl)
              have hw1 : IntKind.i64.wrap (b0 + pn) = b0 + pn := IntWalk.i64_in _ ⟨by omega, by omega⟩
              have hw2 : wrap64 (b0 + pn) = b0 + pn := by unfold wrap64; omega
              clear hp hpm hB hpn hb0 ha0 hb1' hb2 hb3 ha1 ha2 ha3 ok2
              have pe0 := FrW.cell e0; have pe1 := FrW.cell e1
              have HJS : Hid (∀ X : FrW wj, Calls Tryz.prog 11 #[.pointer (some ⟨r, 0, none⟩)] X.val fun e w' => e = .returned (.int .i64 RN) ∧ X.val = w') := Lib.hid (fun X => by have := (HJ.out.lv.keep X.fr).stuck; rw [HRN.out] at this; exact this)
              by_cases hns : NS = 0
              · by_cases hrn : RN = 0
                · obtain rfl : a0 = b0 + pn := hfree hns hrn
                  subst hns hrn
                  clear hfree
                  go_upto_region 20 with (fail)
                  refine wp_region_fr (by kernel_rfl) (by kernel_rfl) ?_
                  repeat (go_big_quiet_step ((first | (go_at_call 11; rename_i X; refine (HJS.out X).mono ?_; rintro e w2 ⟨rfl, rfl⟩; exact ⟨rfl, X, rfl⟩) | (go_at_call 12; rename_i X; with_reducible refine (hL8.out X.val X.fr).mono ?_; rintro e w2 ⟨rfl, hF⟩; exact ⟨rfl, ⟨w2, X.fr.trans hF⟩, rfl⟩) | (go_at_call 12; rename_i X; with_reducible refine (hL9.out X.val X.fr).mono ?_; rintro e w2 ⟨rfl, hF⟩; exact ⟨rfl, ⟨w2, X.fr.trans hF⟩, rfl⟩))))
                  refine wpQuiet_nil ?_
                  rintro V ⟨⟨_, hV⟩, rfl⟩
                  have HJ2 := Lib.hid (HJ.out.keep hV)
                  clear hV pe0 pe1
                  go_wp2_with fail
                  go_roundw
                  case rel => exact ⟨q + 1, by omega, by go_num, HJ2.out⟩
                  case measure => simp [intOf]; omega
                · have hrnI : ((RN : Int) == 0) = false := by simpa using hrn
                  subst hns
                  clear hfree hrn
                  go_upto_region 20 with (fail)
                  refine wp_region_fr (by kernel_rfl) (by kernel_rfl) ?_
                  repeat (go_big_quiet_step ((go_at_call 11; rename_i X; refine (HJS.out X).mono ?_; rintro e w2 ⟨rfl, rfl⟩; exact ⟨rfl, X, rfl⟩)))
                  refine wpQuiet_nil ?_
                  rintro V ⟨⟨_, hV⟩, rfl⟩
                  have HJ2 := Lib.hid (HJ.out.keep hV)
                  clear hV pe0 pe1
                  go_wp2_with fail
                  go_roundw
                  case rel => exact ⟨q + 1, by omega, by go_num, HJ2.out⟩
                  case measure => simp [intOf]; omega
              · have hnsI : ((NS : Int) == 0) = false := by simpa using hns
                clear hfree hns
                go_upto_region 20 with (fail)
                refine wp_region_fr (by kernel_rfl) (by kernel_rfl) ?_
                repeat (go_big_quiet_step (fail))
                refine wpQuiet_nil ?_
                rintro V ⟨⟨_, hV⟩, rfl⟩
                have HJ2 := Lib.hid (HJ.out.keep hV)
                clear hV pe0 pe1
                go_wp2_with fail
                go_roundw
                case rel => exact ⟨q + 1, by omega, by go_num, HJ2.out⟩
                case measure => simp [intOf]; omega
            · have hqI : ¬ (q : Int) < K := by omega
              go_wp2_with fail
              go_ret
              exact ⟨rfl, HBEL.out _ HJ.out.lv.fr⟩
set_option maxRecDepth 100000 in
theorem lifted (os : Os) (started : os.Started) (H : Type) (enc : TypeId × Value → H) :
    ReturnsInHanded {} Tryz.checked os 3 .any (Rows.regionGoodsSpec.pre6 enc Tryz.prog Tryz.f3 Rows.regionGoodsRow.domain false) (Rows.regionGoodsSpec.post enc Tryz.prog Tryz.f3 false true false false) := by
  refine returnsInHanded_of_change (C := Tryz.checked) own started (by kernel_rfl) Tryz.func3
    (ChangeSpec.witness6 (enc := enc) (C := Tryz.checked) false ⟨#[], #[.slice none 0 0, .slice none 0 0], []⟩ 8 (by kernel_rfl) (by kernel_rfl) (by kernel_rfl) (by kernel_rfl)) ?_
  intro W base args ds gs before hval0 hW hcnd _
  have hval : ∀ (j : Nat) t v, Tryz.f3.params[j]? = some t → args[j]? = some v → Value.okWide Tryz.prog W .any base t v := hval0
  have hW' := hW
  obtain ⟨p, q, hA0, hV, rfl, hfz, hnd⟩ := hW
  have hA : DataW.TrodAll enc Tryz.prog W 0 (fun _ => true) true Tryz.f3.params.toList args.toList ds p := hA0
  rw [Tryz.params3] at hA hval
  obtain ⟨v0, vs0, d0, ds0, p0, q0, hargs, rfl, rfl, h0, r0⟩ := trodAll_cons hA
  obtain ⟨v1, vs1, d1, ds1, p1, q1, rfl, rfl, rfl, h1, r1⟩ := trodAll_cons r0
  obtain ⟨rfl, rfl, rfl⟩ := trodAll_nil r1
  obtain rfl : args = #[v0, v1] := by cases args; simp_all
  obtain ⟨rfl, rfl⟩ := trodVars_none hV
  obtain ⟨L0, hL0⟩ := open_letters (hval 0 22 v0 rfl rfl) h0
  obtain ⟨L1, hL1⟩ := open_items (hval 1 23 v1 rfl rfl) h1
  clear hA0 hval0
  simp only [List.append_nil] at hW'
  refine (walk W v0 v1 L0 L1 hL0 hL1).mono fun e W' ⟨he, hg⟩ => ?_
  subst he
  exact ⟨_, rfl, law_post laidOut (by kernel_rfl) rfl Tryz.underlying4 hW' rfl rfl hg⟩
theorem over : Rows.regionGoodsRow.holds Tryz.pinned (OpenSpec.ofChange Rows.regionGoodsSpec) :=
  OpenClaim.holds_of_wide 3 Tryz.f3 rfl rfl rfl rfl rfl rfl rfl ⟨rfl, rfl, rfl, rfl, rfl⟩ rfl rfl rfl rfl rfl (by kernel_rfl) Tryz.func3 (by kernel_rfl)
    (of_decide_eq_true (by kernel_rfl)) (by unfold Func.isWrapper; first | (rw [if_pos (by decide +kernel)]; kernel_rfl) | (rw [if_neg (by decide +kernel)]; exact ⟨rfl, rfl⟩))
    (fun os started H enc _ => lifted os started H enc)
theorem proved : Rows.RegionGoodsSaid :=
  over
#print axioms proved
end Go.Proofs.YtmflpeklalgibaaGreat.regionGoods

