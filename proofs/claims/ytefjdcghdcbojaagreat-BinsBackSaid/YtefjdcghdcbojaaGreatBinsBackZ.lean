/- bins: for every input BinsBack returns true and leaves its input as it was. -/
import Derived.Test.YtefjdcghdcbojaaGreatRows
import Derived.Test.YtefjdcghdcbojaaGreatBinsBackM13
import Derived.Test.YtefjdcghdcbojaaGreatBinsBackM1
import Derived.Deep.RegionWith
import Derived.Deep.QuietTactic
import Derived.BigQuiet
namespace Go.Proofs.YtefjdcghdcbojaaGreat.binsBack
open Go.ChangeShapes Go.WideShapes Go.ChangeAt Go.RowKit Go.Maps
set_option maxRecDepth 100000 in
set_option maxHeartbeats 16000000 in
theorem walk (v0 v1 : Value) (B : List BI) (ops : List BOp) (s : Str) (n : Int) (w : World) (hB : Sbi w v0 B) (hp : Sq 5 bopC okBop w v1 ops) (hs : okS s) (hn : okI n) : Calls Tryz.prog 4 #[v0, v1, vS s, .int .i64 n] w fun e w' => e = .returned (.bool true) ∧ Below w.heap.size w w' := by
  have hlen := hp.len
  obtain ⟨va, vl, vc, rfl⟩ : ∃ a n c, v1 = .slice a n c := by obtain ⟨a, c, e⟩ := hp.sl; exact ⟨a, _, c, e⟩
  have hvl : vl = ops.length := by obtain ⟨a, c, e⟩ := hp.sl; injection e
  obtain ⟨N, hN⟩ : ∃ N, ops.length = N := ⟨_, rfl⟩
  rw [hN] at hvl hlen
  subst hvl
  have HN := Lib.hid hN; have HP := Lib.hid hp; have HB := Lib.hid hB; have HS := Lib.hid hs
  clear hp hB hN hs
  have hfin : ∀ w', Fr (fun _ => False) w w' → Below w.heap.size w w' := fun w' h => h.toBelow (fun b e => e.elim) (Nat.le_refl _)
  have HFIN := Lib.hid hfin
  clear hfin
  go_enter Tryz.func4, Tryz.ntmps4
  go_wp2_with fail
  refine (lFloor w v0 B HB.out).mono ?_
  rintro e w1 (⟨hm, rfl, hf1⟩ | ⟨hm, g, gr, vr, wa, rfl, hFS, hgr, hf1, hobj, hrow⟩)
  · have hM := Lib.hid (fun W (hf : Fr (fun _ => False) w W) => rMay W v0 B (HB.out.fr0 okBiKeeps hf))
    rw [hm] at hM
    have HF := Lib.hid hf1
    clear hm hf1
    go_wp2_with (first
      | (go_at_call 8; refine (lLives _).mono ?_; rintro e w2 ⟨rfl, hf2⟩; have HF := Lib.hid (HF.out.trans hf2); clear hf2)
      | (go_at_call 12; refine (hM.out _ HF.out).mono ?_; rintro e w3 ⟨rfl, hf3⟩; have HF := Lib.hid (HF.out.trans hf3); clear hf3))
    go_ret
    exact ⟨rfl, HFIN.out _ HF.out⟩
  have hQ : PQ w w1 g gr (B.map BI.e) (B.map BI.e) KN KN := PQ.start (fun b hb => HB.out.okm hb) hm hFS hgr hf1 hobj hrow
  obtain ⟨M, hM⟩ : ∃ M, B.map BI.e = M := ⟨_, rfl⟩
  rw [hM] at hQ
  have HQ := Lib.hid hQ
  clear hm hFS hgr hf1 hobj hrow hM hQ
  go_wp2_with (go_at_call 8; refine (lLives _).mono ?_; rintro e w2 ⟨rfl, hf2⟩; have HQ := Lib.hid (HQ.out.keep hf2); clear hf2)
  go_loopw [12] (fun vi wr => ∃ (k : Nat) (M : List BE), k ≤ vl ∧ k ≤ 60 ∧ vi = .int .i64 k ∧ PQ w wr g gr M M KN KN) (fun vi _ => vl - (intOf vi).toNat)
  case atStart => exact ⟨0, M, Nat.zero_le _, Nat.zero_le _, rfl, HQ.out⟩
  case round =>
    obtain ⟨k, M, hk, hk2, rfl, hQ⟩ := hrel
    have HQ := Lib.hid hQ
    clear hQ
    by_cases hlt : k < vl
    · have hkI : (k : Int) < vl := by omega
      by_cases h60 : k < 60
      · have hkJ : (k : Int) < 60 := by omega
        obtain ⟨o, hob⟩ : ∃ o, ops[k]? = some o := ⟨ops[k]'(by rw [HN.out]; exact hlt), List.getElem?_eq_getElem _⟩
        obtain ⟨ad, rfl, hok, z0, zs⟩ := (HP.out.fr0 okBopKeeps HQ.out.fr).at_ hob
        obtain ⟨K, so, no, bb, t⟩ := o
        have x0 := z0 (.int .i64 K) rfl
        have x1 := zs 0 (vS so) rfl
        have x2 := zs 1 (.int .i64 no) rfl
        have x3 := zs 2 (.int .i64 bb) rfl
        have x4 := zs 3 (.int .i64 t) rfl
        dsimp only [Nat.zero_add, Nat.reduceAdd] at x1 x2 x3 x4
        have HOK := Lib.hid hok
        clear hob hok z0 zs
        go_wp2_with (go_at_call 13; refine (lDo w _ g gr M _ _ ⟨K, so, no, bb, t⟩ HQ.out HOK.out).mono ?_; rintro e w3 ⟨M3, rfl, hi3, hq3, hf3⟩; have HQ3 := Lib.hid hq3; clear hi3 hq3 hf3)
        go_roundw
        case rel => exact ⟨k + 1, M3, by omega, by omega, by go_num, HQ3.out⟩
        case measure => simp [intOf]; omega
      · have hkJ : ¬ (k : Int) < 60 := by omega
        go_wp2_with fail
        obtain ⟨HV, hHV⟩ : ∃ V, sumE M s = V := ⟨_, rfl⟩
        obtain ⟨SB, hSB⟩ : ∃ S, strOfNums (packE M) = S := ⟨_, rfl⟩
        have HHV := Lib.hid hHV; have HSB := Lib.hid hSB
        go_cut [13, 14] from 59 to 64 (fun s13 s14 wx => s13 = .string SB ∧ s14 = .int .i64 HV ∧ PQ w wx g gr M M KN KN)
        case first =>
          have HQD := Lib.hid (HQ.out.keep (Fr.refl (fun _ => False) wr).drew)
          clear hHV hSB
          go_region_with (first
            | (go_at_call 10; refine HQD.out.fpack.mono ?_; rintro e w6 ⟨v6, rfl, hb6, hv6, hf6⟩; have HQD := Lib.hid (HQD.out.keep hf6); have HB6 := Lib.hid hb6; have hs6 := hb6.string; rw [HSB.out] at hs6; clear hb6 hv6 hf6)
            | (go_at_call 14; refine (HQD.out.fof s).mono ?_; rw [HHV.out]; rintro e w7 ⟨rfl, hf7⟩; have HQD := Lib.hid (HQD.out.keep hf7); have hs6b := (HB6.out.fr hf7 (fun _ h => h.elim)).string; rw [HSB.out] at hs6b; clear hf7))
          all_goals
            go_wp2_with fail
            go_meet
            exact ⟨rfl, rfl, HQD.out⟩
        case rest =>
          obtain ⟨rfl, rfl, hq⟩ := hcut
          have HQ := Lib.hid hq
          clear hHV hSB hq
          have hpa := putA_cases (s := s) (n := n) HQ.out.okM HQ.out.lenM.2
          have hfp := HQ.out.fput s n HS.out
          have hin := (have_in (s := s) HQ.out.okM HQ.out.lenM.2).2
          rw [HHV.out] at hpa hin
          obtain ⟨⟨PE, PO, PM⟩, hA⟩ : ∃ A, putA M s n = A := ⟨_, rfl⟩
          rw [hA] at hpa hfp
          dsimp only at hpa hfp
          have HFP := Lib.hid hfp
          clear hfp hA
          rcases hpa with ⟨hne, rfl, rfl⟩ | ⟨rfl, hm, hpo, hsum, hhv⟩
          · have hd : (PE == 0) = false := by simpa using hne
            clear hne
            go_wp2_with (first
              | (go_at_call 15; refine HFP.out.mono ?_; rintro e w8 ⟨v8, rfl, hpl, hq, hf⟩; obtain ⟨a8, c8, rfl⟩ := hpl.sl; dsimp only [List.length_nil]; have HQ := Lib.hid (hq.less (KF' := KN) (KX' := KN) (fun _ e => e) (fun _ e => e.elim)); clear hpl hq hf)
              | (go_at_call 10; refine HQ.out.fpack.mono ?_; rintro e w9 ⟨v9, rfl, hb9, hv9, hf9⟩; have HQ := Lib.hid (HQ.out.keep hf9); have hs9 := hb9.string; rw [HSB.out] at hs9; clear hb9 hv9 hf9))
            go_ret
            exact ⟨rfl, HFIN.out _ HQ.out.fr⟩
          · have HM := Lib.hid hm
            obtain ⟨hg, hn1, hn2⟩ := mayF_zero hm
            have HG := Lib.hid hg; have HPO := Lib.hid hpo; have HSUM := Lib.hid hsum; have HPV := Lib.hid hhv
            obtain ⟨PL, hPL⟩ : ∃ L, PO.length = L := ⟨_, rfl⟩
            have HPL := Lib.hid hPL
            clear hm hg hpo hsum hhv
            go_wp2_with (go_at_call 15; refine HFP.out.mono ?_; rintro e w8 ⟨v8, rfl, hpl, hq, hf⟩; have hll := hpl.len; obtain ⟨a8, c8, rfl⟩ := hpl.sl; rw [hPL] at hpl hll ⊢; have HQ := Lib.hid (hq.less (KF' := KN) (KX' := KN) (fun _ e => e) (fun _ e => e.elim)); have HPP := Lib.hid hpl; clear hpl hq hf hPL)
            go_loopw [17, 18] (fun vs vi wr2 => ∃ j : Nat, j ≤ PL ∧ vs = .int .i64 (sumP (PO.take j)) ∧ vi = .int .i64 j ∧ PQ w wr2 g gr PM M KN KN ∧ Pl wr2 (.slice a8 PL c8) PO) (fun _ vi _ => PL - (intOf vi).toNat)
            case atStart => exact ⟨0, Nat.zero_le _, rfl, rfl, HQ.out, HPP.out⟩
            case round =>
              obtain ⟨j, hj, rfl, rfl, hQ, hP⟩ := hrel
              have HQ := Lib.hid hQ; have HPP := Lib.hid hP
              clear hQ hP
              by_cases hlt2 : j < PL
              · obtain ⟨p, hp⟩ : ∃ p, PO[j]? = some p := ⟨PO[j]'(by rw [HPL.out]; exact hlt2), List.getElem?_eq_getElem _⟩
                obtain ⟨ad, rfl, hok, z0, zs⟩ := HPP.out.at_ hp
                obtain ⟨hpg, hpn⟩ := HPO.out p (List.mem_of_getElem? hp)
                have x1 := zs 0 (vS p.g) rfl
                have x2 := zs 1 (.int .i64 p.n) rfl
                rw [hpg] at x1
                dsimp only [Nat.zero_add, Nat.reduceAdd] at x1 x2
                have hjI : (j : Int) < PL := by omega
                have h1 := sumP_part (fun q hq => (HPO.out q hq).2) j
                have h2 := sumP_part (fun q hq => (HPO.out q hq).2) (j + 1)
                have ht := sumP_take hp
                rw [HSUM.out] at h1 h2
                rw [ht] at h2
                obtain ⟨T, hT⟩ : ∃ T, sumP (PO.take j) = T := ⟨_, rfl⟩
                rw [hT] at ht h1 h2 ⊢
                have HT := Lib.hid ht
                obtain ⟨pn, hpn2⟩ : ∃ q, p.n = q := ⟨_, rfl⟩
                rw [hpn2] at x2 hpn h2 HT
                have hw : IntKind.i64.wrap (T + pn) = T + pn := IntWalk.i64_in _ ⟨by omega, by omega⟩
                have hpn1 : ¬ pn < 1 := by omega
                clear hp hok z0 zs ht hT hpg hpn2
                go_wp2_with fail
                go_roundw
                case rel => exact ⟨j + 1, by omega, by rw [HT.out]; first | done | rfl | (rw [hw]), by go_num, by first | exact HQ.out | exact HQ.out.keep (Fr.refl _ _).drew, by first | exact HPP.out | exact HPP.out.fr0 okPvKeeps (Fr.refl _ _).drew⟩
                case measure => simp [intOf]; omega
              · obtain rfl : j = PL := by omega
                have hjI : ¬ (j : Int) < j := by omega
                have hs1 : sumP (PO.take j) = n := by rw [List.take_of_length_le (by rw [HPL.out]; exact Nat.le_refl _)]; exact HSUM.out
                rw [hs1]
                clear hs1
                have hw1 : IntKind.i64.wrap (HV + n) = HV + n := IntWalk.i64_in _ ⟨by omega, by omega⟩
                have hw2 : IntKind.i64.wrap (HV + 1) = HV + 1 := IntWalk.i64_in _ ⟨by omega, by omega⟩
                have hok := HQ.out.okM; have hl6 := HQ.out.lenM.2
                have t1 := takeA_ok hok hl6 HM.out (by rw [HPV.out]; omega)
                have hi1 := takeA_inv (s := s) (n := n) hok
                have hft := fun W KX' (hq : PQ w W g gr PM M KN KX') => hq.ftake s n HS.out
                rw [HPV.out, Int.add_sub_cancel] at t1
                obtain ⟨⟨TE, TO, TM⟩, hA⟩ : ∃ A, takeA PM s n = A := ⟨_, rfl⟩
                rw [hA] at t1 hi1
                simp only [hA] at hft
                dsimp only at t1 hi1 hft
                obtain ⟨rfl, hto, htv⟩ := t1
                have t2 := takeA_more hi1.1 (by rw [binI_len hi1.2]; exact hl6) HG.out
                have hft2 := fun W KX' (hq : PQ w W g gr TM M KN KX') => hq.ftake s (HV + 1) HS.out
                rw [htv] at t2
                obtain ⟨⟨UE, UO, UM⟩, hA2⟩ : ∃ A, takeA TM s (HV + 1) = A := ⟨_, rfl⟩
                rw [hA2] at t2
                simp only [hA2] at hft2
                dsimp only at t2 hft2
                obtain ⟨rfl, t2⟩ := t2
                obtain ⟨TL, hTL⟩ : ∃ L, TO.length = L := ⟨_, rfl⟩
                rw [hTL] at hto
                have HTL := Lib.hid hTL; have HTV := Lib.hid htv
                have HFT := Lib.hid hft; have HFT2 := Lib.hid hft2
                have htoI : (0 : Int) < TL := by omega
                clear hok hl6 hi1 hft hft2 hA hA2 hTL htv
                rcases t2 with rfl | ⟨rfl, hbig⟩
                · go_wp2_with (first
                    | (go_at_call 16; first | ((with_reducible refine (HFT.out _ _ HQ.out).mono ?_); rintro e w8 ⟨v8, rfl, hpl, hq, hf⟩; obtain ⟨a8, c8, rfl⟩ := hpl.sl; rw [HTL.out]; have HQ := Lib.hid (hq.less (KF' := KN) (KX' := KN) (fun _ e => e) (fun _ e => e.elim)); clear hpl hq hf) | ((with_reducible refine (HFT2.out _ _ HQ.out).mono ?_); rintro e w9 ⟨v9, rfl, hpl, hq, hf⟩; obtain ⟨a9, c9, rfl⟩ := hpl.sl; have HQ := Lib.hid (hq.less (KF' := KN) (KX' := KN) (fun _ e => e) (fun _ e => e.elim)); clear hpl hq hf))
                    | (go_at_call 14; refine (HQ.out.fof s).mono ?_; (first | rw [HTV.out] | rw [HPV.out]); rintro e w10 ⟨rfl, hf⟩; have HQ := Lib.hid (HQ.out.keep hf); clear hf))
                  go_ret
                  exact ⟨rfl, HFIN.out _ HQ.out.fr⟩
                · go_wp2_with (first
                    | (go_at_call 16; first | ((with_reducible refine (HFT.out _ _ HQ.out).mono ?_); rintro e w8 ⟨v8, rfl, hpl, hq, hf⟩; obtain ⟨a8, c8, rfl⟩ := hpl.sl; rw [HTL.out]; have HQ := Lib.hid (hq.less (KF' := KN) (KX' := KN) (fun _ e => e) (fun _ e => e.elim)); clear hpl hq hf) | ((with_reducible refine (HFT2.out _ _ HQ.out).mono ?_); rintro e w9 ⟨v9, rfl, hpl, hq, hf⟩; obtain ⟨a9, c9, rfl⟩ := hpl.sl; have HQ := Lib.hid (hq.less (KF' := KN) (KX' := KN) (fun _ e => e) (fun _ e => e.elim)); clear hpl hq hf))
                    | (go_at_call 14; refine (HQ.out.fof s).mono ?_; (first | rw [HTV.out] | rw [HPV.out]); rintro e w10 ⟨rfl, hf⟩; have HQ := Lib.hid (HQ.out.keep hf); clear hf))
                  go_ret
                  exact ⟨rfl, HFIN.out _ HQ.out.fr⟩
    · obtain rfl : k = vl := by omega
      have hkI : ¬ (k : Int) < k := by omega
      go_wp2_with fail
      obtain ⟨HV, hHV⟩ : ∃ V, sumE M s = V := ⟨_, rfl⟩
      obtain ⟨SB, hSB⟩ : ∃ S, strOfNums (packE M) = S := ⟨_, rfl⟩
      have HHV := Lib.hid hHV; have HSB := Lib.hid hSB
      go_cut [13, 14] from 59 to 64 (fun s13 s14 wx => s13 = .string SB ∧ s14 = .int .i64 HV ∧ PQ w wx g gr M M KN KN)
      case first =>
        have HQD := Lib.hid (HQ.out.keep (Fr.refl (fun _ => False) wr).drew)
        clear hHV hSB
        go_region_with (first
          | (go_at_call 10; refine HQD.out.fpack.mono ?_; rintro e w6 ⟨v6, rfl, hb6, hv6, hf6⟩; have HQD := Lib.hid (HQD.out.keep hf6); have HB6 := Lib.hid hb6; have hs6 := hb6.string; rw [HSB.out] at hs6; clear hb6 hv6 hf6)
          | (go_at_call 14; refine (HQD.out.fof s).mono ?_; rw [HHV.out]; rintro e w7 ⟨rfl, hf7⟩; have HQD := Lib.hid (HQD.out.keep hf7); have hs6b := (HB6.out.fr hf7 (fun _ h => h.elim)).string; rw [HSB.out] at hs6b; clear hf7))
        all_goals
          go_wp2_with fail
          go_meet
          exact ⟨rfl, rfl, HQD.out⟩
      case rest =>
        obtain ⟨rfl, rfl, hq⟩ := hcut
        have HQ := Lib.hid hq
        clear hHV hSB hq
        have hpa := putA_cases (s := s) (n := n) HQ.out.okM HQ.out.lenM.2
        have hfp := HQ.out.fput s n HS.out
        have hin := (have_in (s := s) HQ.out.okM HQ.out.lenM.2).2
        rw [HHV.out] at hpa hin
        obtain ⟨⟨PE, PO, PM⟩, hA⟩ : ∃ A, putA M s n = A := ⟨_, rfl⟩
        rw [hA] at hpa hfp
        dsimp only at hpa hfp
        have HFP := Lib.hid hfp
        clear hfp hA
        rcases hpa with ⟨hne, rfl, rfl⟩ | ⟨rfl, hm, hpo, hsum, hhv⟩
        · have hd : (PE == 0) = false := by simpa using hne
          clear hne
          go_wp2_with (first
            | (go_at_call 15; refine HFP.out.mono ?_; rintro e w8 ⟨v8, rfl, hpl, hq, hf⟩; obtain ⟨a8, c8, rfl⟩ := hpl.sl; dsimp only [List.length_nil]; have HQ := Lib.hid (hq.less (KF' := KN) (KX' := KN) (fun _ e => e) (fun _ e => e.elim)); clear hpl hq hf)
            | (go_at_call 10; refine HQ.out.fpack.mono ?_; rintro e w9 ⟨v9, rfl, hb9, hv9, hf9⟩; have HQ := Lib.hid (HQ.out.keep hf9); have hs9 := hb9.string; rw [HSB.out] at hs9; clear hb9 hv9 hf9))
          go_ret
          exact ⟨rfl, HFIN.out _ HQ.out.fr⟩
        · have HM := Lib.hid hm
          obtain ⟨hg, hn1, hn2⟩ := mayF_zero hm
          have HG := Lib.hid hg; have HPO := Lib.hid hpo; have HSUM := Lib.hid hsum; have HPV := Lib.hid hhv
          obtain ⟨PL, hPL⟩ : ∃ L, PO.length = L := ⟨_, rfl⟩
          have HPL := Lib.hid hPL
          clear hm hg hpo hsum hhv
          go_wp2_with (go_at_call 15; refine HFP.out.mono ?_; rintro e w8 ⟨v8, rfl, hpl, hq, hf⟩; have hll := hpl.len; obtain ⟨a8, c8, rfl⟩ := hpl.sl; rw [hPL] at hpl hll ⊢; have HQ := Lib.hid (hq.less (KF' := KN) (KX' := KN) (fun _ e => e) (fun _ e => e.elim)); have HPP := Lib.hid hpl; clear hpl hq hf hPL)
          go_loopw [17, 18] (fun vs vi wr2 => ∃ j : Nat, j ≤ PL ∧ vs = .int .i64 (sumP (PO.take j)) ∧ vi = .int .i64 j ∧ PQ w wr2 g gr PM M KN KN ∧ Pl wr2 (.slice a8 PL c8) PO) (fun _ vi _ => PL - (intOf vi).toNat)
          case atStart => exact ⟨0, Nat.zero_le _, rfl, rfl, HQ.out, HPP.out⟩
          case round =>
            obtain ⟨j, hj, rfl, rfl, hQ, hP⟩ := hrel
            have HQ := Lib.hid hQ; have HPP := Lib.hid hP
            clear hQ hP
            by_cases hlt2 : j < PL
            · obtain ⟨p, hp⟩ : ∃ p, PO[j]? = some p := ⟨PO[j]'(by rw [HPL.out]; exact hlt2), List.getElem?_eq_getElem _⟩
              obtain ⟨ad, rfl, hok, z0, zs⟩ := HPP.out.at_ hp
              obtain ⟨hpg, hpn⟩ := HPO.out p (List.mem_of_getElem? hp)
              have x1 := zs 0 (vS p.g) rfl
              have x2 := zs 1 (.int .i64 p.n) rfl
              rw [hpg] at x1
              dsimp only [Nat.zero_add, Nat.reduceAdd] at x1 x2
              have hjI : (j : Int) < PL := by omega
              have h1 := sumP_part (fun q hq => (HPO.out q hq).2) j
              have h2 := sumP_part (fun q hq => (HPO.out q hq).2) (j + 1)
              have ht := sumP_take hp
              rw [HSUM.out] at h1 h2
              rw [ht] at h2
              obtain ⟨T, hT⟩ : ∃ T, sumP (PO.take j) = T := ⟨_, rfl⟩
              rw [hT] at ht h1 h2 ⊢
              have HT := Lib.hid ht
              obtain ⟨pn, hpn2⟩ : ∃ q, p.n = q := ⟨_, rfl⟩
              rw [hpn2] at x2 hpn h2 HT
              have hw : IntKind.i64.wrap (T + pn) = T + pn := IntWalk.i64_in _ ⟨by omega, by omega⟩
              have hpn1 : ¬ pn < 1 := by omega
              clear hp hok z0 zs ht hT hpg hpn2
              go_wp2_with fail
              go_roundw
              case rel => exact ⟨j + 1, by omega, by rw [HT.out]; first | done | rfl | (rw [hw]), by go_num, by first | exact HQ.out | exact HQ.out.keep (Fr.refl _ _).drew, by first | exact HPP.out | exact HPP.out.fr0 okPvKeeps (Fr.refl _ _).drew⟩
              case measure => simp [intOf]; omega
            · obtain rfl : j = PL := by omega
              have hjI : ¬ (j : Int) < j := by omega
              have hs1 : sumP (PO.take j) = n := by rw [List.take_of_length_le (by rw [HPL.out]; exact Nat.le_refl _)]; exact HSUM.out
              rw [hs1]
              clear hs1
              have hw1 : IntKind.i64.wrap (HV + n) = HV + n := IntWalk.i64_in _ ⟨by omega, by omega⟩
              have hw2 : IntKind.i64.wrap (HV + 1) = HV + 1 := IntWalk.i64_in _ ⟨by omega, by omega⟩
              have hok := HQ.out.okM; have hl6 := HQ.out.lenM.2
              have t1 := takeA_ok hok hl6 HM.out (by rw [HPV.out]; omega)
              have hi1 := takeA_inv (s := s) (n := n) hok
              have hft := fun W KX' (hq : PQ w W g gr PM M KN KX') => hq.ftake s n HS.out
              rw [HPV.out, Int.add_sub_cancel] at t1
              obtain ⟨⟨TE, TO, TM⟩, hA⟩ : ∃ A, takeA PM s n = A := ⟨_, rfl⟩
              rw [hA] at t1 hi1
              simp only [hA] at hft
              dsimp only at t1 hi1 hft
              obtain ⟨rfl, hto, htv⟩ := t1
              have t2 := takeA_more hi1.1 (by rw [binI_len hi1.2]; exact hl6) HG.out
              have hft2 := fun W KX' (hq : PQ w W g gr TM M KN KX') => hq.ftake s (HV + 1) HS.out
              rw [htv] at t2
              obtain ⟨⟨UE, UO, UM⟩, hA2⟩ : ∃ A, takeA TM s (HV + 1) = A := ⟨_, rfl⟩
              rw [hA2] at t2
              simp only [hA2] at hft2
              dsimp only at t2 hft2
              obtain ⟨rfl, t2⟩ := t2
              obtain ⟨TL, hTL⟩ : ∃ L, TO.length = L := ⟨_, rfl⟩
              rw [hTL] at hto
              have HTL := Lib.hid hTL; have HTV := Lib.hid htv
              have HFT := Lib.hid hft; have HFT2 := Lib.hid hft2
              have htoI : (0 : Int) < TL := by omega
              clear hok hl6 hi1 hft hft2 hA hA2 hTL htv
              rcases t2 with rfl | ⟨rfl, hbig⟩
              · go_wp2_with (first
                  | (go_at_call 16; first | ((with_reducible refine (HFT.out _ _ HQ.out).mono ?_); rintro e w8 ⟨v8, rfl, hpl, hq, hf⟩; obtain ⟨a8, c8, rfl⟩ := hpl.sl; rw [HTL.out]; have HQ := Lib.hid (hq.less (KF' := KN) (KX' := KN) (fun _ e => e) (fun _ e => e.elim)); clear hpl hq hf) | ((with_reducible refine (HFT2.out _ _ HQ.out).mono ?_); rintro e w9 ⟨v9, rfl, hpl, hq, hf⟩; obtain ⟨a9, c9, rfl⟩ := hpl.sl; have HQ := Lib.hid (hq.less (KF' := KN) (KX' := KN) (fun _ e => e) (fun _ e => e.elim)); clear hpl hq hf))
                  | (go_at_call 14; refine (HQ.out.fof s).mono ?_; (first | rw [HTV.out] | rw [HPV.out]); rintro e w10 ⟨rfl, hf⟩; have HQ := Lib.hid (HQ.out.keep hf); clear hf))
                go_ret
                exact ⟨rfl, HFIN.out _ HQ.out.fr⟩
              · go_wp2_with (first
                  | (go_at_call 16; first | ((with_reducible refine (HFT.out _ _ HQ.out).mono ?_); rintro e w8 ⟨v8, rfl, hpl, hq, hf⟩; obtain ⟨a8, c8, rfl⟩ := hpl.sl; rw [HTL.out]; have HQ := Lib.hid (hq.less (KF' := KN) (KX' := KN) (fun _ e => e) (fun _ e => e.elim)); clear hpl hq hf) | ((with_reducible refine (HFT2.out _ _ HQ.out).mono ?_); rintro e w9 ⟨v9, rfl, hpl, hq, hf⟩; obtain ⟨a9, c9, rfl⟩ := hpl.sl; have HQ := Lib.hid (hq.less (KF' := KN) (KX' := KN) (fun _ e => e) (fun _ e => e.elim)); clear hpl hq hf))
                  | (go_at_call 14; refine (HQ.out.fof s).mono ?_; (first | rw [HTV.out] | rw [HPV.out]); rintro e w10 ⟨rfl, hf⟩; have HQ := Lib.hid (HQ.out.keep hf); clear hf))
                go_ret
                exact ⟨rfl, HFIN.out _ HQ.out.fr⟩
set_option maxRecDepth 100000 in
theorem lifted (os : Os) (started : os.Started) (H : Type) (enc : TypeId × Value → H) :
    ReturnsInHanded {} Tryz.checked os 4 .any (Rows.binsBackSpec.pre6 enc Tryz.prog Tryz.f4 Rows.binsBackRow.domain false) (Rows.binsBackSpec.post enc Tryz.prog Tryz.f4 false true false false) := by
  refine returnsInHanded_of_change (C := Tryz.checked) own started (by kernel_rfl) Tryz.func4
    (ChangeSpec.witness6 (enc := enc) (C := Tryz.checked) false ⟨#[], #[.slice none 0 0, .slice none 0 0, .string ⟨#[]⟩, .int .i64 0], []⟩ 8 (by kernel_rfl) (by kernel_rfl) (by kernel_rfl) (by kernel_rfl)) ?_
  intro W base args ds gs before hval0 hW hcnd _
  have hval : ∀ (j : Nat) t v, Tryz.f4.params[j]? = some t → args[j]? = some v → Value.okWide Tryz.prog W .any base t v := hval0
  have hW' := hW
  obtain ⟨p, q, hA0, hV, rfl, hfz, hnd⟩ := hW
  have hA : DataW.TrodAll enc Tryz.prog W 0 (fun _ => true) true Tryz.f4.params.toList args.toList ds p := hA0
  rw [Tryz.params4] at hA hval
  obtain ⟨v0, vs0, d0, ds0, p0, q0, hargs, rfl, rfl, h0, r0⟩ := trodAll_cons hA
  obtain ⟨v1, vs1, d1, ds1, p1, q1, rfl, rfl, rfl, h1, r1⟩ := trodAll_cons r0
  obtain ⟨v2, vs2, d2, ds2, p2, q2, rfl, rfl, rfl, h2, r2⟩ := trodAll_cons r1
  obtain ⟨v3, vs3, d3, ds3, p3, q3, rfl, rfl, rfl, h3, r3⟩ := trodAll_cons r2
  obtain ⟨rfl, rfl, rfl⟩ := trodAll_nil r3
  obtain rfl : args = #[v0, v1, v2, v3] := by cases args; simp_all
  obtain ⟨rfl, rfl⟩ := trodVars_none hV
  obtain ⟨L0, hL0⟩ := open_bis (hval 0 34 v0 rfl rfl) h0
  obtain ⟨L1, hL1⟩ := open_bops (hval 1 35 v1 rfl rfl) h1
  obtain ⟨s2, rfl, ws2⟩ := open_strV Tryz.underlying9 (hval 2 9 v2 rfl rfl) h2
  obtain ⟨a3, rfl, rfl, rfl, w3⟩ := open_int Tryz.underlying3 (hval 3 3 v3 rfl rfl) h3
  clear hA0 hval0
  simp only [List.append_nil] at hW'
  refine (walk v0 v1 L0 L1 s2 a3 W hL0 hL1 ws2 (wf_okI.1 w3)).mono fun e W' ⟨he, hg⟩ => ?_
  subst he
  exact ⟨_, rfl, law_post laidOut (by kernel_rfl) rfl Tryz.underlying4 hW' rfl rfl hg⟩
theorem over : Rows.binsBackRow.holds Tryz.pinned (OpenSpec.ofChange Rows.binsBackSpec) :=
  OpenClaim.holds_of_wide 4 Tryz.f4 rfl rfl rfl rfl rfl rfl rfl ⟨rfl, rfl, rfl, rfl, rfl⟩ rfl rfl rfl rfl rfl (by kernel_rfl) Tryz.func4 (by kernel_rfl)
    (of_decide_eq_true (by kernel_rfl)) (by unfold Func.isWrapper; first | (rw [if_pos (by decide +kernel)]; kernel_rfl) | (rw [if_neg (by decide +kernel)]; exact ⟨rfl, rfl⟩))
    (fun os started H enc _ => lifted os started H enc)
theorem proved : Rows.BinsBackSaid :=
  over
#print axioms proved
end Go.Proofs.YtefjdcghdcbojaaGreat.binsBack

