/- slices.SortStableFunc on []api.Place: symMerge where the right part is of one element. -/
import Derived.Test.YtlniekobijcanaaGreatBinsRoutesM20
namespace Go.Proofs.YtlniekobijcanaaGreat
open Go.RowKit
set_option maxRecDepth 100000 in
set_option maxHeartbeats 8000000 in
theorem symI2P (w : World) (b n cap g : Nat) (cb : Value) (cf : PV → PV → Int) (T : EP → EP → Bool) (P A S : List EP) (y : EP) {ia im ib : Int} (eg : ∀ args w, (callFunc g args).run Tryz.prog w = .ok (.enter g args) w)
    (h : RwP w b (P ++ (A ++ (y :: S)))) (hn : n = (P ++ (A ++ (y :: S))).length) (hm : n ≤ 1000000000000) (ha : ia = (P.length : Int)) (hpm : im = ((P.length + A.length : Nat) : Int)) (hb : ib = ((P.length + A.length + 1 : Nat) : Int)) (h2 : 2 ≤ A.length) (tr : ∀ a b c, T a b = true → T b c = true → T a c = true)
    (hA : Srt T A) (hR : ∀ q ∈ A, RgtP cf T y q) (hc : CmpIP g cb cf b w) :
    Calls Tryz.prog 125 #[.slice (some ⟨b, 0, none⟩) n cap, .int .i64 ia, .int .i64 im, .int .i64 ib, .func (.func g) #[cb] #[]] w fun e w' => e = .returned (.tuple #[]) ∧ ∃ Z, RwP w' b (P ++ (Z ++ S)) ∧ Srt T Z ∧ Z.Perm (A ++ [y]) ∧ Fr (fun c => c = b) w w' := by
  obtain ⟨pa, hpa⟩ : ∃ pa, P.length = pa := ⟨_, rfl⟩
  obtain ⟨la, hla⟩ : ∃ la, A.length = la := ⟨_, rfl⟩
  have hlen : n = pa + la + 1 + S.length := by simp at hn; omega
  rw [hpa] at ha hb hpm
  rw [hla] at hb hpm h2
  subst ha hb hpm
  have H0 := Lib.hid h; have HM := Lib.hid hm; have HPA := Lib.hid hpa; have HLA := Lib.hid hla; have HRR := Lib.hid hR; have HC := Lib.hid hc; have HTR := Lib.hid tr; have HSA := Lib.hid hA
  have i1 : (n : Int) ≤ 1000000000000 := by omega
  have i2 : (pa : Int) + la + 1 ≤ n := by omega
  have b1 : (((pa + la : Nat) : Int) - (pa : Int) == 1) = false := by simp; omega
  have b2 : (((pa + la + 1 : Nat) : Int) - ((pa + la : Nat) : Int) == 1) = true := by simp; omega
  clear h hn hm hpa hla hR hc tr hlen hA
  go_enter Tryz.func125, Tryz.ntmps125
  go_wp2_with fail
  go_loopw [14, 15] (fun vi vj wr => ∃ i j : Nat, vi = .int .i64 ((pa : Int) + i) ∧ vj = .int .i64 ((pa : Int) + j) ∧ i ≤ j ∧ j ≤ la ∧ (∀ z ∈ A.take i, T z y = true) ∧ (∀ z ∈ A.drop j, T y z = true) ∧ Fr (fun _ => False) w wr) (fun vi vj _ => (intOf vj - intOf vi).toNat)
  case atStart => exact ⟨0, la, by simp, by first | rfl | (congr 1; done) | (congr 1; omega), by omega, Nat.le_refl _, (fun y hy => absurd hy (by simp)), (fun y hy => absurd hy (by rw [List.drop_of_length_le (by rw [HLA.out]; exact Nat.le_refl _)]; simp)), Fr.refl _ _⟩
  case round =>
    obtain ⟨i, j, rfl, rfl, hij, hjl, hlo, hup, hf⟩ := hrel
    have HLO := Lib.hid hlo; have HUP := Lib.hid hup; have HF := Lib.hid hf
    clear hlo hup hf
    by_cases hlt : i < j
    · have hltI : (pa : Int) + i < (pa : Int) + j := by omega
      obtain ⟨hh, hhh⟩ : ∃ q, (i + j) / 2 = q := ⟨_, rfl⟩
      have hq1 : i ≤ hh := by omega
      have hq2 : hh < j := by omega
      have he : ((pa : Int) + i + ((pa : Int) + j)) / 2 = (pa : Int) + hh := by omega
      obtain ⟨z, hz⟩ : ∃ z, A[hh]? = some z := ⟨A[hh]'(by rw [HLA.out]; omega), List.getElem?_eq_getElem _⟩
      have hrw := H0.out.fr HF.out (fun e => e)
      have hay : (P ++ (A ++ (y :: S)))[pa + la]? = some y := by
        rw [List.getElem?_append_right (by rw [HPA.out]; omega), HPA.out, show pa + la - pa = la by omega, ← HLA.out]
        exact at_leftP
      have haz : (P ++ (A ++ (y :: S)))[pa + hh]? = some z := by
        rw [List.getElem?_append_right (by rw [HPA.out]; omega), HPA.out, show pa + hh - pa = hh by omega, List.getElem?_append_left (by rw [HLA.out]; omega)]
        exact hz
      obtain ⟨gc10, gc11, gc12⟩ := hrw.cells hay
      have c10 := FrW.cell gc10
      have c11 := FrW.cell gc11
      have c12 := FrW.cell gc12
      clear gc10 gc11 gc12
      obtain ⟨gc20, gc21, gc22⟩ := hrw.cells haz
      have c20 := FrW.cell gc20
      have c21 := FrW.cell gc21
      have c22 := FrW.cell gc22
      clear gc20 gc21 gc22
      obtain ⟨q, hq⟩ : ∃ q, pa + hh = q := ⟨_, rfl⟩
      rw [hq] at c20 c21 c22
      obtain ⟨qm, hqm⟩ : ∃ q, pa + la = q := ⟨_, rfl⟩
      rw [hqm] at c10 c11 c12
      have tq : ((pa : Int) + hh).toNat = q := by omega
      have tm : ((pa : Int) + la).toNat = qm := by omega
      have zq : (0 : Int) ≤ (pa : Int) + hh := by omega
      have zm : (0 : Int) ≤ (pa : Int) + la := by omega
      have lq : (pa : Int) + hh < n := by omega
      have lm : (pa : Int) + la < n := by omega
      have hry := HRR.out z (List.mem_of_getElem? hz)
      have HDM := Lib.hid hry.2.2
      have HZ := Lib.hid hz
      clear hrw hay haz hq hqm hhh hz
      cases hT : T y z with
      | true =>
        have hv : decide (cf y.1 z.1 < 0) = true := hry.1.trans hT
        have hnx : Hid (∀ u ∈ A.drop hh, T y u = true) := Lib.hid (up_stepP HTR.out HSA.out HZ.out hT)
        clear hry
        go_wp2_with fail
        refine wp_region_fr (by kernel_rfl) (by kernel_rfl) ?_
        repeat (go_big_quiet_step ((go_at_fn g; rename_i X; refine (HC.out _ _ _ ((HF.out.mono (fun _ _ e => e.elim)).trans (X.fr.mono (fun _ _ e => e.elim))) HDM.out).mono ?_; rintro e w2 ⟨rfl, hF⟩; exact ⟨rfl, ⟨w2, X.fr.trans hF⟩, rfl⟩)))
        refine wpQuiet_nil ?_
        rintro V ⟨⟨_, hV⟩, rfl⟩
        go_wp2_with fail
        go_roundw
        case rel => exact ⟨i, hh, rfl, by first | rfl | (congr 1; done) | (congr 1; omega), by omega, by omega, HLO.out, hnx.out, HF.out.trans hV⟩
        case measure => simp [intOf]; omega
      | false =>
        have hv : decide (cf y.1 z.1 < 0) = false := hry.1.trans hT
        have hnx : Hid (∀ u ∈ A.take (hh + 1), T u y = true) := Lib.hid (lo_stepP HTR.out HSA.out HZ.out (hry.2.1 hT))
        clear hry
        go_wp2_with fail
        refine wp_region_fr (by kernel_rfl) (by kernel_rfl) ?_
        repeat (go_big_quiet_step ((go_at_fn g; rename_i X; refine (HC.out _ _ _ ((HF.out.mono (fun _ _ e => e.elim)).trans (X.fr.mono (fun _ _ e => e.elim))) HDM.out).mono ?_; rintro e w2 ⟨rfl, hF⟩; exact ⟨rfl, ⟨w2, X.fr.trans hF⟩, rfl⟩)))
        refine wpQuiet_nil ?_
        rintro V ⟨⟨_, hV⟩, rfl⟩
        go_wp2_with fail
        go_roundw
        case rel => exact ⟨hh + 1, j, by first | rfl | (congr 1; done) | (congr 1; omega), rfl, by omega, hjl, hnx.out, HUP.out, HF.out.trans hV⟩
        case measure => simp [intOf]; omega
    · obtain rfl : i = j := by omega
      have hltI : ¬ (pa : Int) + i < (pa : Int) + i := by omega
      obtain ⟨A1, A2, hAA, hl1, hl2⟩ := split_len A (k := i) (by rw [HLA.out]; omega)
      obtain ⟨l2, hll⟩ : ∃ l, A2.length = l := ⟨_, rfl⟩
      have hla2 : la = i + l2 := by have := HLA.out; omega
      have e1 : A.take i = A1 := by rw [hAA, ← hl1, List.take_left]
      have e2 : A.drop i = A2 := by rw [hAA, ← hl1, List.drop_left]
      have HLO2 := Lib.hid (e1 ▸ HLO.out); have HUP2 := Lib.hid (e2 ▸ HUP.out)
      have HAA := Lib.hid hAA; have HL1 := Lib.hid hl1; have HLL := Lib.hid hll
      have hr0 : RwP wr b (P ++ (A1 ++ (A2 ++ (y :: S)))) := by have := H0.out.fr HF.out (fun e => e); rw [hAA, List.append_assoc] at this; exact this
      have HR0 := Lib.hid hr0
      clear e1 e2 hAA hl1 hl2 hll hr0 HLO HUP
      have g1 : (la : Int) ≤ i + l2 := by omega
      have g2 : (i : Int) + l2 ≤ la := by omega
      clear hla2
      go_wp2_with fail
      clear hltI
      go_loopw [17] (fun v wr => ∃ t : Nat, v = .int .i64 ((pa : Int) + i + t) ∧ t ≤ l2 ∧ RwP wr b (P ++ (A1 ++ (A2.take t ++ (y :: (A2.drop t ++ S))))) ∧ Fr (fun c => c = b) w wr) (fun v _ => (intOf v - (pa : Int) - i).toNat)
      case atStart => exact ⟨l2, by first | rfl | (congr 1; done) | (congr 1; omega), Nat.le_refl _, by have := HR0.out; rw [List.take_of_length_le (by rw [HLL.out]; exact Nat.le_refl _), List.drop_of_length_le (by rw [HLL.out]; exact Nat.le_refl _)]; exact this, HF.out.mono (fun _ _ e => e.elim)⟩
      case round =>
        obtain ⟨t, rfl, hti, hr, hf⟩ := hrel
        have HR := Lib.hid hr; have HF2 := Lib.hid hf
        clear hr hf
        cases t with
        | succ t =>
          obtain ⟨z, hz⟩ : ∃ z, A2[t]? = some z := ⟨A2[t]'(by rw [HLL.out]; omega), List.getElem?_eq_getElem _⟩
          have hdr : A2.drop t = z :: A2.drop (t + 1) := by rw [List.drop_eq_getElem_cons (List.getElem?_eq_some_iff.1 hz).1, (List.getElem?_eq_some_iff.1 hz).2]
          have htk : A2.take (t + 1) = A2.take t ++ [z] := by rw [List.take_add_one, hz]; rfl
          have hrow : RwP wr b ((P ++ (A1 ++ A2.take t)) ++ z :: ([] ++ y :: (A2.drop (t + 1) ++ S))) := by have := HR.out; rw [htk] at this; simpa using this
          have e1 : pa + i + t = (P ++ (A1 ++ A2.take t)).length := by have := HPA.out; have := HL1.out; have := HLL.out; simp; omega
          obtain ⟨c10, c11, c12⟩ := hrow.cells (i := pa + i + t) (by rw [e1]; exact at_leftP)
          obtain ⟨c20, c21, c22⟩ := hrow.cells (i := pa + i + t + 1) (by rw [e1]; exact at_rightP (B := []))
          obtain ⟨⟨f20, f21, f22, f10, f11, f12⟩, d0, d1, d2⟩ := hrow.after (i := pa + i + t + 1) (j := pa + i + t) (by omega) (p := z.1) c10 c11 c12
          have hsw := hrow.swap' (i := pa + i + t) (j := pa + i + t + 1) e1 (by rw [e1]; rfl)
          obtain ⟨q, hq⟩ : ∃ q, pa + i + t = q := ⟨_, rfl⟩
          rw [hq] at c10 c11 c12 c20 c21 c22 d0 d1 d2 hsw f10 f11 f12 f20 f21 f22
          obtain ⟨q2, hq2⟩ : ∃ q2, q + 1 = q2 := ⟨_, rfl⟩
          rw [hq2] at c20 c21 c22 d0 d1 d2 hsw f20 f21 f22
          have HSW := Lib.hid hsw; have HDR := Lib.hid hdr
          have t1 : ((pa : Int) + i + t).toNat = q := by omega
          have t2 : ((pa : Int) + i + (t + 1)).toNat = q2 := by omega
          have z1 : (0 : Int) ≤ (pa : Int) + i + t := by omega
          have z2 : (0 : Int) ≤ (pa : Int) + i + (t + 1) := by omega
          have l1 : (pa : Int) + i + t < n := by omega
          have l2' : (pa : Int) + i + (t + 1) < n := by omega
          have r1 : IntKind.i64.wrap ((pa : Int) + i + t) = (pa : Int) + i + t := IntWalk.i64_in _ (by omega)
          have r2 : IntKind.i64.wrap ((pa : Int) + i + (t + 1)) = (pa : Int) + i + (t + 1) := IntWalk.i64_in _ (by omega)
          have s1 : (pa : Int) + i + (t + 1) - 1 = (pa : Int) + i + t := by omega
          have hltI : (pa : Int) + i < (pa : Int) + i + (t + 1) := by omega
          clear hrow hsw e1 hdr htk hz hq hq2
          go_wp2_with fail
          go_region
          have hfs : Fr (fun c => c = b) wr (set3 (set3 wr b q2 z.1) b q y.1) := fr_set3 (fr_set3 (Fr.refl _ wr))
          have HFS := Lib.hid (HF2.out.trans hfs)
          clear c10 c11 c12 c20 c21 c22 f10 f11 f12 f20 f21 f22 d0 d1 d2 hfs
          go_wp2_with fail
          go_roundw
          case rel => exact ⟨t, by first | rfl | (congr 1; done) | (congr 1; omega), by omega, by have := HSW.out.fr (S := fun _ => False) (Fr.refl _ _).drew (fun e => e); rw [HDR.out]; simpa using this, HFS.out.drew⟩
          case measure => simp [intOf]; omega
        | zero =>
          have hltI : ¬ (pa : Int) + i < (pa : Int) + i := by omega
          go_wp2_with fail
          refine bodyPost_ret (v := .tuple #[]) (by simp [results, Tryz.results125, go_sem]) rfl ?_
          refine ⟨rfl, A1 ++ y :: A2, ?_, ?_, ?_, HF2.out⟩
          · have := HR.out; simpa using this
          · refine ins_done HTR.out (by rw [← HAA.out]; exact HSA.out) HUP2.out (fun W z e => HLO2.out z (by rw [e]; simp))
          · rw [HAA.out]
            refine List.perm_middle.trans ?_
            exact List.perm_append_comm (l₁ := [y])
end Go.Proofs.YtlniekobijcanaaGreat
