/- slices.SortStableFunc on []api.Place: symMerge where one part is of one element. -/
import Derived.Test.YtlniekobijcanaaGreatBinsRoutesM19
namespace Go.Proofs.YtlniekobijcanaaGreat
open Go.RowKit
theorem lo_stepP {T : EP → EP → Bool} {B : List EP} {k : Nat} {x y : EP} (tr : ∀ a b c, T a b = true → T b c = true → T a c = true) (hB : Srt T B) (hy : B[k]? = some y) (h : T y x = true) : ∀ z ∈ B.take (k + 1), T z x = true := by
  intro z hz
  rw [List.take_add_one, hy] at hz
  rcases List.mem_append.1 hz with hz | hz
  · have hd : B.drop k = y :: B.drop (k + 1) := by rw [List.drop_eq_getElem_cons (List.getElem?_eq_some_iff.1 hy).1, (List.getElem?_eq_some_iff.1 hy).2]
    have hs := hB
    rw [← List.take_append_drop k B, hd] at hs
    exact tr _ _ _ (hs.cross z hz y (List.mem_cons_self ..)) h
  · have : z = y := by simpa using hz
    rw [this]; exact h
theorem up_stepP {T : EP → EP → Bool} {B : List EP} {k : Nat} {x y : EP} (tr : ∀ a b c, T a b = true → T b c = true → T a c = true) (hB : Srt T B) (hy : B[k]? = some y) (h : T x y = true) : ∀ z ∈ B.drop k, T x z = true := by
  intro z hz
  have hd : B.drop k = y :: B.drop (k + 1) := by rw [List.drop_eq_getElem_cons (List.getElem?_eq_some_iff.1 hy).1, (List.getElem?_eq_some_iff.1 hy).2]
  rw [hd] at hz
  rcases List.mem_cons.1 hz with rfl | hz
  · exact h
  · have hs := hB
    rw [← List.take_append_drop k B, hd] at hs
    exact tr _ _ _ h ((List.pairwise_cons.1 hs.right).1 z hz)
set_option maxRecDepth 100000 in
set_option maxHeartbeats 8000000 in
theorem symI1P (w : World) (b n cap g : Nat) (cb : Value) (cf : PV → PV → Int) (T : EP → EP → Bool) (P B S : List EP) (x : EP) {ia im ib : Int} (eg : ∀ args w, (callFunc g args).run Tryz.prog w = .ok (.enter g args) w)
    (h : RwP w b (P ++ (x :: (B ++ S)))) (hn : n = (P ++ (x :: (B ++ S))).length) (hm : n ≤ 1000000000000) (ha : ia = (P.length : Int)) (hpm : im = ((P.length + 1 : Nat) : Int)) (hb : ib = ((P.length + 1 + B.length : Nat) : Int)) (tr : ∀ a b c, T a b = true → T b c = true → T a c = true)
    (hB : Srt T B) (hR : ∀ p ∈ B, RgtP cf T p x) (hc : CmpIP g cb cf b w) :
    Calls Tryz.prog 125 #[.slice (some ⟨b, 0, none⟩) n cap, .int .i64 ia, .int .i64 im, .int .i64 ib, .func (.func g) #[cb] #[]] w fun e w' => e = .returned (.tuple #[]) ∧ ∃ Z, RwP w' b (P ++ (Z ++ S)) ∧ Srt T Z ∧ Z.Perm (x :: B) ∧ Fr (fun c => c = b) w w' := by
  obtain ⟨pa, hpa⟩ : ∃ pa, P.length = pa := ⟨_, rfl⟩
  obtain ⟨lb, hlb⟩ : ∃ lb, B.length = lb := ⟨_, rfl⟩
  have hlen : n = pa + 1 + lb + S.length := by simp at hn; omega
  rw [hpa] at ha hb hpm
  rw [hlb] at hb
  subst ha hb hpm
  have H0 := Lib.hid h; have HM := Lib.hid hm; have HPA := Lib.hid hpa; have HLB := Lib.hid hlb; have HRR := Lib.hid hR; have HC := Lib.hid hc; have HTR := Lib.hid tr; have HSB := Lib.hid hB
  have i1 : (n : Int) ≤ 1000000000000 := by omega
  have i2 : (pa : Int) + 1 + lb ≤ n := by omega
  have b1 : (((pa + 1 : Nat) : Int) - (pa : Int) == 1) = true := by simp; omega
  clear h hn hm hpa hlb hR hc tr hlen hB
  go_enter Tryz.func125, Tryz.ntmps125
  go_wp2_with fail
  go_loopw [10, 11] (fun vi vj wr => ∃ i j : Nat, vi = .int .i64 ((pa : Int) + 1 + i) ∧ vj = .int .i64 ((pa : Int) + 1 + j) ∧ i ≤ j ∧ j ≤ lb ∧ (∀ y ∈ B.take i, T y x = true) ∧ (∀ y ∈ B.drop j, T x y = true) ∧ Fr (fun _ => False) w wr) (fun vi vj _ => (intOf vj - intOf vi).toNat)
  case atStart => exact ⟨0, lb, by simp, by first | rfl | (congr 1; done) | (congr 1; omega), by omega, Nat.le_refl _, (fun y hy => absurd hy (by simp)), (fun y hy => absurd hy (by rw [List.drop_of_length_le (by rw [HLB.out]; exact Nat.le_refl _)]; simp)), Fr.refl _ _⟩
  case round =>
    obtain ⟨i, j, rfl, rfl, hij, hjl, hlo, hup, hf⟩ := hrel
    have HLO := Lib.hid hlo; have HUP := Lib.hid hup; have HF := Lib.hid hf
    clear hlo hup hf
    by_cases hlt : i < j
    · have hltI : (pa : Int) + 1 + i < (pa : Int) + 1 + j := by omega
      obtain ⟨hh, hhh⟩ : ∃ q, (i + j) / 2 = q := ⟨_, rfl⟩
      have hq1 : i ≤ hh := by omega
      have hq2 : hh < j := by omega
      have he : ((pa : Int) + 1 + i + ((pa : Int) + 1 + j)) / 2 = (pa : Int) + 1 + hh := by omega
      obtain ⟨y, hy⟩ : ∃ y, B[hh]? = some y := ⟨B[hh]'(by rw [HLB.out]; omega), List.getElem?_eq_getElem _⟩
      have hrw := H0.out.fr HF.out (fun e => e)
      obtain ⟨gc10, gc11, gc12⟩ := hrw.cells (i := pa) (by rw [← HPA.out]; exact at_leftP)
      have c10 := FrW.cell gc10
      have c11 := FrW.cell gc11
      have c12 := FrW.cell gc12
      clear gc10 gc11 gc12
      have hat : (P ++ (x :: (B ++ S)))[pa + 1 + hh]? = some y := by
        rw [List.getElem?_append_right (by rw [HPA.out]; omega), HPA.out, show pa + 1 + hh - pa = hh + 1 by omega, List.getElem?_cons_succ, List.getElem?_append_left (by rw [HLB.out]; omega)]
        exact hy
      obtain ⟨gc20, gc21, gc22⟩ := hrw.cells hat
      have c20 := FrW.cell gc20
      have c21 := FrW.cell gc21
      have c22 := FrW.cell gc22
      clear gc20 gc21 gc22
      obtain ⟨q, hq⟩ : ∃ q, pa + 1 + hh = q := ⟨_, rfl⟩
      rw [hq] at c20 c21 c22
      have tq : ((pa : Int) + 1 + hh).toNat = q := by omega
      have zq : (0 : Int) ≤ (pa : Int) + 1 + hh := by omega
      have lq : (pa : Int) + 1 + hh < n := by omega
      have lp : (pa : Int) < n := by omega
      have hry := HRR.out y (List.mem_of_getElem? hy)
      have HDM := Lib.hid hry.2.2
      have HY := Lib.hid hy
      clear hrw hat hq hhh hy
      cases hT : T y x with
      | true =>
        have hv : decide (cf y.1 x.1 < 0) = true := hry.1.trans hT
        have hnx : Hid (∀ z ∈ B.take (hh + 1), T z x = true) := Lib.hid (lo_stepP HTR.out HSB.out HY.out hT)
        clear hry
        go_wp2_with fail
        refine wp_region_fr (by kernel_rfl) (by kernel_rfl) ?_
        repeat (go_big_quiet_step ((go_at_fn g; rename_i X; refine (HC.out _ _ _ ((HF.out.mono (fun _ _ e => e.elim)).trans (X.fr.mono (fun _ _ e => e.elim))) HDM.out).mono ?_; rintro e w2 ⟨rfl, hF⟩; exact ⟨rfl, ⟨w2, X.fr.trans hF⟩, rfl⟩)))
        refine wpQuiet_nil ?_
        rintro V ⟨⟨_, hV⟩, rfl⟩
        go_wp2_with fail
        go_roundw
        case rel => exact ⟨hh + 1, j, by first | rfl | (congr 1; done) | (congr 1; omega), rfl, by omega, hjl, hnx.out, HUP.out, HF.out.trans hV⟩
        case measure => simp [intOf]; omega
      | false =>
        have hv : decide (cf y.1 x.1 < 0) = false := hry.1.trans hT
        have hnx : Hid (∀ z ∈ B.drop hh, T x z = true) := Lib.hid (up_stepP HTR.out HSB.out HY.out (hry.2.1 hT))
        clear hry
        go_wp2_with fail
        refine wp_region_fr (by kernel_rfl) (by kernel_rfl) ?_
        repeat (go_big_quiet_step ((go_at_fn g; rename_i X; refine (HC.out _ _ _ ((HF.out.mono (fun _ _ e => e.elim)).trans (X.fr.mono (fun _ _ e => e.elim))) HDM.out).mono ?_; rintro e w2 ⟨rfl, hF⟩; exact ⟨rfl, ⟨w2, X.fr.trans hF⟩, rfl⟩)))
        refine wpQuiet_nil ?_
        rintro V ⟨⟨_, hV⟩, rfl⟩
        go_wp2_with fail
        go_roundw
        case rel => exact ⟨i, hh, rfl, by first | rfl | (congr 1; done) | (congr 1; omega), by omega, by omega, HLO.out, hnx.out, HF.out.trans hV⟩
        case measure => simp [intOf]; omega
    · obtain rfl : i = j := by omega
      have hltI : ¬ (pa : Int) + 1 + i < (pa : Int) + 1 + i := by omega
      obtain ⟨B1, B2, hBB, hl1, hl2⟩ := split_len B (k := i) (by rw [HLB.out]; omega)
      have e1 : B.take i = B1 := by rw [hBB, ← hl1, List.take_left]
      have e2 : B.drop i = B2 := by rw [hBB, ← hl1, List.drop_left]
      have HLO2 := Lib.hid (e1 ▸ HLO.out); have HUP2 := Lib.hid (e2 ▸ HUP.out)
      have HBB := Lib.hid hBB; have HL1 := Lib.hid hl1
      have hr0 : RwP wr b (P ++ (x :: (B1 ++ (B2 ++ S)))) := by have := H0.out.fr HF.out (fun e => e); rw [hBB, List.append_assoc] at this; exact this
      have HR0 := Lib.hid hr0
      clear e1 e2 hBB hl1 hl2 hr0 HLO HUP
      go_wp2_with fail
      clear hltI
      go_loopw [13] (fun v wr => ∃ t : Nat, v = .int .i64 ((pa : Int) + t) ∧ t ≤ i ∧ RwP wr b (P ++ (B1.take t ++ (x :: (B1.drop t ++ (B2 ++ S))))) ∧ Fr (fun c => c = b) w wr) (fun v _ => ((pa : Int) + i - intOf v).toNat)
      case atStart => exact ⟨0, by simp, Nat.zero_le _, HR0.out, HF.out.mono (fun _ _ e => e.elim)⟩
      case round =>
        obtain ⟨t, rfl, hti, hr, hf⟩ := hrel
        have HR := Lib.hid hr; have HF2 := Lib.hid hf
        clear hr hf
        by_cases hlt : t < i
        · obtain ⟨y, hy⟩ : ∃ y, B1[t]? = some y := ⟨B1[t]'(by rw [HL1.out]; exact hlt), List.getElem?_eq_getElem _⟩
          have hdr : B1.drop t = y :: B1.drop (t + 1) := by rw [List.drop_eq_getElem_cons (List.getElem?_eq_some_iff.1 hy).1, (List.getElem?_eq_some_iff.1 hy).2]
          have htk : B1.take (t + 1) = B1.take t ++ [y] := by rw [List.take_add_one, hy]; rfl
          have hrow : RwP wr b ((P ++ B1.take t) ++ x :: ([] ++ y :: (B1.drop (t + 1) ++ (B2 ++ S)))) := by have := HR.out; rw [hdr] at this; simpa using this
          have e1 : pa + t = (P ++ B1.take t).length := by have := HPA.out; have := HL1.out; simp; omega
          obtain ⟨c10, c11, c12⟩ := hrow.cells (i := pa + t) (by rw [e1]; exact at_leftP)
          obtain ⟨c20, c21, c22⟩ := hrow.cells (i := pa + t + 1) (by rw [e1]; exact at_rightP (B := []))
          obtain ⟨⟨f10, f11, f12, f20, f21, f22⟩, d0, d1, d2⟩ := hrow.after (i := pa + t) (j := pa + t + 1) (by omega) (p := y.1) c20 c21 c22
          have hsw := hrow.swap (i := pa + t) (j := pa + t + 1) e1 (by rw [e1]; rfl)
          obtain ⟨q, hq⟩ : ∃ q, pa + t = q := ⟨_, rfl⟩
          rw [hq] at c10 c11 c12 c20 c21 c22 d0 d1 d2 hsw f10 f11 f12 f20 f21 f22
          obtain ⟨q2, hq2⟩ : ∃ q2, q + 1 = q2 := ⟨_, rfl⟩
          rw [hq2] at c20 c21 c22 d0 d1 d2 hsw f20 f21 f22
          have HSW := Lib.hid hsw; have HTK := Lib.hid htk
          have t1 : ((pa : Int) + t).toNat = q := by omega
          have t2 : ((pa : Int) + t + 1).toNat = q2 := by omega
          have z1 : (0 : Int) ≤ (pa : Int) + t := by omega
          have z2 : (0 : Int) ≤ (pa : Int) + t + 1 := by omega
          have l1 : (pa : Int) + t < n := by omega
          have l2 : (pa : Int) + t + 1 < n := by omega
          have r1 : IntKind.i64.wrap ((pa : Int) + t) = (pa : Int) + t := IntWalk.i64_in _ (by omega)
          have r2 : IntKind.i64.wrap ((pa : Int) + t + 1) = (pa : Int) + t + 1 := IntWalk.i64_in _ (by omega)
          have hltI : (pa : Int) + t < (pa : Int) + 1 + i - 1 := by omega
          clear hrow hsw e1 hdr htk hy hq hq2
          go_wp2_with fail
          go_region
          have hfs : Fr (fun c => c = b) wr (set3 (set3 wr b q y.1) b q2 x.1) := fr_set3 (fr_set3 (Fr.refl _ wr))
          have HFS := Lib.hid (HF2.out.trans hfs)
          clear c10 c11 c12 c20 c21 c22 f10 f11 f12 f20 f21 f22 d0 d1 d2 hfs
          go_wp2_with fail
          go_roundw
          case rel => exact ⟨t + 1, by first | rfl | (congr 1; done) | (congr 1; omega), by omega, by have := HSW.out.fr (S := fun _ => False) (Fr.refl _ _).drew (fun e => e); rw [HTK.out]; simpa using this, HFS.out.drew⟩
          case measure => simp [intOf]; omega
        · obtain rfl : t = i := by omega
          have hltI : ¬ (pa : Int) + t < (pa : Int) + 1 + t - 1 := by omega
          have e1 : B1.take t = B1 ∧ B1.drop t = [] := ⟨List.take_of_length_le (by rw [HL1.out]; exact Nat.le_refl _), List.drop_of_length_le (by rw [HL1.out]; exact Nat.le_refl _)⟩
          have HE1 := Lib.hid e1
          clear e1
          go_wp2_with fail
          refine bodyPost_ret (v := .tuple #[]) (by simp [results, Tryz.results125, go_sem]) rfl ?_
          refine ⟨rfl, B1 ++ x :: B2, ?_, ?_, ?_, HF2.out⟩
          · have := HR.out; rw [HE1.out.1, HE1.out.2] at this; simpa using this
          · refine ins_done HTR.out (by rw [← HBB.out]; exact HSB.out) HUP2.out (fun W y e => HLO2.out y (by rw [e]; simp))
          · rw [HBB.out]; exact List.perm_middle
end Go.Proofs.YtlniekobijcanaaGreat
