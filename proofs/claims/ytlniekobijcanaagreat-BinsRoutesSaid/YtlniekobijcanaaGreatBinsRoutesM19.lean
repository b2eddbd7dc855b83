/- slices.SortStableFunc on []api.Place: insertionSort of a part. -/
import Derived.Test.YtlniekobijcanaaGreatBinsRoutesM4
import Derived.Test.YtlniekobijcanaaGreatBinsRoutesM2
import Derived.Deep.QuietTactic
import Derived.BigQuiet
import Derived.Shelf.Abstract
namespace Go.Proofs.YtlniekobijcanaaGreat
open Go.RowKit
/-- What the comparison says of one that stands right of another. -/
def RgtP (cf : PV → PV → Int) (T : EP → EP → Bool) (p q : EP) : Prop := decide (cf p.1 q.1 < 0) = T p q ∧ (T p q = false → T q p = true) ∧ (-1 ≤ cf p.1 q.1 ∧ cf p.1 q.1 ≤ 1)
/-- The comparison, called while only block b has turned (where cf says less than -1 or more than 1 nothing is known of it). -/
def CmpIP (g : Nat) (cb : Value) (cf : PV → PV → Int) (b : Nat) (w : World) : Prop :=
  ∀ (W : World) (x y : PV), Fr (fun c => c = b) w W → (-1 ≤ cf x y ∧ cf x y ≤ 1) → Calls Tryz.prog g #[cb, .agg #[.int .i64 x.b, vS x.g, .int .i64 x.n], .agg #[.int .i64 y.b, vS y.g, .int .i64 y.n]] W fun e w' => e = .returned (.int .i64 (cf x y)) ∧ Fr (fun _ => False) W w'
theorem CmpIP.fr {g : Nat} {cb : Value} {cf : PV → PV → Int} {b : Nat} {w w' : World} (h : CmpIP g cb cf b w) (hf : Fr (fun c => c = b) w w') : CmpIP g cb cf b w' := fun W x y hw => h W x y (hf.trans hw)
theorem ins_permP {A Z Z1 Z2 : List EP} {k : Nat} {x : EP} (hp : Z.Perm (A.take k)) (hz : Z1 ++ Z2 = Z) (hx : A[k]? = some x) : (Z1 ++ x :: Z2).Perm (A.take (k + 1)) := by
  rw [List.take_add_one, hx]
  refine List.perm_middle.trans ?_
  rw [hz]
  exact (List.Perm.cons x hp).trans (List.perm_append_comm (l₁ := [x]))
set_option maxRecDepth 100000 in
set_option maxHeartbeats 8000000 in
theorem insIP (w : World) (b n cap g : Nat) (cb : Value) (cf : PV → PV → Int) (T : EP → EP → Bool) (P A S : List EP) {ia ib : Int} (eg : ∀ args w, (callFunc g args).run Tryz.prog w = .ok (.enter g args) w)
    (h : RwP w b (P ++ (A ++ S))) (hn : n = (P ++ (A ++ S)).length) (hm : n ≤ 1000000000000) (ha : ia = (P.length : Int)) (hb : ib = ((P.length + A.length : Nat) : Int)) (tr : ∀ a b c, T a b = true → T b c = true → T a c = true)
    (hR : A.Pairwise (fun q p => RgtP cf T p q)) (hc : CmpIP g cb cf b w) :
    Calls Tryz.prog 124 #[.slice (some ⟨b, 0, none⟩) n cap, .int .i64 ia, .int .i64 ib, .func (.func g) #[cb] #[]] w fun e w' => e = .returned (.tuple #[]) ∧ ∃ Z, RwP w' b (P ++ (Z ++ S)) ∧ Srt T Z ∧ Z.Perm A ∧ Fr (fun c => c = b) w w' := by
  obtain ⟨pa, hpa⟩ : ∃ pa, P.length = pa := ⟨_, rfl⟩
  obtain ⟨la, hla⟩ : ∃ la, A.length = la := ⟨_, rfl⟩
  have hlen : n = pa + la + S.length := by simp at hn; omega
  rw [hpa] at ha hb
  rw [hla] at hb
  subst ha hb
  have H0 := Lib.hid h; have HM := Lib.hid hm; have HPA := Lib.hid hpa; have HLA := Lib.hid hla; have HRR := Lib.hid hR; have HC := Lib.hid hc; have HTR := Lib.hid tr
  have i1 : (n : Int) ≤ 1000000000000 := by omega
  have i2 : (pa : Int) + la ≤ n := by omega
  clear h hn hm hpa hla hR hc tr hlen
  go_enter Tryz.func124, Tryz.ntmps124
  go_wp2_with fail
  go_loopw [8] (fun v wr => ∃ (k : Nat) (Z : List EP), v = .int .i64 ((pa : Int) + k) ∧ 1 ≤ k ∧ k ≤ la + 1 ∧ RwP wr b (P ++ (Z ++ (A.drop k ++ S))) ∧ Srt T Z ∧ Z.Perm (A.take k) ∧ Fr (fun c => c = b) w wr) (fun v _ => (pa + la + 1) - (intOf v).toNat)
  case atStart =>
    refine ⟨1, A.take 1, by simp, by omega, by omega, ?_, ?_, List.Perm.refl _, Fr.refl _ _⟩
    · have := H0.out
      rw [← List.append_assoc (A.take 1), List.take_append_drop]; exact this
    · cases A with
      | nil => exact Srt.nil
      | cons x r => exact List.pairwise_singleton _ _
  case round =>
    obtain ⟨k, Z, rfl, hk1, hk2, hr, hz, hp, hf⟩ := hrel
    have HR := Lib.hid hr; have HZ := Lib.hid hz; have HP := Lib.hid hp; have HF := Lib.hid hf
    clear hr hz hp hf
    by_cases hlt : k < la
    · obtain ⟨x, hx⟩ : ∃ x, A[k]? = some x := ⟨A[k]'(by rw [HLA.out]; exact hlt), List.getElem?_eq_getElem _⟩
      have hdr : A.drop k = x :: A.drop (k + 1) := by
        rw [List.drop_eq_getElem_cons (List.getElem?_eq_some_iff.1 hx).1, (List.getElem?_eq_some_iff.1 hx).2]
      have hrt : Hid (∀ z ∈ Z, RgtP cf T x z) := Lib.hid (fun z hz => by
        have h1 := HP.out.mem_iff.1 hz
        have h2 := HRR.out
        rw [← List.take_append_drop k A, hdr] at h2
        exact (List.pairwise_append.1 h2).2.2 z h1 x (List.mem_cons_self ..))
      have hzl : Hid (Z.length = k) := Lib.hid (by rw [HP.out.length_eq, List.length_take, HLA.out]; omega)
      obtain ⟨Q, hQ⟩ : ∃ Q, A.drop (k + 1) ++ S = Q := ⟨_, rfl⟩
      have HR2 : Hid (RwP wr b (P ++ (Z ++ x :: Q))) := Lib.hid (by have := HR.out; rw [hdr, List.cons_append, hQ] at this; exact this)
      have HX := Lib.hid hx; have HQ := Lib.hid hQ
      have hltI : (pa : Int) + k < pa + la := by omega
      clear hx hdr hQ HR
      obtain ⟨wo, rfl⟩ : ∃ wo : World, wo = wr := ⟨_, rfl⟩
      go_wp2_with fail
      go_loopw [9] (fun v wi => ∃ (j : Nat) (Z1 Z2 : List EP), v = .int .i64 j ∧ j = pa + Z1.length ∧ Z1 ++ Z2 = Z ∧ RwP wi b (P ++ (Z1 ++ x :: (Z2 ++ Q))) ∧ (∀ z ∈ Z2, T x z = true) ∧ Fr (fun c => c = b) w wi) (fun v _ => (intOf v).toNat)
      case atStart => exact ⟨pa + k, Z, [], by first | rfl | (congr 1; done) | (congr 1; omega), by rw [hzl.out], by simp, HR2.out, (fun z hz => absurd hz (by simp)), HF.out⟩
      case round =>
        obtain ⟨j, Z1, Z2, rfl, hj, hzz, hri, hz2, hfi⟩ := hrel
        have HZZ := Lib.hid hzz; have HRI := Lib.hid hri; have HZ2 := Lib.hid hz2; have HFI := Lib.hid hfi
        clear hzz hri hz2 hfi
        rcases List.eq_nil_or_concat Z1 with rfl | ⟨W, y, hW⟩
        · obtain rfl : j = pa := by simpa using hj
          have d1 : decide ((j : Int) < (j : Int)) = false := by simp
          clear hj
          go_wp2_with fail
          refine wp_region_fr (by kernel_rfl) (by kernel_rfl) ?_
          repeat (go_big_quiet_step (fail))
          refine wpQuiet_nil ?_
          rintro V ⟨⟨_, hV⟩, rfl⟩
          go_wp2_with fail
          have hr' := HRI.out.fr hV (fun e => e)
          go_roundw
          case rel =>
            refine ⟨k + 1, x :: Z2, by first | rfl | (congr 1; done) | (congr 1; omega), by omega, by omega, ?_, ?_, ins_permP (Z1 := []) HP.out HZZ.out HX.out, HFI.out.trans (hV.mono (fun _ _ e => e.elim))⟩
            · have := hr'; rw [← HQ.out] at this; simpa using this
            · exact ins_done (Z1 := []) HTR.out (by rw [HZZ.out]; exact HZ.out) HZ2.out (fun W y e => absurd e (by simp))
          case measure => first | (simp [intOf]; done) | (simp [intOf]; omega)
        · rw [List.concat_eq_append] at hW
          subst hW
          obtain ⟨q, hq⟩ : ∃ q, pa + W.length = q := ⟨_, rfl⟩
          have hjq : j = q + 1 := by rw [hj]; simp; omega
          have hrow : RwP wr b ((P ++ W) ++ y :: ([] ++ x :: (Z2 ++ Q))) := by have := HRI.out; simpa using this
          have e1 : q = (P ++ W).length := by have := HPA.out; simp; omega
          have hry : RgtP cf T x y := hrt.out y (by rw [← HZZ.out]; simp)
          have HDM := Lib.hid hry.2.2
          obtain ⟨c10, c11, c12⟩ := hrow.cells (i := q) (by rw [e1]; exact at_leftP)
          obtain ⟨c20, c21, c22⟩ := hrow.cells (i := q + 1) (by rw [e1]; exact at_rightP (B := []))
          have p10 := FrW.cell c10; have p11 := FrW.cell c11; have p12 := FrW.cell c12
          have p20 := FrW.cell c20; have p21 := FrW.cell c21; have p22 := FrW.cell c22
          have hqn : (q : Int) + 1 < n := by have := HRR; have h3 := hzl.out; rw [← HZZ.out] at h3; simp at h3; omega
          have HROW := Lib.hid hrow; have HE1 := Lib.hid e1; have HQQ := Lib.hid hq
          have hpq : (pa : Int) ≤ q := by omega
          subst hjq
          clear hj hq hrow e1 c10 c11 c12 c20 c21 c22 HRI
          have hjad : decide ((pa : Int) < (q : Int) + 1) = true := decide_eq_true (by omega)
          have ta : ((q : Int) + 1).toNat = q + 1 := by omega
          have tb : ((q : Int)).toNat = q := by omega
          obtain ⟨jb, hjb⟩ : ∃ jb, q + 1 = jb := ⟨_, rfl⟩
          rw [hjb] at ta p20 p21 p22
          have HJB := Lib.hid hjb
          clear hjb
          have ra : IntKind.i64.wrap ((q : Int) + 1) = (q : Int) + 1 := IntWalk.i64_in _ (by omega)
          cases hT : T x y with
          | true =>
            have hv : decide (cf x.1 y.1 < 0) = true := hry.1.trans hT
            go_wp2_with fail
            refine wp_region_fr (by kernel_rfl) (by kernel_rfl) ?_
            repeat (go_big_quiet_step ((go_at_fn g; rename_i X; refine (HC.out _ _ _ (HFI.out.trans (X.fr.mono (fun _ _ e => e.elim))) HDM.out).mono ?_; rintro e w2 ⟨rfl, hF⟩; exact ⟨rfl, ⟨w2, X.fr.trans hF⟩, rfl⟩)))
            refine wpQuiet_nil ?_
            rintro V ⟨⟨_, hV⟩, rfl⟩
            have hr' := HROW.out.fr hV (fun e => e)
            have HFV := Lib.hid (HFI.out.trans (hV.mono (fun _ _ e => e.elim)))
            obtain ⟨c10, c11, c12⟩ := hr'.cells (i := q) (by rw [HE1.out]; exact at_leftP)
            obtain ⟨c20, c21, c22⟩ := hr'.cells (i := q + 1) (by rw [HE1.out]; exact at_rightP (B := []))
            obtain ⟨⟨f20, f21, f22, f10, f11, f12⟩, d0, d1, d2⟩ := hr'.after (i := q + 1) (j := q) (by omega) (p := y.1) c10 c11 c12
            have hsw := hr'.swap' (i := q) (j := q + 1) HE1.out (by rw [HE1.out]; rfl)
            rw [HJB.out] at c20 c21 c22 f20 f21 f22 d0 d1 d2 hsw
            have HSW := Lib.hid hsw
            have HNE : Hid (q ≠ jb) := Lib.hid (by have := HJB.out; omega)
            clear hsw hV hr' p10 p11 p12 p20 p21 p22 hjad
            have za : (0 : Int) ≤ (q : Int) + 1 := by omega
            have rb : IntKind.i64.wrap (q : Int) = (q : Int) := IntWalk.i64_in _ (by omega)
            have lb : (q : Int) < n := by omega
            go_wp2_with fail
            go_region
            have hfs : Fr (fun c => c = b) V (set3 (set3 V b jb y.1) b q x.1) := fr_set3 (fr_set3 (Fr.refl _ V))
            have HFS := Lib.hid (HFV.out.trans hfs)
            clear c10 c11 c12 c20 c21 c22 f10 f11 f12 f20 f21 f22 d0 d1 d2 hfs
            go_wp2_with fail
            go_roundw
            case rel => exact ⟨q, W, y :: Z2, by first | rfl | (congr 1; done) | (congr 1; omega), HQQ.out.symm, by rw [← HZZ.out]; simp, by have := HSW.out.fr (S := fun _ => False) (Fr.refl _ _).drew (fun e => e); simpa using this, (fun z hz => (List.mem_cons.1 hz).elim (fun e => e ▸ hT) (fun h => HZ2.out z h)), HFS.out.drew⟩
            case measure => first | (simp [intOf]; done) | (simp [intOf]; omega)
          | false =>
            have hv : decide (cf x.1 y.1 < 0) = false := hry.1.trans hT
            have hyx := hry.2.1 hT
            go_wp2_with fail
            refine wp_region_fr (by kernel_rfl) (by kernel_rfl) ?_
            repeat (go_big_quiet_step ((go_at_fn g; rename_i X; refine (HC.out _ _ _ (HFI.out.trans (X.fr.mono (fun _ _ e => e.elim))) HDM.out).mono ?_; rintro e w2 ⟨rfl, hF⟩; exact ⟨rfl, ⟨w2, X.fr.trans hF⟩, rfl⟩)))
            refine wpQuiet_nil ?_
            rintro V ⟨⟨_, hV⟩, rfl⟩
            have hr' := HROW.out.fr hV (fun e => e)
            have HR' := Lib.hid hr'
            have HFV := Lib.hid (HFI.out.trans (hV.mono (fun _ _ e => e.elim)))
            clear hr' hV p10 p11 p12 p20 p21 p22
            go_wp2_with fail
            go_roundw
            case rel =>
              refine ⟨k + 1, (W ++ [y]) ++ x :: Z2, by first | rfl | (congr 1; done) | (congr 1; omega), by omega, by omega, ?_, ?_, ins_permP HP.out HZZ.out HX.out, HFV.out⟩
              · have := HR'.out; rw [← HQ.out] at this; simpa using this
              · refine ins_done HTR.out (by rw [HZZ.out]; exact HZ.out) HZ2.out (fun W' y' e => ?_)
                have := List.append_inj_right' e rfl
                injection this with this
                rw [← this]; exact hyx
            case measure => first | (simp [intOf]; done) | (simp [intOf]; omega)
    · have hltI : ¬ (pa : Int) + k < pa + la := by omega
      have hek : A.take k = A ∧ A.drop k = [] := ⟨List.take_of_length_le (by rw [HLA.out]; omega), List.drop_of_length_le (by rw [HLA.out]; omega)⟩
      have HEK := Lib.hid hek
      clear hek
      go_wp2_with fail
      go_end0
      exact ⟨rfl, Z, by have := HR.out; rw [HEK.out.2] at this; exact this, HZ.out, by have := HP.out; rw [HEK.out.1] at this; exact this, HF.out⟩
end Go.Proofs.YtlniekobijcanaaGreat
