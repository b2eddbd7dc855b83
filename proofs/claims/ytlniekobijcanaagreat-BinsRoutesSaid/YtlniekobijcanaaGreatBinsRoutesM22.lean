/- slices.SortStableFunc on []api.Place: symMerge. -/
import Derived.Test.YtlniekobijcanaaGreatBinsRoutesM21
import Derived.Deep.DeepCutAuto
namespace Go.Proofs.YtlniekobijcanaaGreat
open Go.RowKit
/-- What a merge does. -/
def SymOkP (g : Nat) (cb : Value) (cf : PV → PV → Int) (T : EP → EP → Bool) (b n cap : Nat) (d : Nat) : Prop :=
  ∀ (w : World) (P A B S : List EP) (ia im ib : Int), A.length + B.length ≤ d → 0 < A.length → 0 < B.length → RwP w b (P ++ (A ++ (B ++ S))) → n = (P ++ (A ++ (B ++ S))).length → ia = (P.length : Int) → im = ((P.length + A.length : Nat) : Int) → ib = ((P.length + A.length + B.length : Nat) : Int) →
    Srt T A → Srt T B → (∀ p ∈ B, ∀ q ∈ A, RgtP cf T p q) → CmpIP g cb cf b w →
    Calls Tryz.prog 125 #[.slice (some ⟨b, 0, none⟩) n cap, .int .i64 ia, .int .i64 im, .int .i64 ib, .func (.func g) #[cb] #[]] w fun e w' => e = .returned (.tuple #[]) ∧ ∃ Z, RwP w' b (P ++ (Z ++ S)) ∧ Srt T Z ∧ Z.Perm (A ++ B) ∧ Fr (fun c => c = b) w w'
theorem snoc_of_takeP {A : List EP} {s : Nat} {x : EP} {W : List EP} {l : EP} (hx : A[s]? = some x) (h : A.take (s + 1) = W ++ [l]) : l = x := by
  rw [List.take_add_one, hx] at h
  have := List.append_inj_right' h rfl
  injection this with this
  exact this.symm
theorem cons_of_dropP {B : List EP} {s : Nat} {y : EP} {V : List EP} {f : EP} (hy : B[s]? = some y) (h : B.drop s = f :: V) : f = y := by
  rw [List.drop_eq_getElem_cons (List.getElem?_eq_some_iff.1 hy).1, (List.getElem?_eq_some_iff.1 hy).2] at h
  injection h with h
  exact h.symm
theorem rotXP (w : World) (b n cap : Nat) (fv : Value) (P A B S : List EP) {ia im ib : Int} (h : RwP w b (P ++ (A ++ (B ++ S)))) (hn : n = (P ++ (A ++ (B ++ S))).length) (hm : n ≤ 1000000000000) (ha : ia = (P.length : Int)) (hpm : im = ((P.length + A.length : Nat) : Int)) (hb : ib = ((P.length + A.length + B.length : Nat) : Int)) (h1 : 0 < A.length) (h2 : 0 < B.length) :
    Calls Tryz.prog 136 #[.slice (some ⟨b, 0, none⟩) n cap, .int .i64 ia, .int .i64 im, .int .i64 ib, fv] w fun e w' => e = .returned (.tuple #[]) ∧ RwP w' b (P ++ (B ++ (A ++ S))) ∧ Fr (fun c => c = b) w w' := by
  subst ha hpm hb
  exact rotP w b n cap P.length (P.length + A.length) (P.length + A.length + B.length) fv P A B S h hn hm rfl rfl rfl h1 h2
/-- The search's ends: what is known left of the place, right of it. -/
def LoCP (T : EP → EP → Bool) (A B : List EP) (M u i : Nat) : Prop := i = u ∨ ∃ x y, 0 < i ∧ A[i - 1]? = some x ∧ B[M - i]? = some y ∧ T x y = true
def UpCP (T : EP → EP → Bool) (A B : List EP) (M v j : Nat) : Prop := j = v ∨ ∃ x y, A[j]? = some x ∧ B[M - 1 - j]? = some y ∧ T y x = true
/-- Where the search ends, what stands left is below what stands right. -/
theorem cut_ltP {T : EP → EP → Bool} {A B : List EP} {M u v s : Nat} (tr : ∀ a b c, T a b = true → T b c = true → T a c = true) (hA : Srt T A) (hB : Srt T B) (hu : u = M - B.length) (hv : v = min M A.length) (hs1 : u ≤ s) (hs2 : s ≤ v) (hlo : LoCP T A B M u s) (hup : UpCP T A B M v s) :
    (∀ x ∈ A.take s, ∀ y ∈ B.drop (M - s), T x y = true) ∧ (∀ y ∈ B.take (M - s), ∀ x ∈ A.drop s, T y x = true) := by
  have hA' : Srt T (A.take s ++ A.drop s) := by rw [List.take_append_drop]; exact hA
  have hB' : Srt T (B.take (M - s) ++ B.drop (M - s)) := by rw [List.take_append_drop]; exact hB
  constructor
  · refine ends_lt tr hA'.left hB'.right (fun W x y V e1 e2 => ?_)
    have l1 : 0 < s := by
      rcases Nat.eq_zero_or_pos s with h | h
      · subst h; rw [List.take_zero] at e1; simp at e1
      · exact h
    have l2 : M - s < B.length := by
      rcases Nat.lt_or_ge (M - s) B.length with h | h
      · exact h
      · rw [List.drop_of_length_le h] at e2; cases e2
    rcases hlo with h | ⟨x', y', _, h1, h2, h3⟩
    · exfalso; omega
    · rw [show s = (s - 1) + 1 by omega] at e1
      rw [snoc_of_takeP h1 e1, cons_of_dropP h2 e2]; exact h3
  · refine ends_lt tr hB'.left hA'.right (fun W y x V e1 e2 => ?_)
    have l1 : 0 < M - s := by
      rcases Nat.eq_zero_or_pos (M - s) with h | h
      · rw [h, List.take_zero] at e1; simp at e1
      · exact h
    have l2 : s < A.length := by
      rcases Nat.lt_or_ge s A.length with h | h
      · exact h
      · rw [List.drop_of_length_le h] at e2; cases e2
    rcases hup with h | ⟨x', y', h1, h2, h3⟩
    · exfalso; omega
    · rw [show M - s = (M - 1 - s) + 1 by omega] at e1
      rw [snoc_of_takeP h2 e1, cons_of_dropP h1 e2]; exact h3
set_option maxRecDepth 100000 in
set_option maxHeartbeats 16000000 in
theorem symI3P (b n cap g : Nat) (cb : Value) (cf : PV → PV → Int) (T : EP → EP → Bool) (d : Nat) (eg : ∀ args w, (callFunc g args).run Tryz.prog w = .ok (.enter g args) w) (hm : n ≤ 1000000000000) (tr : ∀ a b c, T a b = true → T b c = true → T a c = true) (ih : SymOkP g cb cf T b n cap d)
    (w : World) (P A B S : List EP) (ia im ib : Int) (hd : A.length + B.length ≤ d + 1) (hA2 : 2 ≤ A.length) (hB2 : 2 ≤ B.length) (h : RwP w b (P ++ (A ++ (B ++ S)))) (hn : n = (P ++ (A ++ (B ++ S))).length) (ha : ia = (P.length : Int)) (hpm : im = ((P.length + A.length : Nat) : Int)) (hb : ib = ((P.length + A.length + B.length : Nat) : Int))
    (hA : Srt T A) (hB : Srt T B) (hR : ∀ p ∈ B, ∀ q ∈ A, RgtP cf T p q) (hc : CmpIP g cb cf b w) :
    Calls Tryz.prog 125 #[.slice (some ⟨b, 0, none⟩) n cap, .int .i64 ia, .int .i64 im, .int .i64 ib, .func (.func g) #[cb] #[]] w fun e w' => e = .returned (.tuple #[]) ∧ ∃ Z, RwP w' b (P ++ (Z ++ S)) ∧ Srt T Z ∧ Z.Perm (A ++ B) ∧ Fr (fun c => c = b) w w' := by
  obtain ⟨pa, hpa⟩ : ∃ pa, P.length = pa := ⟨_, rfl⟩
  obtain ⟨la, hla⟩ : ∃ la, A.length = la := ⟨_, rfl⟩
  obtain ⟨lb, hlb⟩ : ∃ lb, B.length = lb := ⟨_, rfl⟩
  have hlen : n = pa + la + lb + S.length := by simp at hn; omega
  rw [hpa] at ha hb hpm
  rw [hla] at hb hpm hA2 hd
  rw [hlb] at hb hB2 hd
  obtain ⟨pm, hpm'⟩ : ∃ pm, pa + la = pm := ⟨_, rfl⟩
  obtain ⟨pb, hpb'⟩ : ∃ pb, pm + lb = pb := ⟨_, rfl⟩
  rw [hpm'] at hpm hb
  rw [hpb'] at hb
  subst ha hb hpm
  have H0 := Lib.hid h; have HM := Lib.hid hm; have HN := Lib.hid hn; have HPA := Lib.hid hpa; have HLA := Lib.hid hla; have HLB := Lib.hid hlb; have HRR := Lib.hid hR; have HC := Lib.hid hc; have HTR := Lib.hid tr; have HSA := Lib.hid hA; have HSB := Lib.hid hB; have IH := Lib.hid ih
  have HD := Lib.hid hd; have HLEN := Lib.hid hlen
  have i1 : (n : Int) ≤ 1000000000000 := by omega
  have i2 : (pb : Int) ≤ n := by omega
  have i3 : (pa : Int) + la ≤ pm := by omega
  have i4 : (pm : Int) ≤ pa + la := by omega
  have i5 : (pm : Int) + lb ≤ pb := by omega
  have i6 : (pb : Int) ≤ pm + lb := by omega
  have b1 : ((pm : Int) - (pa : Int) == 1) = false := by simp; omega
  have b2 : ((pb : Int) - (pm : Int) == 1) = false := by simp; omega
  obtain ⟨mid, hmid⟩ : ∃ m, (pa + pb) / 2 = m := ⟨_, rfl⟩
  have he : ((pa : Int) + pb) / 2 = mid := by omega
  obtain ⟨M, hM⟩ : ∃ M, pa + M = mid := ⟨mid - pa, by omega⟩
  have hM1 : 2 * M ≤ la + lb := by omega
  have hM2 : la + lb ≤ 2 * M + 1 := by omega
  have j1 : (pa : Int) + M ≤ mid := by omega
  have j2 : (mid : Int) ≤ pa + M := by omega
  obtain ⟨u0, hu⟩ : ∃ u, u = M - lb := ⟨_, rfl⟩
  obtain ⟨v0, hv⟩ : ∃ v, v = min M la := ⟨_, rfl⟩
  have HU := Lib.hid hu; have HV := Lib.hid hv
  have k1 : u0 ≤ v0 := by omega
  have k2 : v0 ≤ la := by omega
  have k3 : v0 ≤ M := by omega
  have k4 : M ≤ u0 + lb := by omega
  have HPM := Lib.hid hpm'; have HPB := Lib.hid hpb'; have HMID := Lib.hid hM
  have hsl : (mid < pm ∧ (mid : Int) + pm - pb = pa + u0 ∧ (mid : Int) = pa + v0) ∨ (pm ≤ mid ∧ u0 = 0 ∧ (pm : Int) = pa + v0) := by omega
  clear h hn hpa hla hlb hR hc tr hlen hA hB ih hd hm hmid hM hu hv hpm' hpb'
  rcases hsl with ⟨hh, e1, e2⟩ | ⟨hh, e1, e2⟩
  all_goals
    first
    | have hhI : (mid : Int) < (pm : Int) := by omega
    | have hhI : ¬ (mid : Int) < (pm : Int) := by omega
    have E1 := Lib.hid e1; have E2 := Lib.hid e2
    clear e1 e2
    go_enter Tryz.func125, Tryz.ntmps125
    go_wp2_with fail
    go_loopw [20, 21] (fun vi vj wr => ∃ i j : Nat, vi = .int .i64 ((pa : Int) + i) ∧ vj = .int .i64 ((pa : Int) + j) ∧ u0 ≤ i ∧ i ≤ j ∧ j ≤ v0 ∧ LoCP T A B M u0 i ∧ UpCP T A B M v0 j ∧ Fr (fun _ => False) w wr) (fun vi vj _ => (intOf vj - intOf vi).toNat)
    case atStart => exact ⟨u0, v0, by first | rfl | (rw [E1.out]; done) | (rw [E1.out]; simp; done), by first | rfl | (rw [E2.out]; done), Nat.le_refl _, k1, Nat.le_refl _, .inl rfl, .inl rfl, Fr.refl _ _⟩
    case round => as_aux_lemma =>
      obtain ⟨i, j, rfl, rfl, hui, hij, hjl, hlo, hup, hf⟩ := hrel
      have HLO := Lib.hid hlo; have HUP := Lib.hid hup; have HF := Lib.hid hf
      clear hlo hup hf
      by_cases hlt : i < j
      · have hltI : (pa : Int) + i < (pa : Int) + j := by omega
        obtain ⟨hq, hhh⟩ : ∃ q, (i + j) / 2 = q := ⟨_, rfl⟩
        have hq1 : i ≤ hq := by omega
        have hq2 : hq < j := by omega
        have he2 : ((pa : Int) + i + ((pa : Int) + j)) / 2 = (pa : Int) + hq := by omega
        obtain ⟨x, hx⟩ : ∃ x, A[hq]? = some x := ⟨A[hq]'(by rw [HLA.out]; omega), List.getElem?_eq_getElem _⟩
        obtain ⟨y, hy⟩ : ∃ y, B[M - 1 - hq]? = some y := ⟨B[M - 1 - hq]'(by rw [HLB.out]; omega), List.getElem?_eq_getElem _⟩
        have hrw := H0.out.fr HF.out (fun e => e)
        have hax : (P ++ (A ++ (B ++ S)))[pa + hq]? = some x := by
          rw [List.getElem?_append_right (by rw [HPA.out]; omega), HPA.out, show pa + hq - pa = hq by omega, List.getElem?_append_left (by rw [HLA.out]; omega)]
          exact hx
        have hby : (P ++ (A ++ (B ++ S)))[pm + (M - 1 - hq)]? = some y := by
          rw [List.getElem?_append_right (by rw [HPA.out]; omega), HPA.out, show pm + (M - 1 - hq) - pa = la + (M - 1 - hq) by omega, List.getElem?_append_right (by rw [HLA.out]; omega), HLA.out, show la + (M - 1 - hq) - la = M - 1 - hq by omega, List.getElem?_append_left (by rw [HLB.out]; omega)]
          exact hy
        obtain ⟨gc10, gc11, gc12⟩ := hrw.cells hax
        have c10 := FrW.cell gc10
        have c11 := FrW.cell gc11
        have c12 := FrW.cell gc12
        clear gc10 gc11 gc12
        obtain ⟨gc20, gc21, gc22⟩ := hrw.cells hby
        have c20 := FrW.cell gc20
        have c21 := FrW.cell gc21
        have c22 := FrW.cell gc22
        clear gc20 gc21 gc22
        obtain ⟨qa, hqa⟩ : ∃ q, pa + hq = q := ⟨_, rfl⟩
        obtain ⟨qb, hqb⟩ : ∃ q, pm + (M - 1 - hq) = q := ⟨_, rfl⟩
        rw [hqa] at c10 c11 c12
        rw [hqb] at c20 c21 c22
        have ta : ((pa : Int) + hq).toNat = qa := by omega
        have tb : ((mid : Int) + pm - 1 - ((pa : Int) + hq)).toNat = qb := by omega
        have za : (0 : Int) ≤ (pa : Int) + hq := by omega
        have zb : (0 : Int) ≤ (mid : Int) + pm - 1 - ((pa : Int) + hq) := by omega
        have la1 : (pa : Int) + hq < n := by omega
        have lb1 : (mid : Int) + pm - 1 - ((pa : Int) + hq) < n := by omega
        have rb : IntKind.i64.wrap ((mid : Int) + pm - 1 - ((pa : Int) + hq)) = (mid : Int) + pm - 1 - ((pa : Int) + hq) := IntWalk.i64_in _ (by omega)
        have hry := HRR.out y (List.mem_of_getElem? hy) x (List.mem_of_getElem? hx)
        have HDM := Lib.hid hry.2.2
        have HX := Lib.hid hx; have HY := Lib.hid hy
        clear hrw hax hby hqa hqb hhh hx hy
        cases hT : T y x with
        | true =>
          have hv : decide (cf y.1 x.1 < 0) = true := hry.1.trans hT
          have hnx : Hid (UpCP T A B M v0 hq) := Lib.hid (.inr ⟨x, y, HX.out, HY.out, hT⟩)
          clear hry
          go_wp2_with fail
          refine wp_region_fr (by kernel_rfl) (by kernel_rfl) ?_
          repeat (go_big_quiet_step ((go_at_fn g; rename_i X; refine (HC.out _ _ _ ((HF.out.mono (fun _ _ e => e.elim)).trans (X.fr.mono (fun _ _ e => e.elim))) HDM.out).mono ?_; rintro e w2 ⟨rfl, hF⟩; exact ⟨rfl, ⟨w2, X.fr.trans hF⟩, rfl⟩)))
          refine wpQuiet_nil ?_
          rintro V ⟨⟨_, hV⟩, rfl⟩
          go_wp2_with fail
          go_roundw
          case rel => exact ⟨i, hq, rfl, by first | rfl | (congr 1; done) | (congr 1; omega), hui, hq1, by omega, HLO.out, hnx.out, HF.out.trans hV⟩
          case measure => simp [intOf]; omega
        | false =>
          have hv : decide (cf y.1 x.1 < 0) = false := hry.1.trans hT
          have hnx : Hid (LoCP T A B M u0 (hq + 1)) := Lib.hid (.inr ⟨x, y, by omega, by simpa using HX.out, by rw [show M - (hq + 1) = M - 1 - hq by omega]; exact HY.out, hry.2.1 hT⟩)
          clear hry
          go_wp2_with fail
          refine wp_region_fr (by kernel_rfl) (by kernel_rfl) ?_
          repeat (go_big_quiet_step ((go_at_fn g; rename_i X; refine (HC.out _ _ _ ((HF.out.mono (fun _ _ e => e.elim)).trans (X.fr.mono (fun _ _ e => e.elim))) HDM.out).mono ?_; rintro e w2 ⟨rfl, hF⟩; exact ⟨rfl, ⟨w2, X.fr.trans hF⟩, rfl⟩)))
          refine wpQuiet_nil ?_
          rintro V ⟨⟨_, hV⟩, rfl⟩
          go_wp2_with fail
          go_roundw
          case rel => exact ⟨hq + 1, j, by first | rfl | (congr 1; done) | (congr 1; omega), rfl, by omega, by omega, hjl, hnx.out, HUP.out, HF.out.trans hV⟩
          case measure => simp [intOf]; omega
      · obtain rfl : i = j := by omega
        have hltI : ¬ (pa : Int) + i < (pa : Int) + i := by omega
        obtain ⟨c1, c2⟩ := cut_ltP HTR.out HSA.out HSB.out (by rw [HLB.out]; exact HU.out) (by rw [HLA.out]; exact HV.out) hui hjl HLO.out HUP.out
        obtain ⟨A1, A2, hAA, hl1, hl2⟩ := split_len A (k := i) (by rw [HLA.out]; omega)
        obtain ⟨B1, B2, hBB, hl3, hl4⟩ := split_len B (k := M - i) (by rw [HLB.out]; omega)
        have e1 : A.take i = A1 := by rw [hAA, ← hl1, List.take_left]
        have e2 : A.drop i = A2 := by rw [hAA, ← hl1, List.drop_left]
        have e3 : B.take (M - i) = B1 := by rw [hBB, ← hl3, List.take_left]
        have e4 : B.drop (M - i) = B2 := by rw [hBB, ← hl3, List.drop_left]
        rw [e1, e4] at c1
        rw [e3, e2] at c2
        obtain ⟨l2, hl2'⟩ : ∃ l, A2.length = l := ⟨_, rfl⟩
        obtain ⟨l3, hl3'⟩ : ∃ l, B1.length = l := ⟨_, rfl⟩
        obtain ⟨l4, hl4'⟩ : ∃ l, B2.length = l := ⟨_, rfl⟩
        have q1 : i + l2 = la := by have := HLA.out; omega
        have q2 : i + l3 = M := by omega
        have q3 : l3 + l4 = lb := by have := HLB.out; omega
        have HQ := Lib.hid (And.intro hl1 (And.intro hl2' (And.intro hl3' (And.intro hl4' (And.intro q1 (And.intro q2 q3))))))
        have HAA := Lib.hid hAA; have HBB := Lib.hid hBB; have HC1 := Lib.hid c1; have HC2 := Lib.hid c2
        have hr0 : RwP wr b (P ++ (A1 ++ (A2 ++ (B1 ++ (B2 ++ S))))) := by have := H0.out.fr HF.out (fun e => e); rw [hAA, hBB, List.append_assoc, List.append_assoc] at this; exact this
        have HR0 := Lib.hid hr0
        have HS1 : Hid (Srt T A1 ∧ Srt T A2 ∧ Srt T B1 ∧ Srt T B2) := Lib.hid (by have h1 := HSA.out; have h2 := HSB.out; rw [hAA] at h1; rw [hBB] at h2; exact ⟨h1.left, h1.right, h2.left, h2.right⟩)
        have HRG : Hid ((∀ p ∈ B1, ∀ q ∈ A1, RgtP cf T p q) ∧ (∀ p ∈ B2, ∀ q ∈ A2, RgtP cf T p q)) := Lib.hid (by
          have h1 := HRR.out
          rw [hAA, hBB] at h1
          exact ⟨fun p hp q hq => h1 p (by simp [hp]) q (by simp [hq]), fun p hp q hq => h1 p (by simp [hp]) q (by simp [hq])⟩)
        obtain ⟨pe, hpe⟩ : ∃ pe, pm + l3 = pe := ⟨_, rfl⟩
        have HPE := Lib.hid hpe
        have he3 : (mid : Int) + pm - ((pa : Int) + i) = (pe : Int) := by omega
        have v1 : (pe : Int) ≤ pm + l3 := by omega
        have v2 : (pm : Int) + l3 ≤ pe := by omega
        have v3 : (pa : Int) + i + l2 ≤ pm := by omega
        have v4 : (pm : Int) ≤ pa + i + l2 := by omega
        have v5 : (pa : Int) + i + l3 ≤ mid := by omega
        have v6 : (mid : Int) ≤ pa + i + l3 := by omega
        have v7 : (pe : Int) + l4 ≤ pb := by omega
        have v8 : (pb : Int) ≤ pe + l4 := by omega
        clear e1 e2 e3 e4 hl1 hl2 hl3 hl4 hl2' hl3' hl4' q1 q2 q3 hAA hBB c1 c2 hr0 hpe HLO HUP
        obtain ⟨G1, hG1⟩ : ∃ G, decide (0 < l2 ∧ 0 < l3) = G := ⟨_, rfl⟩
        obtain ⟨G2, hG2⟩ : ∃ G, decide (0 < i ∧ 0 < l3) = G := ⟨_, rfl⟩
        obtain ⟨G3, hG3⟩ : ∃ G, decide (0 < l2 ∧ 0 < l4) = G := ⟨_, rfl⟩
        have HG1 := Lib.hid hG1; have HG2 := Lib.hid hG2; have HG3 := Lib.hid hG3
        clear hG1 hG2 hG3
        go_upto_region 39 with (fail)
        go_cut [185] (fun s wx => s = .bool G1 ∧ wr = wx)
        case first => as_aux_lemma =>
          rcases (by omega : (0 < l2 ∧ 0 < l3) ∨ (l2 = 0) ∨ (0 < l2 ∧ l3 = 0)) with ⟨w1, w2⟩ | w1 | ⟨w1, w2⟩
          · have z1 : (pa : Int) + i < pm := by omega
            have z2 : (pm : Int) < pe := by omega
            have hg : G1 = true := by rw [← HG1.out]; simp [w1, w2]
            clear HG1
            go_wp2_with fail
            go_meet
            exact ⟨by rw [hg], rfl⟩
          · have z1 : ¬ (pa : Int) + i < pm := by omega
            have hg : G1 = false := by rw [← HG1.out]; simp [w1]
            clear HG1
            go_wp2_with fail
            go_meet
            exact ⟨by rw [hg], rfl⟩
          · have z1 : (pa : Int) + i < pm := by omega
            have z2 : ¬ (pm : Int) < pe := by omega
            have hg : G1 = false := by rw [← HG1.out]; simp [w2]
            clear HG1
            go_wp2_with fail
            go_meet
            exact ⟨by rw [hg], rfl⟩
        case rest => as_aux_lemma =>
          obtain ⟨rfl, rfl⟩ := hcut
          go_upto_if 185 with (fail)
          go_cut [191] (fun s wx => RwP wx b (P ++ (A1 ++ (B1 ++ (A2 ++ (B2 ++ S))))) ∧ Fr (fun c => c = b) w wx)
          case first => as_aux_lemma =>
            cases G1 with
            | true =>
              have hg : 0 < l2 ∧ 0 < l3 := of_decide_eq_true HG1.out
              go_wp2_with fail
              refine (rotXP wr b n cap _ (P ++ A1) A2 B1 (B2 ++ S) (by have := HR0.out; simpa using this) (by have := HLEN.out; have := HQ.out; have := HPA.out; simp; omega) HM.out (by have := HQ.out; have := HPA.out; simp; omega) (by have := HQ.out; have := HPA.out; simp; omega) (by have := HQ.out; have := HPA.out; simp; omega) (by have := HQ.out; omega) (by have := HQ.out; omega)).mono ?_
              rintro e w3 ⟨rfl, hr3, hf3⟩
              have HR3 := Lib.hid hr3; have HF3 := Lib.hid ((HF.out.mono (fun _ _ e => e.elim)).trans hf3)
              clear hr3 hf3 hg
              go_wp2_with fail
              go_meet
              exact ⟨by have := HR3.out; simpa using this, HF3.out⟩
            | false =>
              have hg : l2 = 0 ∨ l3 = 0 := by have := of_decide_eq_false HG1.out; omega
              have hr1 : RwP wr b (P ++ (A1 ++ (B1 ++ (A2 ++ (B2 ++ S))))) := by
                rcases hg with hg | hg
                · have : A2 = [] := List.eq_nil_of_length_eq_zero (by have := HQ.out; omega)
                  have h := HR0.out; rw [this] at h ⊢; exact h
                · have : B1 = [] := List.eq_nil_of_length_eq_zero (by have := HQ.out; omega)
                  have h := HR0.out; rw [this] at h ⊢; exact h
              have HR1 := Lib.hid hr1
              clear hg hr1
              go_wp2_with fail
              go_meet
              exact ⟨HR1.out, HF.out.mono (fun _ _ e => e.elim)⟩
          case rest => as_aux_lemma =>
            obtain ⟨hr1, hf1⟩ := hcut
            have HR1 := Lib.hid hr1; have HF1 := Lib.hid hf1
            clear hr1 hf1 HR0 HF
            go_upto_region 41 with (fail)
            go_cut [199] (fun s wx => s = .bool G2 ∧ wc = wx)
            case first => as_aux_lemma =>
              rcases (by omega : (0 < i ∧ 0 < l3) ∨ (i = 0) ∨ (0 < i ∧ l3 = 0)) with ⟨w1, w2⟩ | w1 | ⟨w1, w2⟩
              · have z1 : (pa : Int) < (pa : Int) + i := by omega
                have z2 : (pa : Int) + i < mid := by omega
                have z3 : (0 : Int) < (i : Int) := by omega
                have hg : G2 = true := by rw [← HG2.out]; simp [w1, w2]
                clear HG2
                go_wp2_with fail
                go_meet
                exact ⟨by rw [hg], rfl⟩
              · have z1 : ¬ (pa : Int) < (pa : Int) + i := by omega
                have z3 : ¬ (0 : Int) < (i : Int) := by omega
                have hg : G2 = false := by rw [← HG2.out]; simp [w1]
                have w1' := Lib.hid w1
                clear HG2 w1
                go_wp2_with fail
                go_meet
                exact ⟨by rw [hg], rfl⟩
              · have z1 : (pa : Int) < (pa : Int) + i := by omega
                have z2 : ¬ (pa : Int) + i < mid := by omega
                have z3 : (0 : Int) < (i : Int) := by omega
                have hg : G2 = false := by rw [← HG2.out]; simp [w2]
                clear HG2
                go_wp2_with fail
                go_meet
                exact ⟨by rw [hg], rfl⟩
            case rest => as_aux_lemma =>
              obtain ⟨rfl, rfl⟩ := hcut
              go_upto_if 199 with (fail)
              go_cut [205] (fun s wx => ∃ Z1, RwP wx b (P ++ (Z1 ++ (A2 ++ (B2 ++ S)))) ∧ Srt T Z1 ∧ Z1.Perm (A1 ++ B1) ∧ Fr (fun c => c = b) w wx)
              case first => as_aux_lemma =>
                cases G2 with
                | true =>
                  have hg : 0 < i ∧ 0 < l3 := of_decide_eq_true HG2.out
                  go_wp2_with fail
                  refine (IH.out _ P A1 B1 (A2 ++ (B2 ++ S)) _ _ _ (by have := HQ.out; have := HD.out; omega) (by have := HQ.out; omega) (by have := HQ.out; omega) HR1.out (by have := HLEN.out; have := HQ.out; have := HPA.out; simp; omega) (by have := HPA.out; omega) (by have := HQ.out; have := HPA.out; omega) (by have := HQ.out; have := HPA.out; omega) HS1.out.1 HS1.out.2.2.1 HRG.out.1 (HC.out.fr HF1.out)).mono ?_
                  rintro e w3 ⟨rfl, Z1, hr3, hs3, hp3, hf3⟩
                  have HR3 := Lib.hid hr3; have HF3 := Lib.hid (HF1.out.trans hf3); have HS3 := Lib.hid hs3; have HP3 := Lib.hid hp3
                  clear hr3 hf3 hg hs3 hp3
                  go_wp2_with fail
                  go_meet
                  exact ⟨Z1, HR3.out, HS3.out, HP3.out, HF3.out⟩
                | false =>
                  have hg : i = 0 ∨ l3 = 0 := by have := of_decide_eq_false HG2.out; omega
                  have hs : Hid (Srt T (A1 ++ B1)) := Lib.hid (by
                    rcases hg with hg | hg
                    · have : A1 = [] := List.eq_nil_of_length_eq_zero (by have := HQ.out; omega)
                      rw [this]; exact HS1.out.2.2.1
                    · have : B1 = [] := List.eq_nil_of_length_eq_zero (by have := HQ.out; omega)
                      rw [this, List.append_nil]; exact HS1.out.1)
                  clear hg
                  go_wp2_with fail
                  go_meet
                  exact ⟨A1 ++ B1, by have := HR1.out; simpa using this, hs.out, List.Perm.refl _, HF1.out⟩
              case rest => as_aux_lemma =>
                obtain ⟨Z1, hr2, hs2, hp2, hf2⟩ := hcut
                have HR2 := Lib.hid hr2; have HF2 := Lib.hid hf2; have HS2 := Lib.hid hs2; have HP2 := Lib.hid hp2
                have HZL : Hid (Z1.length = M) := Lib.hid (by have := hp2.length_eq; have := HQ.out; simp at *; omega)
                clear hr2 hf2 hs2 hp2
                go_upto_region 43 with (fail)
                go_cut [213] (fun s wx => s = .bool G3 ∧ wc = wx)
                case first => as_aux_lemma =>
                  rcases (by omega : (0 < l2 ∧ 0 < l4) ∨ (l2 = 0) ∨ (0 < l2 ∧ l4 = 0)) with ⟨w1, w2⟩ | w1 | ⟨w1, w2⟩
                  · have z1 : (mid : Int) < pe := by omega
                    have z2 : (pe : Int) < pb := by omega
                    have hg : G3 = true := by rw [← HG3.out]; simp [w1, w2]
                    clear HG3
                    go_wp2_with fail
                    go_meet
                    exact ⟨by rw [hg], rfl⟩
                  · have z1 : ¬ (mid : Int) < pe := by omega
                    have hg : G3 = false := by rw [← HG3.out]; simp [w1]
                    clear HG3 w1
                    go_wp2_with fail
                    go_meet
                    exact ⟨by rw [hg], rfl⟩
                  · have z1 : (mid : Int) < pe := by omega
                    have z2 : ¬ (pe : Int) < pb := by omega
                    have hg : G3 = false := by rw [← HG3.out]; simp [w2]
                    clear HG3 w2
                    go_wp2_with fail
                    go_meet
                    exact ⟨by rw [hg], rfl⟩
                case rest => as_aux_lemma =>
                  obtain ⟨rfl, rfl⟩ := hcut
                  cases G3 with
                  | true =>
                    have hg : 0 < l2 ∧ 0 < l4 := of_decide_eq_true HG3.out
                    go_wp2_with fail
                    refine (IH.out _ (P ++ Z1) A2 B2 S _ _ _ (by have := HQ.out; have := HD.out; omega) (by have := HQ.out; omega) (by have := HQ.out; omega) (by have := HR2.out; rw [List.append_assoc]; exact this) (by have := HLEN.out; have := HQ.out; have := HPA.out; have := HZL.out; simp; omega) (by have := HPA.out; have := HZL.out; have := HQ.out; simp; omega) (by have := HQ.out; have := HPA.out; have := HZL.out; simp; omega) (by have := HQ.out; have := HPA.out; have := HZL.out; simp; omega) HS1.out.2.1 HS1.out.2.2.2 HRG.out.2 (HC.out.fr HF2.out)).mono ?_
                    rintro e w3 ⟨rfl, Z2, hr3, hs3, hp3, hf3⟩
                    have HR3 := Lib.hid hr3; have HF3 := Lib.hid (HF2.out.trans hf3); have HS3 := Lib.hid hs3; have HP3 := Lib.hid hp3
                    clear hr3 hf3 hg hs3 hp3
                    go_wp2_with fail
                    go_end0
                    have hj := mrg_join (by rw [← HAA.out]; exact HSA.out) (by rw [← HBB.out]; exact HSB.out) HC1.out HC2.out HS2.out HS3.out HP2.out HP3.out
                    refine ⟨rfl, Z1 ++ Z2, by have := HR3.out; simpa using this, hj.1, by rw [HAA.out, HBB.out]; exact hj.2, HF3.out⟩
                  | false =>
                    have hg : l2 = 0 ∨ l4 = 0 := by have := of_decide_eq_false HG3.out; omega
                    have hs : Hid (Srt T (A2 ++ B2)) := Lib.hid (by
                      rcases hg with hg | hg
                      · have : A2 = [] := List.eq_nil_of_length_eq_zero (by have := HQ.out; omega)
                        rw [this]; exact HS1.out.2.2.2
                      · have : B2 = [] := List.eq_nil_of_length_eq_zero (by have := HQ.out; omega)
                        rw [this, List.append_nil]; exact HS1.out.2.1)
                    clear hg
                    go_wp2_with fail
                    go_end0
                    have hj := mrg_join (by rw [← HAA.out]; exact HSA.out) (by rw [← HBB.out]; exact HSB.out) HC1.out HC2.out HS2.out hs.out HP2.out (List.Perm.refl _)
                    refine ⟨rfl, Z1 ++ (A2 ++ B2), by have := HR2.out; simpa using this, hj.1, by rw [HAA.out, HBB.out]; exact hj.2, HF2.out⟩
end Go.Proofs.YtlniekobijcanaaGreat
