/- Texts of this claim, joined: slices.SortStableFunc on []api.Place: symMerge; slices.SortStableFunc on []api.Place: symMerge, whatever the lengths; the blocks; the whole; bins: Route; bins: Route of a floor, and of none; bins: Unpack, plainly; what is laid on the way; bins: Unpack, walked; cells.Maker, as long as it is not too long; items.Put; bins: Way. -/
import Derived.Test.YtefjdcghdcbojaaGreatBinsBackM7
import Derived.Deep.DeepCutAuto
import Derived.Test.YtefjdcghdcbojaaGreatBinsBackM4
import Derived.Test.YtefjdcghdcbojaaGreatBinsBackM3
import Derived.Deep.QuietTactic
import Derived.Test.YtefjdcghdcbojaaGreatBinsBackM1
import Derived.Deep.RegionHeld3
namespace Go.Proofs.YtefjdcghdcbojaaGreat
open Go.RowKit
/-- What a merge does. -/
def SymOkP (g : Nat) (cb : Value) (cf : PV → PV → Int) (T : EP → EP → Bool) (b n cap : Nat) (d : Nat) : Prop :=
  ∀ (w : World) (P A B S : List EP) (ia im ib : Int), A.length + B.length ≤ d → 0 < A.length → 0 < B.length → RwP w b (P ++ (A ++ (B ++ S))) → n = (P ++ (A ++ (B ++ S))).length → ia = (P.length : Int) → im = ((P.length + A.length : Nat) : Int) → ib = ((P.length + A.length + B.length : Nat) : Int) →
    Srt T A → Srt T B → (∀ p ∈ B, ∀ q ∈ A, RgtP cf T p q) → CmpIP g cb cf b w →
    Calls Tryz.prog 139 #[.slice (some ⟨b, 0, none⟩) n cap, .int .i64 ia, .int .i64 im, .int .i64 ib, .func (.func g) #[cb] #[]] w fun e w' => e = .returned (.tuple #[]) ∧ ∃ Z, RwP w' b (P ++ (Z ++ S)) ∧ Srt T Z ∧ Z.Perm (A ++ B) ∧ Fr (fun c => c = b) w w'
theorem snoc_of_takeP {A : List EP} {s : Nat} {x : EP} {W : List EP} {l : EP} (hx : A[s]? = some x) (h : A.take (s + 1) = W ++ [l]) : l = x := by
  rw [List.take_add_one, hx] at h
  have := List.append_inj_right' h rfl
  injection this with this
  exact this.symm
theorem cons_of_dropP {B : List EP} {s : Nat} {y : EP} {V : List EP} {f : EP} (hy : B[s]? = some y) (h : B.drop s = f :: V) : f = y := by
  rw [List.drop_eq_getElem_cons (List.getElem?_eq_some_iff.1 hy).1, (List.getElem?_eq_some_iff.1 hy).2] at h
  injection h with h
  exact h.symm
theorem rotXP (w : World) (b n cap : Nat) (fv : Value) (P A B S : List EP) {ia im ib : Int} (h : RwP w b (P ++ (A ++ (B ++ S)))) (hn : n = (P ++ (A ++ (B ++ S))).length) (hm : n ≤ 1000000000000) (ha : ia = (P.length : Int)) (hpm : im = ((P.length + A.length : Nat) : Int)) (hb : ib = ((P.length + A.length + B.length : Nat) : Int)) (h1 : 0 < A.length) (h2 : 0 < B.length) :
    Calls Tryz.prog 146 #[.slice (some ⟨b, 0, none⟩) n cap, .int .i64 ia, .int .i64 im, .int .i64 ib, fv] w fun e w' => e = .returned (.tuple #[]) ∧ RwP w' b (P ++ (B ++ (A ++ S))) ∧ Fr (fun c => c = b) w w' := by
  subst ha hpm hb
  exact rotP w b n cap P.length (P.length + A.length) (P.length + A.length + B.length) fv P A B S h hn hm rfl rfl rfl h1 h2
/-- The search's ends: what is known left of the place, right of it. -/
def LoCP (T : EP → EP → Bool) (A B : List EP) (M u i : Nat) : Prop := i = u ∨ ∃ x y, 0 < i ∧ A[i - 1]? = some x ∧ B[M - i]? = some y ∧ T x y = true
def UpCP (T : EP → EP → Bool) (A B : List EP) (M v j : Nat) : Prop := j = v ∨ ∃ x y, A[j]? = some x ∧ B[M - 1 - j]? = some y ∧ T y x = true
/-- Where the search ends, what stands left is below what stands right. -/
theorem cut_ltP {T : EP → EP → Bool} {A B : List EP} {M u v s : Nat} (tr : ∀ a b c, T a b = true → T b c = true → T a c = true) (hA : Srt T A) (hB : Srt T B) (hu : u = M - B.length) (hv : v = min M A.length) (hs1 : u ≤ s) (hs2 : s ≤ v) (hlo : LoCP T A B M u s) (hup : UpCP T A B M v s) :
    (∀ x ∈ A.take s, ∀ y ∈ B.drop (M - s), T x y = true) ∧ (∀ y ∈ B.take (M - s), ∀ x ∈ A.drop s, T y x = true) := by
  have hA' : Srt T (A.take s ++ A.drop s) := by rw [List.take_append_drop]; exact hA
  have hB' : Srt T (B.take (M - s) ++ B.drop (M - s)) := by rw [List.take_append_drop]; exact hB
  constructor
  · refine ends_lt tr hA'.left hB'.right (fun W x y V e1 e2 => ?_)
    have l1 : 0 < s := by
      rcases Nat.eq_zero_or_pos s with h | h
      · subst h; rw [List.take_zero] at e1; simp at e1
      · exact h
    have l2 : M - s < B.length := by
      rcases Nat.lt_or_ge (M - s) B.length with h | h
      · exact h
      · rw [List.drop_of_length_le h] at e2; cases e2
    rcases hlo with h | ⟨x', y', _, h1, h2, h3⟩
    · exfalso; omega
    · rw [show s = (s - 1) + 1 by omega] at e1
      rw [snoc_of_takeP h1 e1, cons_of_dropP h2 e2]; exact h3
  · refine ends_lt tr hB'.left hA'.right (fun W y x V e1 e2 => ?_)
    have l1 : 0 < M - s := by
      rcases Nat.eq_zero_or_pos (M - s) with h | h
      · rw [h, List.take_zero] at e1; simp at e1
      · exact h
    have l2 : s < A.length := by
      rcases Nat.lt_or_ge s A.length with h | h
      · exact h
      · rw [List.drop_of_length_le h] at e2; cases e2
    rcases hup with h | ⟨x', y', h1, h2, h3⟩
    · exfalso; omega
    · rw [show M - s = (M - 1 - s) + 1 by omega] at e1
      rw [snoc_of_takeP h2 e1, cons_of_dropP h1 e2]; exact h3
set_option maxRecDepth 100000 in
set_option maxHeartbeats 16000000 in
theorem symI3P (b n cap g : Nat) (cb : Value) (cf : PV → PV → Int) (T : EP → EP → Bool) (d : Nat) (eg : ∀ args w, (callFunc g args).run Tryz.prog w = .ok (.enter g args) w) (hm : n ≤ 1000000000000) (tr : ∀ a b c, T a b = true → T b c = true → T a c = true) (ih : SymOkP g cb cf T b n cap d)
    (w : World) (P A B S : List EP) (ia im ib : Int) (hd : A.length + B.length ≤ d + 1) (hA2 : 2 ≤ A.length) (hB2 : 2 ≤ B.length) (h : RwP w b (P ++ (A ++ (B ++ S)))) (hn : n = (P ++ (A ++ (B ++ S))).length) (ha : ia = (P.length : Int)) (hpm : im = ((P.length + A.length : Nat) : Int)) (hb : ib = ((P.length + A.length + B.length : Nat) : Int))
    (hA : Srt T A) (hB : Srt T B) (hR : ∀ p ∈ B, ∀ q ∈ A, RgtP cf T p q) (hc : CmpIP g cb cf b w) :
    Calls Tryz.prog 139 #[.slice (some ⟨b, 0, none⟩) n cap, .int .i64 ia, .int .i64 im, .int .i64 ib, .func (.func g) #[cb] #[]] w fun e w' => e = .returned (.tuple #[]) ∧ ∃ Z, RwP w' b (P ++ (Z ++ S)) ∧ Srt T Z ∧ Z.Perm (A ++ B) ∧ Fr (fun c => c = b) w w' := by
  obtain ⟨pa, hpa⟩ : ∃ pa, P.length = pa := ⟨_, rfl⟩
  obtain ⟨la, hla⟩ : ∃ la, A.length = la := ⟨_, rfl⟩
  obtain ⟨lb, hlb⟩ : ∃ lb, B.length = lb := ⟨_, rfl⟩
  have hlen : n = pa + la + lb + S.length := by simp at hn; omega
  rw [hpa] at ha hb hpm
  rw [hla] at hb hpm hA2 hd
  rw [hlb] at hb hB2 hd
  obtain ⟨pm, hpm'⟩ : ∃ pm, pa + la = pm := ⟨_, rfl⟩
  obtain ⟨pb, hpb'⟩ : ∃ pb, pm + lb = pb := ⟨_, rfl⟩
  rw [hpm'] at hpm hb
  rw [hpb'] at hb
  subst ha hb hpm
  have H0 := Lib.hid h; have HM := Lib.hid hm; have HN := Lib.hid hn; have HPA := Lib.hid hpa; have HLA := Lib.hid hla; have HLB := Lib.hid hlb; have HRR := Lib.hid hR; have HC := Lib.hid hc; have HTR := Lib.hid tr; have HSA := Lib.hid hA; have HSB := Lib.hid hB; have IH := Lib.hid ih
  have HD := Lib.hid hd; have HLEN := Lib.hid hlen
  have i1 : (n : Int) ≤ 1000000000000 := by omega
  have i2 : (pb : Int) ≤ n := by omega
  have i3 : (pa : Int) + la ≤ pm := by omega
  have i4 : (pm : Int) ≤ pa + la := by omega
  have i5 : (pm : Int) + lb ≤ pb := by omega
  have i6 : (pb : Int) ≤ pm + lb := by omega
  have b1 : ((pm : Int) - (pa : Int) == 1) = false := by simp; omega
  have b2 : ((pb : Int) - (pm : Int) == 1) = false := by simp; omega
  obtain ⟨mid, hmid⟩ : ∃ m, (pa + pb) / 2 = m := ⟨_, rfl⟩
  have he : ((pa : Int) + pb) / 2 = mid := by omega
  obtain ⟨M, hM⟩ : ∃ M, pa + M = mid := ⟨mid - pa, by omega⟩
  have hM1 : 2 * M ≤ la + lb := by omega
  have hM2 : la + lb ≤ 2 * M + 1 := by omega
  have j1 : (pa : Int) + M ≤ mid := by omega
  have j2 : (mid : Int) ≤ pa + M := by omega
  obtain ⟨u0, hu⟩ : ∃ u, u = M - lb := ⟨_, rfl⟩
  obtain ⟨v0, hv⟩ : ∃ v, v = min M la := ⟨_, rfl⟩
  have HU := Lib.hid hu; have HV := Lib.hid hv
  have k1 : u0 ≤ v0 := by omega
  have k2 : v0 ≤ la := by omega
  have k3 : v0 ≤ M := by omega
  have k4 : M ≤ u0 + lb := by omega
  have HPM := Lib.hid hpm'; have HPB := Lib.hid hpb'; have HMID := Lib.hid hM
  have hsl : (mid < pm ∧ (mid : Int) + pm - pb = pa + u0 ∧ (mid : Int) = pa + v0) ∨ (pm ≤ mid ∧ u0 = 0 ∧ (pm : Int) = pa + v0) := by omega
  clear h hn hpa hla hlb hR hc tr hlen hA hB ih hd hm hmid hM hu hv hpm' hpb'
  rcases hsl with ⟨hh, e1, e2⟩ | ⟨hh, e1, e2⟩
  all_goals
    first
    | have hhI : (mid : Int) < (pm : Int) := by omega
    | have hhI : ¬ (mid : Int) < (pm : Int) := by omega
    have E1 := Lib.hid e1; have E2 := Lib.hid e2
    clear e1 e2
    go_enter Tryz.func139, Tryz.ntmps139
    go_wp2_with fail
    go_loopw [20, 21] (fun vi vj wr => ∃ i j : Nat, vi = .int .i64 ((pa : Int) + i) ∧ vj = .int .i64 ((pa : Int) + j) ∧ u0 ≤ i ∧ i ≤ j ∧ j ≤ v0 ∧ LoCP T A B M u0 i ∧ UpCP T A B M v0 j ∧ Fr (fun _ => False) w wr) (fun vi vj _ => (intOf vj - intOf vi).toNat)
    case atStart => exact ⟨u0, v0, by first | rfl | (rw [E1.out]; done) | (rw [E1.out]; simp; done), by first | rfl | (rw [E2.out]; done), Nat.le_refl _, k1, Nat.le_refl _, .inl rfl, .inl rfl, Fr.refl _ _⟩
    case round => as_aux_lemma =>
      obtain ⟨i, j, rfl, rfl, hui, hij, hjl, hlo, hup, hf⟩ := hrel
      have HLO := Lib.hid hlo; have HUP := Lib.hid hup; have HF := Lib.hid hf
      clear hlo hup hf
      by_cases hlt : i < j
      · have hltI : (pa : Int) + i < (pa : Int) + j := by omega
        obtain ⟨hq, hhh⟩ : ∃ q, (i + j) / 2 = q := ⟨_, rfl⟩
        have hq1 : i ≤ hq := by omega
        have hq2 : hq < j := by omega
        have he2 : ((pa : Int) + i + ((pa : Int) + j)) / 2 = (pa : Int) + hq := by omega
        obtain ⟨x, hx⟩ : ∃ x, A[hq]? = some x := ⟨A[hq]'(by rw [HLA.out]; omega), List.getElem?_eq_getElem _⟩
        obtain ⟨y, hy⟩ : ∃ y, B[M - 1 - hq]? = some y := ⟨B[M - 1 - hq]'(by rw [HLB.out]; omega), List.getElem?_eq_getElem _⟩
        have hrw := H0.out.fr HF.out (fun e => e)
        have hax : (P ++ (A ++ (B ++ S)))[pa + hq]? = some x := by
          rw [List.getElem?_append_right (by rw [HPA.out]; omega), HPA.out, show pa + hq - pa = hq by omega, List.getElem?_append_left (by rw [HLA.out]; omega)]
          exact hx
        have hby : (P ++ (A ++ (B ++ S)))[pm + (M - 1 - hq)]? = some y := by
          rw [List.getElem?_append_right (by rw [HPA.out]; omega), HPA.out, show pm + (M - 1 - hq) - pa = la + (M - 1 - hq) by omega, List.getElem?_append_right (by rw [HLA.out]; omega), HLA.out, show la + (M - 1 - hq) - la = M - 1 - hq by omega, List.getElem?_append_left (by rw [HLB.out]; omega)]
          exact hy
        obtain ⟨gc10, gc11, gc12⟩ := hrw.cells hax
        have c10 := FrW.cell gc10
        have c11 := FrW.cell gc11
        have c12 := FrW.cell gc12
        clear gc10 gc11 gc12
        obtain ⟨gc20, gc21, gc22⟩ := hrw.cells hby
        have c20 := FrW.cell gc20
        have c21 := FrW.cell gc21
        have c22 := FrW.cell gc22
        clear gc20 gc21 gc22
        obtain ⟨qa, hqa⟩ : ∃ q, pa + hq = q := ⟨_, rfl⟩
        obtain ⟨qb, hqb⟩ : ∃ q, pm + (M - 1 - hq) = q := ⟨_, rfl⟩
        rw [hqa] at c10 c11 c12
        rw [hqb] at c20 c21 c22
        have ta : ((pa : Int) + hq).toNat = qa := by omega
        have tb : ((mid : Int) + pm - 1 - ((pa : Int) + hq)).toNat = qb := by omega
        have za : (0 : Int) ≤ (pa : Int) + hq := by omega
        have zb : (0 : Int) ≤ (mid : Int) + pm - 1 - ((pa : Int) + hq) := by omega
        have la1 : (pa : Int) + hq < n := by omega
        have lb1 : (mid : Int) + pm - 1 - ((pa : Int) + hq) < n := by omega
        have rb : IntKind.i64.wrap ((mid : Int) + pm - 1 - ((pa : Int) + hq)) = (mid : Int) + pm - 1 - ((pa : Int) + hq) := IntWalk.i64_in _ (by omega)
        have hry := HRR.out y (List.mem_of_getElem? hy) x (List.mem_of_getElem? hx)
        have HDM := Lib.hid hry.2.2
        have HX := Lib.hid hx; have HY := Lib.hid hy
        clear hrw hax hby hqa hqb hhh hx hy
        cases hT : T y x with
        | true =>
          have hv : decide (cf y.1 x.1 < 0) = true := hry.1.trans hT
          have hnx : Hid (UpCP T A B M v0 hq) := Lib.hid (.inr ⟨x, y, HX.out, HY.out, hT⟩)
          clear hry
          go_wp2_with fail
          refine wp_region_fr (by kernel_rfl) (by kernel_rfl) ?_
          repeat (go_big_quiet_step ((go_at_fn g; rename_i X; refine (HC.out _ _ _ ((HF.out.mono (fun _ _ e => e.elim)).trans (X.fr.mono (fun _ _ e => e.elim))) HDM.out).mono ?_; rintro e w2 ⟨rfl, hF⟩; exact ⟨rfl, ⟨w2, X.fr.trans hF⟩, rfl⟩)))
          refine wpQuiet_nil ?_
          rintro V ⟨⟨_, hV⟩, rfl⟩
          go_wp2_with fail
          go_roundw
          case rel => exact ⟨i, hq, rfl, by first | rfl | (congr 1; done) | (congr 1; omega), hui, hq1, by omega, HLO.out, hnx.out, HF.out.trans hV⟩
          case measure => simp [intOf]; omega
        | false =>
          have hv : decide (cf y.1 x.1 < 0) = false := hry.1.trans hT
          have hnx : Hid (LoCP T A B M u0 (hq + 1)) := Lib.hid (.inr ⟨x, y, by omega, by simpa using HX.out, by rw [show M - (hq + 1) = M - 1 - hq by omega]; exact HY.out, hry.2.1 hT⟩)
          clear hry
          go_wp2_with fail
          refine wp_region_fr (by kernel_rfl) (by kernel_rfl) ?_
          repeat (go_big_quiet_step ((go_at_fn g; rename_i X; refine (HC.out _ _ _ ((HF.out.mono (fun _ _ e => e.elim)).trans (X.fr.mono (fun _ _ e => e.elim))) HDM.out).mono ?_; rintro e w2 ⟨rfl, hF⟩; exact ⟨rfl, ⟨w2, X.fr.trans hF⟩, rfl⟩)))
          refine wpQuiet_nil ?_
          rintro V ⟨⟨_, hV⟩, rfl⟩
          go_wp2_with fail
          go_roundw
          case rel => exact ⟨hq + 1, j, by first | rfl | (congr 1; done) | (congr 1; omega), rfl, by omega, by omega, hjl, hnx.out, HUP.out, HF.out.trans hV⟩
          case measure => simp [intOf]; omega
      · obtain rfl : i = j := by omega
        have hltI : ¬ (pa : Int) + i < (pa : Int) + i := by omega
        obtain ⟨c1, c2⟩ := cut_ltP HTR.out HSA.out HSB.out (by rw [HLB.out]; exact HU.out) (by rw [HLA.out]; exact HV.out) hui hjl HLO.out HUP.out
        obtain ⟨A1, A2, hAA, hl1, hl2⟩ := split_len A (k := i) (by rw [HLA.out]; omega)
        obtain ⟨B1, B2, hBB, hl3, hl4⟩ := split_len B (k := M - i) (by rw [HLB.out]; omega)
        have e1 : A.take i = A1 := by rw [hAA, ← hl1, List.take_left]
        have e2 : A.drop i = A2 := by rw [hAA, ← hl1, List.drop_left]
        have e3 : B.take (M - i) = B1 := by rw [hBB, ← hl3, List.take_left]
        have e4 : B.drop (M - i) = B2 := by rw [hBB, ← hl3, List.drop_left]
        rw [e1, e4] at c1
        rw [e3, e2] at c2
        obtain ⟨l2, hl2'⟩ : ∃ l, A2.length = l := ⟨_, rfl⟩
        obtain ⟨l3, hl3'⟩ : ∃ l, B1.length = l := ⟨_, rfl⟩
        obtain ⟨l4, hl4'⟩ : ∃ l, B2.length = l := ⟨_, rfl⟩
        have q1 : i + l2 = la := by have := HLA.out; omega
        have q2 : i + l3 = M := by omega
        have q3 : l3 + l4 = lb := by have := HLB.out; omega
        have HQ := Lib.hid (And.intro hl1 (And.intro hl2' (And.intro hl3' (And.intro hl4' (And.intro q1 (And.intro q2 q3))))))
        have HAA := Lib.hid hAA; have HBB := Lib.hid hBB; have HC1 := Lib.hid c1; have HC2 := Lib.hid c2
        have hr0 : RwP wr b (P ++ (A1 ++ (A2 ++ (B1 ++ (B2 ++ S))))) := by have := H0.out.fr HF.out (fun e => e); rw [hAA, hBB, List.append_assoc, List.append_assoc] at this; exact this
        have HR0 := Lib.hid hr0
        have HS1 : Hid (Srt T A1 ∧ Srt T A2 ∧ Srt T B1 ∧ Srt T B2) := Lib.hid (by have h1 := HSA.out; have h2 := HSB.out; rw [hAA] at h1; rw [hBB] at h2; exact ⟨h1.left, h1.right, h2.left, h2.right⟩)
        have HRG : Hid ((∀ p ∈ B1, ∀ q ∈ A1, RgtP cf T p q) ∧ (∀ p ∈ B2, ∀ q ∈ A2, RgtP cf T p q)) := Lib.hid (by
          have h1 := HRR.out
          rw [hAA, hBB] at h1
          exact ⟨fun p hp q hq => h1 p (by simp [hp]) q (by simp [hq]), fun p hp q hq => h1 p (by simp [hp]) q (by simp [hq])⟩)
        obtain ⟨pe, hpe⟩ : ∃ pe, pm + l3 = pe := ⟨_, rfl⟩
        have HPE := Lib.hid hpe
        have he3 : (mid : Int) + pm - ((pa : Int) + i) = (pe : Int) := by omega
        have v1 : (pe : Int) ≤ pm + l3 := by omega
        have v2 : (pm : Int) + l3 ≤ pe := by omega
        have v3 : (pa : Int) + i + l2 ≤ pm := by omega
        have v4 : (pm : Int) ≤ pa + i + l2 := by omega
        have v5 : (pa : Int) + i + l3 ≤ mid := by omega
        have v6 : (mid : Int) ≤ pa + i + l3 := by omega
        have v7 : (pe : Int) + l4 ≤ pb := by omega
        have v8 : (pb : Int) ≤ pe + l4 := by omega
        clear e1 e2 e3 e4 hl1 hl2 hl3 hl4 hl2' hl3' hl4' q1 q2 q3 hAA hBB c1 c2 hr0 hpe HLO HUP
        obtain ⟨G1, hG1⟩ : ∃ G, decide (0 < l2 ∧ 0 < l3) = G := ⟨_, rfl⟩
        obtain ⟨G2, hG2⟩ : ∃ G, decide (0 < i ∧ 0 < l3) = G := ⟨_, rfl⟩
        obtain ⟨G3, hG3⟩ : ∃ G, decide (0 < l2 ∧ 0 < l4) = G := ⟨_, rfl⟩
        have HG1 := Lib.hid hG1; have HG2 := Lib.hid hG2; have HG3 := Lib.hid hG3
        clear hG1 hG2 hG3
        go_upto_region 39 with (fail)
        go_cut [185] (fun s wx => s = .bool G1 ∧ wr = wx)
        case first => as_aux_lemma =>
          rcases (by omega : (0 < l2 ∧ 0 < l3) ∨ (l2 = 0) ∨ (0 < l2 ∧ l3 = 0)) with ⟨w1, w2⟩ | w1 | ⟨w1, w2⟩
          · have z1 : (pa : Int) + i < pm := by omega
            have z2 : (pm : Int) < pe := by omega
            have hg : G1 = true := by rw [← HG1.out]; simp [w1, w2]
            clear HG1
            go_wp2_with fail
            go_meet
            exact ⟨by rw [hg], rfl⟩
          · have z1 : ¬ (pa : Int) + i < pm := by omega
            have hg : G1 = false := by rw [← HG1.out]; simp [w1]
            clear HG1
            go_wp2_with fail
            go_meet
            exact ⟨by rw [hg], rfl⟩
          · have z1 : (pa : Int) + i < pm := by omega
            have z2 : ¬ (pm : Int) < pe := by omega
            have hg : G1 = false := by rw [← HG1.out]; simp [w2]
            clear HG1
            go_wp2_with fail
            go_meet
            exact ⟨by rw [hg], rfl⟩
        case rest => as_aux_lemma =>
          obtain ⟨rfl, rfl⟩ := hcut
          go_upto_if 185 with (fail)
          go_cut [191] (fun s wx => RwP wx b (P ++ (A1 ++ (B1 ++ (A2 ++ (B2 ++ S))))) ∧ Fr (fun c => c = b) w wx)
          case first => as_aux_lemma =>
            cases G1 with
            | true =>
              have hg : 0 < l2 ∧ 0 < l3 := of_decide_eq_true HG1.out
              go_wp2_with fail
              refine (rotXP wr b n cap _ (P ++ A1) A2 B1 (B2 ++ S) (by have := HR0.out; simpa using this) (by have := HLEN.out; have := HQ.out; have := HPA.out; simp; omega) HM.out (by have := HQ.out; have := HPA.out; simp; omega) (by have := HQ.out; have := HPA.out; simp; omega) (by have := HQ.out; have := HPA.out; simp; omega) (by have := HQ.out; omega) (by have := HQ.out; omega)).mono ?_
              rintro e w3 ⟨rfl, hr3, hf3⟩
              have HR3 := Lib.hid hr3; have HF3 := Lib.hid ((HF.out.mono (fun _ _ e => e.elim)).trans hf3)
              clear hr3 hf3 hg
              go_wp2_with fail
              go_meet
              exact ⟨by have := HR3.out; simpa using this, HF3.out⟩
            | false =>
              have hg : l2 = 0 ∨ l3 = 0 := by have := of_decide_eq_false HG1.out; omega
              have hr1 : RwP wr b (P ++ (A1 ++ (B1 ++ (A2 ++ (B2 ++ S))))) := by
                rcases hg with hg | hg
                · have : A2 = [] := List.eq_nil_of_length_eq_zero (by have := HQ.out; omega)
                  have h := HR0.out; rw [this] at h ⊢; exact h
                · have : B1 = [] := List.eq_nil_of_length_eq_zero (by have := HQ.out; omega)
                  have h := HR0.out; rw [this] at h ⊢; exact h
              have HR1 := Lib.hid hr1
              clear hg hr1
              go_wp2_with fail
              go_meet
              exact ⟨HR1.out, HF.out.mono (fun _ _ e => e.elim)⟩
          case rest => as_aux_lemma =>
            obtain ⟨hr1, hf1⟩ := hcut
            have HR1 := Lib.hid hr1; have HF1 := Lib.hid hf1
            clear hr1 hf1 HR0 HF
            go_upto_region 41 with (fail)
            go_cut [199] (fun s wx => s = .bool G2 ∧ wc = wx)
            case first => as_aux_lemma =>
              rcases (by omega : (0 < i ∧ 0 < l3) ∨ (i = 0) ∨ (0 < i ∧ l3 = 0)) with ⟨w1, w2⟩ | w1 | ⟨w1, w2⟩
              · have z1 : (pa : Int) < (pa : Int) + i := by omega
                have z2 : (pa : Int) + i < mid := by omega
                have z3 : (0 : Int) < (i : Int) := by omega
                have hg : G2 = true := by rw [← HG2.out]; simp [w1, w2]
                clear HG2
                go_wp2_with fail
                go_meet
                exact ⟨by rw [hg], rfl⟩
              · have z1 : ¬ (pa : Int) < (pa : Int) + i := by omega
                have z3 : ¬ (0 : Int) < (i : Int) := by omega
                have hg : G2 = false := by rw [← HG2.out]; simp [w1]
                have w1' := Lib.hid w1
                clear HG2 w1
                go_wp2_with fail
                go_meet
                exact ⟨by rw [hg], rfl⟩
              · have z1 : (pa : Int) < (pa : Int) + i := by omega
                have z2 : ¬ (pa : Int) + i < mid := by omega
                have z3 : (0 : Int) < (i : Int) := by omega
                have hg : G2 = false := by rw [← HG2.out]; simp [w2]
                clear HG2
                go_wp2_with fail
                go_meet
                exact ⟨by rw [hg], rfl⟩
            case rest => as_aux_lemma =>
              obtain ⟨rfl, rfl⟩ := hcut
              go_upto_if 199 with (fail)
              go_cut [205] (fun s wx => ∃ Z1, RwP wx b (P ++ (Z1 ++ (A2 ++ (B2 ++ S)))) ∧ Srt T Z1 ∧ Z1.Perm (A1 ++ B1) ∧ Fr (fun c => c = b) w wx)
              case first => as_aux_lemma =>
                cases G2 with
                | true =>
                  have hg : 0 < i ∧ 0 < l3 := of_decide_eq_true HG2.out
                  go_wp2_with fail
                  refine (IH.out _ P A1 B1 (A2 ++ (B2 ++ S)) _ _ _ (by have := HQ.out; have := HD.out; omega) (by have := HQ.out; omega) (by have := HQ.out; omega) HR1.out (by have := HLEN.out; have := HQ.out; have := HPA.out; simp; omega) (by have := HPA.out; omega) (by have := HQ.out; have := HPA.out; omega) (by have := HQ.out; have := HPA.out; omega) HS1.out.1 HS1.out.2.2.1 HRG.out.1 (HC.out.fr HF1.out)).mono ?_
                  rintro e w3 ⟨rfl, Z1, hr3, hs3, hp3, hf3⟩
                  have HR3 := Lib.hid hr3; have HF3 := Lib.hid (HF1.out.trans hf3); have HS3 := Lib.hid hs3; have HP3 := Lib.hid hp3
                  clear hr3 hf3 hg hs3 hp3
                  go_wp2_with fail
                  go_meet
                  exact ⟨Z1, HR3.out, HS3.out, HP3.out, HF3.out⟩
                | false =>
                  have hg : i = 0 ∨ l3 = 0 := by have := of_decide_eq_false HG2.out; omega
                  have hs : Hid (Srt T (A1 ++ B1)) := Lib.hid (by
                    rcases hg with hg | hg
                    · have : A1 = [] := List.eq_nil_of_length_eq_zero (by have := HQ.out; omega)
                      rw [this]; exact HS1.out.2.2.1
                    · have : B1 = [] := List.eq_nil_of_length_eq_zero (by have := HQ.out; omega)
                      rw [this, List.append_nil]; exact HS1.out.1)
                  clear hg
                  go_wp2_with fail
                  go_meet
                  exact ⟨A1 ++ B1, by have := HR1.out; simpa using this, hs.out, List.Perm.refl _, HF1.out⟩
              case rest => as_aux_lemma =>
                obtain ⟨Z1, hr2, hs2, hp2, hf2⟩ := hcut
                have HR2 := Lib.hid hr2; have HF2 := Lib.hid hf2; have HS2 := Lib.hid hs2; have HP2 := Lib.hid hp2
                have HZL : Hid (Z1.length = M) := Lib.hid (by have := hp2.length_eq; have := HQ.out; simp at *; omega)
                clear hr2 hf2 hs2 hp2
                go_upto_region 43 with (fail)
                go_cut [213] (fun s wx => s = .bool G3 ∧ wc = wx)
                case first => as_aux_lemma =>
                  rcases (by omega : (0 < l2 ∧ 0 < l4) ∨ (l2 = 0) ∨ (0 < l2 ∧ l4 = 0)) with ⟨w1, w2⟩ | w1 | ⟨w1, w2⟩
                  · have z1 : (mid : Int) < pe := by omega
                    have z2 : (pe : Int) < pb := by omega
                    have hg : G3 = true := by rw [← HG3.out]; simp [w1, w2]
                    clear HG3
                    go_wp2_with fail
                    go_meet
                    exact ⟨by rw [hg], rfl⟩
                  · have z1 : ¬ (mid : Int) < pe := by omega
                    have hg : G3 = false := by rw [← HG3.out]; simp [w1]
                    clear HG3 w1
                    go_wp2_with fail
                    go_meet
                    exact ⟨by rw [hg], rfl⟩
                  · have z1 : (mid : Int) < pe := by omega
                    have z2 : ¬ (pe : Int) < pb := by omega
                    have hg : G3 = false := by rw [← HG3.out]; simp [w2]
                    clear HG3 w2
                    go_wp2_with fail
                    go_meet
                    exact ⟨by rw [hg], rfl⟩
                case rest => as_aux_lemma =>
                  obtain ⟨rfl, rfl⟩ := hcut
                  cases G3 with
                  | true =>
                    have hg : 0 < l2 ∧ 0 < l4 := of_decide_eq_true HG3.out
                    go_wp2_with fail
                    refine (IH.out _ (P ++ Z1) A2 B2 S _ _ _ (by have := HQ.out; have := HD.out; omega) (by have := HQ.out; omega) (by have := HQ.out; omega) (by have := HR2.out; rw [List.append_assoc]; exact this) (by have := HLEN.out; have := HQ.out; have := HPA.out; have := HZL.out; simp; omega) (by have := HPA.out; have := HZL.out; have := HQ.out; simp; omega) (by have := HQ.out; have := HPA.out; have := HZL.out; simp; omega) (by have := HQ.out; have := HPA.out; have := HZL.out; simp; omega) HS1.out.2.1 HS1.out.2.2.2 HRG.out.2 (HC.out.fr HF2.out)).mono ?_
                    rintro e w3 ⟨rfl, Z2, hr3, hs3, hp3, hf3⟩
                    have HR3 := Lib.hid hr3; have HF3 := Lib.hid (HF2.out.trans hf3); have HS3 := Lib.hid hs3; have HP3 := Lib.hid hp3
                    clear hr3 hf3 hg hs3 hp3
                    go_wp2_with fail
                    go_end0
                    have hj := mrg_join (by rw [← HAA.out]; exact HSA.out) (by rw [← HBB.out]; exact HSB.out) HC1.out HC2.out HS2.out HS3.out HP2.out HP3.out
                    refine ⟨rfl, Z1 ++ Z2, by have := HR3.out; simpa using this, hj.1, by rw [HAA.out, HBB.out]; exact hj.2, HF3.out⟩
                  | false =>
                    have hg : l2 = 0 ∨ l4 = 0 := by have := of_decide_eq_false HG3.out; omega
                    have hs : Hid (Srt T (A2 ++ B2)) := Lib.hid (by
                      rcases hg with hg | hg
                      · have : A2 = [] := List.eq_nil_of_length_eq_zero (by have := HQ.out; omega)
                        rw [this]; exact HS1.out.2.2.2
                      · have : B2 = [] := List.eq_nil_of_length_eq_zero (by have := HQ.out; omega)
                        rw [this, List.append_nil]; exact HS1.out.2.1)
                    clear hg
                    go_wp2_with fail
                    go_end0
                    have hj := mrg_join (by rw [← HAA.out]; exact HSA.out) (by rw [← HBB.out]; exact HSB.out) HC1.out HC2.out HS2.out hs.out HP2.out (List.Perm.refl _)
                    refine ⟨rfl, Z1 ++ (A2 ++ B2), by have := HR2.out; simpa using this, hj.1, by rw [HAA.out, HBB.out]; exact hj.2, HF2.out⟩
end Go.Proofs.YtefjdcghdcbojaaGreat

namespace Go.Proofs.YtefjdcghdcbojaaGreat
open Go.RowKit
theorem symAllP (b n cap g : Nat) (cb : Value) (cf : PV → PV → Int) (T : EP → EP → Bool) (eg : ∀ args w, (callFunc g args).run Tryz.prog w = .ok (.enter g args) w) (hm : n ≤ 1000000000000) (tr : ∀ a b c, T a b = true → T b c = true → T a c = true) : ∀ d, SymOkP g cb cf T b n cap d
  | 0 => fun w P A B S ia im ib hd hA hB => by omega
  | d + 1 => fun w P A B S ia im ib hd hA hB h hn ha hpm hb sA sB hR hc => by
    by_cases h1 : A.length = 1
    · obtain ⟨x, rfl⟩ := List.length_eq_one_iff.1 h1
      refine (symI1P w b n cap g cb cf T P B S x eg (by simpa using h) (by simpa using hn) hm ha hpm (by rw [hb]; simp) tr sB (fun p hp => hR p hp x (by simp)) hc).mono ?_
      rintro e w' ⟨he, Z, z1, z2, z3, z4⟩
      exact ⟨he, Z, z1, z2, by simpa using z3, z4⟩
    · by_cases h2 : B.length = 1
      · obtain ⟨y, rfl⟩ := List.length_eq_one_iff.1 h2
        refine (symI2P w b n cap g cb cf T P A S y eg (by simpa using h) (by simpa using hn) hm ha hpm (by rw [hb]; simp) (by omega) tr sA (fun q hq => hR y (by simp) q hq) hc).mono ?_
        rintro e w' ⟨he, Z, z1, z2, z3, z4⟩
        exact ⟨he, Z, z1, z2, z3, z4⟩
      · exact symI3P b n cap g cb cf T d eg hm tr (symAllP b n cap g cb cf T eg hm tr d) w P A B S ia im ib hd (by omega) (by omega) h hn ha hpm hb sA sB hR hc
/-- A part of a list. -/
def segP (xs : List EP) (a b : Nat) : List EP := (xs.take b).drop a
/-- That part rises, and holds what it held in X. -/
def BlkP (T : EP → EP → Bool) (X ys : List EP) (a b : Nat) : Prop := Srt T (segP ys a b) ∧ (segP ys a b).Perm (segP X a b)
theorem seg_lenP {xs : List EP} {a b : Nat} (hb : b ≤ xs.length) : (segP xs a b).length = b - a := by unfold segP; simp; omega
theorem seg_splitP (xs : List EP) {a b : Nat} (hab : a ≤ b) : xs = xs.take a ++ (segP xs a b ++ xs.drop b) := by
  unfold segP
  have h1 : xs.take a = (xs.take b).take a := by rw [List.take_take, Nat.min_eq_left hab]
  rw [h1, ← List.append_assoc, List.take_append_drop, List.take_append_drop]
theorem seg_getP (xs : List EP) (c d i : Nat) : (segP xs c d)[i]? = if c + i < d then xs[c + i]? else none := by
  unfold segP
  rw [List.getElem?_drop, List.getElem?_take]
theorem put_getP {xs Z : List EP} {a b : Nat} (hab : a ≤ b) (hb : b ≤ xs.length) (hZ : Z.length = b - a) (j : Nat) : (xs.take a ++ (Z ++ xs.drop b))[j]? = if j < a then xs[j]? else if j < b then Z[j - a]? else xs[j]? := by
  have hta : (xs.take a).length = a := by simp; omega
  by_cases h1 : j < a
  · rw [if_pos h1, List.getElem?_append_left (by omega), List.getElem?_take, if_pos h1]
  · rw [if_neg h1, List.getElem?_append_right (by omega), hta]
    by_cases h2 : j < b
    · rw [if_pos h2, List.getElem?_append_left (by omega)]
    · rw [if_neg h2, List.getElem?_append_right (by omega), List.getElem?_drop]
      congr 1; omega
/-- A part is changed for another of its length: the parts elsewhere are as they were. -/
theorem seg_putP {xs Z : List EP} {a b : Nat} (hab : a ≤ b) (hb : b ≤ xs.length) (hZ : Z.length = b - a) :
    (xs.take a ++ (Z ++ xs.drop b)).length = xs.length ∧ segP (xs.take a ++ (Z ++ xs.drop b)) a b = Z ∧ (∀ c d, d ≤ a → segP (xs.take a ++ (Z ++ xs.drop b)) c d = segP xs c d) ∧ (∀ c d, b ≤ c → segP (xs.take a ++ (Z ++ xs.drop b)) c d = segP xs c d) := by
  refine ⟨by simp; omega, ?_, fun c d hd => ?_, fun c d hc => ?_⟩
  · apply List.ext_getElem?
    intro i
    rw [seg_getP, put_getP hab hb hZ]
    by_cases h : a + i < b
    · rw [if_pos h, if_neg (by omega), if_pos h]; congr 1; omega
    · rw [if_neg h]; exact (List.getElem?_eq_none (by omega)).symm
  · apply List.ext_getElem?
    intro i
    rw [seg_getP, seg_getP, put_getP hab hb hZ]
    by_cases h : c + i < d
    · rw [if_pos h, if_pos h, if_pos (by omega)]
    · rw [if_neg h, if_neg h]
  · apply List.ext_getElem?
    intro i
    rw [seg_getP, seg_getP, put_getP hab hb hZ]
    by_cases h : c + i < d
    · rw [if_pos h, if_pos h, if_neg (by omega), if_neg (by omega)]
    · rw [if_neg h, if_neg h]
theorem seg_appP (xs : List EP) {a m b : Nat} (h1 : a ≤ m) (h2 : m ≤ b) : segP xs a b = segP xs a m ++ segP xs m b := by
  apply List.ext_getElem?
  intro i
  rw [seg_getP]
  by_cases hm : m ≤ xs.length
  · have hl : (segP xs a m).length = m - a := seg_lenP hm
    by_cases h : i < m - a
    · rw [List.getElem?_append_left (by omega), seg_getP, if_pos (by omega), if_pos (by omega)]
    · rw [List.getElem?_append_right (by omega), seg_getP, hl]
      by_cases h3 : a + i < b
      · rw [if_pos h3, if_pos (by omega)]; congr 1; omega
      · rw [if_neg h3, if_neg (by omega)]
  · have e1 : segP xs m b = [] := by unfold segP; rw [List.drop_of_length_le]; simp; omega
    rw [e1, List.append_nil, seg_getP]
    by_cases h3 : a + i < m
    · rw [if_pos (by omega), if_pos h3]
    · rw [if_neg h3]
      by_cases h4 : a + i < b
      · rw [if_pos h4]; exact List.getElem?_eq_none (by omega)
      · rw [if_neg h4]
/-- What stands in a later part stands right of what stands in an earlier one. -/
theorem seg_pairP {R : EP → EP → Prop} {X : List EP} (h : X.Pairwise R) {a m b : Nat} (h1 : a ≤ m) (h2 : m ≤ b) : ∀ q ∈ segP X a m, ∀ p ∈ segP X m b, R q p := by
  intro q hq p hp
  have hs : (segP X a b).Pairwise R := h.sublist ((List.drop_sublist _ _).trans (List.take_sublist _ _))
  rw [seg_appP X h1 h2] at hs
  exact (List.pairwise_append.1 hs).2.2 q hq p hp
theorem seg_pwP {R : EP → EP → Prop} {X : List EP} (h : X.Pairwise R) (a b : Nat) : (segP X a b).Pairwise R := h.sublist ((List.drop_sublist _ _).trans (List.take_sublist _ _))
/-- From lo to hi, in steps of s, each block rises and holds what it held. -/
def OkbP (T : EP → EP → Bool) (X ys : List EP) (s lo hi : Nat) : Prop := ∀ q, lo + q * s < hi → BlkP T X ys (lo + q * s) (min (lo + (q + 1) * s) hi)
theorem okb_headP {T : EP → EP → Bool} {X ys : List EP} {s lo hi : Nat} (h : OkbP T X ys s lo hi) (hl : lo < hi) : BlkP T X ys lo (min (lo + s) hi) := by
  have := h 0 (by omega)
  simpa using this
theorem okb_tailP {T : EP → EP → Bool} {X ys : List EP} {s lo hi : Nat} (h : OkbP T X ys s lo hi) : OkbP T X ys s (lo + s) hi := fun q hq => by
  have e1 : lo + s + q * s = lo + (q + 1) * s := by rw [Nat.add_mul]; omega
  have e2 : lo + s + (q + 1) * s = lo + (q + 1 + 1) * s := by rw [Nat.add_mul (q + 1)]; omega
  rw [e1] at hq ⊢
  rw [e2]
  exact h (q + 1) hq
theorem okb_nilP {T : EP → EP → Bool} {X ys : List EP} {s lo hi : Nat} (h : hi ≤ lo) : OkbP T X ys s lo hi := fun q hq => by omega
theorem okb_snocP {T : EP → EP → Bool} {X ys : List EP} {t a b k : Nat} (h : OkbP T X ys t 0 a) (ha : a = k * t) (hab : a < b) (hb : b ≤ a + t) (hB : BlkP T X ys a b) : OkbP T X ys t 0 b := fun q hq => by
  rw [Nat.zero_add] at hq ⊢
  rw [Nat.zero_add]
  rcases Nat.lt_trichotomy q k with hl | he | hg
  · have h1 : (q + 1) * t ≤ k * t := Nat.mul_le_mul_right t hl
    have h2 := h q (by rw [Nat.zero_add]; rw [Nat.add_mul] at h1; omega)
    rw [Nat.zero_add, Nat.zero_add] at h2
    rw [Nat.min_eq_left (by omega)] at h2 ⊢
    exact h2
  · subst he
    rw [Nat.min_eq_right (by rw [Nat.add_mul]; omega), ← ha]
    exact hB
  · have h1 : (k + 1) * t ≤ q * t := Nat.mul_le_mul_right t hg
    rw [Nat.add_mul] at h1
    omega
theorem okb_lowP {T : EP → EP → Bool} {X ys Z : List EP} {t a b : Nat} (hab : a ≤ b) (hb : b ≤ ys.length) (hZ : Z.length = b - a) (h : OkbP T X ys t 0 a) : OkbP T X (ys.take a ++ (Z ++ ys.drop b)) t 0 a := fun q hq => by
  have := h q hq
  unfold BlkP at this ⊢
  rw [(seg_putP hab hb hZ).2.2.1 _ _ (Nat.min_le_right _ _)]
  exact this
theorem okb_highP {T : EP → EP → Bool} {X ys Z : List EP} {s a b n : Nat} (hab : a ≤ b) (hb : b ≤ ys.length) (hZ : Z.length = b - a) (h : OkbP T X ys s b n) : OkbP T X (ys.take a ++ (Z ++ ys.drop b)) s b n := fun q hq => by
  have := h q hq
  unfold BlkP at this ⊢
  rw [(seg_putP hab hb hZ).2.2.2 _ _ (by omega)]
  exact this
theorem blk_putP {T : EP → EP → Bool} {X ys Z : List EP} {a b : Nat} (hab : a ≤ b) (hb : b ≤ ys.length) (hZ : Z.length = b - a) (hs : Srt T Z) (hp : Z.Perm (segP X a b)) : BlkP T X (ys.take a ++ (Z ++ ys.drop b)) a b := by
  unfold BlkP
  rw [(seg_putP hab hb hZ).2.1]
  exact ⟨hs, hp⟩
/-- What is not sorted yet is as it was. -/
def RestP (X ys : List EP) (a : Nat) : Prop := ∀ c d, a ≤ c → segP ys c d = segP X c d
set_option maxRecDepth 100000 in
set_option maxHeartbeats 16000000 in
theorem stabIP (w : World) (bk n cap g : Nat) (cb : Value) (cf : PV → PV → Int) (T : EP → EP → Bool) (X : List EP) (eg : ∀ args w, (callFunc g args).run Tryz.prog w = .ok (.enter g args) w) (h : RwP w bk X) (hn : X.length = n) (hm : n ≤ 1000000000000)
    (tr : ∀ a b c, T a b = true → T b c = true → T a c = true) (hR : X.Pairwise (fun q p => RgtP cf T p q)) (hc : CmpIP g cb cf bk w) :
    Calls Tryz.prog 124 #[.slice (some ⟨bk, 0, none⟩) n cap, .int .i64 n, .func (.func g) #[cb] #[]] w fun e w' => e = .returned (.tuple #[]) ∧ ∃ Z, RwP w' bk Z ∧ Srt T Z ∧ Z.Perm X ∧ Fr (fun c => c = bk) w w' := by
  have H0 := Lib.hid h; have HN := Lib.hid hn; have HM := Lib.hid hm; have HTR := Lib.hid tr; have HRR := Lib.hid hR; have HC := Lib.hid hc
  have SYM := Lib.hid (symAllP bk n cap g cb cf T eg hm tr)
  have INS := Lib.hid (fun w P A S ia ib h hn ha hb hR hc => @insIP w bk n cap g cb cf T P A S ia ib eg h hn hm ha hb tr hR hc)
  have i1 : (n : Int) ≤ 1000000000000 := by omega
  clear h hn hm tr hR hc
  go_enter Tryz.func124, Tryz.ntmps124
  go_wp2_with fail
  go_loopw [7, 8] (fun va vb wr => ∃ (a k : Nat) (ys : List EP), va = .int .i64 a ∧ vb = .int .i64 ((a : Int) + 20) ∧ a = k * 20 ∧ a ≤ n ∧ ys.length = n ∧ RwP wr bk ys ∧ OkbP T X ys 20 0 a ∧ RestP X ys a ∧ Fr (fun c => c = bk) w wr) (fun va _ _ => ((n : Int) - intOf va).toNat)
  case atStart => exact ⟨0, 0, X, rfl, by simp, rfl, Nat.zero_le _, HN.out, H0.out, okb_nilP (Nat.le_refl _), fun _ _ _ => rfl, Fr.refl _ _⟩
  case round =>
    obtain ⟨a, k, ys, rfl, rfl, hk, han, hyl, hr, hok, hrest, hf⟩ := hrel
    have HK := Lib.hid hk; have HYL := Lib.hid hyl; have HR := Lib.hid hr; have HOK := Lib.hid hok; have HRS := Lib.hid hrest; have HF := Lib.hid hf
    clear hk hyl hr hok hrest hf
    by_cases hlt : a + 20 ≤ n
    · have hltI : (a : Int) + 20 ≤ n := by omega
      have hrow : Hid (RwP wr bk (ys.take a ++ (segP ys a (a + 20) ++ ys.drop (a + 20)))) := Lib.hid (by have := HR.out; rw [seg_splitP ys (show a ≤ a + 20 by omega)] at this; exact this)
      go_wp2_with fail
      refine (INS.out wr (ys.take a) (segP ys a (a + 20)) (ys.drop (a + 20)) _ _ hrow.out (by rw [← seg_splitP ys (show a ≤ a + 20 by omega), HYL.out]) (by have := HYL.out; simp; omega) (by rw [seg_lenP (by have := HYL.out; omega)]; have := HYL.out; simp; omega) (by rw [HRS.out a (a + 20) (Nat.le_refl _)]; exact seg_pwP HRR.out _ _) (HC.out.fr HF.out)).mono ?_
      rintro e w3 ⟨rfl, Z, hz1, hz2, hz3, hz4⟩
      have hzl : Z.length = a + 20 - a := by rw [hz3.length_eq, seg_lenP (by have := HYL.out; omega)]
      rw [HRS.out a (a + 20) (Nat.le_refl _)] at hz3
      have HZ1 := Lib.hid hz1; have HZ2 := Lib.hid hz2; have HZ3 := Lib.hid hz3; have HZL := Lib.hid hzl; have HF3 := Lib.hid (HF.out.trans hz4)
      clear hz1 hz2 hz3 hz4 hzl
      go_wp2_with fail
      go_roundw
      case rel =>
        have hp := seg_putP (xs := ys) (Z := Z) (a := a) (b := a + 20) (by omega) (by have := HYL.out; omega) HZL.out
        refine ⟨a + 20, k + 1, ys.take a ++ (Z ++ ys.drop (a + 20)), by first | rfl | (congr 1; done) | (congr 1; omega), by first | rfl | (congr 1; done) | (congr 1; omega), by have := HK.out; omega, hlt, by rw [hp.1]; exact HYL.out, HZ1.out, ?_, fun c d hcd => ?_, HF3.out⟩
        · exact okb_snocP (okb_lowP (by omega) (by have := HYL.out; omega) HZL.out HOK.out) HK.out (by omega) (Nat.le_refl _) (blk_putP (by omega) (by have := HYL.out; omega) HZL.out HZ2.out HZ3.out)
        · rw [hp.2.2.2 c d hcd]; exact HRS.out c d (by omega)
      case measure => simp [intOf]; omega
    · have hltI : ¬ (a : Int) + 20 ≤ n := by omega
      have hrow : Hid (RwP wr bk (ys.take a ++ (segP ys a n ++ ys.drop n))) := Lib.hid (by have := HR.out; rw [seg_splitP ys han] at this; exact this)
      go_wp2_with fail
      refine (INS.out wr (ys.take a) (segP ys a n) (ys.drop n) _ _ hrow.out (by rw [← seg_splitP ys han, HYL.out]) (by have := HYL.out; simp; omega) (by rw [seg_lenP (by have := HYL.out; omega)]; have := HYL.out; simp; omega) (by rw [HRS.out a n (Nat.le_refl _)]; exact seg_pwP HRR.out _ _) (HC.out.fr HF.out)).mono ?_
      rintro e w3 ⟨rfl, Z, hz1, hz2, hz3, hz4⟩
      have hzl : Z.length = n - a := by rw [hz3.length_eq, seg_lenP (by have := HYL.out; omega)]
      rw [HRS.out a n (Nat.le_refl _)] at hz3
      have hp := seg_putP (xs := ys) (Z := Z) (a := a) (b := n) han (by have := HYL.out; omega) hzl
      have hok2 : OkbP T X (ys.take a ++ (Z ++ ys.drop n)) 20 0 n := by
        have hlow := okb_lowP han (by have := HYL.out; omega) hzl HOK.out
        by_cases e : a = n
        · rw [e] at hlow ⊢; exact hlow
        · exact okb_snocP hlow HK.out (by omega) (by omega) (blk_putP han (by have := HYL.out; omega) hzl hz2 hz3)
      obtain ⟨y2, hy2⟩ : ∃ y2, ys.take a ++ (Z ++ ys.drop n) = y2 := ⟨_, rfl⟩
      have hl2 := hp.1
      rw [hy2] at hz1 hok2 hl2
      have HZ1 := Lib.hid hz1; have HOK2 := Lib.hid hok2; have HL2 := Lib.hid (hl2.trans HYL.out); have HF3 := Lib.hid (HF.out.trans hz4)
      clear hz1 hz2 hz3 hz4 hzl hp hok2 hy2 hl2 hltI
      go_wp2_with fail
      go_loopw [6] (fun vs wr => ∃ (s : Nat) (y : List EP), vs = .int .i64 s ∧ 0 < s ∧ y.length = n ∧ RwP wr bk y ∧ OkbP T X y s 0 n ∧ Fr (fun c => c = bk) w wr) (fun vs _ => ((n : Int) - intOf vs).toNat)
      case atStart => exact ⟨20, y2, rfl, by omega, HL2.out, HZ1.out, HOK2.out, HF3.out⟩
      case round =>
        obtain ⟨s, y, rfl, hs0, hyl, hr, hok, hf⟩ := hrel
        have HYL := Lib.hid hyl; have HR := Lib.hid hr; have HOK := Lib.hid hok; have HF := Lib.hid hf
        clear hyl hr hok hf
        by_cases hsn : s < n
        · have hsI : (s : Int) < n := by omega
          have hs0I : (0 : Int) < s := by omega
          obtain ⟨wo, rfl⟩ : ∃ wo : World, wo = wr := ⟨_, rfl⟩
          go_wp2_with fail
          go_loopw [7, 8] (fun va vb wr => ∃ (a k : Nat) (ys : List EP), va = .int .i64 a ∧ vb = .int .i64 ((a : Int) + 2 * s) ∧ a = k * (2 * s) ∧ a ≤ n ∧ ys.length = n ∧ RwP wr bk ys ∧ OkbP T X ys (2 * s) 0 a ∧ OkbP T X ys s a n ∧ Fr (fun c => c = bk) w wr) (fun va _ _ => ((n : Int) - intOf va).toNat)
          case atStart => exact ⟨0, 0, y, rfl, by simp, by simp, Nat.zero_le _, HYL.out, HR.out, okb_nilP (Nat.le_refl _), HOK.out, HF.out⟩
          case round =>
            obtain ⟨a, k, ys, rfl, rfl, hk, han, hyl, hr, hok1, hok2, hf⟩ := hrel
            have HK := Lib.hid hk; have HYL := Lib.hid hyl; have HR := Lib.hid hr; have HOK1 := Lib.hid hok1; have HOK2 := Lib.hid hok2; have HF := Lib.hid hf
            clear hk hyl hr hok1 hok2 hf
            by_cases hlt : a + 2 * s ≤ n
            · have hltI : (a : Int) + 2 * s ≤ n := by omega
              have b1 := okb_headP HOK2.out (by omega)
              have b2 := okb_headP (okb_tailP HOK2.out) (by omega)
              rw [Nat.min_eq_left (by omega)] at b1 b2
              rw [show a + s + s = a + 2 * s by omega] at b2
              have hsp : ys = ys.take a ++ (segP ys a (a + s) ++ (segP ys (a + s) (a + 2 * s) ++ ys.drop (a + 2 * s))) := by
                rw [← List.append_assoc (segP ys a (a + s)), ← seg_appP ys (by omega) (by omega)]
                exact seg_splitP ys (by omega)
              have l1 : (segP ys a (a + s)).length = s := by rw [seg_lenP (by have := HYL.out; omega)]; omega
              have l2 : (segP ys (a + s) (a + 2 * s)).length = s := by rw [seg_lenP (by have := HYL.out; omega)]; omega
              have l3 : (ys.take a).length = a := by have := HYL.out; simp; omega
              have hrow : Hid (RwP wr bk (ys.take a ++ (segP ys a (a + s) ++ (segP ys (a + s) (a + 2 * s) ++ ys.drop (a + 2 * s))))) := Lib.hid (by rw [← hsp]; exact HR.out)
              have HSP := Lib.hid hsp; have L1 := Lib.hid l1; have L2 := Lib.hid l2; have L3 := Lib.hid l3; have B1 := Lib.hid b1; have B2 := Lib.hid b2
              clear hsp l1 l2 l3 b1 b2
              go_wp2_with fail
              refine (SYM.out _ wr (ys.take a) (segP ys a (a + s)) (segP ys (a + s) (a + 2 * s)) (ys.drop (a + 2 * s)) _ _ _ (Nat.le_refl _) (by rw [L1.out]; omega) (by rw [L2.out]; omega) hrow.out (by rw [← HSP.out, HYL.out]) (by rw [L3.out]) (by rw [L3.out, L1.out]; omega) (by rw [L3.out, L1.out, L2.out]; omega) B1.out.1 B2.out.1 (fun p hp q hq => seg_pairP HRR.out (show a ≤ a + s by omega) (show a + s ≤ a + 2 * s by omega) q (B1.out.2.mem_iff.1 hq) p (B2.out.2.mem_iff.1 hp)) (HC.out.fr HF.out)).mono ?_
              rintro e w3 ⟨rfl, Z, hz1, hz2, hz3, hz4⟩
              have hzl : Z.length = a + 2 * s - a := by rw [hz3.length_eq, List.length_append, L1.out, L2.out]; omega
              have hz5 : Z.Perm (segP X a (a + 2 * s)) := by rw [seg_appP X (show a ≤ a + s by omega) (show a + s ≤ a + 2 * s by omega)]; exact hz3.trans (B1.out.2.append B2.out.2)
              have HZ1 := Lib.hid hz1; have HZ2 := Lib.hid hz2; have HZ3 := Lib.hid hz5; have HZL := Lib.hid hzl; have HF3 := Lib.hid (HF.out.trans hz4)
              clear hz1 hz2 hz3 hz4 hz5 hzl
              go_wp2_with fail
              go_roundw
              case rel =>
                have hp := seg_putP (xs := ys) (Z := Z) (a := a) (b := a + 2 * s) (by omega) (by have := HYL.out; omega) HZL.out
                refine ⟨a + 2 * s, k + 1, ys.take a ++ (Z ++ ys.drop (a + 2 * s)), by first | rfl | (congr 1; done) | (congr 1; omega), by first | rfl | (congr 1; done) | (congr 1; omega), by have := HK.out; rw [Nat.add_mul]; omega, hlt, by rw [hp.1]; exact HYL.out, HZ1.out, ?_, ?_, HF3.out⟩
                · exact okb_snocP (okb_lowP (by omega) (by have := HYL.out; omega) HZL.out HOK1.out) HK.out (by omega) (Nat.le_refl _) (blk_putP (by omega) (by have := HYL.out; omega) HZL.out HZ2.out HZ3.out)
                · refine okb_highP (by omega) (by have := HYL.out; omega) HZL.out ?_
                  have := okb_tailP (okb_tailP HOK2.out)
                  rw [show a + s + s = a + 2 * s by omega] at this
                  exact this
              case measure => simp [intOf]; omega
            · have hltI : ¬ (a : Int) + 2 * s ≤ n := by omega
              by_cases hmn : a + s < n
              · have hmI : (a : Int) + s < n := by omega
                have b1 := okb_headP HOK2.out (by omega)
                have b2 := okb_headP (okb_tailP HOK2.out) hmn
                rw [Nat.min_eq_left (by omega)] at b1
                rw [Nat.min_eq_right (by omega)] at b2
                have hsp : ys = ys.take a ++ (segP ys a (a + s) ++ (segP ys (a + s) n ++ ys.drop n)) := by
                  rw [← List.append_assoc (segP ys a (a + s)), ← seg_appP ys (by omega) (by omega)]
                  exact seg_splitP ys han
                have l1 : (segP ys a (a + s)).length = s := by rw [seg_lenP (by have := HYL.out; omega)]; omega
                have l2 : (segP ys (a + s) n).length = n - (a + s) := by rw [seg_lenP (by have := HYL.out; omega)]
                have l3 : (ys.take a).length = a := by have := HYL.out; simp; omega
                have hrow : Hid (RwP wr bk (ys.take a ++ (segP ys a (a + s) ++ (segP ys (a + s) n ++ ys.drop n)))) := Lib.hid (by rw [← hsp]; exact HR.out)
                have HSP := Lib.hid hsp; have L1 := Lib.hid l1; have L2 := Lib.hid l2; have L3 := Lib.hid l3; have B1 := Lib.hid b1; have B2 := Lib.hid b2
                clear hsp l1 l2 l3 b1 b2
                go_wp2_with fail
                refine (SYM.out _ wr (ys.take a) (segP ys a (a + s)) (segP ys (a + s) n) (ys.drop n) _ _ _ (Nat.le_refl _) (by rw [L1.out]; omega) (by rw [L2.out]; omega) hrow.out (by rw [← HSP.out, HYL.out]) (by rw [L3.out]) (by rw [L3.out, L1.out]; omega) (by rw [L3.out, L1.out, L2.out]; omega) B1.out.1 B2.out.1 (fun p hp q hq => seg_pairP HRR.out (show a ≤ a + s by omega) (show a + s ≤ n by omega) q (B1.out.2.mem_iff.1 hq) p (B2.out.2.mem_iff.1 hp)) (HC.out.fr HF.out)).mono ?_
                rintro e w3 ⟨rfl, Z, hz1, hz2, hz3, hz4⟩
                have hzl : Z.length = n - a := by rw [hz3.length_eq, List.length_append, L1.out, L2.out]; omega
                have hz5 : Z.Perm (segP X a n) := by rw [seg_appP X (show a ≤ a + s by omega) (show a + s ≤ n by omega)]; exact hz3.trans (B1.out.2.append B2.out.2)
                have hp := seg_putP (xs := ys) (Z := Z) (a := a) (b := n) han (by have := HYL.out; omega) hzl
                have hfin : OkbP T X (ys.take a ++ (Z ++ ys.drop n)) (2 * s) 0 n := okb_snocP (okb_lowP han (by have := HYL.out; omega) hzl HOK1.out) HK.out (by omega) (by omega) (blk_putP han (by have := HYL.out; omega) hzl hz2 hz5)
                obtain ⟨y3, hy3⟩ : ∃ y3, ys.take a ++ (Z ++ ys.drop n) = y3 := ⟨_, rfl⟩
                have hl3 := hp.1
                rw [hy3] at hz1 hfin hl3
                have HZ1 := Lib.hid hz1; have HFIN := Lib.hid hfin; have HL3 := Lib.hid (hl3.trans HYL.out); have HF3 := Lib.hid (HF.out.trans hz4)
                clear hz1 hz2 hz3 hz4 hz5 hzl hp hfin hy3 hl3
                go_wp2_with fail
                go_roundw
                case rel => exact ⟨2 * s, y3, by first | rfl | (congr 1; done) | (congr 1; omega), by omega, HL3.out, HZ1.out, HFIN.out, HF3.out⟩
                case measure => simp [intOf]; omega
              · have hmI : ¬ (a : Int) + s < n := by omega
                have hfin : OkbP T X ys (2 * s) 0 n := by
                  by_cases e : a = n
                  · rw [← e]; exact HOK1.out
                  · have b1 := okb_headP HOK2.out (by omega)
                    rw [Nat.min_eq_right (by omega)] at b1
                    exact okb_snocP HOK1.out HK.out (by omega) (by omega) b1
                have HFIN := Lib.hid hfin
                clear hfin
                go_wp2_with fail
                go_roundw
                case rel => exact ⟨2 * s, ys, by first | rfl | (congr 1; done) | (congr 1; omega), by omega, HYL.out, HR.out, HFIN.out, HF.out⟩
                case measure => simp [intOf]; omega
        · have hsI : ¬ (s : Int) < n := by omega
          have hfin : Srt T y ∧ y.Perm X := by
            by_cases e : n = 0
            · have e1 : y = [] := List.eq_nil_of_length_eq_zero (by rw [HYL.out]; exact e)
              have e2 : X = [] := List.eq_nil_of_length_eq_zero (by rw [HN.out]; exact e)
              rw [e1, e2]; exact ⟨Srt.nil, List.Perm.refl _⟩
            · have b1 := okb_headP HOK.out (by omega)
              rw [Nat.zero_add, Nat.min_eq_right (by omega)] at b1
              have e1 : ∀ u : List EP, u.length = n → segP u 0 n = u := fun u hu => by unfold segP; rw [List.drop_zero, List.take_of_length_le (by omega)]
              unfold BlkP at b1
              rw [e1 y HYL.out, e1 X HN.out] at b1
              exact b1
          have HFIN := Lib.hid hfin
          clear hfin
          go_wp2_with fail
          go_end0
          exact ⟨rfl, y, HR.out, HFIN.out.1, HFIN.out.2, HF.out⟩
/-- The same, its elements named by their places. -/
theorem flP_zip : ∀ (l : List PV) (k : Nat), flP (l.zipIdx k) = l.flatMap PV.cs
  | [], _ => rfl
  | x :: r, k => by
    have := flP_zip r (k + 1)
    unfold flP at this ⊢
    rw [List.zipIdx_cons, List.flatMap_cons, List.flatMap_cons, this]
theorem rwP_zip {W : World} {b : Nat} {l : List PV} {rest : List Value} (h : W.heap[b]? = some (.cells (l.flatMap PV.cs ++ rest).toArray 47)) : RwP W b (l.zipIdx 0) := ⟨rest, by rw [flP_zip]; exact h⟩
theorem flP_fst : ∀ (Z : List EP), flP Z = (Z.map Prod.fst).flatMap PV.cs
  | [] => rfl
  | x :: r => by
    have := flP_fst r
    unfold flP at this ⊢
    rw [List.flatMap_cons, List.map_cons, List.flatMap_cons, this]
set_option maxRecDepth 100000 in
set_option maxHeartbeats 4000000 in
/-- slices.SortStableFunc: a row of places of the caller's own is laid in the stable order. -/
theorem sortStableP (w : World) (bk n cap g : Nat) (cb : Value) (cf : PV → PV → Int) (l : List PV) (eg : ∀ args w, (callFunc g args).run Tryz.prog w = .ok (.enter g args) w) (hl : l.length = n) (hm : n ≤ 1000000000000) (hS : SwoB (fun x y => decide (cf x y < 0)))
    (h : RwP w bk (l.zipIdx 0)) (hD : ∀ x ∈ l, ∀ y ∈ l, -1 ≤ cf x y ∧ cf x y ≤ 1) (hc : CmpIP g cb cf bk w) :
    Calls Tryz.prog 111 #[.slice (some ⟨bk, 0, none⟩) n cap, .func (.func g) #[cb] #[]] w fun e w' => e = .returned (.tuple #[]) ∧ (∃ rest : List Value, w'.heap[bk]? = some (.cells ((stab (fun x y => decide (cf x y < 0)) l).flatMap PV.cs ++ rest).toArray 47)) ∧ Fr (fun c => c = bk) w w' := by
  have hst := Lib.hid (stabIP w bk n cap g cb cf (tagT (fun x y => decide (cf x y < 0))) (l.zipIdx 0) eg h (by rw [List.length_zipIdx]; exact hl) hm (tag_tr hS) ((zip_pair l 0).imp_of_mem (fun {q p} hq hp hlt => by
    obtain ⟨h1, h2⟩ := tag_rgt hS hlt
    exact ⟨h1.symm, h2, hD _ (zip_mem hp) _ (zip_mem hq)⟩)) hc)
  have HS := Lib.hid hS
  have hnI : (n : Int) ≤ 1000000000000 := by omega
  clear h hc hl hm hS hD
  go_enter Tryz.func111, Tryz.ntmps111
  go_wp2_with (go_at_call 124; refine hst.out.mono ?_; rintro e w' ⟨rfl, Z, hz1, hz2, hz3, hz4⟩; have HZ1 := Lib.hid hz1; have HZ2 := Lib.hid hz2; have HZ3 := Lib.hid hz3; have HZ4 := Lib.hid hz4; clear hz1 hz2 hz3 hz4)
  go_end0
  refine ⟨rfl, ?_, HZ4.out⟩
  obtain ⟨rest, hr⟩ := HZ1.out
  refine ⟨rest, ?_⟩
  rw [← stab_eq HS.out HZ2.out HZ3.out, ← flP_fst]
  exact hr
end Go.Proofs.YtefjdcghdcbojaaGreat

namespace Go.Proofs.YtefjdcghdcbojaaGreat
open Go.RowKit Go.Maps
set_option maxRecDepth 100000 in
set_option maxHeartbeats 4000000 in
theorem bRoute1 (w : World) (p : PV) (fv : Value) (b0 : Nat) (R : Int) (hb : w.cell? ⟨b0, 0, none⟩ = some fv) (hfd : ∀ W, Fr (fun _ => False) w W → Calls Tryz.prog 77 #[fv, .int .i64 p.b] W fun e w' => e = .returned (.int .i64 R) ∧ Fr (fun _ => False) W w') :
    Calls Tryz.prog 110 #[.agg (pvC p), .pointer (some ⟨b0, 0, none⟩)] w fun e w' => e = .returned (.bool (R == -1)) ∧ Fr (fun _ => False) w w' := by
  obtain ⟨b, g, n⟩ := p
  have hb2 := ((Fr.refl (fun _ => False) w).alloc (.cells #[.int .i64 b, vS g, .int .i64 n] 47)).cell hb (fun h => h)
  have HFD := Lib.hid (hfd _ ((Fr.refl (fun _ => False) w).alloc (.cells #[.int .i64 b, vS g, .int .i64 n] 47)))
  dsimp only [pvC] at *
  clear hb hfd
  go_enter Tryz.func110, Tryz.ntmps110
  go_wp2_with (go_at_call 77; refine HFD.out.mono ?_; rintro e w2 ⟨rfl, hf2⟩; have HF2 := Lib.hid (((Fr.refl (fun _ => False) w).alloc _).trans hf2); clear hf2)
  go_ret
  exact ⟨rfl, HF2.out⟩
theorem pl_of_row {W : World} {bk cap : Nat} {l : List PV} {rest : List Value} (hl : l.length ≤ maxLen) (h : W.heap[bk]? = some (.cells (l.flatMap PV.cs ++ rest).toArray 47)) (hok : ∀ p ∈ l, okPv W p) : Pl W (.slice (some ⟨bk, 0, none⟩) l.length cap) l := by
  refine ⟨hl, some ⟨bk, 0, none⟩, cap, rfl, fun i x hx => ⟨hok x (List.mem_of_getElem? hx), _, rfl, fun j u hu => ?_⟩⟩
  have hj := (Array.getElem?_eq_some_iff.1 hu).1
  rw [pvSize] at hj
  have hil := (List.getElem?_eq_some_iff.1 hx).1
  have e0 : (⟨bk, 0, none⟩ : Addr).add (i * 3 + j) = ⟨bk, i * 3 + j, none⟩ := by unfold Addr.add; simp <;> intros <;> omega
  have hfl : l.flatMap PV.cs = flat pvC l := rfl
  have hle : (i + 1) * 3 ≤ l.length * 3 := Nat.mul_le_mul_right 3 hil
  rw [e0]
  refine cell_obj h _ _ ?_
  rw [List.getElem?_toArray, hfl, List.getElem?_append_left (by rw [flat_len1 pvSize]; omega)]
  exact flat_at pvSize hx j u hu
theorem bRoute2 (w W0 w1 : World) (fv v1 : Value) (n0 : Nat) (l : List PV) (fd : Int → Int) (hn0 : w.heap.size = n0) (hs0 : W0.heap.size = n0 + 1) (hl : l.length ≤ 4398046510976) (hf0 : Fr (fun _ => False) w W0) (hx0 : W0.heap[n0]? = some (.cells #[fv] 23))
    (hok : ∀ p ∈ l, okI p.b ∧ okS p.g ∧ okI p.n) (hfd : ∀ W n, Fr (fun _ => False) w W → Calls Tryz.prog 77 #[fv, .int .i64 n] W fun e w' => e = .returned (.int .i64 (fd n)) ∧ Fr (fun _ => False) W w')
    (ho : w1.ownsRow W0.heap.size 47 3 v1 l.length (flat pvC l)) (hf1 : Fr (fun _ => False) W0 w1) :
    Calls Tryz.prog 108 #[v1, .func (.func 110) #[] #[.pointer (some ⟨n0, 0, none⟩)]] w1 fun e w' => ∃ v', e = .returned v' ∧ w'.ownsRow (n0 + 1) 47 3 v' (l.filter fun p => !(fd p.b == -1)).length (flat pvC (l.filter fun p => !(fd p.b == -1))) ∧ (∀ c, v'.ownBlock = some c → n0 < c) ∧ w'.cell? ⟨n0, 0, none⟩ = some fv ∧ Fr (fun _ => False) w w' := by
  rw [hs0] at ho
  have hlo : ∀ c, v1.ownBlock = some c → n0 < c := fun c hc => by
    rcases ho.2 with ⟨rfl, -⟩ | ⟨g, cap, cur, rfl, hb, -⟩
    · cases hc
    · cases hc; show n0 < g; omega
  refine (dfPlace w1 (n0 + 1) v1 l (fun p => fd p.b == -1) n0 ho (by omega) hok (fun W i x hx hW => ?_)).mono ?_
  · have hW2 : Fr (fun c => n0 < c) W0 W := (hf1.mono (fun _ _ e => e.elim)).trans' hW (fun b _ e => hlo b e)
    refine bRoute1 W x fv n0 (fd x.b) ?_ (fun W' hW' => hfd W' x.b ((hf0.trans' hW2 (fun b hb e => by have e : n0 < b := e; omega)).trans hW'))
    exact cell_obj ((hW2.at_ hx0 (by omega))) 0 fv rfl
  · rintro e w' ⟨v', rfl, h1, h2, h3⟩
    exact ⟨v', rfl, h1, fun c hc => hlo c (h2 c hc), cell_obj ((((hf1.mono (S' := fun c => n0 < c) (fun _ _ e => e.elim)).trans' h3 (fun b _ e => hlo b e))).at_ hx0 (by omega)) 0 fv rfl, (hf0.trans hf1).trans' h3 (fun b hb e => by have := hlo b e; omega)⟩
set_option maxRecDepth 100000 in
set_option maxHeartbeats 8000000 in
theorem bRoute (w : World) (fp : Option Addr) (v : Value) (l : List PV) (fd : Int → Int) (cf : PV → PV → Int) (h : Pl w v l) (hl : l.length ≤ 4398046510976) (hl2 : (l.filter fun p => !(fd p.b == -1)).length ≤ 1000000000000)
    (hfd : ∀ W n, Fr (fun _ => False) w W → Calls Tryz.prog 77 #[.pointer fp, .int .i64 n] W fun e w' => e = .returned (.int .i64 (fd n)) ∧ Fr (fun _ => False) W w')
    (hcf : ∀ W x y, Fr (fun _ => False) w W → (-1 ≤ cf x y ∧ cf x y ≤ 1) → Calls Tryz.prog 112 #[.pointer fp, .agg x.cs.toArray, .agg y.cs.toArray] W fun e w' => e = .returned (.int .i64 (cf x y)) ∧ Fr (fun _ => False) W w')
    (hS : SwoB (fun x y => decide (cf x y < 0))) (hD : ∀ x ∈ l.filter (fun p => !(fd p.b == -1)), ∀ y ∈ l.filter (fun p => !(fd p.b == -1)), -1 ≤ cf x y ∧ cf x y ≤ 1) :
    Calls Tryz.prog 78 #[.pointer fp, v] w fun e w' => ∃ v', e = .returned v' ∧ Pl w' v' (stab (fun x y => decide (cf x y < 0)) (l.filter fun p => !(fd p.b == -1))) ∧ (∀ c, v'.ownBlock = some c → w.heap.size ≤ c) ∧ Fr (fun _ => False) w w' := by
  obtain ⟨va, vl, vc, hve⟩ : ∃ a n c, v = .slice a n c := by obtain ⟨a, c, e⟩ := h.sl; exact ⟨a, _, c, e⟩
  subst hve
  obtain ⟨n0, hn0⟩ : ∃ n0, w.heap.size = n0 := ⟨_, rfl⟩
  obtain ⟨W0, hW0⟩ : ∃ W0, w.alloc (.cells #[.pointer fp] 23) = W0 := ⟨_, rfl⟩
  have hf0 : Fr (fun _ => False) w W0 := by rw [← hW0]; exact (Fr.refl _ w).alloc _
  have hx0 : W0.heap[n0]? = some (.cells #[.pointer fp] 23) := by rw [← hW0]; exact heap_at hn0.symm _
  have hcl := plClone W0 _ l (h.fr0 okPvKeeps hf0) hl
  have HOKP : Hid (∀ p ∈ l, okI p.b ∧ okS p.g ∧ okI p.n) := Lib.hid (fun p hp => h.okm hp)
  obtain ⟨K, hK⟩ : ∃ K, (l.filter fun p => !(fd p.b == -1)) = K := ⟨_, rfl⟩
  have HK := Lib.hid hK
  rw [hK] at hD hl2 ⊢
  have HCL := Lib.hid hcl; have HFD := Lib.hid hfd; have HCF := Lib.hid hcf; have HS := Lib.hid hS; have HD := Lib.hid hD; have HF0 := Lib.hid hf0; have HX0 := Lib.hid hx0; have HN0 := Lib.hid hn0; have HL := Lib.hid hl; have HL2 := Lib.hid hl2
  have HS0 : Hid (W0.heap.size = n0 + 1) := Lib.hid (by rw [← hW0]; simp; omega)
  have c0 := cell_obj hx0 0 (.pointer fp) rfl
  clear h hl hl2 hfd hcf hS hD hf0 hx0 hcl hK
  go_enter Tryz.func78, Tryz.ntmps78
  go_wp2_with (first
    | (go_at_call 109; refine HCL.out.mono ?_; rintro e w1 ⟨v1, rfl, ho1, hf1⟩; have HO1 := Lib.hid ho1; have HF1 := Lib.hid hf1; clear ho1 hf1)
    | (go_at_call 108; refine (bRoute2 w W0 w1 (.pointer fp) v1 n0 l fd HN0.out HS0.out HL.out HF0.out HX0.out HOKP.out HFD.out HO1.out HF1.out).mono ?_; rintro e w2 ⟨v2, rfl, ho2, hlo2, hc2, hf2⟩; rw [HK.out] at ho2; have HO2 := Lib.hid ho2; have HLO2 := Lib.hid hlo2; have HF2 := Lib.hid hf2; clear ho2 hlo2 hf2))
  have HOKK : Hid (∀ p ∈ K, okI p.b ∧ okS p.g ∧ okI p.n) := Lib.hid (fun p hp => by
    rw [← HK.out] at hp
    exact HOKP.out p (List.mem_filter.1 hp).1)
  rcases HO2.out.2 with ⟨he, h0⟩ | ⟨g, cap, cur, he, hbase, hb, hn, hm, hs, ht⟩
  · subst he
    have hK0 : K = [] := List.eq_nil_of_length_eq_zero h0
    go_wp2_with (go_at_call 111; refine (sortNilP _ _).mono ?_; rintro e w3 ⟨rfl, hf3⟩; have HF3 := Lib.hid hf3; clear hf3)
    go_ret
    rw [hK0]
    exact ⟨.slice none 0 0, rfl, ⟨by simp [stab, maxLen], none, 0, rfl, fun i x hx => by simp [stab] at hx⟩, (by intro c hc; cases hc), HF2.out.trans HF3.out⟩
  · subst he
    have hrow : w2.heap[g]? = some (.cells (K.flatMap PV.cs ++ cur.toList.drop (K.length * 3)).toArray 47) := by
      have e1 : K.flatMap PV.cs = cur.toList.take (K.length * 3) := ht.symm
      rw [e1, List.take_append_drop, Array.toArray_toList]
      exact hb
    have hg : n0 < g := by omega
    have HROW := Lib.hid hrow
    have HG := Lib.hid hg
    clear hbase hb hn hm hs ht hrow hg
    have HSO := Lib.hid (sortStableP w2 g K.length cap 112 (.pointer fp) cf K (fun _ _ => rfl) rfl HL2.out HS.out (rwP_zip HROW.out) HD.out (fun W x y hW hxy => HCF.out W x y (HF2.out.trans' hW (fun b hb e => by have e : b = g := e; have := HG.out; have := HN0.out; omega)) hxy))
    go_wp2_with (go_at_call 111; refine HSO.out.mono ?_; rintro e w3 ⟨rfl, hr3, hf3⟩; have HR3 := Lib.hid hr3; have HF3 := Lib.hid hf3; clear hr3 hf3)
    go_ret
    have hlen : (stab (fun x y => decide (cf x y < 0)) K).length = K.length := (stab_perm _ K).length_eq
    obtain ⟨rest, hr3⟩ := HR3.out
    have hpl := pl_of_row (cap := cap) (by rw [hlen]; have := HL2.out; unfold maxLen; omega) hr3 (fun p hp => HOKK.out p ((stab_perm _ K).mem_iff.1 hp))
    rw [hlen] at hpl
    exact ⟨_, rfl, hpl, fun c hc => by cases hc; show w.heap.size ≤ g; have := HG.out; have := HN0.out; omega, HF2.out.trans' HF3.out (fun b hb e => by have e : b = g := e; have := HG.out; have := HN0.out; omega)⟩
end Go.Proofs.YtefjdcghdcbojaaGreat

namespace Go.Proofs.YtefjdcghdcbojaaGreat
open Go.RowKit Go.Maps
theorem fcmpI_lt {a b : Int} : cmpI a b < 0 ↔ a < b := by
  unfold cmpI
  by_cases h : a < b
  · simp [h]
  · by_cases h2 : b < a <;> simp [h, h2]
theorem fcmpI_zero {a b : Int} : cmpI a b = 0 ↔ a = b := by
  unfold cmpI
  by_cases h : a < b
  · simp [h]; omega
  · by_cases h2 : b < a
    · simp [h, h2]; omega
    · simp [h, h2]; omega
theorem fcmpI_in (a b : Int) : -1 ≤ cmpI a b ∧ cmpI a b ≤ 1 := by
  unfold cmpI
  split
  · omega
  · split <;> omega
theorem fcmpS_lt {a b : Str} : cmpStr a b < 0 ↔ a < b := by
  unfold cmpStr
  by_cases h : a < b
  · simp [h]
  · by_cases h2 : b < a <;> simp [h, h2]
theorem fcmpS_in (a b : Str) : -1 ≤ cmpStr a b ∧ cmpStr a b ≤ 1 := by
  unfold cmpStr
  split
  · omega
  · split <;> omega
/-- An order of those that are something. -/
def optC {α γ : Type} (f : α → Option γ) (cf : γ → γ → Int) (x y : α) : Int :=
  match f x, f y with
  | some a, some b => cf a b
  | some _, none => -2
  | none, _ => 2
theorem optC_in {α γ : Type} {f : α → Option γ} {cf : γ → γ → Int} {x y : α} (h : -1 ≤ optC f cf x y ∧ optC f cf x y ≤ 1) : ∃ a b, f x = some a ∧ f y = some b ∧ optC f cf x y = cf a b := by
  unfold optC at *
  cases hx : f x with
  | none => rw [hx] at h; dsimp only at h; omega
  | some a =>
    cases hy : f y with
    | none => rw [hx, hy] at h; dsimp only at h; omega
    | some b => exact ⟨a, b, rfl, rfl, rfl⟩
theorem optC_some {α γ : Type} {f : α → Option γ} {cf : γ → γ → Int} {x y : α} {a b : γ} (hx : f x = some a) (hy : f y = some b) : optC f cf x y = cf a b := by unfold optC; rw [hx, hy]
theorem swo_optC {α γ : Type} {f : α → Option γ} {cf : γ → γ → Int} (h : SwoB (fun a b => decide (cf a b < 0))) : SwoB (fun x y => decide (optC f cf x y < 0)) := by
  have key : ∀ x y, (∃ a b, f x = some a ∧ f y = some b ∧ optC f cf x y = cf a b) ∨ (∃ a, f x = some a ∧ f y = none ∧ optC f cf x y = -2) ∨ (f x = none ∧ optC f cf x y = 2) := fun x y => by
    unfold optC
    cases h1 : f x with
    | none => right; right; exact ⟨rfl, rfl⟩
    | some a =>
      cases h2 : f y with
      | none => right; left; exact ⟨a, rfl, rfl, rfl⟩
      | some b => left; exact ⟨a, b, rfl, rfl, rfl⟩
  refine ⟨fun x => ?_, fun x y z h1 h2 => ?_, fun x y z h1 h2 => ?_⟩
  · rcases key x x with ⟨a, b, e1, e2, e3⟩ | ⟨a, e1, e2, e3⟩ | ⟨e1, e3⟩
    · rw [e1] at e2; cases e2; rw [e3]; exact h.irr a
    · rw [e1] at e2; cases e2
    · rw [e3]; rfl
  · rcases key x y with ⟨a, b, e1, e2, e3⟩ | ⟨a, e1, e2, e3⟩ | ⟨e1, e3⟩
    · rcases key y z with ⟨b', c, f1, f2, f3⟩ | ⟨b', f1, f2, f3⟩ | ⟨f1, f3⟩
      · rw [e2] at f1; cases f1
        rcases key x z with ⟨a', c', g1, g2, g3⟩ | ⟨a', g1, g2, g3⟩ | ⟨g1, g3⟩
        · rw [e1] at g1; cases g1; rw [f2] at g2; cases g2
          rw [g3]; rw [e3] at h1; rw [f3] at h2; exact h.tr _ _ _ h1 h2
        · rw [f2] at g2; cases g2
        · rw [e1] at g1; cases g1
      · rcases key x z with ⟨a', c', g1, g2, g3⟩ | ⟨a', g1, g2, g3⟩ | ⟨g1, g3⟩
        · rw [f2] at g2; cases g2
        · rw [g3]; rfl
        · rw [e1] at g1; cases g1
      · rw [e2] at f1; cases f1
    · rcases key y z with ⟨b', c, f1, f2, f3⟩ | ⟨b', f1, f2, f3⟩ | ⟨f1, f3⟩
      · rw [e2] at f1; cases f1
      · rw [e2] at f1; cases f1
      · rw [f3] at h2; cases h2
    · rw [e3] at h1; cases h1
  · rcases key x z with ⟨a, c, e1, e2, e3⟩ | ⟨a, e1, e2, e3⟩ | ⟨e1, e3⟩
    · rcases key x y with ⟨a', b, f1, f2, f3⟩ | ⟨a', f1, f2, f3⟩ | ⟨f1, f3⟩
      · rcases key y z with ⟨b', c', g1, g2, g3⟩ | ⟨b', g1, g2, g3⟩ | ⟨g1, g3⟩
        · rw [f2] at g1; cases g1; rw [e1] at f1; cases f1; rw [e2] at g2; cases g2
          rw [e3]; rw [f3] at h1; rw [g3] at h2; exact h.ntr _ _ _ h1 h2
        · rw [e2] at g2; cases g2
        · rw [f2] at g1; cases g1
      · rw [f3] at h1; cases h1
      · rw [e1] at f1; cases f1
    · rcases key x y with ⟨a', b, f1, f2, f3⟩ | ⟨a', f1, f2, f3⟩ | ⟨f1, f3⟩
      · rcases key y z with ⟨b', c', g1, g2, g3⟩ | ⟨b', g1, g2, g3⟩ | ⟨g1, g3⟩
        · rw [e2] at g2; cases g2
        · rw [g3] at h2; cases h2
        · rw [f2] at g1; cases g1
      · rw [f3] at h1; cases h1
      · rw [e1] at f1; cases f1
    · rw [e3]; rfl
/-- Where a bin stands in its zone. -/
def kN (b : BE) : Int := if b.zo.tmod 2 = 1 then - b.nu else b.nu
/-- Two places by the way. -/
def compE (x y : BE × Str) : Int :=
  if cmpI x.1.zo y.1.zo ≠ 0 then cmpI x.1.zo y.1.zo else or2 (if x.1.zo.tmod 2 = 1 then wrap64 (- cmpI x.1.nu y.1.nu) else cmpI x.1.nu y.1.nu) (cmpStr x.2 y.2)
theorem compE_e (a b : BV) (s t : Str) : compF a b s t = compE (a.e, s) (b.e, t) := rfl
theorem wrap_small {x : Int} (h : -1 ≤ x ∧ x ≤ 1) : wrap64 (-x) = -x := by unfold wrap64; omega
theorem compE_in (x y : BE × Str) : -1 ≤ compE x y ∧ compE x y ≤ 1 := by
  have h1 := fcmpI_in x.1.zo y.1.zo
  have h2 := fcmpI_in x.1.nu y.1.nu
  have h3 := fcmpS_in x.2 y.2
  unfold compE or2
  rw [wrap_small h2]
  split
  · exact h1
  · split <;> split <;> omega
theorem compE_lt {x y : BE × Str} : compE x y < 0 ↔ x.1.zo < y.1.zo ∨ (x.1.zo = y.1.zo ∧ (kN x.1 < kN y.1 ∨ (kN x.1 = kN y.1 ∧ x.2 < y.2))) := by
  have h1 : cmpI x.1.zo y.1.zo < 0 ↔ x.1.zo < y.1.zo := fcmpI_lt
  have h2 : cmpI x.1.nu y.1.nu < 0 ↔ x.1.nu < y.1.nu := fcmpI_lt
  have g1 : cmpI x.1.zo y.1.zo = 0 ↔ x.1.zo = y.1.zo := fcmpI_zero
  have g2 : cmpI x.1.nu y.1.nu = 0 ↔ x.1.nu = y.1.nu := fcmpI_zero
  have h3 : cmpStr x.2 y.2 < 0 ↔ x.2 < y.2 := fcmpS_lt
  unfold compE or2 kN
  rw [wrap_small (fcmpI_in _ _)]
  by_cases e : cmpI x.1.zo y.1.zo = 0
  · rw [if_neg (by simpa using e)]
    have e' := g1.1 e
    rw [← e']
    by_cases o : x.1.zo.tmod 2 = 1
    · rw [if_pos o, if_pos o, if_pos o]
      by_cases z : cmpI x.1.nu y.1.nu = 0
      · rw [if_pos (by omega)]; have := g2.1 z; rw [h3]; constructor
        · intro h; exact .inr ⟨rfl, .inr ⟨by omega, h⟩⟩
        · rintro (h | ⟨-, h | ⟨-, h⟩⟩)
          · omega
          · omega
          · exact h
      · rw [if_neg (by omega)]; constructor
        · intro h; exact .inr ⟨rfl, .inl (by omega)⟩
        · rintro (h | ⟨-, h | ⟨h, -⟩⟩) <;> omega
    · rw [if_neg o, if_neg o, if_neg o]
      by_cases z : cmpI x.1.nu y.1.nu = 0
      · rw [if_pos z]; have := g2.1 z; rw [h3]; constructor
        · intro h; exact .inr ⟨rfl, .inr ⟨by omega, h⟩⟩
        · rintro (h | ⟨-, h | ⟨-, h⟩⟩)
          · omega
          · omega
          · exact h
      · rw [if_neg z]; constructor
        · intro h; exact .inr ⟨rfl, .inl (by omega)⟩
        · rintro (h | ⟨-, h | ⟨h, -⟩⟩) <;> omega
  · rw [if_pos (by simpa using e)]; constructor
    · intro h; exact .inl (by omega)
    · rintro (h | ⟨h, -⟩) <;> omega
theorem str_ntr {a b c : Str} (h1 : ¬ a < b) (h2 : ¬ b < c) : ¬ a < c := fun h => by
  rcases str_tri b a with g | g | g
  · exact h2 (str_trans g h)
  · exact h2 (g ▸ h)
  · exact h1 g
theorem compE_swo : SwoB (fun x y => decide (compE x y < 0)) := by
  refine ⟨fun a => ?_, fun a b c h1 h2 => ?_, fun a b c h1 h2 => ?_⟩
  · refine decide_eq_false (fun h => ?_)
    rcases compE_lt.1 h with h | ⟨-, h | ⟨-, h⟩⟩
    · omega
    · omega
    · exact str_irr _ h
  · refine decide_eq_true (compE_lt.2 ?_)
    rcases compE_lt.1 (of_decide_eq_true h1) with h1 | ⟨e1, h1 | ⟨k1, h1⟩⟩ <;> rcases compE_lt.1 (of_decide_eq_true h2) with h2 | ⟨e2, h2 | ⟨k2, h2⟩⟩
    · left; omega
    · left; omega
    · left; omega
    · left; omega
    · right; exact ⟨by omega, .inl (by omega)⟩
    · right; exact ⟨by omega, .inl (by omega)⟩
    · left; omega
    · right; exact ⟨by omega, .inl (by omega)⟩
    · right; exact ⟨by omega, .inr ⟨by omega, str_trans h1 h2⟩⟩
  · refine decide_eq_false (fun h => ?_)
    have h1 := fun e => of_decide_eq_false h1 (compE_lt.2 e)
    have h2 := fun e => of_decide_eq_false h2 (compE_lt.2 e)
    have n1 : ¬ a.1.zo < b.1.zo := fun e => h1 (.inl e)
    have n2 : ¬ b.1.zo < c.1.zo := fun e => h2 (.inl e)
    rcases compE_lt.1 h with h | ⟨e, h | ⟨k, h⟩⟩
    · omega
    · have m1 : ¬ kN a.1 < kN b.1 := fun e' => h1 (.inr ⟨by omega, .inl e'⟩)
      have m2 : ¬ kN b.1 < kN c.1 := fun e' => h2 (.inr ⟨by omega, .inl e'⟩)
      omega
    · have m1 : ¬ kN a.1 < kN b.1 := fun e' => h1 (.inr ⟨by omega, .inl e'⟩)
      have m2 : ¬ kN b.1 < kN c.1 := fun e' => h2 (.inr ⟨by omega, .inl e'⟩)
      exact str_ntr (fun e' => h1 (.inr ⟨by omega, .inr ⟨by omega, e'⟩⟩)) (fun e' => h2 (.inr ⟨by omega, .inr ⟨by omega, e'⟩⟩)) h
def binE (L : List BE) (n : Int) : Option BE := L.find? (fun b => decide (b.nu = n))
def findE (L : List BE) (n : Int) : Int := idxOf (fun b => decide (b.nu = n)) L
theorem findE_e (L : List BV) (n : Int) : findF L n = findE (L.map BV.e) n := by
  unfold findF findE idxOf
  rw [List.findIdx?_map]; rfl
theorem binE_e (L : List BV) (n : Int) : binE (L.map BV.e) n = (binF L n).map BV.e := by
  unfold binE binF
  rw [List.find?_map]; rfl
/-- The order of the way. -/
def cR (L : List BE) : PV → PV → Int := optC (fun p => (binE L p.b).map fun b => (b, p.g)) compE
theorem cR_swo (L : List BE) : SwoB (fun x y => decide (cR L x y < 0)) := swo_optC compE_swo
theorem findE_cases (L : List BE) (n : Int) : (findE L n = -1 ∧ binE L n = none) ∨ ∃ (j : Nat) (x : BE), L[j]? = some x ∧ x.nu = n ∧ findE L n = j ∧ binE L n = some x := by
  rcases idxOf_cases (fun b : BE => decide (b.nu = n)) L with ⟨h1, h2, -⟩ | ⟨j, x, h1, h2, h3, h4⟩
  · exact .inl ⟨h1, h2⟩
  · exact .inr ⟨j, x, h1, of_decide_eq_true h2, h3, h4⟩
/-- What Route answers. -/
def thereE (L : List BE) (l : List PV) : List PV := l.filter fun p => !(findE L p.b == -1)
def routeE (L : List BE) (l : List PV) : List PV := stab (fun x y => decide (cR L x y < 0)) (thereE L l)
theorem cR_there {L : List BE} {l : List PV} {x : PV} (h : x ∈ thereE L l) : ∃ b, binE L x.b = some b := by
  have h2 := (List.mem_filter.1 h).2
  rcases findE_cases L x.b with ⟨h3, -⟩ | ⟨j, b, -, -, -, h4⟩
  · rw [h3] at h2; simp at h2
  · exact ⟨b, h4⟩
theorem cR_in {L : List BE} {l : List PV} : ∀ x ∈ thereE L l, ∀ y ∈ thereE L l, -1 ≤ cR L x y ∧ cR L x y ≤ 1 := fun x hx y hy => by
  obtain ⟨a, ha⟩ := cR_there hx
  obtain ⟨b, hb⟩ := cR_there hy
  unfold cR
  rw [optC_some (a := (a, x.g)) (b := (b, y.g)) (by rw [ha]; rfl) (by rw [hb]; rfl)]
  exact compE_in _ _
/-- Route of a floor. -/
theorem bRouteF (w : World) (g : Nat) (v : Value) (L : List BV) (l : List PV) (hF : Fl w g L) (hL : 0 < L.length) (h : Pl w v l) (hl : l.length ≤ 1000000000000) :
    Calls Tryz.prog 78 #[.pointer (some ⟨g, 0, none⟩), v] w fun e w' => ∃ v', e = .returned v' ∧ Pl w' v' (routeE (L.map BV.e) l) ∧ (∀ c, v'.ownBlock = some c → w.heap.size ≤ c) ∧ Fr (fun _ => False) w w' := by
  refine bRoute w (some ⟨g, 0, none⟩) v l (findE (L.map BV.e)) (cR (L.map BV.e)) h (by omega) (Nat.le_trans (List.length_filter_le _ _) hl) (fun W n hf => ?_) (fun W x y hf hin => ?_) (cR_swo _) cR_in
  · rw [← findE_e]
    exact bFind W g L n (hF.keep hf) hL
  · obtain ⟨a, b, h1, h2, h3⟩ := optC_in hin
    have e3 : cR (L.map BV.e) x y = compE a b := h3
    rw [binE_e] at h1 h2
    rcases idxOf_cases (fun b : BV => decide (b.nu = x.b)) L with ⟨-, k2, -⟩ | ⟨i, A, k1, -, k3, k4⟩
    · have k2 : binF L x.b = none := k2
      rw [k2] at h1; cases h1
    · rcases idxOf_cases (fun b : BV => decide (b.nu = y.b)) L with ⟨-, j2, -⟩ | ⟨j, B, j1, -, j3, j4⟩
      · have j2 : binF L y.b = none := j2
        rw [j2] at h2; cases h2
      · have k4 : binF L x.b = some A := k4
        have j4 : binF L y.b = some B := j4
        rw [k4] at h1; rw [j4] at h2
        cases h1; cases h2
        rw [e3, ← compE_e]
        exact bComp W g L x y A B i j (hF.keep hf) k3 k1 j3 j1
end Go.Proofs.YtefjdcghdcbojaaGreat

namespace Go.Proofs.YtefjdcghdcbojaaGreat
open Go.RowKit Go.Maps
theorem infoBi : (Tryz.prog.info? 56).map (fun i => (i.zero, i.size, i.bytes)) = some (some (.agg #[.int .i64 0, .int .i64 0, .int .i64 0]), 3, 24) := by kernel_rfl
theorem infoIl : (Tryz.prog.info? 57).map (fun i => (i.zero, i.size, i.bytes)) = some (some (.slice none 0 0), 1, 24) := by kernel_rfl
/-- What Unpack reads: one bin; k bins. -/
def un1 (s : Tst × List BI × List Its) : Tst × List BI × List Its :=
  let a := tk s.1 1 4096
  let b := tk a.2 0 15
  let c := tk b.2 1 1099511627776
  let i := itemsT c.2
  (i.2, s.2.1 ++ [⟨a.1, b.1, c.1⟩], s.2.2 ++ [i.1])
def unG (t : Tst) : Nat → Tst × List BI × List Its
  | 0 => (t, [], [])
  | k + 1 => un1 (unG t k)
def putI (b : BI) (i : Its) : BE := ⟨b.nu, b.zo, b.ro, i⟩
def unpackE (bs : List Int) : Option (List BE) :=
  let q := tk (bs, false) 1 64
  let r := unG q.2 q.1.toNat
  if mayBs r.2.1 = true ∧ doneT r.1.1 r.1.2 = 0 ∧ ((List.zipWith putI r.2.1 r.2.2).all fun b => decide (0 ≤ leftE b)) = true then some (List.zipWith putI r.2.1 r.2.2) else none
theorem unG_len (t : Tst) : ∀ k, (unG t k).2.1.length = k ∧ (unG t k).2.2.length = k
  | 0 => ⟨rfl, rfl⟩
  | k + 1 => by
    have ih := unG_len t k
    show (un1 (unG t k)).2.1.length = k + 1 ∧ (un1 (unG t k)).2.2.length = k + 1
    unfold un1
    simp [ih.1, ih.2]
theorem unG_ok (t : Tst) : ∀ k, ∀ b ∈ (unG t k).2.1, okI b.nu ∧ okI b.zo ∧ okI b.ro
  | 0, p, h => by simp [unG] at h
  | k + 1, p, h => by
    have h : p ∈ (un1 (unG t k)).2.1 := h
    unfold un1 at h
    rcases List.mem_append.1 h with h | h
    · exact unG_ok t k p h
    · simp only [List.mem_cons, List.not_mem_nil, or_false] at h
      subst h
      have h1 := tk_in1 (unG t k).1 (b := 4096) (by omega)
      have h2 := tk_in (tk (unG t k).1 1 4096).2 (a := 0) (b := 15) (by omega) (by omega)
      have h3 := tk_in1 (tk (tk (unG t k).1 1 4096).2 0 15).2 (b := 1099511627776) (by omega)
      exact ⟨by unfold okI; dsimp only; omega, by unfold okI; dsimp only; omega, by unfold okI; dsimp only; omega⟩
/-- What is laid on the way: rows of bins, of lists. -/
structure UnI (n0 : Nat) (W : World) (vl vi : Value) (B : List BI) (V : List Value) (I : List Its) : Prop where
  ob : W.ownsRow n0 56 3 vl B.length (flat biC B)
  oi : W.ownsRow n0 57 1 vi V.length V
  len : V.length = I.length
  il : ∀ (j : Nat) (v : Value) (its : Its), V[j]? = some v → I[j]? = some its → Il W v its ∧ (∀ c, v.ownBlock = some c → n0 ≤ c) ∧ (its ≠ [] → ∀ c, v.ownBlock = some c → vl.ownBlock ≠ some c ∧ vi.ownBlock ≠ some c)
  ne : ∀ c, vl.ownBlock = some c → vi.ownBlock ≠ some c
section
variable {n0 : Nat} {W W' : World} {vl vi : Value} {B : List BI} {V : List Value} {I : List Its}
theorem UnI.fr {S : Nat → Prop} (h : UnI n0 W vl vi B V I) (hf : Fr S W W') (hS : ∀ b, S b → b < n0) : UnI n0 W' vl vi B V I := by
  obtain ⟨h1, h2, h3, h4, h5⟩ := h
  exact ⟨hf.row h1 (fun b hb e => by have := (h1.lt b hb).1; have := hS b e; omega), hf.row h2 (fun b hb e => by have := (h2.lt b hb).1; have := hS b e; omega), h3,
    fun j v its hv hi => ⟨(h4 j v its hv hi).1.keep hf (fun _ b hb e => by have := (h4 j v its hv hi).2.1 b hb; have := hS b e; omega), (h4 j v its hv hi).2⟩, h5⟩
theorem UnI.addB {vl' : Value} {B' : List BI} (h : UnI n0 W vl vi B V I) (ho : W'.ownsRow n0 56 3 vl' B'.length (flat biC B')) (hf : Fr (fun c => vl.ownBlock = some c) W W') (hn : ∀ c, vl'.ownBlock = some c → vl.ownBlock = some c ∨ W.heap.size ≤ c) : UnI n0 W' vl' vi B' V I := by
  obtain ⟨h1, h2, h3, h4, h5⟩ := h
  refine ⟨ho, hf.row h2 (fun b hb e => h5 b e hb), h3, fun j v its hv hi => ?_, fun c hc e => ?_⟩
  · obtain ⟨k1, k2, k3⟩ := h4 j v its hv hi
    exact ⟨k1.keep hf (fun hne b hb e => (k3 hne b hb).1 e), k2, fun hne c hc => ⟨fun e => (hn c e).elim (k3 hne c hc).1 (fun e => by have := k1.lt hne c hc; omega), (k3 hne c hc).2⟩⟩
  · rcases hn c hc with hn | hn
    · exact h5 c hn e
    · have := (h2.lt c e).2; omega
theorem UnI.addI {vi' v : Value} {i : Its} (h : UnI n0 W vl vi B V I) (ho : W'.ownsRow n0 57 1 vi' (V ++ [v]).length (V ++ [v])) (hf : Fr (fun c => vi.ownBlock = some c) W W') (hn : ∀ c, vi'.ownBlock = some c → vi.ownBlock = some c ∨ W.heap.size ≤ c)
    (hv : Il W v i) (hv0 : ∀ c, v.ownBlock = some c → n0 ≤ c) (hvn : i ≠ [] → ∀ c, v.ownBlock = some c → vl.ownBlock ≠ some c ∧ vi.ownBlock ≠ some c) : UnI n0 W' vl vi' B (V ++ [v]) (I ++ [i]) := by
  obtain ⟨h1, h2, h3, h4, h5⟩ := h
  refine ⟨hf.row h1 (fun b hb e => h5 b hb e), ho, by rw [List.length_append, List.length_append, h3]; rfl, fun j u its hu hi => ?_, fun c hc e => ?_⟩
  · have key : Il W u its ∧ (∀ c, u.ownBlock = some c → n0 ≤ c) ∧ (its ≠ [] → ∀ c, u.ownBlock = some c → vl.ownBlock ≠ some c ∧ vi.ownBlock ≠ some c) := by
      by_cases hj : j < V.length
      · rw [List.getElem?_append_left hj] at hu
        rw [List.getElem?_append_left (by omega)] at hi
        exact h4 j u its hu hi
      · rw [List.getElem?_append_right (by omega)] at hu
        rw [List.getElem?_append_right (by omega), ← h3] at hi
        obtain ⟨e, -⟩ := List.getElem?_eq_some_iff.1 hu
        have hj0 : j - V.length = 0 := by simp at e; omega
        rw [hj0] at hu hi
        simp at hu hi
        subst hu hi
        exact ⟨hv, hv0, hvn⟩
    obtain ⟨k1, k2, k3⟩ := key
    exact ⟨k1.keep hf (fun hne b hb e => (k3 hne b hb).2 e), k2, fun hne c hc => ⟨(k3 hne c hc).1, fun e => (hn c e).elim (k3 hne c hc).2 (fun e => by have := k1.lt hne c hc; omega)⟩⟩
  · rcases hn c e with hn | hn
    · exact h5 c hc hn
    · have := (h1.lt c hc).2; omega
end
/-- A bin's list is set in place. -/
theorem FB.setL {w : World} {g r cap : Nat} {TS : Nat → Prop} {L : List BV} (h : FB w g TS L r cap) {i : Nat} {x : BV} {v : Value} {its : Its} (hx : L[i]? = some x) (hv : Il w v its) (hn : its ≠ [] → ∀ c, v.ownBlock = some c → TS c ∧ c ≠ g ∧ c ≠ r) :
    FB (w.setCell ⟨r, i * 4 + 3, none⟩ v) g TS (L.set i ⟨x.nu, x.zo, x.ro, v, its⟩) r cap ∧ Fr (fun c => c = r) w (w.setCell ⟨r, i * 4 + 3, none⟩ v) := by
  have hcells := h.cells hx
  obtain ⟨h0, ⟨cur, h1, h2, h3⟩, hle, ho, h9, hl⟩ := h
  have hi := (List.getElem?_eq_some_iff.1 hx).1
  have g1 : (i + 1) * 4 ≤ L.length * 4 := Nat.mul_le_mul_right 4 (by omega)
  have g2 : L.length * 4 ≤ cap * 4 := Nat.mul_le_mul_right 4 hle.1
  have hf : Fr (fun c => c = r) w (w.setCell ⟨r, i * 4 + 3, none⟩ v) := (Fr.refl (fun c => c = r) w).setCell (p := ⟨r, i * 4 + 3, none⟩) (fun _ => rfl) _
  have c1 := obj_set h1 (i * 4 + 3) v
  obtain ⟨k0, -⟩ := h9 x (List.mem_of_getElem? hx)
  have key : ∀ (q : Nat) (u : Value), q < 4 → (BV.cs x)[q]? = some u → cur[i * 4 + q]? = some u := fun q u hq hu => by
    rw [← Array.getElem?_toList, take_get h3 (by omega)]
    exact flat_at bvSize hx q u hu
  refine ⟨⟨by rw [List.length_set]; exact hf.at_ h0 (fun e => ho.2.2 e.symm), ⟨_, c1, by rw [Array.size_setIfInBounds]; exact h2, by
    rw [List.length_set]
    refine flat_set hx h3 (by omega) (fun q => ?_)
    by_cases hq : i * 4 ≤ q ∧ q < i * 4 + 4
    · rw [if_pos hq]
      by_cases h3' : q = i * 4 + 3
      · subst h3'
        rw [Array.getElem?_setIfInBounds_self_of_lt (by omega), show i * 4 + 3 - i * 4 = 3 by omega]
        rfl
      · rw [Array.getElem?_setIfInBounds_ne (by omega)]
        obtain ⟨d, hd⟩ : ∃ d, q = i * 4 + d := ⟨q - i * 4, by omega⟩
        subst hd
        rw [show i * 4 + d - i * 4 = d by omega]
        have hd3 : d = 0 ∨ d = 1 ∨ d = 2 := by omega
        rcases hd3 with rfl | rfl | rfl
        · exact key 0 _ (by omega) rfl
        · exact key 1 _ (by omega) rfl
        · exact key 2 _ (by omega) rfl
    · rw [if_neg hq, Array.getElem?_setIfInBounds_ne (by omega)]⟩, by rw [List.length_set]; exact hle, ho, fun y hy => ?_, fun c hc => Nat.lt_of_lt_of_le (hl c hc) hf.size⟩, hf⟩
  obtain ⟨q, hq⟩ := List.getElem?_of_mem hy
  rcases set_get hq with ⟨-, rfl⟩ | ⟨-, e2⟩
  · exact ⟨⟨k0.nu, k0.zo, k0.ro, hv.keep hf (fun hne c hc e => (hn hne c hc).2.2 e)⟩, hn⟩
  · obtain ⟨k1, k2⟩ := h9 y (List.mem_of_getElem? e2)
    exact ⟨k1.keep hf (fun hne c hc e => (k2 hne c hc).2.2 e), k2⟩
/-- What Unpack leaves. -/
def UnP (w : World) (Z : Option (List BE)) (e : Ending) (w' : World) : Prop := Fr (fun _ => False) w w' ∧ match Z with
  | some M => ∃ g TS L, e = .returned (.tuple #[.pointer (some ⟨g, 0, none⟩), .int .i64 0]) ∧ FA w' g TS L ∧ L.map BV.e = M ∧ ∀ b, TS b → w.heap.size ≤ b
  | none => e = .returned (.tuple #[.pointer none, .int .i64 10])
end Go.Proofs.YtefjdcghdcbojaaGreat

namespace Go.Proofs.YtefjdcghdcbojaaGreat
open Go.RowKit Go.Maps
theorem flat_self (V : List Value) : flat (fun u : Value => #[u]) V = V := by
  induction V with
  | nil => rfl
  | cons a r ih => unfold flat at *; rw [List.flatMap_cons, ih]; rfl
theorem Sq.keepT {α : Type} {k : Nat} {cs : α → Array Value} {S : Nat → Prop} {w w' : World} {v : Value} {L : List α} (h : Sq k cs (fun _ _ => True) w v L) (hf : Fr S w w') (hS : ∀ b, v.ownBlock = some b → ¬ S b) : Sq k cs (fun _ _ => True) w' v L := by
  obtain ⟨h0, a, cap, rfl, h1⟩ := h
  refine ⟨h0, a, cap, rfl, fun i r hr => ?_⟩
  obtain ⟨ho, ad, rfl, hc⟩ := h1 i r hr
  exact ⟨ho, ad, rfl, fun j u hu => hf.cell (hc j u hu) (by have := hS ad.block rfl; unfold Addr.add; first | exact this | (split <;> exact this))⟩
/-- The bins, the first m of them with their lists. -/
def mixE (B : List BI) (I : List Its) (m : Nat) : List BE := List.zipWith putI (B.take m) (I.take m) ++ (B.drop m).map BI.e
theorem mixE_set {B : List BI} {I : List Its} {m : Nat} {b : BI} {i : Its} (hb : B[m]? = some b) (hi : I[m]? = some i) : (mixE B I m)[m]? = some b.e ∧ (mixE B I m).set m (putI b i) = mixE B I (m + 1) := by
  have h1 := (List.getElem?_eq_some_iff.1 hb).1
  have h2 := (List.getElem?_eq_some_iff.1 hi).1
  have hl : (List.zipWith putI (B.take m) (I.take m)).length = m := by rw [List.length_zipWith, List.length_take, List.length_take]; omega
  have hd : B.drop m = b :: B.drop (m + 1) := drop_at hb
  unfold mixE
  rw [hd, List.map_cons]
  refine ⟨by rw [List.getElem?_append_right (by omega), hl, Nat.sub_self]; rfl, ?_⟩
  rw [List.set_append_right _ _ (by omega), hl, Nat.sub_self, List.set_cons_zero, List.take_add_one, List.take_add_one, hb, hi]
  simp only [Option.toList]
  rw [List.zipWith_append (by rw [List.length_take, List.length_take]; omega)]
  simp
set_option maxRecDepth 100000 in
set_option maxHeartbeats 8000000 in
theorem bUnpack (w : World) (v : Value) (bs : List Int) (h : Bs w v bs) (hl : (bs.length : Int) ≤ 140737488351232) (hb : ∀ x ∈ bs, 0 ≤ x ∧ x < 256) :
    Calls Tryz.prog 6 #[v] w fun e w' => UnP w (unpackE bs) e w' := by
  obtain ⟨i0, hi', hz0, hz1, hz2⟩ := info_parts infoBi
  obtain ⟨j0, hj', hy0, hy1, hy2⟩ := info_parts infoIl
  obtain ⟨Z, hZ⟩ : ∃ Z, unpackE bs = Z := ⟨_, rfl⟩
  rw [hZ]
  have hqi := tk_in1 (bs, false) (b := 64) (by omega)
  have HTk := Lib.hid (cTake w v bs h hl hb)
  obtain ⟨q, hq⟩ : ∃ q, tk (bs, false) 1 64 = q := ⟨_, rfl⟩
  have HQ := Lib.hid hq
  have hZ2 : Hid (Z = if mayBs (unG q.2 q.1.toNat).2.1 = true ∧ doneT (unG q.2 q.1.toNat).1.1 (unG q.2 q.1.toNat).1.2 = 0 ∧ ((List.zipWith putI (unG q.2 q.1.toNat).2.1 (unG q.2 q.1.toNat).2.2).all fun b => decide (0 ≤ leftE b)) = true then some (List.zipWith putI (unG q.2 q.1.toNat).2.1 (unG q.2 q.1.toNat).2.2) else none) := Lib.hid (by rw [← hZ]; unfold unpackE; rw [hq])
  rw [hq] at hqi
  obtain ⟨q1, q2⟩ := q
  obtain ⟨N, rfl⟩ : ∃ N : Nat, q1 = N := ⟨q1.toNat, by dsimp only at hqi; omega⟩
  dsimp only at hqi hZ2
  rw [Int.toNat_natCast] at hZ2
  have hN : N ≤ 64 := by omega
  obtain ⟨PP, hPP⟩ : ∃ PP, UnP w Z = PP := ⟨_, rfl⟩
  have HPP := Lib.hid hPP
  rw [hPP]
  clear h hl hb hZ hq hqi hPP
  go_enter Tryz.func6, Tryz.ntmps6
  go_wp2_with (first
    | (go_at_call 20; refine HTk.out.mono ?_; rintro e w1 ⟨gt, TT, rfl, ht1, hf1, hl1⟩; have HT1 := Lib.hid ht1; have HF1 := Lib.hid hf1; have HL1 := Lib.hid hl1; clear ht1 hf1 hl1)
    | (go_at_call 21; refine (xTk w1 gt TT (bs, false) 1 64 HT1.out).mono ?_; rw [HQ.out]; rintro e w2 ⟨rfl, ht2, hf2⟩; have HT2 := Lib.hid ht2; have HF2 := Lib.hid hf2; clear ht2 hf2))
  obtain ⟨n1, hn1⟩ : ∃ n1, w1.heap.size = n1 := ⟨_, rfl⟩
  have HLT : Hid (∀ b, TT b → b < n1) := Lib.hid (by rw [← hn1]; exact HT1.out.lt)
  have hf02 : Fr (fun _ => False) w w2 := HF1.out.trans' HF2.out (fun b hb e => by have := HL1.out b e; omega)
  have HF02 := Lib.hid hf02
  have HN1 : Hid (w.heap.size ≤ n1 ∧ n1 ≤ w2.heap.size) := Lib.hid ⟨by rw [← hn1]; exact HF1.out.size, by rw [← hn1]; exact HF2.out.size⟩
  clear hn1 hf02
  go_loopw [5, 6, 14] (fun vl vn vi wr => ∃ (k : Nat) (V : List Value), k ≤ N ∧ vi = .int .i64 k ∧ V.length = k ∧ UnI n1 wr vl vn (unG q2 k).2.1 V (unG q2 k).2.2 ∧ TK wr gt TT (unG q2 k).1.1 (unG q2 k).1.2 ∧ Fr (fun _ => False) w wr ∧ n1 ≤ wr.heap.size) (fun _ _ vi _ => N - (intOf vi).toNat)
  case atStart => exact ⟨0, [], Nat.zero_le _, rfl, rfl, ⟨World.ownsRow_nil _ _ _ _, World.ownsRow_nil _ _ _ _, rfl, fun j v its hv => by simp at hv, fun c hc => by cases hc⟩, HT2.out, HF02.out, HN1.out.2⟩
  case round =>
    obtain ⟨k, V, hk, rfl, hVk, hU, hT, hF, hz⟩ := hrel
    have HV := Lib.hid hVk; have HU := Lib.hid hU; have HT := Lib.hid hT; have HF := Lib.hid hF
    have HLEN := Lib.hid (unG_len q2 k)
    obtain ⟨la, lc, rfl⟩ := row_sl hU.ob
    obtain ⟨va, vc, rfl⟩ := row_sl hU.oi
    rw [HLEN.out.1, hVk]
    have HZ := Lib.hid hz
    by_cases hlt : k < N
    · have hkI : (k : Int) < N := by omega
      have hstep : Hid (unG q2 (k + 1) = un1 (unG q2 k)) := Lib.hid rfl
      obtain ⟨S, hSS⟩ : ∃ S, unG q2 k = S := ⟨_, rfl⟩
      rw [hSS] at hstep HT HU HLEN
      obtain ⟨t0, B, I⟩ := S
      unfold un1 at hstep
      dsimp only at hstep HT HU HLEN
      have hA := Lib.hid (fun W (h : TK W gt TT t0.1 t0.2) => xTk W gt TT t0 1 4096 h)
      obtain ⟨a, ha⟩ : ∃ a, tk t0 1 4096 = a := ⟨_, rfl⟩
      rw [ha] at hstep hA
      obtain ⟨a, t1⟩ := a
      dsimp only at hstep hA
      have hB := Lib.hid (fun W (h : TK W gt TT t1.1 t1.2) => xTk W gt TT t1 0 15 h)
      obtain ⟨b, hb⟩ : ∃ b, tk t1 0 15 = b := ⟨_, rfl⟩
      rw [hb] at hstep hB
      obtain ⟨b, t2⟩ := b
      dsimp only at hstep hB
      have hC := Lib.hid (fun W (h : TK W gt TT t2.1 t2.2) => xTk W gt TT t2 1 1099511627776 h)
      obtain ⟨c, hc⟩ : ∃ c, tk t2 1 1099511627776 = c := ⟨_, rfl⟩
      rw [hc] at hstep hC
      obtain ⟨c, t3⟩ := c
      dsimp only at hstep hC
      have hD := Lib.hid (fun W (h : TK W gt TT t3.1 t3.2) => iTakeX W gt TT t3 h)
      obtain ⟨d, hd⟩ : ∃ d, itemsT t3 = d := ⟨_, rfl⟩
      rw [hd] at hstep hD
      obtain ⟨its, t4⟩ := d
      dsimp only at hstep hD
      clear hVk hU hT hF hz hSS ha hb hc hd
      have HU : Hid (UnI n1 wr (.slice la k lc) (.slice va k vc) B V I) := Lib.hid (by have := HU.out; rw [HLEN.out.1, HV.out] at this; exact this)
      go_wp2_with (first
        | (go_at_call 21; with_reducible refine (hA.out _ HT.out).mono ?_; rintro e wa ⟨rfl, hta, hfa⟩; have HTA := Lib.hid hta; have HFA := Lib.hid hfa; clear hta hfa)
        | (go_at_call 21; with_reducible refine (hB.out _ HTA.out).mono ?_; rintro e wb ⟨rfl, htb, hfb⟩; have HTB := Lib.hid htb; have HFB := Lib.hid (HFA.out.trans hfb); clear htb hfb)
        | (go_at_call 21; with_reducible refine (hC.out _ HTB.out).mono ?_; rintro e wc ⟨rfl, htc, hfc⟩; have hfc2 := HFB.out.trans hfc; have HTC := Lib.hid htc; have HFC := Lib.hid hfc2; have HUC := Lib.hid (HU.out.fr hfc2 HLT.out); have HZC : Hid (n1 ≤ wc.heap.size) := Lib.hid (Nat.le_trans HZ.out hfc2.size); clear htc hfc hfc2)
        | (at_builtin; refine wpList_append_src rfl _ _ 34 rfl n1 56 i0 (.agg #[.int .i64 0, .int .i64 0, .int .i64 0]) 24 Tryz.underlying34 hi' hz0 hz1 hz2 rfl (by decide) (.slice la k lc) k (flat biC B) rfl (by have := (((Fr.refl (fun _ => False) wc).alloc (.cells #[.int .i64 a, .int .i64 b, .int .i64 c] 56)).row HUC.out.ob (fun _ _ e => e)); rw [HLEN.out.1] at this; exact this) 1 rfl (rd_obj (cs := [.int .i64 a, .int .i64 b, .int .i64 c]) (heap_new _ _) rfl) (by intro u hu; simp only [List.mem_cons, List.not_mem_nil, or_false] at hu; rcases hu with rfl | rfl | rfl <;> rfl) (by unfold maxLen; omega) (by omega) (by have := HZC.out; simp; omega) ?_; intro v6 w6 hown6 hgrow6 hloc6; have HO6 := Lib.hid hown6; have HG6 := Lib.hid hgrow6; have HL6 := Lib.hid hloc6; clear hown6 hgrow6 hloc6))
      have hfr6 : Fr (fun e => (Value.slice la k lc).ownBlock = some e) wc w6 := ((Fr.refl _ wc).alloc _).trans' (Fr.grown HG6.out (fun r hr _ => hr)) (fun _ _ e => e)
      have hn6 : ∀ e, v6.ownBlock = some e → (Value.slice la k lc).ownBlock = some e ∨ wc.heap.size ≤ e := fun e he => by
        rcases HL6.out with h | h
        · exact .inl (h ▸ he)
        · rw [h] at he; injection he with he; right; simp at he; omega
      have ho6 : w6.ownsRow n1 56 3 v6 (B ++ [BI.mk a b c]).length (flat biC (B ++ [BI.mk a b c])) := by
        rw [flat_app, List.length_append, HLEN.out.1]; exact HO6.out
      have hU6 := HUC.out.addB ho6 hfr6 hn6
      have hT6 := HTC.out.fr hfr6 (fun b hb e => by
        have h1 := (HUC.out.ob.lt b e).1
        have h2 := HLT.out b hb
        omega)
      have hF6 : Fr (fun _ => False) w w6 := ((HF.out.trans' HFC.out (fun b hb e => by have := HL1.out b e; have := HF1.out.size; omega)).trans' hfr6 (fun b hb e => by
        have h1 := (HUC.out.ob.lt b e).1
        have h2 := HN1.out.1
        omega))
      have HU6 := Lib.hid hU6; have HT6 := Lib.hid hT6; have HF6 := Lib.hid hF6
      have HZ6 : Hid (n1 ≤ w6.heap.size) := Lib.hid (Nat.le_trans HZC.out hfr6.size)
      have HD6 := Lib.hid (hD.out w6 hT6)
      clear hfr6 hn6 ho6 hU6 hT6 hF6
      refine HD6.out.mono ?_
      rintro e w7 ⟨v7, rfl, hil7, hlo7, ht7, hf7⟩
      obtain ⟨xa, xc, rfl⟩ := hil7.sl
      have hU7 := HU6.out.fr hf7 HLT.out
      have hb6 : ∀ e, v6.ownBlock = some e → e < w6.heap.size := fun e he => (HU6.out.ob.lt e he).2
      have hb5 : ∀ e, (Value.slice va k vc).ownBlock = some e → e < w6.heap.size := fun e he => (HU6.out.oi.lt e he).2
      have HU7 := Lib.hid hU7; have HIL7 := Lib.hid hil7; have HLO7 := Lib.hid hlo7; have HT7 := Lib.hid ht7; have HB6 := Lib.hid hb6; have HB5 := Lib.hid hb5
      have HF7 : Hid (Fr (fun _ => False) w w7) := Lib.hid (HF6.out.trans' hf7 (fun b hb e => by have := HL1.out b e; have := HF1.out.size; omega))
      have HZ7 : Hid (n1 ≤ w7.heap.size) := Lib.hid (Nat.le_trans HZ6.out hf7.size)
      clear hil7 hlo7 ht7 hf7 hU7 hb6 hb5
      go_wp2_with (at_builtin; refine wpList_append_src rfl _ _ 53 rfl n1 57 j0 (.slice none 0 0) 24 Tryz.underlying53 hj' hy0 hy1 hy2 rfl (by decide) (.slice va k vc) k V rfl (by have := (((Fr.refl (fun _ => False) w7).alloc (.cells #[.slice xa its.length xc] 57)).row HU7.out.oi (fun _ _ e => e)); rw [HV.out] at this; exact this) 1 rfl (rd_obj (cs := [.slice xa its.length xc]) (heap_new _ _) rfl) (by intro u hu; simp only [List.mem_cons, List.not_mem_nil, or_false] at hu; rcases hu with rfl; rfl) (by unfold maxLen; omega) (by omega) (by have := HZ7.out; simp; omega) ?_; intro v8 w8 hown8 hgrow8 hloc8; have HO8 := Lib.hid hown8; have HG8 := Lib.hid hgrow8; have HL8 := Lib.hid hloc8; clear hown8 hgrow8 hloc8)
      go_roundw
      case rel =>
        have hfr8 : Fr (fun e => (Value.slice va k vc).ownBlock = some e) w7 w8 := ((Fr.refl _ w7).alloc _).trans' (Fr.grown HG8.out (fun r hr _ => hr)) (fun _ _ e => e)
        have hn8 : ∀ e, v8.ownBlock = some e → (Value.slice va k vc).ownBlock = some e ∨ w7.heap.size ≤ e := fun e he => by
          rcases HL8.out with h | h
          · exact .inl (h ▸ he)
          · rw [h] at he; injection he with he; right; simp at he; omega
        have ho8 : w8.ownsRow n1 57 1 v8 (V ++ [Value.slice xa its.length xc]).length (V ++ [Value.slice xa its.length xc]) := by
          rw [List.length_append, HV.out]; exact HO8.out
        have hU8 := HU7.out.addI ho8 hfr8 hn8 HIL7.out (fun e he => Nat.le_trans HZ6.out (HLO7.out e he)) (fun _ e he => ⟨fun h => by have := HB6.out e h; have := HLO7.out e he; omega, fun h => by have := HB5.out e h; have := HLO7.out e he; omega⟩)
        refine ⟨k + 1, V ++ [Value.slice xa its.length xc], by omega, by go_num, by rw [List.length_append, HV.out]; rfl, ?_, ?_, ?_, ?_⟩
        · rw [hstep.out]; exact hU8
        · rw [hstep.out]; exact HT7.out.fr hfr8 (fun b hb e => by
            have h1 := (HU7.out.oi.lt b e).1
            have h2 := HLT.out b hb
            omega)
        · exact HF7.out.trans' hfr8 (fun b hb e => by
            have h1 := (HU7.out.oi.lt b e).1
            have h2 := HN1.out.1
            omega)
        · exact Nat.le_trans HZ7.out hfr8.size
      case measure => simp [intOf]; omega
    · obtain rfl : k = N := by omega
      have hkI : ¬ (k : Int) < k := by omega
      have HOKB := Lib.hid (unG_ok q2 k)
      obtain ⟨S, hSS⟩ : ∃ S, unG q2 k = S := ⟨_, rfl⟩
      rw [hSS] at HT HU HLEN hZ2 HOKB
      obtain ⟨t0, B, I⟩ := S
      dsimp only at HT HU HLEN hZ2 HOKB
      obtain ⟨hlB, hlI⟩ := HLEN.out
      have hSb : Sbi wr (.slice la k lc) B := Sq.own biSize (by have := HU.out.ob; rw [hlB] at this ⊢; exact this) HOKB.out
      have hNew := Lib.hid (bNew wr _ B hSb)
      have HU : Hid (UnI n1 wr (.slice la k lc) (.slice va k vc) B V I) := Lib.hid (by have := HU.out; rw [hlB, HV.out] at this; exact this)
      obtain ⟨D, hD⟩ : ∃ D, doneT t0.1 t0.2 = D := ⟨_, rfl⟩
      have HDn := Lib.hid (fun W (h : TK W gt TT t0.1 t0.2) => cTDone W gt TT t0.1 t0.2 h)
      rw [hD] at HDn hZ2
      have HLB := Lib.hid hlB; have HLI := Lib.hid hlI
      clear hVk hU hT hF hz hSS hSb hD hlB hlI
      go_wp2_with fail
      refine hNew.out.mono ?_
      rintro e w3 ⟨hf3, ⟨hm, rfl⟩ | ⟨hm, g, TS, L, rfl, hFA, hLm, hTS⟩⟩
      · have HF3 := Lib.hid (HF.out.trans hf3)
        have HT3 := Lib.hid (HT.out.fr hf3 (fun _ _ e => e))
        have hr : Hid (Z = none) := Lib.hid (by rw [hZ2.out, if_neg (by rw [hm]; simp)])
        clear hf3 hm
        by_cases hD0 : D = 0
        · have hd1 : (D != 0) = false := by simp [hD0]
          go_wp2_with (go_at_call 23; refine (HDn.out _ HT3.out).mono ?_; rintro e w4 ⟨rfl, rfl⟩)
          rw [← HPP.out, hr.out]
          exact ⟨HF3.out, rfl⟩
        · have hd1 : (D != 0) = true := by simpa using hD0
          go_wp2_with (go_at_call 23; refine (HDn.out _ HT3.out).mono ?_; rintro e w4 ⟨rfl, rfl⟩)
          rw [← HPP.out, hr.out]
          exact ⟨HF3.out, rfl⟩
      · have HT3 := Lib.hid (HT.out.fr hf3 (fun _ _ e => e))
        by_cases hD0 : D = 0
        case neg =>
          have HF3 := Lib.hid (HF.out.trans hf3)
          have hr : Hid (Z = none) := Lib.hid (by rw [hZ2.out, if_neg (fun e => hD0 e.2.1)])
          have hd1 : (D != 0) = true := by simpa using hD0
          clear hf3 hm hFA hLm hTS
          go_wp2_with (go_at_call 23; refine (HDn.out _ HT3.out).mono ?_; rintro e w4 ⟨rfl, rfl⟩)
          rw [← HPP.out, hr.out]
          exact ⟨HF3.out, rfl⟩
        · have hd1 : (D != 0) = false := by simp [hD0]
          have hz3 : Hid (Z = if ((List.zipWith putI B I).all fun b => decide (0 ≤ leftE b)) = true then some (List.zipWith putI B I) else none) := Lib.hid (by
            rw [hZ2.out]
            cases hq : ((List.zipWith putI B I).all fun b => decide (0 ≤ leftE b)) with
            | true => rw [if_pos ⟨hm, hD0, rfl⟩]; rfl
            | false => rw [if_neg (fun e => by cases e.2.2)]; rfl)
          obtain ⟨r, cap, hFB0⟩ := hFA.fb
          have hU3 := HU.out.fr hf3 (fun _ e => e.elim)
          have hTB : ∀ b, TS b → n1 ≤ b := fun b hb => by have := hTS b hb; have := HZ.out; omega
          have hFB := hFB0.mono (T2 := fun b => n1 ≤ b ∧ b < w3.heap.size) (fun b hb => ⟨hTB b hb, hFB0.lt b hb⟩) (fun b hb => hb.2)
          have hlL : L.length = k := by have := congrArg List.length hLm; rw [List.length_map, List.length_map] at this; rw [this]; exact HLB.out
          have hil : Hid (∀ (j : Nat) (u : Value) (its : Its), V[j]? = some u → I[j]? = some its → Il w3 u its ∧ (its ≠ [] → ∀ c, u.ownBlock = some c → (n1 ≤ c ∧ c < w3.heap.size) ∧ c ≠ g ∧ c ≠ r)) := Lib.hid (fun j u its hu hi => by
            obtain ⟨q1, q2, q3⟩ := HU.out.il j u its hu hi
            obtain ⟨q4, -, -⟩ := hU3.il j u its hu hi
            refine ⟨q4, fun hne c hc => ⟨⟨q2 c hc, q4.lt hne c hc⟩, ?_, ?_⟩⟩
            · intro e; have := hTS g hFB0.own.1; have := q1.lt hne c hc; omega
            · intro e; have := hTS r hFB0.own.2.1; have := q1.lt hne c hc; omega)
          have HO3 := Lib.hid hU3.oi
          have hHD : Hid (D = 0) := Lib.hid hD0
          have hgr : Hid (wr.heap.size ≤ g ∧ wr.heap.size ≤ r) := Lib.hid ⟨hTS g hFB0.own.1, hTS r hFB0.own.2.1⟩
          have c0 := cell_obj hFB.obj 0 (.slice (some ⟨r, 0, none⟩) L.length cap) rfl
          rw [hlL] at c0
          have hvb : Hid (∀ e, (Value.slice va k vc).ownBlock = some e → e < wr.heap.size) := Lib.hid (fun e he => (HU.out.oi.lt e he).2)
          have HFB := Lib.hid hFB; have HLL := Lib.hid hlL; have HLM := Lib.hid hLm; have HF3 := Lib.hid (HF.out.trans hf3); have HZ3 : Hid (wr.heap.size ≤ w3.heap.size) := Lib.hid hf3.size
          clear hf3 hm hFA hLm hTS hFB0 hU3 hFB hlL hTB hD0
          go_wp2_with (go_at_call 23; refine (HDn.out _ HT3.out).mono ?_; rintro e w4 ⟨rfl, rfl⟩)
          have hvq : Sq 1 (fun u : Value => #[u]) (fun _ _ => True) w3 (.slice va k vc) V := Sq.own (fun _ => rfl) (by have := HO3.out; rw [flat_self]; rw [HV.out] at this ⊢; exact this) (fun _ _ => trivial)
          have HVQ := Lib.hid hvq
          clear hvq
          go_loopw [49] (fun vi wr2 => ∃ (m : Nat) (Lm : List BV), m ≤ k ∧ vi = .int .i64 m ∧ FB wr2 g (fun b => n1 ≤ b ∧ b < w3.heap.size) Lm r cap ∧ Lm.map BV.e = mixE B I m ∧ Fr (fun _ => False) w wr2 ∧ Fr (fun c => c = r) w3 wr2 ∧ ((List.zipWith putI (B.take m) (I.take m)).all fun b => decide (0 ≤ leftE b)) = true) (fun vi _ => k - (intOf vi).toNat)
          case atStart => exact ⟨0, L, Nat.zero_le _, rfl, HFB.out, by rw [HLM.out]; simp [mixE], HF3.out, Fr.refl _ _, by simp⟩
          case round =>
            obtain ⟨m, Lm, hmk, rfl, hFB2, hLm2, hf2, hfr2, hall⟩ := hrel
            have HFB2 := Lib.hid hFB2; have HLM2 := Lib.hid hLm2; have HF2 := Lib.hid hf2; have HFR2 := Lib.hid hfr2; have HALL := Lib.hid hall
            have hll : Lm.length = k := by
              have := congrArg List.length hLm2
              rw [List.length_map] at this
              rw [this]
              unfold mixE
              rw [List.length_append, List.length_zipWith, List.length_take, List.length_take, List.length_map, List.length_drop, HLB.out, HLI.out]; omega
            by_cases hlt : m < k
            · have hmI : (m : Int) < k := by omega
              obtain ⟨b, hb⟩ : ∃ b, B[m]? = some b := ⟨B[m]'(by rw [HLB.out]; exact hlt), List.getElem?_eq_getElem _⟩
              obtain ⟨i, hi⟩ : ∃ i, I[m]? = some i := ⟨I[m]'(by rw [HLI.out]; exact hlt), List.getElem?_eq_getElem _⟩
              obtain ⟨u, hu⟩ : ∃ u, V[m]? = some u := ⟨V[m]'(by rw [HV.out]; exact hlt), List.getElem?_eq_getElem _⟩
              obtain ⟨x, hx⟩ : ∃ x, Lm[m]? = some x := ⟨Lm[m]'(by rw [hll]; exact hlt), List.getElem?_eq_getElem _⟩
              obtain ⟨hm1, hm2⟩ := mixE_set hb hi
              have hxe : x.e = b.e := by
                have h1 : (Lm.map BV.e)[m]? = some x.e := by rw [List.getElem?_map, hx]; rfl
                rw [hLm2, hm1] at h1; injection h1 with h1; exact h1.symm
              obtain ⟨hil0, hil1⟩ := hil.out m u i hu hi
              obtain ⟨ua, uc, rfl⟩ := hil0.sl
              have hgr2 := hgr.out; have hvb2 := hvb.out
              have hsq2 := HVQ.out.keepT hfr2 (fun e he h => by have := hvb2 e he; have h : e = r := h; omega)
              obtain ⟨ad, rfl, -, vz, -⟩ := hsq2.at_ hu
              have q0 := vz (.slice ua i.length uc) rfl
              rw [Nat.mul_one] at q0
              have hil2 : Il wr (.slice ua i.length uc) i := hil0.keep hfr2 (fun hne c hc => (hil1 hne c hc).2.2)
              obtain ⟨b0, b1, b2, b3, b4, bf⟩ := hFB2.cells hx
              have hmap : (Lm.set m ⟨x.nu, x.zo, x.ro, .slice ua i.length uc, i⟩).map BV.e = mixE B I (m + 1) := by
                rw [List.map_set, hLm2]
                have : (BV.e ⟨x.nu, x.zo, x.ro, .slice ua i.length uc, i⟩ : BE) = putI b i := by
                  have e1 : x.nu = b.nu := congrArg BE.nu hxe
                  have e2 : x.zo = b.zo := congrArg BE.zo hxe
                  have e3 : x.ro = b.ro := congrArg BE.ro hxe
                  unfold BV.e putI
                  rw [e1, e2, e3]
                rw [this]; exact hm2
              have HPE : Hid ((BV.e ⟨x.nu, x.zo, x.ro, .slice ua i.length uc, i⟩ : BE) = putI b i) := Lib.hid (by
                have e1 : x.nu = b.nu := congrArg BE.nu hxe
                have e2 : x.zo = b.zo := congrArg BE.zo hxe
                have e3 : x.ro = b.ro := congrArg BE.ro hxe
                unfold BV.e putI
                rw [e1, e2, e3])
              have hgx : (Lm.set m ⟨x.nu, x.zo, x.ro, .slice ua i.length uc, i⟩)[m]? = some ⟨x.nu, x.zo, x.ro, .slice ua i.length uc, i⟩ := by rw [List.getElem?_set_self (by rw [hll]; exact hlt)]
              rw [hll] at b0
              have HIL2 := Lib.hid hil2; have HIL1 := Lib.hid hil1
              have HMAP := Lib.hid hmap; have HGX := Lib.hid hgx; have HBB := Lib.hid hb; have HII := Lib.hid hi; have HLL2 := Lib.hid hll; have HXE := Lib.hid hxe; have HXX := Lib.hid hx
              clear hFB2 hLm2 hf2 hfr2 hall hll hb hi hu hx hm1 hm2 hxe hil0 hil1 hgr2 hvb2 hsq2 vz hil2 bf hmap hgx c0
              go_wp2_with fail
              refine wp_region_eff [(11, false)] [] 6 (by kernel_rfl) rfl (by kernel_rfl) (by kernel_rfl) ?_
              apply Exists.intro
              refine ⟨?hh, ?pu, ?ef⟩
              case hh =>
                intro X
                have b0 := FrW.cell (X.fr.cell b0 (fun e => e)); have q0 := FrW.cell (X.fr.cell q0 (fun e => e))
                simp (config := { decide := true }) only [boxedF, efIdx, List.map_cons, List.map_nil, idleU, if_true, if_false, ite_true, ite_false]
                repeat (go_big_quiet_step (fail))
                exact wpQuiet_nil rfl
              case pu =>
                intro i' hi' o ho
                cases hi'
              case ef =>
                simp only [efOps, List.filterMap_cons, List.filterMap_nil, List.getElem?_cons_succ, List.getElem?_cons_zero, Option.map_some]
                clear b0 b1 b2 b3 b4 q0
                intro w5 hw5
                have hFB5 := HFB2.out.keep hw5
                obtain ⟨b0, b1, b2, b3, b4, bf⟩ := hFB5.cells HXX.out
                have f3 := bf (m * 4 + 3)
                obtain ⟨hset, hsf⟩ := hFB5.setL HXX.out (HIL2.out.fr hw5 (fun _ e => e.elim)) HIL1.out
                have HSET := Lib.hid hset; have HSF := Lib.hid hsf; have HW5 := Lib.hid hw5
                clear hFB5 bf hset hsf hw5 b0 b1 b2 b3
                go_wp2_with fail
                intro w6 hw6
                have hFB6 := HSET.out.keep hw6
                obtain ⟨c0, d0, d1, d2, d3, -⟩ := hFB6.cells HGX.out
                rw [List.length_set, HLL2.out] at c0
                dsimp only at d0 d1 d2 d3
                have hbk := (hFB6.bins _ (List.mem_of_getElem? HGX.out)).1
                have hLf := Lib.hid (bLeft w6 _ hbk)
                rw [leftE_e, HPE.out] at hLf
                have hall2 : ((List.zipWith putI (B.take (m + 1)) (I.take (m + 1))).all fun b => decide (0 ≤ leftE b)) = decide (0 ≤ leftE (putI b i)) := by
                  rw [List.take_add_one, List.take_add_one, HBB.out, HII.out]
                  simp only [Option.toList]
                  rw [List.zipWith_append (by rw [List.length_take, List.length_take, HLB.out, HLI.out]), List.all_append, HALL.out]
                  simp
                obtain ⟨LV, hLV⟩ : ∃ x, leftE (putI b i) = x := ⟨_, rfl⟩
                rw [hLV] at hLf hall2
                have HALL2 := Lib.hid hall2; have HFB6 := Lib.hid hFB6; have HW6 := Lib.hid hw6
                have HFF : Hid (Fr (fun _ => False) w w6) := Lib.hid (((HF2.out.trans HW5.out).trans' HSF.out (fun c hc e => by have e : c = r := e; have := hgr.out.2; have := HZ.out; have := HN1.out.1; omega)).trans hw6)
                have hcs : BV.cs ⟨x.nu, x.zo, x.ro, .slice ua i.length uc, i⟩ = #[.int .i64 x.nu, .int .i64 x.zo, .int .i64 x.ro, .slice ua i.length uc] := rfl
                rw [hcs] at hLf
                clear hall2 hFB6 hw6 hbk hLV hcs
                by_cases hlv : LV < 0
                · have hr : Hid (Z = none) := Lib.hid (by
                    rw [hz3.out]
                    have : ((List.zipWith putI B I).all fun b => decide (0 ≤ leftE b)) = false := by
                      rw [← List.take_append_drop (m + 1) B, ← List.take_append_drop (m + 1) I, List.zipWith_append (by rw [List.length_take, List.length_take, HLB.out, HLI.out]), List.all_append, HALL2.out]
                      simp; omega
                    rw [if_neg (by rw [this]; simp)])
                  go_wp2_with (go_at_call 24; refine hLf.out.mono ?_; rintro e w7 ⟨rfl, hf7⟩; have HF7 := Lib.hid (HFF.out.trans hf7); clear hf7)
                  rw [← HPP.out, hr.out]
                  exact ⟨HF7.out, rfl⟩
                · have hnx : Hid (((List.zipWith putI (B.take (m + 1)) (I.take (m + 1))).all fun b => decide (0 ≤ leftE b)) = true) := Lib.hid (by rw [HALL2.out]; simp; omega)
                  go_wp2_with (go_at_call 24; refine hLf.out.mono ?_; rintro e w7 ⟨rfl, hf7⟩; have HF7 := Lib.hid hf7; clear hf7)
                  go_roundw
                  case rel =>
                    exact ⟨m + 1, _, by omega, by go_num, HFB6.out.keep HF7.out, HMAP.out, HFF.out.trans HF7.out, ((((HFR2.out.trans' HW5.out (fun _ _ e => e.elim)).trans HSF.out).trans' HW6.out (fun _ _ e => e.elim)).trans' HF7.out (fun _ _ e => e.elim)), hnx.out⟩
                  case measure => simp [intOf]; omega
            · obtain rfl : m = k := by omega
              have hmI : ¬ (m : Int) < m := by omega
              have hzz : Hid (Z = some (List.zipWith putI B I)) := Lib.hid (by
                rw [hz3.out, if_pos]
                have := HALL.out
                rw [List.take_of_length_le (by rw [HLB.out]; exact Nat.le_refl _), List.take_of_length_le (by rw [HLI.out]; exact Nat.le_refl _)] at this
                exact this)
              have hmm : Hid (Lm.map BV.e = List.zipWith putI B I) := Lib.hid (by
                rw [HLM2.out]; unfold mixE
                rw [List.take_of_length_le (by rw [HLB.out]; exact Nat.le_refl _), List.take_of_length_le (by rw [HLI.out]; exact Nat.le_refl _), List.drop_of_length_le (by rw [HLB.out]; exact Nat.le_refl _)]
                simp)
              clear hFB2 hLm2 hf2 hfr2 hall hll c0
              go_wp2_with fail
              rw [← HPP.out, hzz.out]
              exact ⟨HF2.out, g, _, Lm, rfl, HFB2.out.fa, hmm.out, fun b hb => Nat.le_trans HN1.out.1 hb.1⟩
end Go.Proofs.YtefjdcghdcbojaaGreat

namespace Go.Proofs.YtefjdcghdcbojaaGreat
open Go.RowKit Go.Maps
theorem put_ok {bs c : List Int} (h : bs.length + c.length ≤ 262144) : putB bs false c = bs ++ c ∧ putL bs false c = false := by
  unfold putB putL
  have : ¬ 262144 < bs.length + c.length := by omega
  simp [this]
theorem MK.fa {B : Nat} {w w' : World} {g : Nat} {TS : Nat → Prop} {bs : List Int} {long : Bool} (h : MK w g TS bs long) (hf : Fa B w w') : MK w' g TS bs long := by
  obtain ⟨⟨v, h1, h2, h3⟩, h4, h5, h6⟩ := h
  exact ⟨⟨v, Fa.cells hf h1, Fa.row hf h2, h3⟩, h4, fun b hb => Nat.lt_of_lt_of_le (h5 b hb) hf.size, h6⟩
theorem mNum {w : World} {g : Nat} {TS : Nat → Prop} {bs : List Int} (n : Int) (h : MK w g TS bs false) (hn : okI n) (hl : bs.length ≤ 262100) :
    Calls Tryz.prog 36 #[.pointer (some ⟨g, 0, none⟩), .int .i64 n] w fun e w' => e = .returned (.pointer (some ⟨g, 0, none⟩)) ∧ ∃ TS', MK w' g TS' (bs ++ numB n) false ∧ Stp TS w w' TS' := by
  have hp := put_ok (bs := bs) (c := numB n) (by have := (numB_len hn).2; omega)
  have := cMNum w g TS bs false n h hn
  rw [hp.1, hp.2] at this
  exact this
theorem mText {w : World} {g : Nat} {TS : Nat → Prop} {bs : List Int} (s : Str) (h : MK w g TS bs false) (hs : s.length ≤ 16) (hl : bs.length ≤ 262100) :
    Calls Tryz.prog 85 #[.pointer (some ⟨g, 0, none⟩), vS s] w fun e w' => e = .returned (.pointer (some ⟨g, 0, none⟩)) ∧ ∃ TS', MK w' g TS' (bs ++ textB s) false ∧ Stp TS w w' TS' := by
  have hp := put_ok (bs := bs) (c := textB s) (by have := textB_len hs; omega)
  have := cMText w g TS bs false s h (by omega)
  rw [hp.1, hp.2] at this
  exact this
theorem xMN (w : World) : Calls Tryz.prog 35 #[] w fun e w' => ∃ gm TS, e = .returned (.pointer (some ⟨gm, 0, none⟩)) ∧ MK w' gm TS [] false ∧ (∀ b, TS b → w.heap.size ≤ b) ∧ Fr (fun _ => False) w w' := by
  refine (cMNew w).mono ?_
  rintro e w' ⟨rfl, h1, h2⟩
  exact ⟨_, _, rfl, h1, fun b hb => by omega, h2⟩
end Go.Proofs.YtefjdcghdcbojaaGreat

namespace Go.Proofs.YtefjdcghdcbojaaGreat
open Go.RowKit Go.Maps
attribute [local go_sem] Oper.semAt_some
/-- Items' bytes. -/
def itsQ (L : Its) : List Int := L.flatMap fun p => textB p.1 ++ numB p.2
theorem itsQ_take {L : Its} {j : Nat} {p : Str × Int} (h : L[j]? = some p) : itsQ (L.take (j + 1)) = itsQ (L.take j) ++ textB p.1 ++ numB p.2 := by
  unfold itsQ
  rw [List.take_add_one, h, List.flatMap_append]
  simp
theorem itsQ_len : ∀ {L : Its}, (∀ p ∈ L, p.1.length ≤ 16 ∧ okI p.2) → (itsQ L).length ≤ 34 * L.length
  | [], _ => by simp [itsQ]
  | p :: r, h => by
    have ih := itsQ_len (L := r) (fun q hq => h q (List.mem_cons_of_mem _ hq))
    obtain ⟨h1, h2⟩ := h p (by simp)
    have e : itsQ (p :: r) = (textB p.1 ++ numB p.2) ++ itsQ r := by simp [itsQ]
    have := textB_len h1
    have := (numB_len h2).2
    rw [e, List.length_append, List.length_append, List.length_cons]
    omega
structure PiS (w : World) (TS0 : Nat → Prop) (n0 : Nat) (W : World) (g : Nat) (TM : Nat → Prop) (bs : List Int) : Prop where
  mkr : MK W g TM bs false
  box : W.heap[n0]? = some (.cells #[.pointer (some ⟨g, 0, none⟩)] 83)
  nb : ¬ TM n0
  st : Stp TS0 w W TM
theorem PiS.fa {B : Nat} {W0 W W' : World} {TS0 : Nat → Prop} {n0 g : Nat} {TM : Nat → Prop} {bs : List Int} (h : PiS W0 TS0 n0 W g TM bs) (hf : Fa B W W') (hB : W0.heap.size ≤ B) : PiS W0 TS0 n0 W' g TM bs :=
  ⟨h.mkr.fa hf, Fa.cells hf h.box, h.nb, Fa.old hf h.st.1 hB, h.st.2⟩
theorem PiS.step {W0 W W' : World} {TS0 : Nat → Prop} {n0 g : Nat} {TM TM' : Nat → Prop} {bs bs' : List Int} (h : PiS W0 TS0 n0 W g TM bs) (hm : MK W' g TM' bs' false) (hs : Stp TM W W' TM') : PiS W0 TS0 n0 W' g TM' bs' :=
  have hl := (Array.getElem?_eq_some_iff.1 h.box).1
  ⟨hm, hs.1.at_ h.box h.nb, fun e => (hs.2 _ e).elim h.nb (fun e => by omega), h.st.trans hs⟩
theorem PiS.set {W0 W : World} {TS0 : Nat → Prop} {n0 g : Nat} {TM : Nat → Prop} {bs : List Int} (h : PiS W0 TS0 n0 W g TM bs) (hn : W0.heap.size ≤ n0) : PiS W0 TS0 n0 (W.setCell ⟨n0, 0, none⟩ (.pointer (some ⟨g, 0, none⟩))) g TM bs :=
  ⟨h.mkr.fr ((Fr.refl (fun c => c = n0) W).setCell (p := ⟨n0, 0, none⟩) (fun _ => rfl) _) (fun b hb e => h.nb (by have e : b = n0 := e; rw [← e]; exact hb)), by rw [obj_set h.box 0 _]; rfl, h.nb,
    ⟨h.st.1.setCell (p := ⟨n0, 0, none⟩) (fun e => by have e : n0 < W0.heap.size := e; omega) _, h.st.2⟩⟩
theorem PiS.keep {W0 W W' : World} {TS0 : Nat → Prop} {n0 g : Nat} {TM : Nat → Prop} {bs : List Int} (h : PiS W0 TS0 n0 W g TM bs) (hf : Fr (fun _ => False) W W') : PiS W0 TS0 n0 W' g TM bs :=
  ⟨h.mkr.fr hf (fun _ _ e => e), hf.at_ h.box (fun e => e), h.nb, h.st.trans (Stp.refl hf)⟩
def PiI (W0 : World) (TS0 : Nat → Prop) (n0 g : Nat) (TM0 : Nat → Prop) (bs : List Int) (L : Its) (k : Nat) (C : Nat → Prop) (W : World) : Prop :=
  ∃ TM, PiS W0 TS0 n0 W g TM (bs ++ itsQ (L.take k)) ∧ ∀ b, TM b → TM0 b ∨ C b
set_option maxRecDepth 100000 in
set_option maxHeartbeats 8000000 in
theorem iPut (w : World) (g : Nat) (TS : Nat → Prop) (bs : List Int) (v : Value) (its : Its) (h : MK w g TS bs false) (hl : bs.length ≤ 200000) (hi : Il w v its) (hT : its ≠ [] → ∀ b, v.ownBlock = some b → ¬ TS b) (hlen : its.length ≤ 16) (hits : ∀ p ∈ its, p.1.length ≤ 16 ∧ okI p.2) :
    Calls Tryz.prog 37 #[.pointer (some ⟨g, 0, none⟩), v] w fun e w' => e = .returned (.pointer (some ⟨g, 0, none⟩)) ∧ ∃ TS', MK w' g TS' (bs ++ (numB (its.length : Int) ++ itsQ its)) false ∧ Stp TS w w' TS' := by
  obtain ⟨n0, hn0⟩ : ∃ n0, w.heap.size = n0 := ⟨_, rfl⟩
  obtain ⟨la, lc, rfl⟩ := hi.sl
  obtain ⟨N, hN⟩ : ∃ N : Nat, its.length = N := ⟨_, rfl⟩
  obtain ⟨W0, hW0⟩ : ∃ W0, w.alloc (.cells #[.pointer (some ⟨g, 0, none⟩)] 83) = W0 := ⟨_, rfl⟩
  have hF0 : Fr (fun _ => False) w W0 := by rw [← hW0]; exact (Fr.refl _ w).alloc _
  have hb0 : W0.heap[n0]? = some (.cells #[.pointer (some ⟨g, 0, none⟩)] 83) := by rw [← hW0]; exact heap_at hn0.symm _
  have hP0 : PiS w TS n0 W0 g TS bs := ⟨h.fr hF0 (fun _ _ e => e), hb0, fun e => by have := h.lt _ e; omega, Stp.refl hF0⟩
  have HIL := Lib.hid hi; have HOB := Lib.hid hi.lt; have HT := Lib.hid hT
  have okN : Hid (okI (N : Int)) := Lib.hid (by unfold okI; omega)
  have hits := Lib.hid hits; have hlen := Lib.hid hlen; have HBS := Lib.hid hl
  have HN := Lib.hid hN; have HS := Lib.hid hn0; have HP0 := Lib.hid hP0; have HF0 := Lib.hid hF0
  have hTlt := Lib.hid h.lt
  rw [hN] at HIL HOB HT ⊢
  have c0 := cell_obj hb0 0 (.pointer (some ⟨g, 0, none⟩)) rfl
  clear h hl hi hT hN hP0 hb0
  refine (callsIn_wide (n := 0)).1 ?_
  refine callsIn_of_wp_marks Tryz.func37 rfl trivial ?_ rfl
  simp only [Tryz.ntmps37, List.size_toArray, List.length_cons, List.length_nil, Nat.reduceAdd, Nat.reduceSub, Array.replicate_succ, Array.replicate_zero, List.push_toArray, List.append_toArray, List.nil_append, List.cons_append]
  have hfn : ∀ f, Fence.wide.fn f := fun _ => trivial
  have hdp : Fence.wide.depth.isSome = false := rfl
  gi_wp2_with (first
    | (gi_at_call 36; refine (callsIn_wide.2 (mNum _ HP0.out.mkr okN.out (by have := HBS.out; omega))).mono ?_; rintro e w1 ⟨rfl, TS1, hM1, hs1⟩; have hP1 := HP0.out.step hM1 hs1; have k0 := cell_obj hP1.box 0 (.pointer (some ⟨g, 0, none⟩)) rfl; have f0 := obj_frozen hP1.box 0; have HP1 := Lib.hid hP1; clear hM1 hs1 hP1)
    | (gi_at_call 84; refine (callsIn_wide.2 (iAll _ _ _ _)).mono ?_; rintro e w2 ⟨rfl, rfl⟩))
  obtain ⟨bs1, hbs1⟩ : ∃ bs1, bs ++ numB (N : Int) = bs1 := ⟨_, rfl⟩
  have hbl : Hid (bs1.length ≤ 200020) := Lib.hid (by rw [← hbs1]; have := HBS.out; have := (numB_len okN.out).2; (try simp only [List.length_append]); omega)
  have hfin : Hid (bs ++ (numB (N : Int) ++ itsQ its) = bs1 ++ itsQ its) := Lib.hid (by rw [← hbs1, List.append_assoc])
  have hPs := HP1.out.set (Nat.le_of_eq HS.out)
  rw [hbs1] at hPs
  obtain ⟨WS, hWS⟩ : ∃ WS, w1.setCell ⟨n0, 0, none⟩ (.pointer (some ⟨g, 0, none⟩)) = WS := ⟨_, rfl⟩
  rw [hWS] at hPs ⊢
  obtain ⟨z1, hzw⟩ : ∃ z1, w1.heap.size = z1 := ⟨_, rfl⟩
  have hz1 : WS.heap.size = z1 := by rw [← hWS, ← hzw]; simp
  clear hWS hbs1 k0 f0 c0 hW0 HP1 HP0
  have hF2 : Fr (fun _ => False) WS (WS.alloc (.cells #[.slice la N lc] 57)) := (Fr.refl _ _).alloc _
  have hBx : Boxed (WS.alloc (.cells #[.slice la N lc] 57)) WS.heap.size 57 (.slice la N lc) := heap_new _ _
  have hs2 : (WS.alloc (.cells #[.slice la N lc] 57)).heap.size = WS.heap.size + 1 := by simp
  obtain ⟨W2, hW2⟩ : ∃ W2, WS.alloc (.cells #[.slice la N lc] 57) = W2 := ⟨_, rfl⟩
  rw [hW2] at hF2 hBx hs2 ⊢
  rw [hz1] at hBx hs2
  rw [hzw]
  have hn1 : n0 < z1 := by rw [← hz1]; exact (Array.getElem?_eq_some_iff.1 hPs.box).1
  have hT1 : Hid (∀ b, TS1 b → b < z1) := Lib.hid (fun b hb => by rw [← hz1]; exact hPs.mkr.lt b hb)
  have hne : Hid (its ≠ [] → ∀ b, la.map (·.block) = some b → ¬ (TS1 b ∨ b = n0)) := Lib.hid (fun hne b hb e => by
    have h2 : (Value.slice la N lc).ownBlock = some b := by cases la <;> simp_all [Value.ownBlock]
    have h3 := HOB.out hne b h2
    have hs := HS.out
    rcases e with e | e
    · rcases hPs.st.2 b e with e | e
      · exact HT.out hne b h2 e
      · omega
    · omega)
  have hP2 := hPs.keep hF2
  have hIL2 : Il W2 (.slice la N lc) its := HIL.out.keep hP2.st.1 (fun hne b hb => HT.out hne b hb)
  have HP2 := Lib.hid hP2; have HS2 := Lib.hid hs2
  have hz0 : Hid (w.heap.size ≤ W2.heap.size) := Lib.hid hP2.st.1.size
  have HN1 := Lib.hid hn1
  clear hPs hP2 hF2 hz1 hW2 hn1
  refine rangeX (w0 := W2) (X := its) (S := fun b => TS1 b ∨ b = n0) rfl (enters_of Tryz.func116 (by kernel_rfl) rfl)
    (iAll1 _ W2 z1 _ its hBx hIL2 (fun e => by have := HN1.out; rcases e with e | e; (have := hT1.out _ e; omega); omega) (fun hne' b hb e => hne.out hne' b (by cases la <;> simp_all [Value.ownBlock]) hb)) (Below.refl _ _) (fun b hb => by have := HS2.out; have := HN1.out; rcases hb with e | e; (have := hT1.out _ e; omega); omega) (fun _ => rfl)
    (PiI w TS n0 g TS1 bs1 its) (fun _ _ _ _ => False)
    (fun k C W W' hs hf => hs.elim fun TM h => ⟨TM, h.1.fa hf hz0.out, h.2⟩) (fun c k C W W' hs hf => hs)
    ⟨TS1, by simpa [itsQ] using HP2.out, fun b hb => .inl hb⟩ ?round ?done ?stop
  case stop => intro D c k C W hD hk hX; exact hX.elim
  case round =>
    rintro lp j x C W hx hlp hi hr
    dsimp only [encIt]
    gi_wp2
    refine Took.mk (Fr.refl _ _) hi ?_
    rintro Wb ⟨TM, hPb, hTC⟩ hrb hf hsz hsw hCC _
    obtain ⟨ok1, ok2⟩ := hits.out x (List.mem_of_getElem? hx)
    have hlj : (itsQ (its.take j)).length ≤ 544 := by
      have h1 := itsQ_len (L := its.take j) (fun p hp => hits.out p (List.mem_of_mem_take hp))
      have h2 : (its.take j).length ≤ its.length := by rw [List.length_take]; omega
      have := hlen.out
      omega
    have hcm := cell_obj hPb.box 0 (.pointer (some ⟨g, 0, none⟩)) rfl
    have HX := Lib.hid (itsQ_take hx)
    obtain ⟨gx, nx⟩ := x
    dsimp only at ok1 ok2 HX
    have HPB := Lib.hid hPb; have HTC := Lib.hid hTC; have HCC := Lib.hid hCC; have HSZ := Lib.hid hsz
    have OK1 := Lib.hid ok1; have OK2 := Lib.hid ok2; have HLJ := Lib.hid hlj
    clear hi hr hf hrb hx hPb hTC hCC ok1 ok2 hlj
    gi_wp2_with (first
      | (gi_at_call 85; refine (callsIn_wide.2 (mText gx HPB.out.mkr OK1.out (by have := HLJ.out; have := hbl.out; (try simp only [List.length_append]); omega))).mono ?_; rintro e w8 ⟨rfl, TM8, hM8, hS8⟩; have HM8 := Lib.hid hM8; have HS8 := Lib.hid hS8; clear hM8 hS8)
      | (gi_at_call 36; refine (callsIn_wide.2 (mNum nx HM8.out OK2.out (by have := HLJ.out; have := hbl.out; have := textB_len OK1.out; (try simp only [List.length_append]); omega))).mono ?_; rintro e w9 ⟨rfl, TM9, hM9, hS9⟩; have hP9 := HPB.out.step hM9 (HS8.out.trans hS9); have k9 := cell_obj hP9.box 0 (.pointer (some ⟨g, 0, none⟩)) rfl; have f9 := obj_frozen hP9.box 0; have HM9 := Lib.hid hM9; have HS9 := Lib.hid hS9; have HP9 := Lib.hid hP9; clear hM9 hS9 hP9))
    have hst := HS8.out.trans HS9.out
    refine ⟨(hst.1.mono (fun b hb e => (HTC.out b e).elim (fun e => .inl (.inl e)) (fun e => .inr (.inl e)))).setCell (p := ⟨n0, 0, none⟩) (fun _ => .inl (.inr rfl)) _, TM9, ?_, ?_⟩
    · have := HP9.out.set (Nat.le_of_eq HS.out)
      rw [HX.out, ← List.append_assoc, ← List.append_assoc]
      exact this
    · intro b hb
      rcases hst.2 b hb with e | e
      · exact (HTC.out b e).elim .inl (fun e => .inr (.inl e))
      · exact .inr (.inr ⟨by have := HSZ.out; omega, by have := HM9.out.lt b hb; simpa using this⟩)
  case done =>
    rintro D C W hD ⟨TM, hPS, -⟩ hr hK
    rw [List.take_length] at hPS
    have c1 := cell_obj hPS.box 0 (.pointer (some ⟨g, 0, none⟩)) rfl
    have HPS := Lib.hid hPS; have HKK := Lib.hid hK
    clear hPS hK hr
    gi_wp2_with fail
    have hz := hz0.out
    have hs := HS.out
    refine ⟨by simp, .inl ⟨_, _, rfl, run_takeDeferred HKK.out, ?_⟩⟩
    refine ⟨.pointer (some ⟨g, 0, none⟩), by simp [results, Tryz.results37, go_sem], rfl, TM, ?_, ?_⟩
    · rw [hfin.out]
      exact HPS.out.mkr.fa (frPut (B := n0) (.deferred none) (by omega) HKK.out rfl)
    · exact ⟨HPS.out.st.1.trans' ((Fr.refl (fun b => b = D) W).putObj (l := D) (fun _ => rfl) _) (fun b hb e => by omega), HPS.out.st.2⟩
end Go.Proofs.YtefjdcghdcbojaaGreat

namespace Go.Proofs.YtefjdcghdcbojaaGreat
open Go.RowKit Go.Maps
def apartI (a b : Int) : Int := if a < b then b - a else a - b
theorem apartI_in {a b : Int} (ha : 0 ≤ a ∧ a ≤ 4096) (hb : 0 ≤ b ∧ b ≤ 4096) : 0 ≤ apartI a b ∧ apartI a b ≤ 4096 := by unfold apartI; split <;> omega
theorem kApart (w : World) (a b : Int) (ha : 0 ≤ a ∧ a ≤ 4096) (hb : 0 ≤ b ∧ b ≤ 4096) : Calls Tryz.prog 79 #[.int .i64 a, .int .i64 b] w fun e w' => e = .returned (.int .i64 (apartI a b)) ∧ w = w' := by
  have hr : max a b - min a b = apartI a b := by unfold apartI; split <;> omega
  have HR := Lib.hid hr
  clear hr
  go_enter Tryz.func79, Tryz.ntmps79
  go_wp2_with fail
  go_ret
  exact ⟨by rw [HR.out]; rfl, rfl⟩
theorem Pl.keep {S : Nat → Prop} {w w' : World} {v : Value} {L : List PV} (h : Pl w v L) (hf : Fr S w w') (hS : ∀ b, v.ownBlock = some b → ¬ S b) : Pl w' v L := by
  obtain ⟨h0, a, cap, rfl, h1⟩ := h
  refine ⟨h0, a, cap, rfl, fun i r hr => ?_⟩
  obtain ⟨ho, ad, rfl, hc⟩ := h1 i r hr
  exact ⟨ho, ad, rfl, fun j u hu => hf.cell (hc j u hu) (by have := hS ad.block rfl; unfold Addr.add; first | exact this | (split <;> exact this))⟩
/-- One step of the way: how far, at which bin, in which zone. -/
def wayS (b : BE) (s : Int × Int × Int) : Int × Int × Int := (s.1 + (100 * apartI b.zo s.2.2 + apartI b.nu s.2.1), b.nu, b.zo)
def wayG (L : List BE) (R : List PV) : Int × Int × Int := R.foldl (fun s p => match binE L p.b with | some b => wayS b s | none => s) (0, 0, 0)
def wayE (L : List BE) (l : List PV) : Int := (wayG L (routeE L l)).1
theorem wayG_take {L : List BE} {R : List PV} {k : Nat} {p : PV} {b : BE} (h : R[k]? = some p) (hb : binE L p.b = some b) : wayG L (R.take (k + 1)) = wayS b (wayG L (R.take k)) := by
  unfold wayG
  rw [List.take_add_one, h, List.foldl_append]
  simp only [Option.toList, List.foldl_cons, List.foldl_nil, hb]
theorem binE_mem {L : List BE} {n : Int} {b : BE} (h : binE L n = some b) : b ∈ L := List.mem_of_find?_eq_some h
theorem wayG_in {L : List BE} (hL : ∀ b ∈ L, BEok b) : ∀ (R : List PV), (∃ N : Nat, N = R.length ∧ 0 ≤ (wayG L R).1 ∧ (wayG L R).1 ≤ 10000 * (N : Int)) ∧ (0 ≤ (wayG L R).2.1 ∧ (wayG L R).2.1 ≤ 4096) ∧ (0 ≤ (wayG L R).2.2 ∧ (wayG L R).2.2 ≤ 15) := by
  intro R
  suffices h : ∀ (R : List PV) (s : Int × Int × Int) (N : Nat), (0 ≤ s.1 ∧ s.1 ≤ 10000 * (N : Int)) → (0 ≤ s.2.1 ∧ s.2.1 ≤ 4096) → (0 ≤ s.2.2 ∧ s.2.2 ≤ 15) →
      (∃ M : Nat, M = N + R.length ∧ 0 ≤ (R.foldl (fun s p => match binE L p.b with | some b => wayS b s | none => s) s).1 ∧ (R.foldl (fun s p => match binE L p.b with | some b => wayS b s | none => s) s).1 ≤ 10000 * (M : Int)) ∧ (0 ≤ (R.foldl (fun s p => match binE L p.b with | some b => wayS b s | none => s) s).2.1 ∧ (R.foldl (fun s p => match binE L p.b with | some b => wayS b s | none => s) s).2.1 ≤ 4096) ∧ (0 ≤ (R.foldl (fun s p => match binE L p.b with | some b => wayS b s | none => s) s).2.2 ∧ (R.foldl (fun s p => match binE L p.b with | some b => wayS b s | none => s) s).2.2 ≤ 15) by
    have := h R (0, 0, 0) 0 (by simp) (by simp) (by simp)
    rw [Nat.zero_add] at this
    exact this
  intro R
  induction R with
  | nil => intro s N h1 h2 h3; exact ⟨⟨N, rfl, h1⟩, h2, h3⟩
  | cons p r ih =>
    intro s N h1 h2 h3
    rw [List.foldl_cons]
    cases hb : binE L p.b with
    | none =>
      dsimp only
      obtain ⟨⟨M, hM, k1, k2⟩, k3⟩ := ih s N h1 h2 h3
      exact ⟨⟨M + 1, by rw [List.length_cons]; omega, k1, by omega⟩, k3⟩
    | some b =>
      dsimp only
      have hbo := hL b (binE_mem hb)
      have a1 := apartI_in (a := b.zo) (b := s.2.2) (by have := hbo.zo; omega) (by omega)
      have a2 := apartI_in (a := b.nu) (b := s.2.1) (by have := hbo.nu; omega) (by omega)
      have a3 : apartI b.zo s.2.2 ≤ 15 := by have := hbo.zo; unfold apartI; split <;> omega
      obtain ⟨⟨M, hM, k⟩, k3⟩ := ih (wayS b s) (N + 1) (by unfold wayS; dsimp only; omega) (by have := hbo.nu; unfold wayS; dsimp only; omega) (by have := hbo.zo; unfold wayS; dsimp only; omega)
      exact ⟨⟨M, by rw [List.length_cons]; omega, k⟩, k3⟩
set_option maxRecDepth 100000 in
set_option maxHeartbeats 8000000 in
theorem bWay (w : World) (g : Nat) (v : Value) (L : List BV) (l : List PV) (hF : Fl w g L) (hL : 0 < L.length) (hok : ∀ x ∈ L.map BV.e, BEok x) (h : Pl w v l) (hl : l.length ≤ 100000000) :
    Calls Tryz.prog 30 #[.pointer (some ⟨g, 0, none⟩), v] w fun e w' => e = .returned (.int .i64 (wayE (L.map BV.e) l)) ∧ Fr (fun _ => False) w w' := by
  obtain ⟨n1, hn1⟩ : ∃ n1, w.heap.size = n1 := ⟨_, rfl⟩
  obtain ⟨W0, hW0⟩ : ∃ W0, w.alloc (.cells #[.int .i64 0, .int .i64 0, .int .i64 0] 56) = W0 := ⟨_, rfl⟩
  have hf0 : Fr (fun _ => False) w W0 := by rw [← hW0]; exact (Fr.refl _ w).alloc _
  have hx0 : W0.heap[n1]? = some (.cells #[.int .i64 0, .int .i64 0, .int .i64 0] 56) := by rw [← hW0]; exact heap_at hn1.symm _
  have hs0 : W0.heap.size = n1 + 1 := by rw [← hW0]; simp; omega
  have hrt := Lib.hid (fun W (hf : Fr (fun _ => False) w W) => bRouteF W g v L l (hF.keep hf) hL (h.fr0 okPvKeeps hf) (by omega))
  have HF := Lib.hid hF; have HLL := Lib.hid hL; have HOKL := Lib.hid hok
  have hfd := Lib.hid (fun W n (hf : Fr (fun _ => False) w W) => bFind W g L n (hF.keep hf) hL)
  obtain ⟨va, vl, vc, rfl⟩ : ∃ a n c, v = .slice a n c := by obtain ⟨a, c, e⟩ := h.sl; exact ⟨a, _, c, e⟩
  obtain ⟨R, hR⟩ : ∃ R, routeE (L.map BV.e) l = R := ⟨_, rfl⟩
  have hres : Hid ((wayG (L.map BV.e) R).1 = wayE (L.map BV.e) l) := Lib.hid (by rw [← hR]; rfl)
  have hthere : Hid (∀ p ∈ R, ∃ b, binE (L.map BV.e) p.b = some b) := Lib.hid (fun p hp => by
    rw [← hR] at hp
    exact cR_there ((stab_perm _ _).mem_iff.1 hp))
  have hlen : R.length ≤ 100000000 := by
    rw [← hR]
    unfold routeE
    rw [stab_len]
    exact Nat.le_trans (List.length_filter_le _ _) hl
  obtain ⟨N, hN⟩ : ∃ N, R.length = N := ⟨_, rfl⟩
  have HN := Lib.hid hN
  rw [hN] at hlen
  obtain ⟨RES, hRES⟩ : ∃ r, wayE (L.map BV.e) l = r := ⟨_, rfl⟩
  rw [hRES] at hres ⊢
  rw [hR] at hrt
  have HF0 := Lib.hid hf0; have HX0 := Lib.hid hx0; have HS0 := Lib.hid hs0; have HN1 := Lib.hid hn1
  have c0 := cell_obj hx0 0 (.int .i64 0) rfl; have c1 := cell_obj hx0 1 (.int .i64 0) rfl; have c2 := cell_obj hx0 2 (.int .i64 0) rfl
  have f0 := obj_frozen hx0 0; have f1 := obj_frozen hx0 1; have f2 := obj_frozen hx0 2
  clear hF hL hok h hl hR hRES hN hf0 hx0 hs0
  go_enter Tryz.func30, Tryz.ntmps30
  go_wp2_with fail
  obtain ⟨W1, hW1⟩ : ∃ W1, ((W0.setCell ⟨n1, 0, none⟩ (.int .i64 0)).setCell ⟨n1, 1, none⟩ (.int .i64 0)).setCell ⟨n1, 2, none⟩ (.int .i64 0) = W1 := ⟨_, rfl⟩
  rw [hW1]
  have hf1 : Fr (fun _ => False) w W1 := by
    have hn := HN1.out
    rw [← hW1]
    exact ((HF0.out.setCell (p := ⟨n1, 0, none⟩) (fun e => by have e : n1 < w.heap.size := e; omega) _).setCell (p := ⟨n1, 1, none⟩) (fun e => by have e : n1 < w.heap.size := e; omega) _).setCell (p := ⟨n1, 2, none⟩) (fun e => by have e : n1 < w.heap.size := e; omega) _
  have hx1 : W1.heap[n1]? = some (.cells #[.int .i64 0, .int .i64 0, .int .i64 0] 56) := by
    rw [← hW1, obj_set (obj_set (obj_set HX0.out 0 _) 1 _) 2 _]; rfl
  have hs1 : n1 < W1.heap.size := (Array.getElem?_eq_some_iff.1 hx1).1
  clear c0 c1 c2 f0 f1 f2 hW0 hW1
  refine (hrt.out W1 hf1).mono ?_
  rintro e w2 ⟨v2, rfl, hp2, hlo2, hf2⟩
  have hne : Hid (∀ b, v2.ownBlock = some b → ¬ (fun c => c = n1) b) := Lib.hid (fun b hb e => by have e : b = n1 := e; have := hlo2 b hb; omega)
  obtain ⟨a2, vc2, rfl⟩ := hp2.sl
  have hN := HN.out
  rw [hN] at hp2 hne ⊢
  have hx2 := hf2.at_ hx1 (fun e => e)
  have HP2 := Lib.hid hp2; have HX2 := Lib.hid hx2; have HF2 := Lib.hid (hf1.trans hf2)
  clear hf1 hx1 hs1 hp2 hlo2 hf2 hx2 hN
  go_wp2_with fail
  go_loopw [5, 15] (fun va vi wr => ∃ (k : Nat) (S : Int × Int × Int) (ro : Int), k ≤ N ∧ va = .int .i64 S.1 ∧ vi = .int .i64 k ∧ S = wayG (L.map BV.e) (R.take k) ∧ Fr (fun _ => False) w wr ∧ wr.heap[n1]? = some (.cells #[.int .i64 S.2.1, .int .i64 S.2.2, .int .i64 ro] 56) ∧ Pl wr (.slice a2 N vc2) R) (fun _ vi _ => N - (intOf vi).toNat)
  case atStart => exact ⟨0, (0, 0, 0), 0, Nat.zero_le _, rfl, rfl, rfl, HF2.out, HX2.out, HP2.out⟩
  case round =>
    obtain ⟨k, S, ro, hk, rfl, rfl, hS, hfr, hxr, hpl⟩ := hrel
    have HFR := Lib.hid hfr; have HXR := Lib.hid hxr; have HPL := Lib.hid hpl; have HS := Lib.hid hS
    by_cases hlt : k < N
    · obtain ⟨p, hp⟩ : ∃ p, R[k]? = some p := ⟨R[k]'(by rw [HN.out]; exact hlt), List.getElem?_eq_getElem _⟩
      have hkI : (k : Int) < N := by omega
      obtain ⟨ad, rfl, hok, z0, zs⟩ := hpl.at_ hp
      have x0 := z0 (.int .i64 p.b) rfl
      have x1 := zs 0 (vS p.g) rfl
      have x2 := zs 1 (.int .i64 p.n) rfl
      have HP := Lib.hid hp
      clear hpl z0 zs hok hxr hfr hp hS
      go_wp2_with fail
      obtain ⟨W5, hW5⟩ : ∃ W, wr.alloc (.cells #[.int .i64 p.b, vS p.g, .int .i64 p.n] 47) = W := ⟨_, rfl⟩
      obtain ⟨m0, hm0⟩ : ∃ n, wr.heap.size = n := ⟨_, rfl⟩
      have hFW : Fr (fun _ => False) wr W5 := by rw [← hW5]; exact (Fr.refl _ wr).alloc _
      have hx5 : W5.heap[m0]? = some (.cells #[.int .i64 p.b, vS p.g, .int .i64 p.n] 47) := by rw [← hW5]; exact heap_at hm0.symm _
      rw [hW5, hm0]
      have HFW := Lib.hid (HFR.out.trans hFW)
      have HX5 := Lib.hid (hFW.at_ HXR.out (fun e => e))
      have HPL5 := Lib.hid (HPL.out.fr0 okPvKeeps hFW)
      have v0 := cell_obj hx5 0 (.int .i64 p.b) rfl
      clear x0 x1 x2 hW5 hm0 hx5 hFW
      obtain ⟨jj, X, hjL, hjF, hjB⟩ : ∃ (j : Nat) (X : BV), L[j]? = some X ∧ findF L p.b = (j : Int) ∧ binE (L.map BV.e) p.b = some X.e := by
        obtain ⟨b, hb⟩ := hthere.out p (List.mem_of_getElem? HP.out)
        rcases idxOf_cases (fun b : BV => decide (b.nu = p.b)) L with ⟨-, k2, -⟩ | ⟨i, A, k1, -, k3, k4⟩
        · have k2 : binF L p.b = none := k2
          rw [binE_e, k2] at hb; cases hb
        · exact ⟨i, A, k1, k3, by rw [binE_e]; show (binF L p.b).map BV.e = _; rw [show binF L p.b = some A from k4]; rfl⟩
      have HT := Lib.hid (wayG_take HP.out hjB)
      have HBO := Lib.hid (HOKL.out X.e (List.mem_map.2 ⟨X, List.mem_of_getElem? hjL, rfl⟩))
      have HIN := Lib.hid (wayG_in HOKL.out (R.take k))
      have HJF := Lib.hid hjF
      obtain ⟨fa, fc, q1, q2⟩ := HF.out.keep HFW.out
      have hjN := (List.getElem?_eq_some_iff.1 hjL).1
      obtain ⟨M, hM⟩ : ∃ M, L.length = M := ⟨_, rfl⟩
      have hMI := q2.len
      rw [hM] at q1 q2 hjN hMI
      have hjI : (jj : Int) < M := by omega
      obtain ⟨fd, rfl, okA, y0, ys⟩ := q2.at_ hjL
      have u0 := cell_obj q1 0 (.slice (some fd) M fc) rfl
      have u1 := y0 (.int .i64 X.nu) rfl
      have u2 := ys 0 (.int .i64 X.zo) rfl
      have u3 := ys 1 (.int .i64 X.ro) rfl
      obtain ⟨fj, hfj⟩ : ∃ x, fd.add (jj * 4) = x := ⟨_, rfl⟩
      rw [hfj] at u1 u2 u3
      clear q1 q2 y0 ys okA hjL hjF hjB hM
      refine wp_region_box [⟨11, 9, 56, #[.int .i64 0, .int .i64 0, .int .i64 0], 12, 29⟩] (by kernel_rfl) rfl (by kernel_rfl) (by kernel_rfl) (by kernel_rfl) ?al ?_
      case al =>
        intro b hb w
        simp only [List.mem_cons, List.not_mem_nil, or_false] at hb
        rcases hb with rfl
        kernel_rfl
      apply Exists.intro
      refine ⟨?hh, ?st, ?qq⟩
      case hh =>
        intro X
        have q0 := FrW.cell (X.fr.cell u0 (fun e => e)); have q1 := FrW.cell (X.fr.cell u1 (fun e => e)); have q2 := FrW.cell (X.fr.cell u2 (fun e => e)); have q3 := FrW.cell (X.fr.cell u3 (fun e => e)); have r0 := FrW.cell (X.fr.cell v0 (fun e => e))
        simp (config := { decide := true }) only [boxedF, bxIdx, List.flatMap_cons, List.flatMap_nil, List.cons_append, List.nil_append, idleU, if_true, if_false, ite_true, ite_false]
        repeat (go_big_quiet_step ((go_at_call 77; rename_i Y; refine (hfd.out Y.val _ (HFW.out.trans (X.fr.trans Y.fr))).mono ?_; rw [HJF.out]; rintro e w2 ⟨rfl, hF⟩; exact ⟨rfl, ⟨w2, Y.fr.trans hF⟩, rfl⟩)))
        exact wpQuiet_nil rfl
      case st =>
        intro b hb w n hw
        simp only [List.mem_cons, List.not_mem_nil, or_false] at hb
        rcases hb with rfl
        exact box_store (cs := #[.int .i64 X.nu, .int .i64 X.zo, .int .i64 X.ro]) hw rfl (by kernel_rfl) (by intro u hu; simp only [List.mem_cons, List.not_mem_nil, or_false] at hu; rcases hu with rfl | rfl | rfl <;> rfl)
      case qq =>
        intro m wz hfz hbx hdiff
        have hb9 : wz.heap[m 11]? = some (.cells #[.int .i64 X.nu, .int .i64 X.zo, .int .i64 X.ro] 56) := (hbx _ (List.mem_cons_self)).2
        have hmn : W5.heap.size ≤ m 11 := (hbx _ (List.mem_cons_self)).1
        obtain ⟨b9, hb9e⟩ : ∃ b, m 11 = b := ⟨_, rfl⟩
        rw [hb9e] at hb9 hmn
        have hlt5 : n1 < b9 := Nat.lt_of_lt_of_le (Array.getElem?_eq_some_iff.1 HX5.out).1 hmn
        have HLT5 := Lib.hid hlt5
        have HFZ := Lib.hid (HFW.out.trans hfz)
        have hxz := hfz.at_ HX5.out (fun e => e)
        have HXZ := Lib.hid hxz
        have HB9 := Lib.hid hb9
        have HPLZ := Lib.hid (HPL5.out.fr0 okPvKeeps hfz)
        have y1 := cell_obj hb9 0 (.int .i64 X.nu) rfl
        have y2 := cell_obj hb9 1 (.int .i64 X.zo) rfl
        have y3 := cell_obj hb9 2 (.int .i64 X.ro) rfl
        have z1 := cell_obj hxz 0 (.int .i64 S.2.1) rfl
        have z2 := cell_obj hxz 1 (.int .i64 S.2.2) rfl
        have z3 := cell_obj hxz 2 (.int .i64 ro) rfl
        simp only [bPuts, List.foldl_cons, List.foldl_nil, Act.put, bPtr, hb9e]
        clear hbx hdiff hfz hb9 u0 u1 u2 u3 v0 hxz hlt5 hmn
        simp only [List.setIfInBounds_toArray, List.set_cons_succ, List.set_cons_zero]
        have HS' := HS.out
        rw [← HS'] at HT HIN
        obtain ⟨⟨N', hN', i1, i2⟩, i3, i4⟩ := HIN.out
        have hNN : N' ≤ 100000000 := by rw [hN', List.length_take]; omega
        have b1 := HBO.out.nu; have b2 := HBO.out.zo
        have a1 := apartI_in (a := X.zo) (b := S.2.2) (by show 0 ≤ X.e.zo ∧ X.e.zo ≤ 4096; omega) (by omega)
        have a2 := apartI_in (a := X.nu) (b := S.2.1) (by show 0 ≤ X.e.nu ∧ X.e.nu ≤ 4096; omega) (by omega)
        have hkZ := Lib.hid (fun W => kApart W X.zo S.2.2 (by show 0 ≤ X.e.zo ∧ X.e.zo ≤ 4096; omega) (by omega))
        have hkN := Lib.hid (fun W => kApart W X.nu S.2.1 (by show 0 ≤ X.e.nu ∧ X.e.nu ≤ 4096; omega) (by omega))
        obtain ⟨AZ, hAZ⟩ : ∃ x, apartI X.zo S.2.2 = x := ⟨_, rfl⟩
        obtain ⟨AN, hAN⟩ : ∃ x, apartI X.nu S.2.1 = x := ⟨_, rfl⟩
        have hwS : wayS X.e S = (S.1 + (100 * AZ + AN), X.nu, X.zo) := by unfold wayS; rw [← hAZ, ← hAN]; rfl
        rw [hwS] at HT
        rw [hAZ] at a1 hkZ; rw [hAN] at a2 hkN
        obtain ⟨S1, S2, S3⟩ := S
        dsimp only at *
        clear hAZ hAN hwS HS' hN' b1 b2
        have y1 := FrW.cell y1; have y2 := FrW.cell y2; have z1 := FrW.cell z1; have z2 := FrW.cell z2
        go_wp2_with fail
        refine wp_region_fr (by kernel_rfl) (by kernel_rfl) ?_
        repeat (go_big_quiet_step ((go_at_call 79; rename_i X; (first | (with_reducible refine (hkZ.out X.val).mono ?_) | (with_reducible refine (hkN.out X.val).mono ?_)); rintro e w2 ⟨rfl, rfl⟩; exact ⟨rfl, ⟨_, X.fr⟩, rfl⟩)))
        refine wpQuiet_nil ?_
        rintro V ⟨⟨_, hV⟩, rfl⟩
        have hbV := hV.at_ HB9.out (fun e => e)
        have hxV := hV.at_ HXZ.out (fun e => e)
        have HXV := Lib.hid hxV
        have HFV := Lib.hid (HFZ.out.trans hV)
        have HPLV := Lib.hid (HPLZ.out.fr0 okPvKeeps hV)
        clear y1 y2 y3 z1 z2 z3
        have y1 := cell_obj hbV 0 (.int .i64 X.nu) rfl
        have y2 := cell_obj hbV 1 (.int .i64 X.zo) rfl
        have y3 := cell_obj hbV 2 (.int .i64 X.ro) rfl
        have z1 := cell_obj hxV 0 (.int .i64 S2) rfl
        have z2 := cell_obj hxV 1 (.int .i64 S3) rfl
        have z3 := cell_obj hxV 2 (.int .i64 ro) rfl
        have f0 := obj_frozen hxV 0; have f1 := obj_frozen hxV 1; have f2 := obj_frozen hxV 2
        clear hbV hxV hV
        go_wp2_with fail
        go_roundw
        case rel =>
          have hn := HN1.out
          refine ⟨k + 1, (S1 + (100 * AZ + AN), X.nu, X.zo), X.ro, by omega, rfl, by go_num, HT.out.symm, ?_, ?_, ?_⟩
          · exact ((HFV.out.setCell (p := ⟨n1, 0, none⟩) (fun e => by have e : n1 < w.heap.size := e; omega) _).setCell (p := ⟨n1, 1, none⟩) (fun e => by have e : n1 < w.heap.size := e; omega) _).setCell (p := ⟨n1, 2, none⟩) (fun e => by have e : n1 < w.heap.size := e; omega) _
          · rw [obj_set (obj_set (obj_set HXV.out 0 _) 1 _) 2 _]; rfl
          · exact Pl.keep HPLV.out ((((Fr.refl (fun c => c = n1) V).setCell (p := ⟨n1, 0, none⟩) (fun _ => rfl) _).setCell (p := ⟨n1, 1, none⟩) (fun _ => rfl) _).setCell (p := ⟨n1, 2, none⟩) (fun _ => rfl) _) hne.out
        case measure => simp [intOf]; omega
    · obtain rfl : k = N := by omega
      have hkI : ¬ (k : Int) < k := by omega
      have hr2 : Hid (S.1 = RES) := Lib.hid (by rw [HS.out, List.take_of_length_le (by rw [HN.out]; exact Nat.le_refl _)]; exact hres.out)
      clear hfr hS hxr hpl
      go_wp2_with fail
      go_ret
      exact ⟨by rw [hr2.out]; rfl, HFR.out⟩
end Go.Proofs.YtefjdcghdcbojaaGreat

