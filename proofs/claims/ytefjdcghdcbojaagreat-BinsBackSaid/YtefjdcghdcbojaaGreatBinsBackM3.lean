/- Texts of this claim, joined: slices.SortStableFunc on []int: symMerge; slices.SortStableFunc on []int: symMerge, whatever the lengths; the blocks; the whole; bins: order's comparison; slices.SortStableFunc at a nil slice; bins: order: the places of the bins that are gone through, in order; bins: a floor as a thing of its own; slices.Clone on bins; entrepotref27: Find; items: May; entrepotref05.May; entrepotref06: Good, May, Same; entrepotref06: May, Same; Slices of bytes; cells: numbers as bytes: Num; cells.Num: walked; slices.Grow, slices.Concat, slices.Clone at bytes; slices.Concat, slices.Clone at bytes; cells.Maker: put, Num, Flag, New, Done. -/
import Derived.Test.YtefjdcghdcbojaaGreatBinsBackM2
import Derived.Deep.DeepCutAuto
import Derived.Test.YtefjdcghdcbojaaGreatBinsBackM1
import Derived.BigQuiet
import Derived.OwnWalk
import Derived.BigRegion
import Derived.RegionTactic
import Derived.Deep.QuietTactic
import Derived.Shelf.Abstract
import Derived.Test.YtefjdcghdcbojaaGreatLen64
import Derived.Maps.AppendAt
import Derived.RangeFuncBox
import Derived.Laws.BitsAllLaws
import Derived.Deep.LoopGhost
import Derived.Deep.RegionWith
namespace Go.Proofs.YtefjdcghdcbojaaGreat
open Go.RowKit
/-- What a merge does. -/
def SymOk (g : Nat) (cb : Array Value) (cf : Int → Int → Int) (T : EI → EI → Bool) (b n cap : Nat) (d : Nat) : Prop :=
  ∀ (w : World) (P A B S : List EI) (ia im ib : Int), A.length + B.length ≤ d → 0 < A.length → 0 < B.length → RwI w b (P ++ (A ++ (B ++ S))) → n = (P ++ (A ++ (B ++ S))).length → ia = (P.length : Int) → im = ((P.length + A.length : Nat) : Int) → ib = ((P.length + A.length + B.length : Nat) : Int) →
    Srt T A → Srt T B → (∀ p ∈ B, ∀ q ∈ A, Rgt cf T p q) → CmpI g cb cf b w →
    Calls Tryz.prog 128 #[.slice (some ⟨b, 0, none⟩) n cap, .int .i64 ia, .int .i64 im, .int .i64 ib, .func (.func g) #[] cb] w fun e w' => e = .returned (.tuple #[]) ∧ ∃ Z, RwI w' b (P ++ (Z ++ S)) ∧ Srt T Z ∧ Z.Perm (A ++ B) ∧ Fr (fun c => c = b) w w'
theorem snoc_of_take {A : List EI} {s : Nat} {x : EI} {W : List EI} {l : EI} (hx : A[s]? = some x) (h : A.take (s + 1) = W ++ [l]) : l = x := by
  rw [List.take_add_one, hx] at h
  have := List.append_inj_right' h rfl
  injection this with this
  exact this.symm
theorem cons_of_drop {B : List EI} {s : Nat} {y : EI} {V : List EI} {f : EI} (hy : B[s]? = some y) (h : B.drop s = f :: V) : f = y := by
  rw [List.drop_eq_getElem_cons (List.getElem?_eq_some_iff.1 hy).1, (List.getElem?_eq_some_iff.1 hy).2] at h
  injection h with h
  exact h.symm
theorem rotX (w : World) (b n cap : Nat) (fv : Value) (P A B S : List EI) {ia im ib : Int} (h : RwI w b (P ++ (A ++ (B ++ S)))) (hn : n = (P ++ (A ++ (B ++ S))).length) (hm : n ≤ 1000000000000) (ha : ia = (P.length : Int)) (hpm : im = ((P.length + A.length : Nat) : Int)) (hb : ib = ((P.length + A.length + B.length : Nat) : Int)) (h1 : 0 < A.length) (h2 : 0 < B.length) :
    Calls Tryz.prog 140 #[.slice (some ⟨b, 0, none⟩) n cap, .int .i64 ia, .int .i64 im, .int .i64 ib, fv] w fun e w' => e = .returned (.tuple #[]) ∧ RwI w' b (P ++ (B ++ (A ++ S))) ∧ Fr (fun c => c = b) w w' := by
  subst ha hpm hb
  exact rotI w b n cap P.length (P.length + A.length) (P.length + A.length + B.length) fv P A B S h hn hm rfl rfl rfl h1 h2
/-- The search's ends: what is known left of the place, right of it. -/
def LoC (T : EI → EI → Bool) (A B : List EI) (M u i : Nat) : Prop := i = u ∨ ∃ x y, 0 < i ∧ A[i - 1]? = some x ∧ B[M - i]? = some y ∧ T x y = true
def UpC (T : EI → EI → Bool) (A B : List EI) (M v j : Nat) : Prop := j = v ∨ ∃ x y, A[j]? = some x ∧ B[M - 1 - j]? = some y ∧ T y x = true
/-- Where the search ends, what stands left is below what stands right. -/
theorem cut_lt {T : EI → EI → Bool} {A B : List EI} {M u v s : Nat} (tr : ∀ a b c, T a b = true → T b c = true → T a c = true) (hA : Srt T A) (hB : Srt T B) (hu : u = M - B.length) (hv : v = min M A.length) (hs1 : u ≤ s) (hs2 : s ≤ v) (hlo : LoC T A B M u s) (hup : UpC T A B M v s) :
    (∀ x ∈ A.take s, ∀ y ∈ B.drop (M - s), T x y = true) ∧ (∀ y ∈ B.take (M - s), ∀ x ∈ A.drop s, T y x = true) := by
  have hA' : Srt T (A.take s ++ A.drop s) := by rw [List.take_append_drop]; exact hA
  have hB' : Srt T (B.take (M - s) ++ B.drop (M - s)) := by rw [List.take_append_drop]; exact hB
  constructor
  · refine ends_lt tr hA'.left hB'.right (fun W x y V e1 e2 => ?_)
    have l1 : 0 < s := by
      rcases Nat.eq_zero_or_pos s with h | h
      · subst h; rw [List.take_zero] at e1; simp at e1
      · exact h
    have l2 : M - s < B.length := by
      rcases Nat.lt_or_ge (M - s) B.length with h | h
      · exact h
      · rw [List.drop_of_length_le h] at e2; cases e2
    rcases hlo with h | ⟨x', y', _, h1, h2, h3⟩
    · exfalso; omega
    · rw [show s = (s - 1) + 1 by omega] at e1
      rw [snoc_of_take h1 e1, cons_of_drop h2 e2]; exact h3
  · refine ends_lt tr hB'.left hA'.right (fun W y x V e1 e2 => ?_)
    have l1 : 0 < M - s := by
      rcases Nat.eq_zero_or_pos (M - s) with h | h
      · rw [h, List.take_zero] at e1; simp at e1
      · exact h
    have l2 : s < A.length := by
      rcases Nat.lt_or_ge s A.length with h | h
      · exact h
      · rw [List.drop_of_length_le h] at e2; cases e2
    rcases hup with h | ⟨x', y', h1, h2, h3⟩
    · exfalso; omega
    · rw [show M - s = (M - 1 - s) + 1 by omega] at e1
      rw [snoc_of_take h2 e1, cons_of_drop h1 e2]; exact h3
set_option maxRecDepth 100000 in
set_option maxHeartbeats 16000000 in
theorem symI3 (b n cap g : Nat) (cb : Array Value) (cf : Int → Int → Int) (T : EI → EI → Bool) (d : Nat) (eg : ∀ args w, (callFunc g args).run Tryz.prog w = .ok (.enter g args) w) (hm : n ≤ 1000000000000) (tr : ∀ a b c, T a b = true → T b c = true → T a c = true) (ih : SymOk g cb cf T b n cap d)
    (w : World) (P A B S : List EI) (ia im ib : Int) (hd : A.length + B.length ≤ d + 1) (hA2 : 2 ≤ A.length) (hB2 : 2 ≤ B.length) (h : RwI w b (P ++ (A ++ (B ++ S)))) (hn : n = (P ++ (A ++ (B ++ S))).length) (ha : ia = (P.length : Int)) (hpm : im = ((P.length + A.length : Nat) : Int)) (hb : ib = ((P.length + A.length + B.length : Nat) : Int))
    (hA : Srt T A) (hB : Srt T B) (hR : ∀ p ∈ B, ∀ q ∈ A, Rgt cf T p q) (hc : CmpI g cb cf b w) :
    Calls Tryz.prog 128 #[.slice (some ⟨b, 0, none⟩) n cap, .int .i64 ia, .int .i64 im, .int .i64 ib, .func (.func g) #[] cb] w fun e w' => e = .returned (.tuple #[]) ∧ ∃ Z, RwI w' b (P ++ (Z ++ S)) ∧ Srt T Z ∧ Z.Perm (A ++ B) ∧ Fr (fun c => c = b) w w' := by
  obtain ⟨pa, hpa⟩ : ∃ pa, P.length = pa := ⟨_, rfl⟩
  obtain ⟨la, hla⟩ : ∃ la, A.length = la := ⟨_, rfl⟩
  obtain ⟨lb, hlb⟩ : ∃ lb, B.length = lb := ⟨_, rfl⟩
  have hlen : n = pa + la + lb + S.length := by simp at hn; omega
  rw [hpa] at ha hb hpm
  rw [hla] at hb hpm hA2 hd
  rw [hlb] at hb hB2 hd
  obtain ⟨pm, hpm'⟩ : ∃ pm, pa + la = pm := ⟨_, rfl⟩
  obtain ⟨pb, hpb'⟩ : ∃ pb, pm + lb = pb := ⟨_, rfl⟩
  rw [hpm'] at hpm hb
  rw [hpb'] at hb
  subst ha hb hpm
  have H0 := Lib.hid h; have HM := Lib.hid hm; have HN := Lib.hid hn; have HPA := Lib.hid hpa; have HLA := Lib.hid hla; have HLB := Lib.hid hlb; have HRR := Lib.hid hR; have HC := Lib.hid hc; have HTR := Lib.hid tr; have HSA := Lib.hid hA; have HSB := Lib.hid hB; have IH := Lib.hid ih
  have HD := Lib.hid hd; have HLEN := Lib.hid hlen
  have i1 : (n : Int) ≤ 1000000000000 := by omega
  have i2 : (pb : Int) ≤ n := by omega
  have i3 : (pa : Int) + la ≤ pm := by omega
  have i4 : (pm : Int) ≤ pa + la := by omega
  have i5 : (pm : Int) + lb ≤ pb := by omega
  have i6 : (pb : Int) ≤ pm + lb := by omega
  have b1 : ((pm : Int) - (pa : Int) == 1) = false := by simp; omega
  have b2 : ((pb : Int) - (pm : Int) == 1) = false := by simp; omega
  obtain ⟨mid, hmid⟩ : ∃ m, (pa + pb) / 2 = m := ⟨_, rfl⟩
  have he : ((pa : Int) + pb) / 2 = mid := by omega
  obtain ⟨M, hM⟩ : ∃ M, pa + M = mid := ⟨mid - pa, by omega⟩
  have hM1 : 2 * M ≤ la + lb := by omega
  have hM2 : la + lb ≤ 2 * M + 1 := by omega
  have j1 : (pa : Int) + M ≤ mid := by omega
  have j2 : (mid : Int) ≤ pa + M := by omega
  obtain ⟨u0, hu⟩ : ∃ u, u = M - lb := ⟨_, rfl⟩
  obtain ⟨v0, hv⟩ : ∃ v, v = min M la := ⟨_, rfl⟩
  have HU := Lib.hid hu; have HV := Lib.hid hv
  have k1 : u0 ≤ v0 := by omega
  have k2 : v0 ≤ la := by omega
  have k3 : v0 ≤ M := by omega
  have k4 : M ≤ u0 + lb := by omega
  have HPM := Lib.hid hpm'; have HPB := Lib.hid hpb'; have HMID := Lib.hid hM
  have hsl : (mid < pm ∧ (mid : Int) + pm - pb = pa + u0 ∧ (mid : Int) = pa + v0) ∨ (pm ≤ mid ∧ u0 = 0 ∧ (pm : Int) = pa + v0) := by omega
  clear h hn hpa hla hlb hR hc tr hlen hA hB ih hd hm hmid hM hu hv hpm' hpb'
  rcases hsl with ⟨hh, e1, e2⟩ | ⟨hh, e1, e2⟩
  all_goals
    first
    | have hhI : (mid : Int) < (pm : Int) := by omega
    | have hhI : ¬ (mid : Int) < (pm : Int) := by omega
    have E1 := Lib.hid e1; have E2 := Lib.hid e2
    clear e1 e2
    go_enter Tryz.func128, Tryz.ntmps128
    go_wp2_with fail
    go_loopw [20, 21] (fun vi vj wr => ∃ i j : Nat, vi = .int .i64 ((pa : Int) + i) ∧ vj = .int .i64 ((pa : Int) + j) ∧ u0 ≤ i ∧ i ≤ j ∧ j ≤ v0 ∧ LoC T A B M u0 i ∧ UpC T A B M v0 j ∧ Fr (fun _ => False) w wr) (fun vi vj _ => (intOf vj - intOf vi).toNat)
    case atStart => exact ⟨u0, v0, by first | rfl | (rw [E1.out]; done) | (rw [E1.out]; simp; done), by first | rfl | (rw [E2.out]; done), Nat.le_refl _, k1, Nat.le_refl _, .inl rfl, .inl rfl, Fr.refl _ _⟩
    case round => as_aux_lemma =>
      obtain ⟨i, j, rfl, rfl, hui, hij, hjl, hlo, hup, hf⟩ := hrel
      have HLO := Lib.hid hlo; have HUP := Lib.hid hup; have HF := Lib.hid hf
      clear hlo hup hf
      by_cases hlt : i < j
      · have hltI : (pa : Int) + i < (pa : Int) + j := by omega
        obtain ⟨hq, hhh⟩ : ∃ q, (i + j) / 2 = q := ⟨_, rfl⟩
        have hq1 : i ≤ hq := by omega
        have hq2 : hq < j := by omega
        have he2 : ((pa : Int) + i + ((pa : Int) + j)) / 2 = (pa : Int) + hq := by omega
        obtain ⟨x, hx⟩ : ∃ x, A[hq]? = some x := ⟨A[hq]'(by rw [HLA.out]; omega), List.getElem?_eq_getElem _⟩
        obtain ⟨y, hy⟩ : ∃ y, B[M - 1 - hq]? = some y := ⟨B[M - 1 - hq]'(by rw [HLB.out]; omega), List.getElem?_eq_getElem _⟩
        have hrw := H0.out.fr HF.out (fun e => e)
        have hax : (P ++ (A ++ (B ++ S)))[pa + hq]? = some x := by
          rw [List.getElem?_append_right (by rw [HPA.out]; omega), HPA.out, show pa + hq - pa = hq by omega, List.getElem?_append_left (by rw [HLA.out]; omega)]
          exact hx
        have hby : (P ++ (A ++ (B ++ S)))[pm + (M - 1 - hq)]? = some y := by
          rw [List.getElem?_append_right (by rw [HPA.out]; omega), HPA.out, show pm + (M - 1 - hq) - pa = la + (M - 1 - hq) by omega, List.getElem?_append_right (by rw [HLA.out]; omega), HLA.out, show la + (M - 1 - hq) - la = M - 1 - hq by omega, List.getElem?_append_left (by rw [HLB.out]; omega)]
          exact hy
        have c1 := FrW.cell (hrw.cell hax)
        have c2 := FrW.cell (hrw.cell hby)
        obtain ⟨qa, hqa⟩ : ∃ q, pa + hq = q := ⟨_, rfl⟩
        obtain ⟨qb, hqb⟩ : ∃ q, pm + (M - 1 - hq) = q := ⟨_, rfl⟩
        rw [hqa] at c1
        rw [hqb] at c2
        have ta : ((pa : Int) + hq).toNat = qa := by omega
        have tb : ((mid : Int) + pm - 1 - ((pa : Int) + hq)).toNat = qb := by omega
        have za : (0 : Int) ≤ (pa : Int) + hq := by omega
        have zb : (0 : Int) ≤ (mid : Int) + pm - 1 - ((pa : Int) + hq) := by omega
        have la1 : (pa : Int) + hq < n := by omega
        have lb1 : (mid : Int) + pm - 1 - ((pa : Int) + hq) < n := by omega
        have rb : IntKind.i64.wrap ((mid : Int) + pm - 1 - ((pa : Int) + hq)) = (mid : Int) + pm - 1 - ((pa : Int) + hq) := IntWalk.i64_in _ (by omega)
        have hry := HRR.out y (List.mem_of_getElem? hy) x (List.mem_of_getElem? hx)
        have HDM := Lib.hid hry.2.2
        have HX := Lib.hid hx; have HY := Lib.hid hy
        clear hrw hax hby hqa hqb hhh hx hy
        cases hT : T y x with
        | true =>
          have hv : decide (cf y.1 x.1 < 0) = true := hry.1.trans hT
          have hnx : Hid (UpC T A B M v0 hq) := Lib.hid (.inr ⟨x, y, HX.out, HY.out, hT⟩)
          clear hry
          go_wp2_with fail
          refine wp_region_fr (by kernel_rfl) (by kernel_rfl) ?_
          repeat (go_big_quiet_step ((go_at_fn g; rename_i X; refine (HC.out _ _ _ ((HF.out.mono (fun _ _ e => e.elim)).trans (X.fr.mono (fun _ _ e => e.elim))) HDM.out).mono ?_; rintro e w2 ⟨rfl, hF⟩; exact ⟨rfl, ⟨w2, X.fr.trans hF⟩, rfl⟩)))
          refine wpQuiet_nil ?_
          rintro V ⟨⟨_, hV⟩, rfl⟩
          go_wp2_with fail
          go_roundw
          case rel => exact ⟨i, hq, rfl, by first | rfl | (congr 1; done) | (congr 1; omega), hui, hq1, by omega, HLO.out, hnx.out, HF.out.trans hV⟩
          case measure => simp [intOf]; omega
        | false =>
          have hv : decide (cf y.1 x.1 < 0) = false := hry.1.trans hT
          have hnx : Hid (LoC T A B M u0 (hq + 1)) := Lib.hid (.inr ⟨x, y, by omega, by simpa using HX.out, by rw [show M - (hq + 1) = M - 1 - hq by omega]; exact HY.out, hry.2.1 hT⟩)
          clear hry
          go_wp2_with fail
          refine wp_region_fr (by kernel_rfl) (by kernel_rfl) ?_
          repeat (go_big_quiet_step ((go_at_fn g; rename_i X; refine (HC.out _ _ _ ((HF.out.mono (fun _ _ e => e.elim)).trans (X.fr.mono (fun _ _ e => e.elim))) HDM.out).mono ?_; rintro e w2 ⟨rfl, hF⟩; exact ⟨rfl, ⟨w2, X.fr.trans hF⟩, rfl⟩)))
          refine wpQuiet_nil ?_
          rintro V ⟨⟨_, hV⟩, rfl⟩
          go_wp2_with fail
          go_roundw
          case rel => exact ⟨hq + 1, j, by first | rfl | (congr 1; done) | (congr 1; omega), rfl, by omega, by omega, hjl, hnx.out, HUP.out, HF.out.trans hV⟩
          case measure => simp [intOf]; omega
      · obtain rfl : i = j := by omega
        have hltI : ¬ (pa : Int) + i < (pa : Int) + i := by omega
        obtain ⟨c1, c2⟩ := cut_lt HTR.out HSA.out HSB.out (by rw [HLB.out]; exact HU.out) (by rw [HLA.out]; exact HV.out) hui hjl HLO.out HUP.out
        obtain ⟨A1, A2, hAA, hl1, hl2⟩ := split_len A (k := i) (by rw [HLA.out]; omega)
        obtain ⟨B1, B2, hBB, hl3, hl4⟩ := split_len B (k := M - i) (by rw [HLB.out]; omega)
        have e1 : A.take i = A1 := by rw [hAA, ← hl1, List.take_left]
        have e2 : A.drop i = A2 := by rw [hAA, ← hl1, List.drop_left]
        have e3 : B.take (M - i) = B1 := by rw [hBB, ← hl3, List.take_left]
        have e4 : B.drop (M - i) = B2 := by rw [hBB, ← hl3, List.drop_left]
        rw [e1, e4] at c1
        rw [e3, e2] at c2
        obtain ⟨l2, hl2'⟩ : ∃ l, A2.length = l := ⟨_, rfl⟩
        obtain ⟨l3, hl3'⟩ : ∃ l, B1.length = l := ⟨_, rfl⟩
        obtain ⟨l4, hl4'⟩ : ∃ l, B2.length = l := ⟨_, rfl⟩
        have q1 : i + l2 = la := by have := HLA.out; omega
        have q2 : i + l3 = M := by omega
        have q3 : l3 + l4 = lb := by have := HLB.out; omega
        have HQ := Lib.hid (And.intro hl1 (And.intro hl2' (And.intro hl3' (And.intro hl4' (And.intro q1 (And.intro q2 q3))))))
        have HAA := Lib.hid hAA; have HBB := Lib.hid hBB; have HC1 := Lib.hid c1; have HC2 := Lib.hid c2
        have hr0 : RwI wr b (P ++ (A1 ++ (A2 ++ (B1 ++ (B2 ++ S))))) := by have := H0.out.fr HF.out (fun e => e); rw [hAA, hBB, List.append_assoc, List.append_assoc] at this; exact this
        have HR0 := Lib.hid hr0
        have HS1 : Hid (Srt T A1 ∧ Srt T A2 ∧ Srt T B1 ∧ Srt T B2) := Lib.hid (by have h1 := HSA.out; have h2 := HSB.out; rw [hAA] at h1; rw [hBB] at h2; exact ⟨h1.left, h1.right, h2.left, h2.right⟩)
        have HRG : Hid ((∀ p ∈ B1, ∀ q ∈ A1, Rgt cf T p q) ∧ (∀ p ∈ B2, ∀ q ∈ A2, Rgt cf T p q)) := Lib.hid (by
          have h1 := HRR.out
          rw [hAA, hBB] at h1
          exact ⟨fun p hp q hq => h1 p (by simp [hp]) q (by simp [hq]), fun p hp q hq => h1 p (by simp [hp]) q (by simp [hq])⟩)
        obtain ⟨pe, hpe⟩ : ∃ pe, pm + l3 = pe := ⟨_, rfl⟩
        have HPE := Lib.hid hpe
        have he3 : (mid : Int) + pm - ((pa : Int) + i) = (pe : Int) := by omega
        have v1 : (pe : Int) ≤ pm + l3 := by omega
        have v2 : (pm : Int) + l3 ≤ pe := by omega
        have v3 : (pa : Int) + i + l2 ≤ pm := by omega
        have v4 : (pm : Int) ≤ pa + i + l2 := by omega
        have v5 : (pa : Int) + i + l3 ≤ mid := by omega
        have v6 : (mid : Int) ≤ pa + i + l3 := by omega
        have v7 : (pe : Int) + l4 ≤ pb := by omega
        have v8 : (pb : Int) ≤ pe + l4 := by omega
        clear e1 e2 e3 e4 hl1 hl2 hl3 hl4 hl2' hl3' hl4' q1 q2 q3 hAA hBB c1 c2 hr0 hpe HLO HUP
        obtain ⟨G1, hG1⟩ : ∃ G, decide (0 < l2 ∧ 0 < l3) = G := ⟨_, rfl⟩
        obtain ⟨G2, hG2⟩ : ∃ G, decide (0 < i ∧ 0 < l3) = G := ⟨_, rfl⟩
        obtain ⟨G3, hG3⟩ : ∃ G, decide (0 < l2 ∧ 0 < l4) = G := ⟨_, rfl⟩
        have HG1 := Lib.hid hG1; have HG2 := Lib.hid hG2; have HG3 := Lib.hid hG3
        clear hG1 hG2 hG3
        go_upto_region 39 with (fail)
        go_cut [185] (fun s wx => s = .bool G1 ∧ wr = wx)
        case first => as_aux_lemma =>
          rcases (by omega : (0 < l2 ∧ 0 < l3) ∨ (l2 = 0) ∨ (0 < l2 ∧ l3 = 0)) with ⟨w1, w2⟩ | w1 | ⟨w1, w2⟩
          · have z1 : (pa : Int) + i < pm := by omega
            have z2 : (pm : Int) < pe := by omega
            have hg : G1 = true := by rw [← HG1.out]; simp [w1, w2]
            clear HG1
            go_wp2_with fail
            go_meet
            exact ⟨by rw [hg], rfl⟩
          · have z1 : ¬ (pa : Int) + i < pm := by omega
            have hg : G1 = false := by rw [← HG1.out]; simp [w1]
            clear HG1
            go_wp2_with fail
            go_meet
            exact ⟨by rw [hg], rfl⟩
          · have z1 : (pa : Int) + i < pm := by omega
            have z2 : ¬ (pm : Int) < pe := by omega
            have hg : G1 = false := by rw [← HG1.out]; simp [w2]
            clear HG1
            go_wp2_with fail
            go_meet
            exact ⟨by rw [hg], rfl⟩
        case rest => as_aux_lemma =>
          obtain ⟨rfl, rfl⟩ := hcut
          go_upto_if 185 with (fail)
          go_cut [191] (fun s wx => RwI wx b (P ++ (A1 ++ (B1 ++ (A2 ++ (B2 ++ S))))) ∧ Fr (fun c => c = b) w wx)
          case first => as_aux_lemma =>
            cases G1 with
            | true =>
              have hg : 0 < l2 ∧ 0 < l3 := of_decide_eq_true HG1.out
              go_wp2_with fail
              refine (rotX wr b n cap _ (P ++ A1) A2 B1 (B2 ++ S) (by have := HR0.out; simpa using this) (by have := HLEN.out; have := HQ.out; have := HPA.out; simp; omega) HM.out (by have := HQ.out; have := HPA.out; simp; omega) (by have := HQ.out; have := HPA.out; simp; omega) (by have := HQ.out; have := HPA.out; simp; omega) (by have := HQ.out; omega) (by have := HQ.out; omega)).mono ?_
              rintro e w3 ⟨rfl, hr3, hf3⟩
              have HR3 := Lib.hid hr3; have HF3 := Lib.hid ((HF.out.mono (fun _ _ e => e.elim)).trans hf3)
              clear hr3 hf3 hg
              go_wp2_with fail
              go_meet
              exact ⟨by have := HR3.out; simpa using this, HF3.out⟩
            | false =>
              have hg : l2 = 0 ∨ l3 = 0 := by have := of_decide_eq_false HG1.out; omega
              have hr1 : RwI wr b (P ++ (A1 ++ (B1 ++ (A2 ++ (B2 ++ S))))) := by
                rcases hg with hg | hg
                · have : A2 = [] := List.eq_nil_of_length_eq_zero (by have := HQ.out; omega)
                  have h := HR0.out; rw [this] at h ⊢; exact h
                · have : B1 = [] := List.eq_nil_of_length_eq_zero (by have := HQ.out; omega)
                  have h := HR0.out; rw [this] at h ⊢; exact h
              have HR1 := Lib.hid hr1
              clear hg hr1
              go_wp2_with fail
              go_meet
              exact ⟨HR1.out, HF.out.mono (fun _ _ e => e.elim)⟩
          case rest => as_aux_lemma =>
            obtain ⟨hr1, hf1⟩ := hcut
            have HR1 := Lib.hid hr1; have HF1 := Lib.hid hf1
            clear hr1 hf1 HR0 HF
            go_upto_region 41 with (fail)
            go_cut [199] (fun s wx => s = .bool G2 ∧ wc = wx)
            case first => as_aux_lemma =>
              rcases (by omega : (0 < i ∧ 0 < l3) ∨ (i = 0) ∨ (0 < i ∧ l3 = 0)) with ⟨w1, w2⟩ | w1 | ⟨w1, w2⟩
              · have z1 : (pa : Int) < (pa : Int) + i := by omega
                have z2 : (pa : Int) + i < mid := by omega
                have z3 : (0 : Int) < (i : Int) := by omega
                have hg : G2 = true := by rw [← HG2.out]; simp [w1, w2]
                clear HG2
                go_wp2_with fail
                go_meet
                exact ⟨by rw [hg], rfl⟩
              · have z1 : ¬ (pa : Int) < (pa : Int) + i := by omega
                have z3 : ¬ (0 : Int) < (i : Int) := by omega
                have hg : G2 = false := by rw [← HG2.out]; simp [w1]
                have w1' := Lib.hid w1
                clear HG2 w1
                go_wp2_with fail
                go_meet
                exact ⟨by rw [hg], rfl⟩
              · have z1 : (pa : Int) < (pa : Int) + i := by omega
                have z2 : ¬ (pa : Int) + i < mid := by omega
                have z3 : (0 : Int) < (i : Int) := by omega
                have hg : G2 = false := by rw [← HG2.out]; simp [w2]
                clear HG2
                go_wp2_with fail
                go_meet
                exact ⟨by rw [hg], rfl⟩
            case rest => as_aux_lemma =>
              obtain ⟨rfl, rfl⟩ := hcut
              go_upto_if 199 with (fail)
              go_cut [205] (fun s wx => ∃ Z1, RwI wx b (P ++ (Z1 ++ (A2 ++ (B2 ++ S)))) ∧ Srt T Z1 ∧ Z1.Perm (A1 ++ B1) ∧ Fr (fun c => c = b) w wx)
              case first => as_aux_lemma =>
                cases G2 with
                | true =>
                  have hg : 0 < i ∧ 0 < l3 := of_decide_eq_true HG2.out
                  go_wp2_with fail
                  refine (IH.out _ P A1 B1 (A2 ++ (B2 ++ S)) _ _ _ (by have := HQ.out; have := HD.out; omega) (by have := HQ.out; omega) (by have := HQ.out; omega) HR1.out (by have := HLEN.out; have := HQ.out; have := HPA.out; simp; omega) (by have := HPA.out; omega) (by have := HQ.out; have := HPA.out; omega) (by have := HQ.out; have := HPA.out; omega) HS1.out.1 HS1.out.2.2.1 HRG.out.1 (HC.out.fr HF1.out)).mono ?_
                  rintro e w3 ⟨rfl, Z1, hr3, hs3, hp3, hf3⟩
                  have HR3 := Lib.hid hr3; have HF3 := Lib.hid (HF1.out.trans hf3); have HS3 := Lib.hid hs3; have HP3 := Lib.hid hp3
                  clear hr3 hf3 hg hs3 hp3
                  go_wp2_with fail
                  go_meet
                  exact ⟨Z1, HR3.out, HS3.out, HP3.out, HF3.out⟩
                | false =>
                  have hg : i = 0 ∨ l3 = 0 := by have := of_decide_eq_false HG2.out; omega
                  have hs : Hid (Srt T (A1 ++ B1)) := Lib.hid (by
                    rcases hg with hg | hg
                    · have : A1 = [] := List.eq_nil_of_length_eq_zero (by have := HQ.out; omega)
                      rw [this]; exact HS1.out.2.2.1
                    · have : B1 = [] := List.eq_nil_of_length_eq_zero (by have := HQ.out; omega)
                      rw [this, List.append_nil]; exact HS1.out.1)
                  clear hg
                  go_wp2_with fail
                  go_meet
                  exact ⟨A1 ++ B1, by have := HR1.out; simpa using this, hs.out, List.Perm.refl _, HF1.out⟩
              case rest => as_aux_lemma =>
                obtain ⟨Z1, hr2, hs2, hp2, hf2⟩ := hcut
                have HR2 := Lib.hid hr2; have HF2 := Lib.hid hf2; have HS2 := Lib.hid hs2; have HP2 := Lib.hid hp2
                have HZL : Hid (Z1.length = M) := Lib.hid (by have := hp2.length_eq; have := HQ.out; simp at *; omega)
                clear hr2 hf2 hs2 hp2
                go_upto_region 43 with (fail)
                go_cut [213] (fun s wx => s = .bool G3 ∧ wc = wx)
                case first => as_aux_lemma =>
                  rcases (by omega : (0 < l2 ∧ 0 < l4) ∨ (l2 = 0) ∨ (0 < l2 ∧ l4 = 0)) with ⟨w1, w2⟩ | w1 | ⟨w1, w2⟩
                  · have z1 : (mid : Int) < pe := by omega
                    have z2 : (pe : Int) < pb := by omega
                    have hg : G3 = true := by rw [← HG3.out]; simp [w1, w2]
                    clear HG3
                    go_wp2_with fail
                    go_meet
                    exact ⟨by rw [hg], rfl⟩
                  · have z1 : ¬ (mid : Int) < pe := by omega
                    have hg : G3 = false := by rw [← HG3.out]; simp [w1]
                    clear HG3 w1
                    go_wp2_with fail
                    go_meet
                    exact ⟨by rw [hg], rfl⟩
                  · have z1 : (mid : Int) < pe := by omega
                    have z2 : ¬ (pe : Int) < pb := by omega
                    have hg : G3 = false := by rw [← HG3.out]; simp [w2]
                    clear HG3 w2
                    go_wp2_with fail
                    go_meet
                    exact ⟨by rw [hg], rfl⟩
                case rest => as_aux_lemma =>
                  obtain ⟨rfl, rfl⟩ := hcut
                  cases G3 with
                  | true =>
                    have hg : 0 < l2 ∧ 0 < l4 := of_decide_eq_true HG3.out
                    go_wp2_with fail
                    refine (IH.out _ (P ++ Z1) A2 B2 S _ _ _ (by have := HQ.out; have := HD.out; omega) (by have := HQ.out; omega) (by have := HQ.out; omega) (by have := HR2.out; rw [List.append_assoc]; exact this) (by have := HLEN.out; have := HQ.out; have := HPA.out; have := HZL.out; simp; omega) (by have := HPA.out; have := HZL.out; have := HQ.out; simp; omega) (by have := HQ.out; have := HPA.out; have := HZL.out; simp; omega) (by have := HQ.out; have := HPA.out; have := HZL.out; simp; omega) HS1.out.2.1 HS1.out.2.2.2 HRG.out.2 (HC.out.fr HF2.out)).mono ?_
                    rintro e w3 ⟨rfl, Z2, hr3, hs3, hp3, hf3⟩
                    have HR3 := Lib.hid hr3; have HF3 := Lib.hid (HF2.out.trans hf3); have HS3 := Lib.hid hs3; have HP3 := Lib.hid hp3
                    clear hr3 hf3 hg hs3 hp3
                    go_wp2_with fail
                    go_end0
                    have hj := mrg_join (by rw [← HAA.out]; exact HSA.out) (by rw [← HBB.out]; exact HSB.out) HC1.out HC2.out HS2.out HS3.out HP2.out HP3.out
                    refine ⟨rfl, Z1 ++ Z2, by have := HR3.out; simpa using this, hj.1, by rw [HAA.out, HBB.out]; exact hj.2, HF3.out⟩
                  | false =>
                    have hg : l2 = 0 ∨ l4 = 0 := by have := of_decide_eq_false HG3.out; omega
                    have hs : Hid (Srt T (A2 ++ B2)) := Lib.hid (by
                      rcases hg with hg | hg
                      · have : A2 = [] := List.eq_nil_of_length_eq_zero (by have := HQ.out; omega)
                        rw [this]; exact HS1.out.2.2.2
                      · have : B2 = [] := List.eq_nil_of_length_eq_zero (by have := HQ.out; omega)
                        rw [this, List.append_nil]; exact HS1.out.2.1)
                    clear hg
                    go_wp2_with fail
                    go_end0
                    have hj := mrg_join (by rw [← HAA.out]; exact HSA.out) (by rw [← HBB.out]; exact HSB.out) HC1.out HC2.out HS2.out hs.out HP2.out (List.Perm.refl _)
                    refine ⟨rfl, Z1 ++ (A2 ++ B2), by have := HR2.out; simpa using this, hj.1, by rw [HAA.out, HBB.out]; exact hj.2, HF2.out⟩
end Go.Proofs.YtefjdcghdcbojaaGreat

namespace Go.Proofs.YtefjdcghdcbojaaGreat
open Go.RowKit
theorem symAll (b n cap g : Nat) (cb : Array Value) (cf : Int → Int → Int) (T : EI → EI → Bool) (eg : ∀ args w, (callFunc g args).run Tryz.prog w = .ok (.enter g args) w) (hm : n ≤ 1000000000000) (tr : ∀ a b c, T a b = true → T b c = true → T a c = true) : ∀ d, SymOk g cb cf T b n cap d
  | 0 => fun w P A B S ia im ib hd hA hB => by omega
  | d + 1 => fun w P A B S ia im ib hd hA hB h hn ha hpm hb sA sB hR hc => by
    by_cases h1 : A.length = 1
    · obtain ⟨x, rfl⟩ := List.length_eq_one_iff.1 h1
      refine (symI1 w b n cap g cb cf T P B S x eg (by simpa using h) (by simpa using hn) hm ha hpm (by rw [hb]; simp) tr sB (fun p hp => hR p hp x (by simp)) hc).mono ?_
      rintro e w' ⟨he, Z, z1, z2, z3, z4⟩
      exact ⟨he, Z, z1, z2, by simpa using z3, z4⟩
    · by_cases h2 : B.length = 1
      · obtain ⟨y, rfl⟩ := List.length_eq_one_iff.1 h2
        refine (symI2 w b n cap g cb cf T P A S y eg (by simpa using h) (by simpa using hn) hm ha hpm (by rw [hb]; simp) (by omega) tr sA (fun q hq => hR y (by simp) q hq) hc).mono ?_
        rintro e w' ⟨he, Z, z1, z2, z3, z4⟩
        exact ⟨he, Z, z1, z2, z3, z4⟩
      · exact symI3 b n cap g cb cf T d eg hm tr (symAll b n cap g cb cf T eg hm tr d) w P A B S ia im ib hd (by omega) (by omega) h hn ha hpm hb sA sB hR hc
/-- A part of a list. -/
def seg (xs : List EI) (a b : Nat) : List EI := (xs.take b).drop a
/-- That part rises, and holds what it held in X. -/
def Blk (T : EI → EI → Bool) (X ys : List EI) (a b : Nat) : Prop := Srt T (seg ys a b) ∧ (seg ys a b).Perm (seg X a b)
theorem seg_len {xs : List EI} {a b : Nat} (hb : b ≤ xs.length) : (seg xs a b).length = b - a := by unfold seg; simp; omega
theorem seg_split (xs : List EI) {a b : Nat} (hab : a ≤ b) : xs = xs.take a ++ (seg xs a b ++ xs.drop b) := by
  unfold seg
  have h1 : xs.take a = (xs.take b).take a := by rw [List.take_take, Nat.min_eq_left hab]
  rw [h1, ← List.append_assoc, List.take_append_drop, List.take_append_drop]
theorem seg_get (xs : List EI) (c d i : Nat) : (seg xs c d)[i]? = if c + i < d then xs[c + i]? else none := by
  unfold seg
  rw [List.getElem?_drop, List.getElem?_take]
theorem put_get {xs Z : List EI} {a b : Nat} (hab : a ≤ b) (hb : b ≤ xs.length) (hZ : Z.length = b - a) (j : Nat) : (xs.take a ++ (Z ++ xs.drop b))[j]? = if j < a then xs[j]? else if j < b then Z[j - a]? else xs[j]? := by
  have hta : (xs.take a).length = a := by simp; omega
  by_cases h1 : j < a
  · rw [if_pos h1, List.getElem?_append_left (by omega), List.getElem?_take, if_pos h1]
  · rw [if_neg h1, List.getElem?_append_right (by omega), hta]
    by_cases h2 : j < b
    · rw [if_pos h2, List.getElem?_append_left (by omega)]
    · rw [if_neg h2, List.getElem?_append_right (by omega), List.getElem?_drop]
      congr 1; omega
/-- A part is changed for another of its length: the parts elsewhere are as they were. -/
theorem seg_put {xs Z : List EI} {a b : Nat} (hab : a ≤ b) (hb : b ≤ xs.length) (hZ : Z.length = b - a) :
    (xs.take a ++ (Z ++ xs.drop b)).length = xs.length ∧ seg (xs.take a ++ (Z ++ xs.drop b)) a b = Z ∧ (∀ c d, d ≤ a → seg (xs.take a ++ (Z ++ xs.drop b)) c d = seg xs c d) ∧ (∀ c d, b ≤ c → seg (xs.take a ++ (Z ++ xs.drop b)) c d = seg xs c d) := by
  refine ⟨by simp; omega, ?_, fun c d hd => ?_, fun c d hc => ?_⟩
  · apply List.ext_getElem?
    intro i
    rw [seg_get, put_get hab hb hZ]
    by_cases h : a + i < b
    · rw [if_pos h, if_neg (by omega), if_pos h]; congr 1; omega
    · rw [if_neg h]; exact (List.getElem?_eq_none (by omega)).symm
  · apply List.ext_getElem?
    intro i
    rw [seg_get, seg_get, put_get hab hb hZ]
    by_cases h : c + i < d
    · rw [if_pos h, if_pos h, if_pos (by omega)]
    · rw [if_neg h, if_neg h]
  · apply List.ext_getElem?
    intro i
    rw [seg_get, seg_get, put_get hab hb hZ]
    by_cases h : c + i < d
    · rw [if_pos h, if_pos h, if_neg (by omega), if_neg (by omega)]
    · rw [if_neg h, if_neg h]
theorem seg_app (xs : List EI) {a m b : Nat} (h1 : a ≤ m) (h2 : m ≤ b) : seg xs a b = seg xs a m ++ seg xs m b := by
  apply List.ext_getElem?
  intro i
  rw [seg_get]
  by_cases hm : m ≤ xs.length
  · have hl : (seg xs a m).length = m - a := seg_len hm
    by_cases h : i < m - a
    · rw [List.getElem?_append_left (by omega), seg_get, if_pos (by omega), if_pos (by omega)]
    · rw [List.getElem?_append_right (by omega), seg_get, hl]
      by_cases h3 : a + i < b
      · rw [if_pos h3, if_pos (by omega)]; congr 1; omega
      · rw [if_neg h3, if_neg (by omega)]
  · have e1 : seg xs m b = [] := by unfold seg; rw [List.drop_of_length_le]; simp; omega
    rw [e1, List.append_nil, seg_get]
    by_cases h3 : a + i < m
    · rw [if_pos (by omega), if_pos h3]
    · rw [if_neg h3]
      by_cases h4 : a + i < b
      · rw [if_pos h4]; exact List.getElem?_eq_none (by omega)
      · rw [if_neg h4]
/-- What stands in a later part stands right of what stands in an earlier one. -/
theorem seg_pair {R : EI → EI → Prop} {X : List EI} (h : X.Pairwise R) {a m b : Nat} (h1 : a ≤ m) (h2 : m ≤ b) : ∀ q ∈ seg X a m, ∀ p ∈ seg X m b, R q p := by
  intro q hq p hp
  have hs : (seg X a b).Pairwise R := h.sublist ((List.drop_sublist _ _).trans (List.take_sublist _ _))
  rw [seg_app X h1 h2] at hs
  exact (List.pairwise_append.1 hs).2.2 q hq p hp
theorem seg_pw {R : EI → EI → Prop} {X : List EI} (h : X.Pairwise R) (a b : Nat) : (seg X a b).Pairwise R := h.sublist ((List.drop_sublist _ _).trans (List.take_sublist _ _))
/-- From lo to hi, in steps of s, each block rises and holds what it held. -/
def Okb (T : EI → EI → Bool) (X ys : List EI) (s lo hi : Nat) : Prop := ∀ q, lo + q * s < hi → Blk T X ys (lo + q * s) (min (lo + (q + 1) * s) hi)
theorem okb_head {T : EI → EI → Bool} {X ys : List EI} {s lo hi : Nat} (h : Okb T X ys s lo hi) (hl : lo < hi) : Blk T X ys lo (min (lo + s) hi) := by
  have := h 0 (by omega)
  simpa using this
theorem okb_tail {T : EI → EI → Bool} {X ys : List EI} {s lo hi : Nat} (h : Okb T X ys s lo hi) : Okb T X ys s (lo + s) hi := fun q hq => by
  have e1 : lo + s + q * s = lo + (q + 1) * s := by rw [Nat.add_mul]; omega
  have e2 : lo + s + (q + 1) * s = lo + (q + 1 + 1) * s := by rw [Nat.add_mul (q + 1)]; omega
  rw [e1] at hq ⊢
  rw [e2]
  exact h (q + 1) hq
theorem okb_nil {T : EI → EI → Bool} {X ys : List EI} {s lo hi : Nat} (h : hi ≤ lo) : Okb T X ys s lo hi := fun q hq => by omega
theorem okb_snoc {T : EI → EI → Bool} {X ys : List EI} {t a b k : Nat} (h : Okb T X ys t 0 a) (ha : a = k * t) (hab : a < b) (hb : b ≤ a + t) (hB : Blk T X ys a b) : Okb T X ys t 0 b := fun q hq => by
  rw [Nat.zero_add] at hq ⊢
  rw [Nat.zero_add]
  rcases Nat.lt_trichotomy q k with hl | he | hg
  · have h1 : (q + 1) * t ≤ k * t := Nat.mul_le_mul_right t hl
    have h2 := h q (by rw [Nat.zero_add]; rw [Nat.add_mul] at h1; omega)
    rw [Nat.zero_add, Nat.zero_add] at h2
    rw [Nat.min_eq_left (by omega)] at h2 ⊢
    exact h2
  · subst he
    rw [Nat.min_eq_right (by rw [Nat.add_mul]; omega), ← ha]
    exact hB
  · have h1 : (k + 1) * t ≤ q * t := Nat.mul_le_mul_right t hg
    rw [Nat.add_mul] at h1
    omega
theorem okb_low {T : EI → EI → Bool} {X ys Z : List EI} {t a b : Nat} (hab : a ≤ b) (hb : b ≤ ys.length) (hZ : Z.length = b - a) (h : Okb T X ys t 0 a) : Okb T X (ys.take a ++ (Z ++ ys.drop b)) t 0 a := fun q hq => by
  have := h q hq
  unfold Blk at this ⊢
  rw [(seg_put hab hb hZ).2.2.1 _ _ (Nat.min_le_right _ _)]
  exact this
theorem okb_high {T : EI → EI → Bool} {X ys Z : List EI} {s a b n : Nat} (hab : a ≤ b) (hb : b ≤ ys.length) (hZ : Z.length = b - a) (h : Okb T X ys s b n) : Okb T X (ys.take a ++ (Z ++ ys.drop b)) s b n := fun q hq => by
  have := h q hq
  unfold Blk at this ⊢
  rw [(seg_put hab hb hZ).2.2.2 _ _ (by omega)]
  exact this
theorem blk_put {T : EI → EI → Bool} {X ys Z : List EI} {a b : Nat} (hab : a ≤ b) (hb : b ≤ ys.length) (hZ : Z.length = b - a) (hs : Srt T Z) (hp : Z.Perm (seg X a b)) : Blk T X (ys.take a ++ (Z ++ ys.drop b)) a b := by
  unfold Blk
  rw [(seg_put hab hb hZ).2.1]
  exact ⟨hs, hp⟩
/-- What is not sorted yet is as it was. -/
def Rest (X ys : List EI) (a : Nat) : Prop := ∀ c d, a ≤ c → seg ys c d = seg X c d
set_option maxRecDepth 100000 in
set_option maxHeartbeats 16000000 in
theorem stabI (w : World) (bk n cap g : Nat) (cb : Array Value) (cf : Int → Int → Int) (T : EI → EI → Bool) (X : List EI) (eg : ∀ args w, (callFunc g args).run Tryz.prog w = .ok (.enter g args) w) (h : RwI w bk X) (hn : X.length = n) (hm : n ≤ 1000000000000)
    (tr : ∀ a b c, T a b = true → T b c = true → T a c = true) (hR : X.Pairwise (fun q p => Rgt cf T p q)) (hc : CmpI g cb cf bk w) :
    Calls Tryz.prog 117 #[.slice (some ⟨bk, 0, none⟩) n cap, .int .i64 n, .func (.func g) #[] cb] w fun e w' => e = .returned (.tuple #[]) ∧ ∃ Z, RwI w' bk Z ∧ Srt T Z ∧ Z.Perm X ∧ Fr (fun c => c = bk) w w' := by
  have H0 := Lib.hid h; have HN := Lib.hid hn; have HM := Lib.hid hm; have HTR := Lib.hid tr; have HRR := Lib.hid hR; have HC := Lib.hid hc
  have SYM := Lib.hid (symAll bk n cap g cb cf T eg hm tr)
  have INS := Lib.hid (fun w P A S ia ib h hn ha hb hR hc => @insI w bk n cap g cb cf T P A S ia ib eg h hn hm ha hb tr hR hc)
  have i1 : (n : Int) ≤ 1000000000000 := by omega
  clear h hn hm tr hR hc
  go_enter Tryz.func117, Tryz.ntmps117
  go_wp2_with fail
  go_loopw [7, 8] (fun va vb wr => ∃ (a k : Nat) (ys : List EI), va = .int .i64 a ∧ vb = .int .i64 ((a : Int) + 20) ∧ a = k * 20 ∧ a ≤ n ∧ ys.length = n ∧ RwI wr bk ys ∧ Okb T X ys 20 0 a ∧ Rest X ys a ∧ Fr (fun c => c = bk) w wr) (fun va _ _ => ((n : Int) - intOf va).toNat)
  case atStart => exact ⟨0, 0, X, rfl, by simp, rfl, Nat.zero_le _, HN.out, H0.out, okb_nil (Nat.le_refl _), fun _ _ _ => rfl, Fr.refl _ _⟩
  case round =>
    obtain ⟨a, k, ys, rfl, rfl, hk, han, hyl, hr, hok, hrest, hf⟩ := hrel
    have HK := Lib.hid hk; have HYL := Lib.hid hyl; have HR := Lib.hid hr; have HOK := Lib.hid hok; have HRS := Lib.hid hrest; have HF := Lib.hid hf
    clear hk hyl hr hok hrest hf
    by_cases hlt : a + 20 ≤ n
    · have hltI : (a : Int) + 20 ≤ n := by omega
      have hrow : Hid (RwI wr bk (ys.take a ++ (seg ys a (a + 20) ++ ys.drop (a + 20)))) := Lib.hid (by have := HR.out; rw [seg_split ys (show a ≤ a + 20 by omega)] at this; exact this)
      go_wp2_with fail
      refine (INS.out wr (ys.take a) (seg ys a (a + 20)) (ys.drop (a + 20)) _ _ hrow.out (by rw [← seg_split ys (show a ≤ a + 20 by omega), HYL.out]) (by have := HYL.out; simp; omega) (by rw [seg_len (by have := HYL.out; omega)]; have := HYL.out; simp; omega) (by rw [HRS.out a (a + 20) (Nat.le_refl _)]; exact seg_pw HRR.out _ _) (HC.out.fr HF.out)).mono ?_
      rintro e w3 ⟨rfl, Z, hz1, hz2, hz3, hz4⟩
      have hzl : Z.length = a + 20 - a := by rw [hz3.length_eq, seg_len (by have := HYL.out; omega)]
      rw [HRS.out a (a + 20) (Nat.le_refl _)] at hz3
      have HZ1 := Lib.hid hz1; have HZ2 := Lib.hid hz2; have HZ3 := Lib.hid hz3; have HZL := Lib.hid hzl; have HF3 := Lib.hid (HF.out.trans hz4)
      clear hz1 hz2 hz3 hz4 hzl
      go_wp2_with fail
      go_roundw
      case rel =>
        have hp := seg_put (xs := ys) (Z := Z) (a := a) (b := a + 20) (by omega) (by have := HYL.out; omega) HZL.out
        refine ⟨a + 20, k + 1, ys.take a ++ (Z ++ ys.drop (a + 20)), by first | rfl | (congr 1; done) | (congr 1; omega), by first | rfl | (congr 1; done) | (congr 1; omega), by have := HK.out; omega, hlt, by rw [hp.1]; exact HYL.out, HZ1.out, ?_, fun c d hcd => ?_, HF3.out⟩
        · exact okb_snoc (okb_low (by omega) (by have := HYL.out; omega) HZL.out HOK.out) HK.out (by omega) (Nat.le_refl _) (blk_put (by omega) (by have := HYL.out; omega) HZL.out HZ2.out HZ3.out)
        · rw [hp.2.2.2 c d hcd]; exact HRS.out c d (by omega)
      case measure => simp [intOf]; omega
    · have hltI : ¬ (a : Int) + 20 ≤ n := by omega
      have hrow : Hid (RwI wr bk (ys.take a ++ (seg ys a n ++ ys.drop n))) := Lib.hid (by have := HR.out; rw [seg_split ys han] at this; exact this)
      go_wp2_with fail
      refine (INS.out wr (ys.take a) (seg ys a n) (ys.drop n) _ _ hrow.out (by rw [← seg_split ys han, HYL.out]) (by have := HYL.out; simp; omega) (by rw [seg_len (by have := HYL.out; omega)]; have := HYL.out; simp; omega) (by rw [HRS.out a n (Nat.le_refl _)]; exact seg_pw HRR.out _ _) (HC.out.fr HF.out)).mono ?_
      rintro e w3 ⟨rfl, Z, hz1, hz2, hz3, hz4⟩
      have hzl : Z.length = n - a := by rw [hz3.length_eq, seg_len (by have := HYL.out; omega)]
      rw [HRS.out a n (Nat.le_refl _)] at hz3
      have hp := seg_put (xs := ys) (Z := Z) (a := a) (b := n) han (by have := HYL.out; omega) hzl
      have hok2 : Okb T X (ys.take a ++ (Z ++ ys.drop n)) 20 0 n := by
        have hlow := okb_low han (by have := HYL.out; omega) hzl HOK.out
        by_cases e : a = n
        · rw [e] at hlow ⊢; exact hlow
        · exact okb_snoc hlow HK.out (by omega) (by omega) (blk_put han (by have := HYL.out; omega) hzl hz2 hz3)
      obtain ⟨y2, hy2⟩ : ∃ y2, ys.take a ++ (Z ++ ys.drop n) = y2 := ⟨_, rfl⟩
      have hl2 := hp.1
      rw [hy2] at hz1 hok2 hl2
      have HZ1 := Lib.hid hz1; have HOK2 := Lib.hid hok2; have HL2 := Lib.hid (hl2.trans HYL.out); have HF3 := Lib.hid (HF.out.trans hz4)
      clear hz1 hz2 hz3 hz4 hzl hp hok2 hy2 hl2 hltI
      go_wp2_with fail
      go_loopw [6] (fun vs wr => ∃ (s : Nat) (y : List EI), vs = .int .i64 s ∧ 0 < s ∧ y.length = n ∧ RwI wr bk y ∧ Okb T X y s 0 n ∧ Fr (fun c => c = bk) w wr) (fun vs _ => ((n : Int) - intOf vs).toNat)
      case atStart => exact ⟨20, y2, rfl, by omega, HL2.out, HZ1.out, HOK2.out, HF3.out⟩
      case round =>
        obtain ⟨s, y, rfl, hs0, hyl, hr, hok, hf⟩ := hrel
        have HYL := Lib.hid hyl; have HR := Lib.hid hr; have HOK := Lib.hid hok; have HF := Lib.hid hf
        clear hyl hr hok hf
        by_cases hsn : s < n
        · have hsI : (s : Int) < n := by omega
          have hs0I : (0 : Int) < s := by omega
          obtain ⟨wo, rfl⟩ : ∃ wo : World, wo = wr := ⟨_, rfl⟩
          go_wp2_with fail
          go_loopw [7, 8] (fun va vb wr => ∃ (a k : Nat) (ys : List EI), va = .int .i64 a ∧ vb = .int .i64 ((a : Int) + 2 * s) ∧ a = k * (2 * s) ∧ a ≤ n ∧ ys.length = n ∧ RwI wr bk ys ∧ Okb T X ys (2 * s) 0 a ∧ Okb T X ys s a n ∧ Fr (fun c => c = bk) w wr) (fun va _ _ => ((n : Int) - intOf va).toNat)
          case atStart => exact ⟨0, 0, y, rfl, by simp, by simp, Nat.zero_le _, HYL.out, HR.out, okb_nil (Nat.le_refl _), HOK.out, HF.out⟩
          case round =>
            obtain ⟨a, k, ys, rfl, rfl, hk, han, hyl, hr, hok1, hok2, hf⟩ := hrel
            have HK := Lib.hid hk; have HYL := Lib.hid hyl; have HR := Lib.hid hr; have HOK1 := Lib.hid hok1; have HOK2 := Lib.hid hok2; have HF := Lib.hid hf
            clear hk hyl hr hok1 hok2 hf
            by_cases hlt : a + 2 * s ≤ n
            · have hltI : (a : Int) + 2 * s ≤ n := by omega
              have b1 := okb_head HOK2.out (by omega)
              have b2 := okb_head (okb_tail HOK2.out) (by omega)
              rw [Nat.min_eq_left (by omega)] at b1 b2
              rw [show a + s + s = a + 2 * s by omega] at b2
              have hsp : ys = ys.take a ++ (seg ys a (a + s) ++ (seg ys (a + s) (a + 2 * s) ++ ys.drop (a + 2 * s))) := by
                rw [← List.append_assoc (seg ys a (a + s)), ← seg_app ys (by omega) (by omega)]
                exact seg_split ys (by omega)
              have l1 : (seg ys a (a + s)).length = s := by rw [seg_len (by have := HYL.out; omega)]; omega
              have l2 : (seg ys (a + s) (a + 2 * s)).length = s := by rw [seg_len (by have := HYL.out; omega)]; omega
              have l3 : (ys.take a).length = a := by have := HYL.out; simp; omega
              have hrow : Hid (RwI wr bk (ys.take a ++ (seg ys a (a + s) ++ (seg ys (a + s) (a + 2 * s) ++ ys.drop (a + 2 * s))))) := Lib.hid (by rw [← hsp]; exact HR.out)
              have HSP := Lib.hid hsp; have L1 := Lib.hid l1; have L2 := Lib.hid l2; have L3 := Lib.hid l3; have B1 := Lib.hid b1; have B2 := Lib.hid b2
              clear hsp l1 l2 l3 b1 b2
              go_wp2_with fail
              refine (SYM.out _ wr (ys.take a) (seg ys a (a + s)) (seg ys (a + s) (a + 2 * s)) (ys.drop (a + 2 * s)) _ _ _ (Nat.le_refl _) (by rw [L1.out]; omega) (by rw [L2.out]; omega) hrow.out (by rw [← HSP.out, HYL.out]) (by rw [L3.out]) (by rw [L3.out, L1.out]; omega) (by rw [L3.out, L1.out, L2.out]; omega) B1.out.1 B2.out.1 (fun p hp q hq => seg_pair HRR.out (show a ≤ a + s by omega) (show a + s ≤ a + 2 * s by omega) q (B1.out.2.mem_iff.1 hq) p (B2.out.2.mem_iff.1 hp)) (HC.out.fr HF.out)).mono ?_
              rintro e w3 ⟨rfl, Z, hz1, hz2, hz3, hz4⟩
              have hzl : Z.length = a + 2 * s - a := by rw [hz3.length_eq, List.length_append, L1.out, L2.out]; omega
              have hz5 : Z.Perm (seg X a (a + 2 * s)) := by rw [seg_app X (show a ≤ a + s by omega) (show a + s ≤ a + 2 * s by omega)]; exact hz3.trans (B1.out.2.append B2.out.2)
              have HZ1 := Lib.hid hz1; have HZ2 := Lib.hid hz2; have HZ3 := Lib.hid hz5; have HZL := Lib.hid hzl; have HF3 := Lib.hid (HF.out.trans hz4)
              clear hz1 hz2 hz3 hz4 hz5 hzl
              go_wp2_with fail
              go_roundw
              case rel =>
                have hp := seg_put (xs := ys) (Z := Z) (a := a) (b := a + 2 * s) (by omega) (by have := HYL.out; omega) HZL.out
                refine ⟨a + 2 * s, k + 1, ys.take a ++ (Z ++ ys.drop (a + 2 * s)), by first | rfl | (congr 1; done) | (congr 1; omega), by first | rfl | (congr 1; done) | (congr 1; omega), by have := HK.out; rw [Nat.add_mul]; omega, hlt, by rw [hp.1]; exact HYL.out, HZ1.out, ?_, ?_, HF3.out⟩
                · exact okb_snoc (okb_low (by omega) (by have := HYL.out; omega) HZL.out HOK1.out) HK.out (by omega) (Nat.le_refl _) (blk_put (by omega) (by have := HYL.out; omega) HZL.out HZ2.out HZ3.out)
                · refine okb_high (by omega) (by have := HYL.out; omega) HZL.out ?_
                  have := okb_tail (okb_tail HOK2.out)
                  rw [show a + s + s = a + 2 * s by omega] at this
                  exact this
              case measure => simp [intOf]; omega
            · have hltI : ¬ (a : Int) + 2 * s ≤ n := by omega
              by_cases hmn : a + s < n
              · have hmI : (a : Int) + s < n := by omega
                have b1 := okb_head HOK2.out (by omega)
                have b2 := okb_head (okb_tail HOK2.out) hmn
                rw [Nat.min_eq_left (by omega)] at b1
                rw [Nat.min_eq_right (by omega)] at b2
                have hsp : ys = ys.take a ++ (seg ys a (a + s) ++ (seg ys (a + s) n ++ ys.drop n)) := by
                  rw [← List.append_assoc (seg ys a (a + s)), ← seg_app ys (by omega) (by omega)]
                  exact seg_split ys han
                have l1 : (seg ys a (a + s)).length = s := by rw [seg_len (by have := HYL.out; omega)]; omega
                have l2 : (seg ys (a + s) n).length = n - (a + s) := by rw [seg_len (by have := HYL.out; omega)]
                have l3 : (ys.take a).length = a := by have := HYL.out; simp; omega
                have hrow : Hid (RwI wr bk (ys.take a ++ (seg ys a (a + s) ++ (seg ys (a + s) n ++ ys.drop n)))) := Lib.hid (by rw [← hsp]; exact HR.out)
                have HSP := Lib.hid hsp; have L1 := Lib.hid l1; have L2 := Lib.hid l2; have L3 := Lib.hid l3; have B1 := Lib.hid b1; have B2 := Lib.hid b2
                clear hsp l1 l2 l3 b1 b2
                go_wp2_with fail
                refine (SYM.out _ wr (ys.take a) (seg ys a (a + s)) (seg ys (a + s) n) (ys.drop n) _ _ _ (Nat.le_refl _) (by rw [L1.out]; omega) (by rw [L2.out]; omega) hrow.out (by rw [← HSP.out, HYL.out]) (by rw [L3.out]) (by rw [L3.out, L1.out]; omega) (by rw [L3.out, L1.out, L2.out]; omega) B1.out.1 B2.out.1 (fun p hp q hq => seg_pair HRR.out (show a ≤ a + s by omega) (show a + s ≤ n by omega) q (B1.out.2.mem_iff.1 hq) p (B2.out.2.mem_iff.1 hp)) (HC.out.fr HF.out)).mono ?_
                rintro e w3 ⟨rfl, Z, hz1, hz2, hz3, hz4⟩
                have hzl : Z.length = n - a := by rw [hz3.length_eq, List.length_append, L1.out, L2.out]; omega
                have hz5 : Z.Perm (seg X a n) := by rw [seg_app X (show a ≤ a + s by omega) (show a + s ≤ n by omega)]; exact hz3.trans (B1.out.2.append B2.out.2)
                have hp := seg_put (xs := ys) (Z := Z) (a := a) (b := n) han (by have := HYL.out; omega) hzl
                have hfin : Okb T X (ys.take a ++ (Z ++ ys.drop n)) (2 * s) 0 n := okb_snoc (okb_low han (by have := HYL.out; omega) hzl HOK1.out) HK.out (by omega) (by omega) (blk_put han (by have := HYL.out; omega) hzl hz2 hz5)
                obtain ⟨y3, hy3⟩ : ∃ y3, ys.take a ++ (Z ++ ys.drop n) = y3 := ⟨_, rfl⟩
                have hl3 := hp.1
                rw [hy3] at hz1 hfin hl3
                have HZ1 := Lib.hid hz1; have HFIN := Lib.hid hfin; have HL3 := Lib.hid (hl3.trans HYL.out); have HF3 := Lib.hid (HF.out.trans hz4)
                clear hz1 hz2 hz3 hz4 hz5 hzl hp hfin hy3 hl3
                go_wp2_with fail
                go_roundw
                case rel => exact ⟨2 * s, y3, by first | rfl | (congr 1; done) | (congr 1; omega), by omega, HL3.out, HZ1.out, HFIN.out, HF3.out⟩
                case measure => simp [intOf]; omega
              · have hmI : ¬ (a : Int) + s < n := by omega
                have hfin : Okb T X ys (2 * s) 0 n := by
                  by_cases e : a = n
                  · rw [← e]; exact HOK1.out
                  · have b1 := okb_head HOK2.out (by omega)
                    rw [Nat.min_eq_right (by omega)] at b1
                    exact okb_snoc HOK1.out HK.out (by omega) (by omega) b1
                have HFIN := Lib.hid hfin
                clear hfin
                go_wp2_with fail
                go_roundw
                case rel => exact ⟨2 * s, ys, by first | rfl | (congr 1; done) | (congr 1; omega), by omega, HYL.out, HR.out, HFIN.out, HF.out⟩
                case measure => simp [intOf]; omega
        · have hsI : ¬ (s : Int) < n := by omega
          have hfin : Srt T y ∧ y.Perm X := by
            by_cases e : n = 0
            · have e1 : y = [] := List.eq_nil_of_length_eq_zero (by rw [HYL.out]; exact e)
              have e2 : X = [] := List.eq_nil_of_length_eq_zero (by rw [HN.out]; exact e)
              rw [e1, e2]; exact ⟨Srt.nil, List.Perm.refl _⟩
            · have b1 := okb_head HOK.out (by omega)
              rw [Nat.zero_add, Nat.min_eq_right (by omega)] at b1
              have e1 : ∀ u : List EI, u.length = n → seg u 0 n = u := fun u hu => by unfold seg; rw [List.drop_zero, List.take_of_length_le (by omega)]
              unfold Blk at b1
              rw [e1 y HYL.out, e1 X HN.out] at b1
              exact b1
          have HFIN := Lib.hid hfin
          clear hfin
          go_wp2_with fail
          go_end0
          exact ⟨rfl, y, HR.out, HFIN.out.1, HFIN.out.2, HF.out⟩
/-- The same, its elements named by their places. -/
theorem rwI_zip {W : World} {b : Nat} {l : List Int} {rest : List Value} (h : W.heap[b]? = some (.cells (l.map (Value.int .i64) ++ rest).toArray 3)) : RwI W b (l.zipIdx 0) := ⟨rest, by
  have e : (l.zipIdx 0).map encI = l.map (Value.int .i64) := by
    apply List.ext_getElem?
    intro i
    rw [List.getElem?_map, List.getElem?_zipIdx, List.getElem?_map]
    cases l[i]? <;> rfl
  rw [e]; exact h⟩
set_option maxRecDepth 100000 in
set_option maxHeartbeats 4000000 in
/-- slices.SortStableFunc: a row of ints of the caller's own is laid in the stable order. -/
theorem sortStableI (w : World) (bk n cap g : Nat) (cb : Array Value) (cf : Int → Int → Int) (l : List Int) (eg : ∀ args w, (callFunc g args).run Tryz.prog w = .ok (.enter g args) w) (hl : l.length = n) (hm : n ≤ 1000000000000) (hS : SwoB (fun x y => decide (cf x y < 0)))
    (h : RwI w bk (l.zipIdx 0)) (hD : ∀ x ∈ l, ∀ y ∈ l, -1 ≤ cf x y ∧ cf x y ≤ 1) (hc : CmpI g cb cf bk w) :
    Calls Tryz.prog 94 #[.slice (some ⟨bk, 0, none⟩) n cap, .func (.func g) #[] cb] w fun e w' => e = .returned (.tuple #[]) ∧ (∃ rest : List Value, w'.heap[bk]? = some (.cells ((stab (fun x y => decide (cf x y < 0)) l).map (Value.int .i64) ++ rest).toArray 3)) ∧ Fr (fun c => c = bk) w w' := by
  have hst := Lib.hid (stabI w bk n cap g cb cf (tagT (fun x y => decide (cf x y < 0))) (l.zipIdx 0) eg h (by rw [List.length_zipIdx]; exact hl) hm (tag_tr hS) ((zip_pair l 0).imp_of_mem (fun {q p} hq hp hlt => by
    obtain ⟨h1, h2⟩ := tag_rgt hS hlt
    exact ⟨h1.symm, h2, hD _ (zip_mem hp) _ (zip_mem hq)⟩)) hc)
  have HS := Lib.hid hS
  have hnI : (n : Int) ≤ 1000000000000 := by omega
  clear h hc hl hm hS hD
  go_enter Tryz.func94, Tryz.ntmps94
  go_wp2_with (go_at_call 117; refine hst.out.mono ?_; rintro e w' ⟨rfl, Z, hz1, hz2, hz3, hz4⟩; have HZ1 := Lib.hid hz1; have HZ2 := Lib.hid hz2; have HZ3 := Lib.hid hz3; have HZ4 := Lib.hid hz4; clear hz1 hz2 hz3 hz4)
  go_end0
  refine ⟨rfl, ?_, HZ4.out⟩
  obtain ⟨rest, hr⟩ := HZ1.out
  refine ⟨rest, ?_⟩
  rw [← stab_eq HS.out HZ2.out HZ3.out, List.map_map]
  exact hr
end Go.Proofs.YtefjdcghdcbojaaGreat

namespace Go.Proofs.YtefjdcghdcbojaaGreat
open Go.RowKit Go.Maps
set_option maxRecDepth 100000 in
set_option maxHeartbeats 8000000 in
theorem bOrd1 (w : World) (g gc b5 b3 i j : Nat) (cbc : Array Value) (L : List BV) (A B : BV) (C : Int) (eg : ∀ args w, (callFunc gc args).run Tryz.prog w = .ok (.enter gc args) w) (h : Fl w g L) (hi : L[i]? = some A) (hj : L[j]? = some B)
    (h5 : w.cell? ⟨b5, 0, none⟩ = some (.func (.func gc) #[] cbc)) (h3 : w.cell? ⟨b3, 0, none⟩ = some (.pointer (some ⟨g, 0, none⟩)))
    (hC : ∀ W, Fr (fun _ => False) w W → Calls Tryz.prog gc (#[.agg A.cs, .agg B.cs] ++ cbc) W fun e w' => e = .returned (.int .i64 C) ∧ Fr (fun _ => False) W w') :
    Calls Tryz.prog 95 #[.int .i64 i, .int .i64 j, .pointer (some ⟨b5, 0, none⟩), .pointer (some ⟨b3, 0, none⟩)] w fun e w' => e = .returned (.int .i64 C) ∧ Fr (fun _ => False) w w' := by
  obtain ⟨a, c, q1, q2⟩ := h
  have hiN := (List.getElem?_eq_some_iff.1 hi).1
  have hjN := (List.getElem?_eq_some_iff.1 hj).1
  have hNI := q2.len
  obtain ⟨N, hN⟩ : ∃ N, L.length = N := ⟨_, rfl⟩
  rw [hN] at q1 q2 hNI hiN hjN
  have hiI : (i : Int) < N := by omega
  have hjI : (j : Int) < N := by omega
  obtain ⟨ad, rfl, okA, z0, zs⟩ := q2.at_ hi
  obtain ⟨ad', e', okB, y0, ys⟩ := q2.at_ hj
  cases e'
  obtain ⟨la, lc, hl⟩ := okA.l.sl
  obtain ⟨lb, ld, hm⟩ := okB.l.sl
  have HC : Hid (∀ W, Fr (fun _ => False) w W → Calls Tryz.prog gc (#[.agg #[.int .i64 A.nu, .int .i64 A.zo, .int .i64 A.ro, .slice la A.its.length lc], .agg #[.int .i64 B.nu, .int .i64 B.zo, .int .i64 B.ro, .slice lb B.its.length ld]] ++ cbc) W fun e w' => e = .returned (.int .i64 C) ∧ Fr (fun _ => False) W w') := Lib.hid (fun W hf => by
    have := hC W hf
    unfold BV.cs at this
    rw [hl, hm] at this
    exact this)
  have u0 := FrW.cell (cell_obj q1 0 (.slice (some ad) N c) rfl)
  have u1 := FrW.cell (z0 (.int .i64 A.nu) rfl)
  have u2 := FrW.cell (zs 0 (.int .i64 A.zo) rfl)
  have u3 := FrW.cell (zs 1 (.int .i64 A.ro) rfl)
  have u4 := FrW.cell (zs 2 (.slice la A.its.length lc) (by rw [← hl]; rfl))
  have u5 := FrW.cell (y0 (.int .i64 B.nu) rfl)
  have u6 := FrW.cell (ys 0 (.int .i64 B.zo) rfl)
  have u7 := FrW.cell (ys 1 (.int .i64 B.ro) rfl)
  have u8 := FrW.cell (ys 2 (.slice lb B.its.length ld) (by rw [← hm]; rfl))
  have u9 := FrW.cell h5
  have u10 := FrW.cell h3
  clear hC h5 h3 q1 q2 hi hj z0 zs y0 ys okA okB hl hm hN
  go_enter Tryz.func95, Tryz.ntmps95
  go_wp2_with fail
  refine wp_region_fr (by kernel_rfl) (by kernel_rfl) ?_
  repeat (go_big_quiet_step ((go_at_fn gc; rename_i X; refine (HC.out X.val X.fr).mono ?_; rintro e w2 ⟨rfl, hF⟩; exact ⟨rfl, ⟨w2, X.fr.trans hF⟩, rfl⟩)))
  refine wpQuiet_nil ?_
  rintro _ ⟨⟨V, hV⟩, rfl⟩
  go_wp2_with fail
  go_ret
  exact ⟨rfl, hV⟩
end Go.Proofs.YtefjdcghdcbojaaGreat

namespace Go.Proofs.YtefjdcghdcbojaaGreat
open Go.RowKit
set_option maxRecDepth 100000 in
set_option maxHeartbeats 1000000 in
theorem insNil (w : World) (fv : Value) : Calls Tryz.prog 127 #[.slice none 0 0, .int .i64 0, .int .i64 0, fv] w fun e w' => e = .returned (.tuple #[]) ∧ Fr (fun _ => False) w w' := by
  go_enter Tryz.func127, Tryz.ntmps127
  go_wp2
  refine wp_loop_rounds 2 ?_
  repeat (rw [rounds_succ]; go_wp2)
  go_end0
  exact ⟨rfl, Fr.refl _ _⟩
set_option maxRecDepth 100000 in
set_option maxHeartbeats 1000000 in
theorem stabNil (w : World) (fv : Value) : Calls Tryz.prog 117 #[.slice none 0 0, .int .i64 0, fv] w fun e w' => e = .returned (.tuple #[]) ∧ Fr (fun _ => False) w w' := by
  go_enter Tryz.func117, Tryz.ntmps117
  go_wp2_with fail
  refine wp_loop_rounds 2 ?_
  repeat (rw [rounds_succ]; go_wp2_with fail)
  refine (insNil _ _).mono ?_
  rintro e w1 ⟨rfl, hf1⟩
  go_wp2_with fail
  refine wp_loop_rounds 2 ?_
  repeat (rw [rounds_succ]; go_wp2_with fail)
  go_end0
  exact ⟨rfl, hf1⟩
set_option maxRecDepth 100000 in
set_option maxHeartbeats 1000000 in
theorem sortNil (w : World) (fv : Value) : Calls Tryz.prog 94 #[.slice none 0 0, fv] w fun e w' => e = .returned (.tuple #[]) ∧ Fr (fun _ => False) w w' := by
  go_enter Tryz.func94, Tryz.ntmps94
  go_wp2_with fail
  refine (stabNil _ _).mono ?_
  rintro e w1 ⟨rfl, hf1⟩
  go_wp2_with fail
  go_end0
  exact ⟨rfl, hf1⟩
set_option maxRecDepth 100000 in
set_option maxHeartbeats 1000000 in
theorem insNilP (w : World) (fv : Value) : Calls Tryz.prog 138 #[.slice none 0 0, .int .i64 0, .int .i64 0, fv] w fun e w' => e = .returned (.tuple #[]) ∧ Fr (fun _ => False) w w' := by
  go_enter Tryz.func138, Tryz.ntmps138
  go_wp2
  refine wp_loop_rounds 2 ?_
  repeat (rw [rounds_succ]; go_wp2)
  go_end0
  exact ⟨rfl, Fr.refl _ _⟩
set_option maxRecDepth 100000 in
set_option maxHeartbeats 1000000 in
theorem stabNilP (w : World) (fv : Value) : Calls Tryz.prog 124 #[.slice none 0 0, .int .i64 0, fv] w fun e w' => e = .returned (.tuple #[]) ∧ Fr (fun _ => False) w w' := by
  go_enter Tryz.func124, Tryz.ntmps124
  go_wp2_with fail
  refine wp_loop_rounds 2 ?_
  repeat (rw [rounds_succ]; go_wp2_with fail)
  refine (insNilP _ _).mono ?_
  rintro e w1 ⟨rfl, hf1⟩
  go_wp2_with fail
  refine wp_loop_rounds 2 ?_
  repeat (rw [rounds_succ]; go_wp2_with fail)
  go_end0
  exact ⟨rfl, hf1⟩
set_option maxRecDepth 100000 in
set_option maxHeartbeats 1000000 in
theorem sortNilP (w : World) (fv : Value) : Calls Tryz.prog 111 #[.slice none 0 0, fv] w fun e w' => e = .returned (.tuple #[]) ∧ Fr (fun _ => False) w w' := by
  go_enter Tryz.func111, Tryz.ntmps111
  go_wp2_with fail
  refine (stabNilP _ _).mono ?_
  rintro e w1 ⟨rfl, hf1⟩
  go_wp2_with fail
  go_end0
  exact ⟨rfl, hf1⟩
end Go.Proofs.YtefjdcghdcbojaaGreat

namespace Go.Proofs.YtefjdcghdcbojaaGreat
open Go.RowKit Go.Maps
theorem infoIntB : (Tryz.prog.info? 3).map (fun i => (i.zero, i.size, i.bytes)) = some (some (.int .i64 0), 1, 8) := by kernel_rfl
/-- A comparison of bins, as one of places (out of L: behind all others). -/
def cfI {α : Type} (L : List α) (cf : α → α → Int) (x y : Int) : Int :=
  match (if 0 ≤ x then L[x.toNat]? else none), (if 0 ≤ y then L[y.toNat]? else none) with
  | some a, some b => cf a b
  | some _, none => -2
  | none, _ => 2
/-- The places of the bins that are so, of the first k. -/
def idxK {α : Type} (L : List α) (isF : α → Bool) (k : Nat) : List Int := ((List.range k).filter fun i => (L[i]?).any isF).map Int.ofNat
theorem idxK_succ {α : Type} {L : List α} {isF : α → Bool} {k : Nat} {x : α} (h : L[k]? = some x) : idxK L isF (k + 1) = idxK L isF k ++ (if isF x = true then [(k : Int)] else []) := by
  unfold idxK
  rw [List.range_succ, List.filter_append, List.map_append]
  congr 1
  by_cases hx : isF x = true <;> simp [h, hx]
theorem idxK_len {α : Type} (L : List α) (isF : α → Bool) (k : Nat) : (idxK L isF k).length ≤ k := by
  unfold idxK
  rw [List.length_map]
  exact Nat.le_trans (List.length_filter_le _ _) (by simp)
theorem idxK_mem {α : Type} {L : List α} {isF : α → Bool} {k : Nat} {x : Int} (h : x ∈ idxK L isF k) : ∃ (i : Nat) (b : α), x = (i : Int) ∧ i < k ∧ L[i]? = some b ∧ isF b = true := by
  unfold idxK at h
  obtain ⟨i, hi, rfl⟩ := List.mem_map.1 h
  obtain ⟨h1, h2⟩ := List.mem_filter.1 hi
  cases hb : L[i]? with
  | none => rw [hb] at h2; cases h2
  | some b => rw [hb] at h2; exact ⟨i, b, rfl, List.mem_range.1 h1, hb, h2⟩
theorem cfI_at {α : Type} {L : List α} {cf : α → α → Int} {i j : Nat} {a b : α} (hi : L[i]? = some a) (hj : L[j]? = some b) : cfI L cf (i : Int) (j : Int) = cf a b := by
  unfold cfI
  rw [if_pos (by omega), if_pos (by omega)]
  simp [hi, hj]
theorem cfI_in {α : Type} {L : List α} {cf : α → α → Int} {x y : Int} (h : -1 ≤ cfI L cf x y ∧ cfI L cf x y ≤ 1) : ∃ (i j : Nat) (a b : α), x = (i : Int) ∧ y = (j : Int) ∧ L[i]? = some a ∧ L[j]? = some b := by
  unfold cfI at h
  have key : ∀ x : Int, (∃ (i : Nat) (a : α), x = (i : Int) ∧ (if 0 ≤ x then L[x.toNat]? else none) = some a ∧ L[i]? = some a) ∨ (if 0 ≤ x then L[x.toNat]? else none) = none := fun x => by
    by_cases hx : 0 ≤ x
    · cases hl : L[x.toNat]? with
      | none => right; rw [if_pos hx]
      | some a => left; exact ⟨x.toNat, a, by omega, by rw [if_pos hx], hl⟩
    · right; rw [if_neg hx]
  rcases key x with ⟨i, a, e1, e2, e3⟩ | e2
  · rcases key y with ⟨j, b, f1, f2, f3⟩ | f2
    · exact ⟨i, j, a, b, e1, f1, e3, f3⟩
    · rw [e2, f2] at h; dsimp only at h; omega
  · rw [e2] at h; dsimp only at h; omega
theorem stab_perm {α : Type} (lt : α → α → Bool) (l : List α) : (stab lt l).Perm l := by
  suffices h : ∀ (l acc : List α), (l.foldl (insR lt) acc).Perm (acc ++ l) from h l []
  intro l
  induction l with
  | nil => intro acc; simp
  | cons x r ih =>
    intro acc
    rw [List.foldl_cons]
    refine (ih (insR lt acc x)).trans ?_
    refine ((insR_perm acc x).append_right r).trans ?_
    rw [List.cons_append]
    exact List.perm_middle.symm
theorem stab_len {α : Type} (lt : α → α → Bool) (l : List α) : (stab lt l).length = l.length := (stab_perm lt l).length_eq
/-- A slice of numbers. -/
abbrev Sn (w : World) (v : Value) (L : List Int) : Prop := Sq 1 (fun x : Int => #[Value.int .i64 x]) (fun _ _ => True) w v L
/-- The order: the places. -/
def ordI {α : Type} (L : List α) (isF : α → Bool) (cf : α → α → Int) : List Int := stab (fun x y => decide (cfI L cf x y < 0)) (idxK L isF L.length)
set_option maxRecDepth 100000 in
set_option maxHeartbeats 8000000 in
theorem bOrder (w : World) (g gi gc : Nat) (cbi cbc : Array Value) (L : List BV) (isF : BV → Bool) (cf : BV → BV → Int) (egi : ∀ args w, (callFunc gi args).run Tryz.prog w = .ok (.enter gi args) w) (egc : ∀ args w, (callFunc gc args).run Tryz.prog w = .ok (.enter gc args) w)
    (h : Fl w g L) (hL : 0 < L.length) (hL2 : L.length ≤ 1000000)
    (hI : ∀ (W : World) (x : BV), x ∈ L → Fr (fun _ => False) w W → Calls Tryz.prog gi (#[.agg x.cs] ++ cbi) W fun e w' => e = .returned (.bool (isF x)) ∧ Fr (fun _ => False) W w')
    (hC : ∀ (W : World) (x y : BV), x ∈ L → y ∈ L → Fr (fun _ => False) w W → Calls Tryz.prog gc (#[.agg x.cs, .agg y.cs] ++ cbc) W fun e w' => e = .returned (.int .i64 (cf x y)) ∧ Fr (fun _ => False) W w')
    (hS : SwoB (fun x y => decide (cfI L cf x y < 0))) (hD : ∀ x ∈ L, ∀ y ∈ L, -1 ≤ cf x y ∧ cf x y ≤ 1) :
    Calls Tryz.prog 49 #[.pointer (some ⟨g, 0, none⟩), .func (.func gi) #[] cbi, .func (.func gc) #[] cbc] w fun e w' => ∃ v, e = .returned v ∧ Sn w' v (ordI L isF cf) ∧ (∀ b, v.ownBlock = some b → w.heap.size ≤ b) ∧ Fr (fun _ => False) w w' := by
  obtain ⟨i0, hi', hz0, hz1, hz2⟩ := info_parts infoIntB
  obtain ⟨n0, hn0⟩ : ∃ n0, w.heap.size = n0 := ⟨_, rfl⟩
  obtain ⟨W0, hW0⟩ : ∃ W0, (w.alloc (.cells #[.pointer (some ⟨g, 0, none⟩)] 23)).alloc (.cells #[.func (.func gc) #[] cbc] 99) = W0 := ⟨_, rfl⟩
  have hb0 : W0.heap[n0]? = some (.cells #[.pointer (some ⟨g, 0, none⟩)] 23) := by rw [← hW0]; exact heap_keep (heap_at hn0.symm _) _
  have hb1 : W0.heap[n0 + 1]? = some (.cells #[.func (.func gc) #[] cbc] 99) := by rw [← hW0]; exact heap_at (by simp; omega) _
  have hF0 : Fr (fun _ => False) w W0 := by rw [← hW0]; exact ((Fr.refl _ w).alloc _).alloc _
  have HB0 := Lib.hid hb0; have HB1 := Lib.hid hb1; have HF0 := Lib.hid hF0; have HN0 := Lib.hid hn0
  have HI := Lib.hid hI; have HC := Lib.hid hC; have HS := Lib.hid hS; have HD := Lib.hid hD; have HFL := Lib.hid h
  obtain ⟨a, c, q1, q2⟩ := h.keep hF0
  have hNb := q2.len
  obtain ⟨N, hN⟩ : ∃ N, L.length = N := ⟨_, rfl⟩
  have HN := Lib.hid hN
  rw [hN] at q1 q2 hNb hL hL2
  have HL2 := Lib.hid hL2
  have HQ2 := Lib.hid q2
  have c0 := cell_obj q1 0 (.slice a N c) rfl
  have p0 := cell_obj hb0 0 (.pointer (some ⟨g, 0, none⟩)) rfl
  clear hI hC hS hD h q1 q2 hb0 hb1 hF0 hN
  go_enter Tryz.func49, Tryz.ntmps49
  go_wp2_with fail
  have hs0 : Hid (W0.heap.size = n0 + 2) := Lib.hid (by rw [← hW0]; simp; omega)
  go_loopw [7, 15] (fun vo vi wr => ∃ k : Nat, k ≤ N ∧ vi = .int .i64 k ∧ wr.ownsRow (n0 + 2) 3 1 vo (idxK L isF k).length ((idxK L isF k).map (Value.int .i64)) ∧ Fr (fun c => n0 + 2 ≤ c) W0 wr) (fun _ vi _ => N - (intOf vi).toNat)
  case atStart => exact ⟨0, Nat.zero_le _, rfl, World.ownsRow_nil _ _ _ _, Fr.refl _ _⟩
  case round =>
    obtain ⟨k, hk, rfl, hown, hfr⟩ := hrel
    have HOW := Lib.hid hown; have HFR := Lib.hid hfr
    have HF := Lib.hid (HF0.out.trans' hfr (fun b hb (e : n0 + 2 ≤ b) => by have := HN0.out; omega))
    obtain ⟨ao, co, rfl⟩ := row_sl hown
    have HKL := Lib.hid (idxK_len L isF k)
    by_cases hlt : k < N
    · obtain ⟨x, hx⟩ : ∃ x, L[k]? = some x := ⟨L[k]'(by rw [HN.out]; exact hlt), List.getElem?_eq_getElem _⟩
      have HIX := Lib.hid (idxK_succ (isF := isF) hx)
      have hxm := List.mem_of_getElem? hx
      obtain ⟨ad, rfl, hok, z0, zs⟩ := (HQ2.out.fr bokKeeps hfr (fun b e => by have := hs0.out; omega)).at_ hx
      have hkI : (k : Int) < N := by omega
      obtain ⟨la, lc, hl⟩ := hok.l.sl
      have x0 := z0 (.int .i64 x.nu) rfl
      have x1 := zs 0 (.int .i64 x.zo) rfl
      have x2 := zs 1 (.int .i64 x.ro) rfl
      have x3 := zs 2 x.l rfl
      dsimp only [Nat.zero_add, Nat.reduceAdd] at x0 x1 x2 x3
      rw [hl] at x3
      have hCI : Hid (Calls Tryz.prog gi (#[.agg #[.int .i64 x.nu, .int .i64 x.zo, .int .i64 x.ro, .slice la x.its.length lc]] ++ cbi) (wr.alloc (.cells #[.int .i64 x.nu, .int .i64 x.zo, .int .i64 x.ro, .slice la x.its.length lc] 64)) fun e w' => e = .returned (.bool (isF x)) ∧ Fr (fun _ => False) (wr.alloc (.cells #[.int .i64 x.nu, .int .i64 x.zo, .int .i64 x.ro, .slice la x.its.length lc] 64)) w') := Lib.hid (by
        have := HI.out (wr.alloc (.cells #[.int .i64 x.nu, .int .i64 x.zo, .int .i64 x.ro, .slice la x.its.length lc] 64)) x hxm (HF.out.alloc _)
        unfold BV.cs at this
        rw [hl] at this
        exact this)
      clear hx hxm hok z0 zs hl hown hfr
      cases hb : isF x with
      | false =>
        rw [hb] at hCI HIX
        rw [if_neg (by simp), List.append_nil] at HIX
        clear hb
        go_wp2_with (go_at_fn gi; refine hCI.out.mono ?_; rintro e w2 ⟨rfl, hf2⟩; have HF2 := Lib.hid (((Fr.refl (fun _ => False) wr).alloc _).trans hf2); clear hf2)
        go_roundw
        case rel => exact ⟨k + 1, by omega, by go_num, by rw [HIX.out]; exact HF2.out.row HOW.out (fun _ _ e => e), HFR.out.trans (HF2.out.mono (fun _ _ e => e.elim))⟩
        case measure => simp [intOf]; omega
      | true =>
        rw [hb] at hCI HIX
        rw [if_pos rfl] at HIX
        clear hb
        go_wp2_with (first
          | (go_at_fn gi; refine hCI.out.mono ?_; rintro e w2 ⟨rfl, hf2⟩; have HF2 := Lib.hid (((Fr.refl (fun _ => False) wr).alloc _).trans hf2); clear hf2)
          | (at_builtin; refine wpList_append_src rfl _ _ 96 rfl (n0 + 2) 3 i0 (.int .i64 0) 8 Tryz.underlying96 hi' hz0 hz1 hz2 rfl (by decide) (.slice ao (idxK L isF k).length co) (idxK L isF k).length ((idxK L isF k).map (Value.int .i64)) rfl (((HF2.out.alloc _).row HOW.out (fun _ _ e => e))) 1 rfl (rd_obj (cs := [.int .i64 k]) (heap_new _ _) rfl) (by intro u hu; simp only [List.mem_cons, List.not_mem_nil, or_false] at hu; rcases hu with rfl; rfl) (by have := HKL.out; have := HL2.out; unfold maxLen; omega) (by have := HKL.out; have := HL2.out; omega) (by have := hs0.out; have := HFR.out.size; have := HF2.out.size; simp; omega) ?_; intro v3 w3 hown3 hgrow3 hloc3; have HO3 := Lib.hid hown3; have HW3 := Lib.hid ((HFR.out.trans (HF2.out.mono (fun _ _ e => e.elim))).trans (((Fr.refl (fun c => n0 + 2 ≤ c) w2).alloc _).trans' (Fr.grown (S := fun c => n0 + 2 ≤ c) hgrow3 (fun r hr _ => (HOW.out.lt r hr).1)) (fun _ _ e => e))); obtain ⟨a3, c3, rfl⟩ := row_sl hown3; clear hown3 hgrow3 hloc3))
        go_roundw
        case rel => exact ⟨k + 1, by omega, by go_num, by rw [HIX.out, List.length_append, List.map_append]; exact HO3.out, HW3.out⟩
        case measure => simp [intOf]; omega
    · obtain rfl : k = N := by omega
      have hkI : ¬ (k : Int) < k := by omega
      have hidx : idxK L isF k = idxK L isF L.length := by rw [HN.out]
      obtain ⟨l, hl⟩ : ∃ l, idxK L isF k = l := ⟨_, rfl⟩
      have hord : ordI L isF cf = stab (fun x y => decide (cfI L cf x y < 0)) l := by unfold ordI; rw [← hidx, hl]
      have HORD := Lib.hid hord
      have HMEM : Hid (∀ x ∈ l, ∃ (i : Nat) (b : BV), x = (i : Int) ∧ L[i]? = some b) := Lib.hid (fun x hx => by
        rw [← hl] at hx
        obtain ⟨i, b, e, _, hb, _⟩ := idxK_mem hx
        exact ⟨i, b, e, hb⟩)
      rw [hl] at HOW hown HKL
      rw [hl]
      clear hidx hl hord hfr
      rcases hown.2 with ⟨e, h0⟩ | ⟨bk, cap, cur, e, hbase, hb, hn, hm, hsz, ht⟩
      · injection e with e1 e2 e3
        subst e1 e3
        have hl0 : l = [] := List.eq_nil_of_length_eq_zero h0
        subst hl0
        clear hown h0 e2
        go_wp2_with (go_at_call 94; refine (sortNil _ _).mono ?_; rintro e w2 ⟨rfl, hf2⟩; have HF2 := Lib.hid hf2; clear hf2)
        go_ret
        refine ⟨_, rfl, by rw [HORD.out]; exact Sq.nil, fun b hb => by simp [Value.ownBlock] at hb, HF.out.trans HF2.out⟩
      · injection e with e1 e2 e3
        subst e1 e3
        have hcur : cur = (l.map (Value.int .i64) ++ cur.toList.drop l.length).toArray := by
          apply Array.toList_inj.1
          rw [← ht, Nat.mul_one, List.take_append_drop]
        have hrw : RwI wr bk (l.zipIdx 0) := rwI_zip (rest := cur.toList.drop l.length) (by rw [← hcur]; exact hb)
        have hsl := sortStableI wr bk l.length co 95 #[.pointer (some ⟨n0 + 1, 0, none⟩), .pointer (some ⟨n0, 0, none⟩)] (cfI L cf) l (enters_of Tryz.func95 (by kernel_rfl) rfl) rfl (by have := HKL.out; have := HL2.out; omega) HS.out hrw
          (fun x hx y hy => by
            obtain ⟨i, a', rfl, ha⟩ := HMEM.out x hx
            obtain ⟨j, b', rfl, hb'⟩ := HMEM.out y hy
            rw [cfI_at ha hb']
            exact HD.out a' (List.mem_of_getElem? ha) b' (List.mem_of_getElem? hb'))
          (fun W x y hw hdom => by
            obtain ⟨i, j, a', b', rfl, rfl, ha, hb'⟩ := cfI_in hdom
            rw [cfI_at ha hb']
            have hWW : Fr (fun _ => False) w W := HF.out.trans' hw (fun b hb e => by have := HN0.out; omega)
            exact bOrd1 W g gc (n0 + 1) n0 i j cbc L a' b' (cf a' b') egc (HFL.out.keep hWW) ha hb' (hw.cell (HFR.out.cell (cell_obj HB1.out 0 (.func (.func gc) #[] cbc) rfl) (by show ¬ n0 + 2 ≤ n0 + 1; omega)) (by show ¬ n0 + 1 = bk; omega)) (hw.cell (HFR.out.cell (cell_obj HB0.out 0 (.pointer (some ⟨g, 0, none⟩)) rfl) (by show ¬ n0 + 2 ≤ n0; omega)) (by show ¬ n0 = bk; omega))
              (fun W' hf => HC.out W' a' b' (List.mem_of_getElem? ha) (List.mem_of_getElem? hb') (hWW.trans hf)))
        have HSL := Lib.hid hsl
        have HBK := Lib.hid hbase
        have hlen : (ordI L isF cf).length = l.length := by rw [HORD.out]; exact stab_len _ _
        have HLEN := Lib.hid hlen
        clear hown hb hn hm hsz ht hcur hrw hsl hbase hlen e2
        go_wp2_with (go_at_call 94; refine HSL.out.mono ?_; rintro e w2 ⟨rfl, hrow, hf2⟩; have HROW := Lib.hid hrow; have HF2 := Lib.hid hf2; clear hrow hf2)
        go_ret
        refine ⟨.slice (some ⟨bk, 0, none⟩) l.length co, rfl, ?_, fun b hb => by (have e : bk = b := (by simpa [Value.ownBlock] using hb)); have := HBK.out; have := HN0.out; omega, HF.out.trans' HF2.out (fun b hb e => by have := HBK.out; have := HN0.out; omega)⟩
        obtain ⟨rest, hr⟩ := HROW.out
        rw [← HORD.out] at hr
        have hl2 := HLEN.out
        refine ⟨by have := HKL.out; have := HL2.out; unfold maxLen; omega, some ⟨bk, 0, none⟩, co, by rw [hl2], fun i x hx => ⟨trivial, _, rfl, fun j u hu => ?_⟩⟩
        have hj : j = 0 := by have := (Array.getElem?_eq_some_iff.1 hu).1; simp at this; omega
        subst hj
        have hu' : Value.int .i64 x = u := by simpa using hu
        subst hu'
        have hil := (List.getElem?_eq_some_iff.1 hx).1
        have e0 : (⟨bk, 0, none⟩ : Addr).add (i * 1 + 0) = ⟨bk, i, none⟩ := by unfold Addr.add; simp; try omega
        rw [e0]
        refine cell_obj hr i _ ?_
        rw [List.getElem?_toArray, List.getElem?_append_left (by simpa using hil), List.getElem?_map, hx]
        rfl
end Go.Proofs.YtefjdcghdcbojaaGreat

namespace Go.Proofs.YtefjdcghdcbojaaGreat
open Go.RowKit Go.Maps
/-- What a bin is, wherever its goods lie. -/
structure BE where
  nu : Int
  zo : Int
  ro : Int
  its : Its
def BV.e (b : BV) : BE := ⟨b.nu, b.zo, b.ro, b.its⟩
def leftE (b : BE) : Int := wrap64 (b.ro - totF b.its)
def kindE (b : BE) (s : Str) : Int := if 0 < ofF b.its s then 0 else if b.its.length = 0 then 1 else if b.its.length < 16 then 2 else 3
theorem leftE_e (b : BV) : leftF b = leftE b.e := rfl
theorem kindE_e (b : BV) (s : Str) : kindF b s = kindE b.e s := rfl
def BE.put (b : BE) (s : Str) (n : Int) : BE := ⟨b.nu, b.zo, b.ro, setF b.its s n⟩
theorem BOk.keep {S : Nat → Prop} {w w' : World} {b : BV} (h : BOk w b) (hf : Fr S w w') (hS : b.its ≠ [] → ∀ c, b.l.ownBlock = some c → ¬ S c) : BOk w' b := ⟨h.nu, h.zo, h.ro, h.l.keep hf hS⟩
/-- Floor g is these bins, and owns the blocks of TS. -/
structure FA (w : World) (g : Nat) (TS : Nat → Prop) (L : List BV) : Prop where
  ex : ∃ r cap cur, w.heap[g]? = some (.cells #[.slice (some ⟨r, 0, none⟩) L.length cap] 62) ∧ w.heap[r]? = some (.cells cur 64) ∧ L.length ≤ cap ∧ cap ≤ maxLen ∧ cur.size = cap * 4 ∧ cur.toList.take (L.length * 4) = flat BV.cs L ∧ TS r ∧ r ≠ g ∧
    ∀ b ∈ L, BOk w b ∧ (b.its ≠ [] → ∀ c, b.l.ownBlock = some c → TS c ∧ c ≠ g ∧ c ≠ r)
  own : TS g
  lt : ∀ b, TS b → b < w.heap.size
theorem FA.fr {S TS : Nat → Prop} {w w' : World} {g : Nat} {L : List BV} (h : FA w g TS L) (hf : Fr S w w') (hS : ∀ b, TS b → ¬ S b) : FA w' g TS L := by
  obtain ⟨⟨r, cap, cur, h1, h2, h3, h4, h5, h6, h7, h8, h9⟩, ho, hl⟩ := h
  exact ⟨⟨r, cap, cur, hf.at_ h1 (hS _ ho), hf.at_ h2 (hS _ h7), h3, h4, h5, h6, h7, h8, fun b hb => ⟨(h9 b hb).1.keep hf (fun hne c hc => hS _ ((h9 b hb).2 hne c hc).1), (h9 b hb).2⟩⟩, ho, fun b hb => Nat.lt_of_lt_of_le (hl b hb) hf.size⟩
theorem FA.row {TS : Nat → Prop} {w : World} {g : Nat} {L : List BV} (h : FA w g TS L) : ∃ r cap, w.heap[g]? = some (.cells #[.slice (some ⟨r, 0, none⟩) L.length cap] 62) ∧ w.ownsRow 0 64 4 (.slice (some ⟨r, 0, none⟩) L.length cap) L.length (flat BV.cs L) ∧ Bl w (.slice (some ⟨r, 0, none⟩) L.length cap) L := by
  obtain ⟨⟨r, cap, cur, h1, h2, h3, h4, h5, h6, h7, h8, h9⟩, ho, hl⟩ := h
  have hr : w.ownsRow 0 64 4 (.slice (some ⟨r, 0, none⟩) L.length cap) L.length (flat BV.cs L) := ⟨flat_len1 bvSize L, .inr ⟨r, cap, cur, rfl, Nat.zero_le _, h2, h3, h4, h5, h6⟩⟩
  exact ⟨r, cap, h1, hr, Sq.own bvSize hr (fun b hb => (h9 b hb).1)⟩
theorem FA.fl {TS : Nat → Prop} {w : World} {g : Nat} {L : List BV} (h : FA w g TS L) : Fl w g L := by
  obtain ⟨r, cap, h1, _, h3⟩ := h.row
  exact ⟨_, cap, h1, h3⟩
theorem infoBin : (Tryz.prog.info? 64).map (fun i => (i.zero, i.size, i.bytes)) = some (some (.agg #[.int .i64 0, .int .i64 0, .int .i64 0, .slice none 0 0]), 4, 48) := by kernel_rfl
theorem bv_one {L : List BV} (h : ∀ b ∈ L, ∃ a n c, b.l = .slice a n c) : ∀ u ∈ flat BV.cs L, u.oneCell' = true := by
  intro u hu
  simp only [flat, List.mem_flatMap] at hu
  obtain ⟨b, hb, hr⟩ := hu
  obtain ⟨a, n, c, e⟩ := h b hb
  simp only [BV.cs, e, List.mem_cons, List.not_mem_nil, or_false] at hr
  rcases hr with rfl | rfl | rfl | rfl <;> rfl
set_option maxRecDepth 100000 in
set_option maxHeartbeats 4000000 in
theorem bnClone (w : World) (v : Value) (L : List BV) (h : Bl w v L) (hl : L.length ≤ 1000) (hL : 0 < L.length) : Calls Tryz.prog 97 #[v] w fun e w' =>
    ∃ v', e = .returned v' ∧ w'.ownsRow w.heap.size 64 4 v' L.length (flat BV.cs L) ∧ Fr (fun _ => False) w w' := by
  obtain ⟨i0, hi', hz0, hz1, hz2⟩ := info_parts infoBin
  have hone : ∀ u ∈ flat BV.cs L, u.oneCell' = true := bv_one (fun b hb => by obtain ⟨a, c, e⟩ := (h.okm hb).l.sl; exact ⟨a, _, c, e⟩)
  obtain ⟨hb1, a, c, rfl, hbx⟩ := id h
  obtain ⟨n, hn⟩ : ∃ n, L.length = n := ⟨_, rfl⟩
  have HN := Lib.hid hn
  rw [hn] at hl hb1 hL ⊢
  have hq := fun (w : World) (a : Option Addr) (n c n' c' : Nat) => Lib.run_eql_slice_nil (P := Tryz.prog) w 60 _ a n c n' c' Tryz.underlying60
  obtain ⟨x0, hx0⟩ : ∃ x, L[0]? = some x := ⟨L[0]'(by omega), List.getElem?_eq_getElem _⟩
  obtain ⟨-, ad, rfl, -⟩ := hbx 0 x0 hx0
  have hown : (w.alloc (.cells #[] 64)).ownsRow w.heap.size 64 4 (.slice (some ⟨w.heap.size, 0, none⟩) 0 0) 0 [] := World.ownsRow_made w #[] 0 (Nat.le_refl _) (Nat.zero_le _) rfl
  have hnews : ∀ (i : Nat) (u : Value), (flat BV.cs L)[i]? = some u → (w.alloc (.cells #[] 64)).cell? (ad.add i) = some u := fun i u hu => by
    have hi := (List.getElem?_eq_some_iff.1 hu).1
    rw [flat_len1 bvSize] at hi
    obtain ⟨x, hx⟩ : ∃ x, L[i / 4]? = some x := ⟨L[i / 4]'(by omega), List.getElem?_eq_getElem _⟩
    obtain ⟨-, ad', e, hc⟩ := hbx (i / 4) x hx
    cases e
    have hxs : (BV.cs x)[i % 4]? = some ((BV.cs x)[i % 4]'(by rw [bvSize]; omega)) := Array.getElem?_eq_getElem _
    have h2 := flat_at bvSize hx (i % 4) _ hxs
    have h3 := hc (i % 4) _ hxs
    rw [show i / 4 * 4 + i % 4 = i by omega] at h2 h3
    rw [h2] at hu
    cases hu
    exact ((Fr.refl (fun _ => False) w).alloc _).cell h3 (fun h => h)
  have hul : (flat BV.cs L).length = n * 4 := by rw [flat_len1 bvSize, hn]
  have HNEWS := Lib.hid hnews; have HALL := Lib.hid hone; have HUL := Lib.hid hul; have HO := Lib.hid hown
  clear hnews hone hul hown hbx h hn hx0
  go_enter Tryz.func97, Tryz.ntmps97
  go_wp2_with (at_builtin; refine wpList_append_own_at _ rfl _ _ 60 rfl w.heap.size 64 i0 _ 4 48 Tryz.underlying60 hi' hz0 hz1 hz2 rfl (by decide) (.slice (some ⟨w.heap.size, 0, none⟩) 0 0) 0 [] rfl HO.out ad n _ (flat BV.cs L) rfl HUL.out HNEWS.out HALL.out (by unfold maxLen; omega) (by omega) (by simp) ?_; intro v' w5 hown' hgrow _ hat)
  go_ret
  refine ⟨_, rfl, by simpa using hown', ((Fr.refl (fun _ => False) w).alloc _).trans' (Fr.grown (S := fun b => b = w.heap.size) hgrow (fun r hr _ => by cases hr; rfl)) (fun b hb e => by omega)⟩
end Go.Proofs.YtefjdcghdcbojaaGreat

namespace Go.Proofs.YtefjdcghdcbojaaGreat
open Go.RowKit Go.Maps
/-- The reference's floor at g: these rows. -/
def Rl (W : World) (g : Nat) (L : List BV) : Prop := ∃ a c, W.heap[g]? = some (.cells #[.slice a L.length c] 71) ∧ Bl W (.slice a L.length c) L
theorem Rl.keep {W W' : World} {g : Nat} {L : List BV} (h : Rl W g L) (hf : Fr (fun _ => False) W W') : Rl W' g L := by
  obtain ⟨a, c, h1, h2⟩ := h
  exact ⟨a, c, hf.at_ h1 (fun e => e), h2.fr0 bokKeeps hf⟩
/-- The reference's floor, and the blocks that it owns. -/
structure RA (w : World) (g : Nat) (TS : Nat → Prop) (L : List BV) : Prop where
  ex : ∃ r cap cur, w.heap[g]? = some (.cells #[.slice (some ⟨r, 0, none⟩) L.length cap] 71) ∧ w.heap[r]? = some (.cells cur 75) ∧ L.length ≤ cap ∧ cap ≤ maxLen ∧ cur.size = cap * 4 ∧ cur.toList.take (L.length * 4) = flat BV.cs L ∧ TS r ∧ r ≠ g ∧
    ∀ b ∈ L, BOk w b ∧ (b.its ≠ [] → ∀ c, b.l.ownBlock = some c → TS c ∧ c ≠ g ∧ c ≠ r)
  own : TS g
  lt : ∀ b, TS b → b < w.heap.size
theorem RA.fr {S TS : Nat → Prop} {w w' : World} {g : Nat} {L : List BV} (h : RA w g TS L) (hf : Fr S w w') (hS : ∀ b, TS b → ¬ S b) : RA w' g TS L := by
  obtain ⟨⟨r, cap, cur, h1, h2, h3, h4, h5, h6, h7, h8, h9⟩, ho, hl⟩ := h
  exact ⟨⟨r, cap, cur, hf.at_ h1 (hS _ ho), hf.at_ h2 (hS _ h7), h3, h4, h5, h6, h7, h8, fun b hb => ⟨(h9 b hb).1.keep hf (fun hne c hc => hS _ ((h9 b hb).2 hne c hc).1), (h9 b hb).2⟩⟩, ho, fun b hb => Nat.lt_of_lt_of_le (hl b hb) hf.size⟩
theorem RA.row {TS : Nat → Prop} {w : World} {g : Nat} {L : List BV} (h : RA w g TS L) : ∃ r cap, w.heap[g]? = some (.cells #[.slice (some ⟨r, 0, none⟩) L.length cap] 71) ∧ w.ownsRow 0 75 4 (.slice (some ⟨r, 0, none⟩) L.length cap) L.length (flat BV.cs L) ∧ Bl w (.slice (some ⟨r, 0, none⟩) L.length cap) L := by
  obtain ⟨⟨r, cap, cur, h1, h2, h3, h4, h5, h6, h7, h8, h9⟩, ho, hl⟩ := h
  have hr : w.ownsRow 0 75 4 (.slice (some ⟨r, 0, none⟩) L.length cap) L.length (flat BV.cs L) := ⟨flat_len1 bvSize L, .inr ⟨r, cap, cur, rfl, Nat.zero_le _, h2, h3, h4, h5, h6⟩⟩
  exact ⟨r, cap, h1, hr, Sq.own bvSize hr (fun b hb => (h9 b hb).1)⟩
theorem RA.rl {TS : Nat → Prop} {w : World} {g : Nat} {L : List BV} (h : RA w g TS L) : Rl w g L := by
  obtain ⟨r, cap, h1, _, h3⟩ := h.row
  exact ⟨_, cap, h1, h3⟩
set_option maxRecDepth 100000 in
set_option maxHeartbeats 4000000 in
theorem rFind (w : World) (g : Nat) (L : List BV) (n : Int) (h : Rl w g L) : Calls Tryz.prog 81 #[.pointer (some ⟨g, 0, none⟩), .int .i64 n] w fun e w' => e = .returned (.int .i64 (findF L n)) ∧ Fr (fun _ => False) w w' := by
  obtain ⟨a, c, q1, q2⟩ := h
  have hNI := q2.len
  obtain ⟨N, hN⟩ : ∃ N, L.length = N := ⟨_, rfl⟩
  have HN := Lib.hid hN
  rw [hN] at q1 q2 hNI
  have c0 := cell_obj q1 0 (.slice a N c) rfl
  have HQ1 := Lib.hid q1; have HQ2 := Lib.hid q2
  obtain ⟨R, hR⟩ : ∃ R, findF L n = R := ⟨_, rfl⟩
  rw [hR]
  have HR := Lib.hid hR
  clear q1 q2 hN hR
  go_enter Tryz.func81, Tryz.ntmps81
  go_wp2_with fail
  go_loopw [5] (fun vi wr => ∃ j : Nat, j ≤ N ∧ vi = .int .i64 j ∧ Fr (fun _ => False) w wr ∧ ∀ q x, q < j → L[q]? = some x → decide (x.nu = n) = false) (fun vi _ => N - (intOf vi).toNat)
  case atStart => exact ⟨0, Nat.zero_le _, rfl, Fr.refl _ _, fun q x hq => by omega⟩
  case round =>
    obtain ⟨j, hj, rfl, hfr, hno⟩ := hrel
    have HFR := Lib.hid hfr; have HNO := Lib.hid hno
    have d0 := hfr.cell c0 (fun e => e)
    by_cases hlt : j < N
    · obtain ⟨x, hx⟩ : ∃ x, L[j]? = some x := ⟨L[j]'(by rw [HN.out]; exact hlt), List.getElem?_eq_getElem _⟩
      obtain ⟨ad, rfl, hok, z0, zs⟩ := (HQ2.out.fr0 bokKeeps hfr).at_ hx
      have hkI : (j : Int) < N := by omega
      have x0 := z0 (.int .i64 x.nu) rfl
      have HX := Lib.hid hx
      by_cases e : x.nu = n
      · have b1 : (x.nu == n) = true := by simpa using e
        have hr : Hid (R = (j : Int)) := Lib.hid (by rw [← HR.out]; exact idxOf_at hx (by simpa using e) hno)
        clear hx hok z0 zs hfr hno e c0
        go_wp2_with fail
        go_ret
        exact ⟨by rw [hr.out]; rfl, HFR.out⟩
      · have b1 : (x.nu == n) = false := by simpa using e
        have hnx : Hid (∀ q y, q < j + 1 → L[q]? = some y → decide (y.nu = n) = false) := Lib.hid (fun q y hq hy => by
          by_cases e2 : q = j
          · subst e2; rw [hx] at hy; injection hy with hy; rw [← hy]; exact decide_eq_false e
          · exact hno q y (by omega) hy)
        clear hx hok z0 zs hfr hno e
        go_wp2_with fail
        go_roundw
        case rel => exact ⟨j + 1, by omega, by go_num, HFR.out, hnx.out⟩
        case measure => simp [intOf]; omega
    · obtain rfl : j = N := by omega
      have hkI : ¬ (j : Int) < j := by omega
      have hr : Hid (R = -1) := Lib.hid (by rw [← HR.out]; exact idxOf_no (fun q y hy => hno q y (by have := (List.getElem?_eq_some_iff.1 hy).1; rw [HN.out] at this; exact this) hy))
      clear hfr hno c0
      go_wp2_with fail
      go_ret
      exact ⟨by rw [hr.out]; rfl, HFR.out⟩
end Go.Proofs.YtefjdcghdcbojaaGreat

namespace Go.Proofs.YtefjdcghdcbojaaGreat
open Go.RowKit Go.Maps
attribute [local go_sem] Oper.semAt_some
theorem itsOk_cons (last : Str) (p : Str × Int) (r : Its) : itsOk last (p :: r) = (goodB p.1 && decide (1 ≤ p.2) && mayI p.2 && decide (last < p.1) && itsOk p.1 r) := rfl
/-- Two blocks of the call's own are as told, and all else that was there is as it was. -/
structure MyI (w0 w : World) (n0 : Nat) (r : Bool) (last : Str) : Prop where
  res : w.heap[n0]? = some (.cells #[.bool r] 4)
  last : w.heap[n0 + 1]? = some (.cells #[vS last] 9)
  fr : Fr (fun b => n0 ≤ b) w0 w
theorem MyI.fa {B : Nat} {w0 w w' : World} {n0 : Nat} {r : Bool} {last : Str} (h : MyI w0 w n0 r last) (hf : Fa B w w') (hB : w0.heap.size ≤ B) : MyI w0 w' n0 r last :=
  ⟨Fa.cells hf h.res, Fa.cells hf h.last, h.fr.trans' hf (fun b hb e => by have := e.1; omega)⟩
theorem MyI.keep {w0 w w' : World} {n0 : Nat} {r : Bool} {last : Str} (h : MyI w0 w n0 r last) (hf : Fr (fun _ => False) w w') : MyI w0 w' n0 r last :=
  ⟨hf.at_ h.res (fun h => h), hf.at_ h.last (fun h => h), h.fr.trans' hf (fun _ _ e => e.elim)⟩
theorem MyI.putL {w0 w : World} {n0 : Nat} {r : Bool} {last : Str} (h : MyI w0 w n0 r last) (s : Str) : MyI w0 (w.setCell ⟨n0 + 1, 0, none⟩ (vS s)) n0 r s := by
  have hF : Fr (fun b => b = n0 + 1) w (w.setCell ⟨n0 + 1, 0, none⟩ (vS s)) := (Fr.refl (fun b => b = n0 + 1) w).setCell (p := ⟨n0 + 1, 0, none⟩) (fun _ => rfl) _
  exact ⟨hF.at_ h.res (by omega), obj_set h.last 0 _, h.fr.trans' hF (fun b _ e => by omega)⟩
theorem MyI.putR {w0 w : World} {n0 : Nat} {r : Bool} {last : Str} (h : MyI w0 w n0 r last) (b : Bool) : MyI w0 (w.setCell ⟨n0, 0, none⟩ (.bool b)) n0 b last := by
  have hF : Fr (fun b => b = n0) w (w.setCell ⟨n0, 0, none⟩ (.bool b)) := (Fr.refl (fun b => b = n0) w).setCell (p := ⟨n0, 0, none⟩) (fun _ => rfl) _
  exact ⟨obj_set h.res 0 _, hF.at_ h.last (by omega), h.fr.trans' hF (fun b _ e => by omega)⟩
def MyJ (w0 : World) (n0 : Nat) (L : Its) (k : Nat) (_ : Nat → Prop) (W : World) : Prop := ∃ last, MyI w0 W n0 false last ∧ itsOk [] L = itsOk last (L.drop k)
def MyX (w0 : World) (n0 : Nat) (L : Its) (c : Code) (_ : Nat) (_ : Nat → Prop) (W : World) : Prop := c = .ret ∧ itsOk [] L = false ∧ ∃ last, MyI w0 W n0 false last
set_option maxRecDepth 100000 in
set_option maxHeartbeats 8000000 in
theorem iMay (w : World) (v : Value) (L : Its) (h : Il w v L) : Calls Tryz.prog 70 #[v] w fun e w' => e = .returned (.bool (mayL L)) ∧ Fr (fun _ => False) w w' := by
  obtain ⟨n0, hn0⟩ : ∃ n0, w.heap.size = n0 := ⟨_, rfl⟩
  have HS := Lib.hid hn0
  have HL := Lib.hid h
  have hob := h.lt
  have HOB := Lib.hid hob
  have hokl : Hid (∀ (k : Nat) (p : Str × Int), L[k]? = some p → okS p.1) := Lib.hid (fun k p hp => by obtain ⟨_, _, _, _, hx⟩ := h; exact (hx k p hp).1)
  obtain ⟨a, c, rfl⟩ := h.sl
  obtain ⟨N, hN⟩ : ∃ N, L.length = N := ⟨_, rfl⟩
  have HN := Lib.hid hN
  have hNb : (N : Int) ≤ 9223372036854775807 := by have := h.1; omega
  rw [hN] at HL HOB ⊢
  clear h hob hN
  refine (callsIn_wide (n := 0)).1 ?_
  refine callsIn_of_wp_marks Tryz.func70 rfl trivial ?_ rfl
  simp only [Tryz.ntmps70, List.size_toArray, List.length_cons, List.length_nil, Nat.reduceAdd, Nat.reduceSub, Array.replicate_succ, Array.replicate_zero, List.push_toArray, List.append_toArray, List.nil_append, List.cons_append]
  have hfn : ∀ f, Fence.wide.fn f := fun _ => trivial
  have hdp : Fence.wide.depth.isSome = false := rfl
  gi_wp2_with (gi_at_call 84; refine (callsIn_wide.2 (iAll _ _ _ _)).mono ?_; rintro e w1 ⟨rfl, rfl⟩)
  have hI0 : MyI w (((w.alloc (.cells #[.bool false] 4)).alloc (.cells #[vS []] 9)).alloc (.cells #[.slice a N c] 57)) n0 false [] := by
    refine ⟨heap_keep (heap_keep (heap_at hn0.symm _) _) _, heap_keep (heap_at (by simp; omega) _) _, (((Fr.refl _ w).alloc _).alloc _).alloc _⟩
  have hB0 : Boxed (((w.alloc (.cells #[.bool false] 4)).alloc (.cells #[vS []] 9)).alloc (.cells #[.slice a N c] 57)) (n0 + 2) 57 (.slice a N c) := heap_at (by simp; omega) _
  obtain ⟨W0, hW0⟩ : ∃ W0, (((w.alloc (.cells #[.bool false] 4)).alloc (.cells #[vS []] 9)).alloc (.cells #[.slice a N c] 57)) = W0 := ⟨_, rfl⟩
  have hs0 : W0.heap.size = n0 + 3 := by rw [← hW0]; simp; omega
  rw [hW0] at hI0 hB0 ⊢
  have hL0 := HL.out.fr hI0.fr (fun b hb => by omega)
  have HI0 := Lib.hid hI0; have HS0 := Lib.hid hs0
  clear hW0 hI0
  refine rangeX (w0 := W0) (X := L) (S := fun b => b = n0 ∨ b = n0 + 1) rfl (enters_of Tryz.func116 (by kernel_rfl) rfl)
    (iAll1 _ W0 (n0 + 2) _ L hB0 hL0 (by omega) (fun hl b hb e => by have := HOB.out hl b e; omega)) (Below.refl _ _) (fun b hb => by omega) (fun _ => rfl)
    (MyJ w n0 L) (MyX w n0 L)
    (fun k C W W' hs hf => by obtain ⟨l, h1, h2⟩ := hs; exact ⟨l, h1.fa hf (by omega), h2⟩) (fun c k C W W' hs hf => by obtain ⟨e, e2, l, h1⟩ := hs; exact ⟨e, e2, l, h1.fa hf (by omega)⟩)
    ⟨[], HI0.out, rfl⟩ ?round ?done ?stop
  case round =>
    rintro lp k x C W hx hlp hi hr
    dsimp only [encIt]
    gi_wp2
    refine Took.mk (Fr.refl _ _) hi ?_
    rintro Wb ⟨last, hM, hrest⟩ hrb hf hsz hsw hCC _
    have hdr : L.drop k = x :: L.drop (k + 1) := List.drop_eq_getElem?_toList_append |>.trans (by rw [hx]; rfl)
    rw [hdr, itsOk_cons] at hrest
    have hok := hokl.out k x hx
    obtain ⟨g, n⟩ := x
    dsimp only at hrest hok ⊢
    have HM := Lib.hid hM; have HOK := Lib.hid hok
    clear hM hok hi hr hf hrb hdr hx
    by_cases hg : goodB g = true
    · rw [hg, Bool.true_and] at hrest
      by_cases h1 : 1 ≤ n
      · rw [decide_eq_true h1, Bool.true_and] at hrest
        cases hm : mayI n with
        | false =>
          have HNO : Hid (itsOk [] L = false) := Lib.hid (by rw [hrest, hm]; rfl)
          clear hrest
          gi_wp2_with (first
        | (gi_at_call 90; refine (callsIn_wide.2 (iGood _ g HOK.out)).mono ?_; rw [hg]; rintro e w2 ⟨rfl, hf2⟩; have hM2 := HM.out.keep hf2; have HM2 := Lib.hid hM2; have HF2 := Lib.hid hf2; have c0 := cell_obj hM2.last 0 (vS last) rfl; have f0 := obj_frozen hM2.last 0; have cr := cell_obj hM2.res 0 (.bool false) rfl; have fr := obj_frozen hM2.res 0; clear hM2 hf2)
        | (gi_at_call 91; refine (callsIn_wide.2 (kMay _ n)).mono ?_; rw [hm]; rintro e w3 ⟨rfl, rfl⟩))
          refine ⟨(HF2.out.mono (fun _ _ e => e.elim)).setCell (p := ⟨n0, 0, none⟩) (fun _ => .inl (.inl rfl)) _, rfl, HNO.out, last, HM2.out.putR false⟩
        | true =>
          rw [hm, Bool.true_and] at hrest
          rcases str_tri last g with hlt | heq | hgt
          · have HYES : Hid (itsOk [] L = itsOk g (L.drop (k + 1))) := Lib.hid (by rw [hrest, decide_eq_true hlt, Bool.true_and])
            have q1 : Op.bytesLess g last = false := by rw [bytesLess_eq]; simpa using str_asym hlt
            have q2 : (g == last) = false := by
              simp only [beq_eq_false_iff_ne, ne_eq]
              rintro rfl; exact str_irr _ hlt
            clear hrest hlt
            gi_wp2_with (first
        | (gi_at_call 90; refine (callsIn_wide.2 (iGood _ g HOK.out)).mono ?_; rw [hg]; rintro e w2 ⟨rfl, hf2⟩; have hM2 := HM.out.keep hf2; have HM2 := Lib.hid hM2; have HF2 := Lib.hid hf2; have c0 := cell_obj hM2.last 0 (vS last) rfl; have f0 := obj_frozen hM2.last 0; have cr := cell_obj hM2.res 0 (.bool false) rfl; have fr := obj_frozen hM2.res 0; clear hM2 hf2)
        | (gi_at_call 91; refine (callsIn_wide.2 (kMay _ n)).mono ?_; rw [hm]; rintro e w3 ⟨rfl, rfl⟩))
            exact ⟨(HF2.out.mono (fun _ _ e => e.elim)).setCell (p := ⟨n0 + 1, 0, none⟩) (fun _ => .inl (.inr rfl)) _, g, HM2.out.putL g, HYES.out⟩
          · have HNO : Hid (itsOk [] L = false) := Lib.hid (by rw [hrest, heq, decide_eq_false (str_irr g), Bool.false_and])
            have q2 : (g == last) = true := by simp [heq]
            clear hrest heq
            gi_wp2_with (first
        | (gi_at_call 90; refine (callsIn_wide.2 (iGood _ g HOK.out)).mono ?_; rw [hg]; rintro e w2 ⟨rfl, hf2⟩; have hM2 := HM.out.keep hf2; have HM2 := Lib.hid hM2; have HF2 := Lib.hid hf2; have c0 := cell_obj hM2.last 0 (vS last) rfl; have f0 := obj_frozen hM2.last 0; have cr := cell_obj hM2.res 0 (.bool false) rfl; have fr := obj_frozen hM2.res 0; clear hM2 hf2)
        | (gi_at_call 91; refine (callsIn_wide.2 (kMay _ n)).mono ?_; rw [hm]; rintro e w3 ⟨rfl, rfl⟩))
            refine ⟨(HF2.out.mono (fun _ _ e => e.elim)).setCell (p := ⟨n0, 0, none⟩) (fun _ => .inl (.inl rfl)) _, rfl, HNO.out, last, HM2.out.putR false⟩
          · have HNO : Hid (itsOk [] L = false) := Lib.hid (by rw [hrest, decide_eq_false (str_asym hgt), Bool.false_and])
            have q1 : Op.bytesLess g last = true := by rw [bytesLess_eq]; simpa using hgt
            clear hrest hgt
            gi_wp2_with (first
        | (gi_at_call 90; refine (callsIn_wide.2 (iGood _ g HOK.out)).mono ?_; rw [hg]; rintro e w2 ⟨rfl, hf2⟩; have hM2 := HM.out.keep hf2; have HM2 := Lib.hid hM2; have HF2 := Lib.hid hf2; have c0 := cell_obj hM2.last 0 (vS last) rfl; have f0 := obj_frozen hM2.last 0; have cr := cell_obj hM2.res 0 (.bool false) rfl; have fr := obj_frozen hM2.res 0; clear hM2 hf2)
        | (gi_at_call 91; refine (callsIn_wide.2 (kMay _ n)).mono ?_; rw [hm]; rintro e w3 ⟨rfl, rfl⟩))
            refine ⟨(HF2.out.mono (fun _ _ e => e.elim)).setCell (p := ⟨n0, 0, none⟩) (fun _ => .inl (.inl rfl)) _, rfl, HNO.out, last, HM2.out.putR false⟩
      · have HNO : Hid (itsOk [] L = false) := Lib.hid (by rw [hrest, decide_eq_false h1, Bool.false_and, Bool.false_and, Bool.false_and])
        have h1' : n < 1 := by omega
        clear hrest
        gi_wp2_with (first
        | (gi_at_call 90; refine (callsIn_wide.2 (iGood _ g HOK.out)).mono ?_; rw [hg]; rintro e w2 ⟨rfl, hf2⟩; have hM2 := HM.out.keep hf2; have HM2 := Lib.hid hM2; have HF2 := Lib.hid hf2; have c0 := cell_obj hM2.last 0 (vS last) rfl; have f0 := obj_frozen hM2.last 0; have cr := cell_obj hM2.res 0 (.bool false) rfl; have fr := obj_frozen hM2.res 0; clear hM2 hf2)
        | (gi_at_call 91; refine (callsIn_wide.2 (kMay _ n)).mono ?_; rw [hm]; rintro e w3 ⟨rfl, rfl⟩))
        refine ⟨(HF2.out.mono (fun _ _ e => e.elim)).setCell (p := ⟨n0, 0, none⟩) (fun _ => .inl (.inl rfl)) _, rfl, HNO.out, last, HM2.out.putR false⟩
    · have hg : goodB g = false := by simpa using hg
      have HNO : Hid (itsOk [] L = false) := Lib.hid (by rw [hrest, hg]; rfl)
      clear hrest
      gi_wp2_with (first
        | (gi_at_call 90; refine (callsIn_wide.2 (iGood _ g HOK.out)).mono ?_; rw [hg]; rintro e w2 ⟨rfl, hf2⟩; have hM2 := HM.out.keep hf2; have HM2 := Lib.hid hM2; have HF2 := Lib.hid hf2; have c0 := cell_obj hM2.last 0 (vS last) rfl; have f0 := obj_frozen hM2.last 0; have cr := cell_obj hM2.res 0 (.bool false) rfl; have fr := obj_frozen hM2.res 0; clear hM2 hf2)
        | (gi_at_call 91; refine (callsIn_wide.2 (kMay _ n)).mono ?_; rw [hm]; rintro e w3 ⟨rfl, rfl⟩))
      refine ⟨(HF2.out.mono (fun _ _ e => e.elim)).setCell (p := ⟨n0, 0, none⟩) (fun _ => .inl (.inl rfl)) _, rfl, HNO.out, last, HM2.out.putR false⟩
  case stop =>
    rintro D c k C W hD hk ⟨rfl, hF, last, hM⟩ hr hK
    have HM := Lib.hid hM; have HNO := Lib.hid hF
    have hc5 := cell_obj (Fa.cells (frPut (B := n0) (.deferred none) (by omega) hK rfl) hM.res) 0 (.bool false) rfl
    clear hM hF hr
    gi_wp2_with fail
    refine ⟨by simp, .inl ⟨_, _, rfl, run_takeDeferred hK, ?_⟩⟩
    refine ⟨.bool (mayL L), by simp [results, Tryz.results70, go_sem, hc5, mayL, HNO.out], rfl, ?_⟩
    exact (HM.out.fr.putObj (l := D) (fun _ => by omega) _).mono (fun b hb e => by omega)
  case done =>
    rintro D C W hD ⟨last, hM, hrest⟩ hr hK
    have HYES : Hid (itsOk [] L = true) := Lib.hid (by rw [hrest, List.drop_length]; rfl)
    have HM := Lib.hid hM
    have cr := cell_obj hM.res 0 (.bool false) rfl
    have fr := obj_frozen hM.res 0
    have hR5 := (hM.putR (decide ((N : Int) ≤ 16))).res
    have hK5 := (Below.heap_setCell W ⟨n0, 0, none⟩ (.bool (decide ((N : Int) ≤ 16))) D (by simp; omega)).trans hK
    have HR5 := Lib.hid hR5; have HK5 := Lib.hid hK5
    clear hM hrest hr hK hR5 hK5
    gi_wp2_with fail
    have hc5 := cell_obj (Fa.cells (frPut (B := n0) (.deferred none) (by omega) HK5.out rfl) HR5.out) 0 (.bool (decide ((N : Int) ≤ 16))) rfl
    refine ⟨by simp, .inl ⟨_, _, rfl, run_takeDeferred HK5.out, ?_⟩⟩
    refine ⟨.bool (decide ((N : Int) ≤ 16)), by simp [results, Tryz.results70, go_sem, hc5], ?_, ?_⟩
    · have : mayL L = decide ((N : Int) ≤ 16) := by
        unfold mayL
        rw [HYES.out, Bool.true_and, HN.out]
        by_cases h : N ≤ 16
        · rw [decide_eq_true h, decide_eq_true (by omega)]
        · rw [decide_eq_false h, decide_eq_false (by omega)]
      rw [this]
    · exact ((HM.out.putR _).fr.putObj (l := D) (fun _ => by omega) _).mono (fun b hb e => by omega)
end Go.Proofs.YtefjdcghdcbojaaGreat

namespace Go.Proofs.YtefjdcghdcbojaaGreat
open Go.RowKit Go.Maps
theorem r5May (w : World) (n : Int) : Calls Tryz.prog 93 #[.int .i64 n] w fun e w' => e = .returned (.bool (mayI n)) ∧ w = w' := by
  unfold mayI
  by_cases h1 : 0 ≤ n <;> by_cases h2 : n ≤ 1099511627776
  all_goals
    simp only [h1, h2, decide_true, decide_false, Bool.and_true, Bool.and_false]
    go_enter Tryz.func93, Tryz.ntmps93
    go_wp2
    go_ret
    exact ⟨rfl, rfl⟩
set_option maxRecDepth 100000 in
set_option maxHeartbeats 4000000 in
theorem r6Good (w : World) (s : Str) (hs : okS s) : Calls Tryz.prog 92 #[vS s] w fun e w' => e = .returned (.bool (goodB s)) ∧ w = w' := by
  obtain ⟨G, hG⟩ : ∃ G, goodB s = G := ⟨_, rfl⟩
  rw [hG]
  have HG := Lib.hid hG
  obtain ⟨B, hB⟩ : ∃ B, ByteArray.mk s.toArray = B := ⟨_, rfl⟩
  have hsz : B.size = s.length := by rw [← hB]; simp [ByteArray.size]
  have hge : ∀ k (h : k < B.size) (h' : k < s.length), B[k]'h = s[k]'h' := by subst hB; exact fun k h h' => rfl
  have HSZ := Lib.hid hsz; have HGE := Lib.hid hge; have HBB := Lib.hid hB
  have hs : (s.length : Int) ≤ 9223372036854775807 := by unfold okS maxLen at hs; omega
  rw [← hsz] at hs
  unfold vS
  rw [hB]
  clear hG hB hsz hge
  go_enter Tryz.func92, Tryz.ntmps92
  go_wp2_with fail
  go_loopw [3] (fun i wr => ∃ k : Nat, k ≤ B.size ∧ i = .int .i64 k ∧ wr = w ∧ ∀ j (h : j < s.length), j < k → goodC s[j] = true) (fun i _ => B.size - (intOf i).toNat)
  case atStart => exact ⟨0, Nat.zero_le _, rfl, rfl, fun j _ hj => by omega⟩
  case round =>
    obtain ⟨k, hk, rfl, rfl, hall⟩ := hrel
    have HA := Lib.hid hall
    clear hall
    by_cases hp : k < B.size
    · have hkl : k < s.length := by rw [← HSZ.out]; exact hp
      have hc := HGE.out k hp hkl
      have hpI : (k : Int) < B.size := by omega
      obtain ⟨x, hx⟩ : ∃ x : Nat, (B[k]'hp).toNat = x := ⟨_, rfl⟩
      have hix : ∀ W : World, (Instr.index 9 (.string B) (.int .i64 k)).run Tryz.prog W = .ok (.int .u8 (x : Int)) W := fun W => by
        rw [run_index_string W 9 B .i64 k Tryz.underlying9, dif_pos (by omega)]
        simp only [Int.toNat_natCast, hx]
      have hno : Hid (goodC s[k] = false → G = false) := Lib.hid (fun h => by rw [← HG.out]; exact goodB_bad hkl h)
      have hgc : Hid (goodC s[k] = ((decide (97 ≤ x) && decide (x ≤ 122)) || (decide (48 ≤ x) && decide (x ≤ 57)) || decide (x = 45))) := Lib.hid (by rw [← hx, hc]; rfl)
      have hstep : Hid (goodC s[k] = true → ∀ j (h : j < s.length), j < k + 1 → goodC s[j] = true) := Lib.hid (fun hg j h hj => by
          by_cases e : j = k
          · subst e; exact hg
          · exact HA.out j h (by omega))
      clear hc hx
      rcases (by omega : (97 ≤ x ∧ x ≤ 122) ∨ x < 48 ∧ x ≠ 45 ∨ x = 45 ∨ (48 ≤ x ∧ x ≤ 57) ∨ (57 < x ∧ x < 97) ∨ 122 < x) with h | h | h | h | h | h
      · have hy := Lib.hid (hstep.out (by rw [hgc.out]; simp [h.1, h.2]))
        obtain ⟨h1, h2⟩ := h
        have q1 : (97 : Int) ≤ x := by omega
        have q2 : (x : Int) ≤ 122 := by omega
        go_wp2_with fail
        go_roundw
        case rel => exact ⟨k + 1, by omega, by go_num, trivial, hy.out⟩
        case measure => simp [intOf]; omega
      · have hn := Lib.hid (hno.out (by rw [hgc.out]; simp; omega))
        obtain ⟨h1, h2⟩ := h
        have q1 : ¬ (48 : Int) ≤ x := by omega
        have q2 : ((x : Int) == 45) = false := by simp; omega
        have q3 : ¬ (97 : Int) ≤ x := by omega
        go_wp2_with fail
        go_ret
        exact ⟨by rw [hn.out]; rfl, rfl⟩
      · have hy := Lib.hid (hstep.out (by rw [hgc.out]; simp [h]))
        subst h
        go_wp2_with fail
        go_roundw
        case rel => exact ⟨k + 1, by omega, by go_num, trivial, hy.out⟩
        case measure => simp [intOf]; omega
      · have hy := Lib.hid (hstep.out (by rw [hgc.out]; simp [h.1, h.2]))
        obtain ⟨h1, h2⟩ := h
        have q1 : (48 : Int) ≤ x := by omega
        have q2 : (x : Int) ≤ 57 := by omega
        have q3 : ¬ (97 : Int) ≤ x := by omega
        go_wp2_with fail
        go_roundw
        case rel => exact ⟨k + 1, by omega, by go_num, trivial, hy.out⟩
        case measure => simp [intOf]; omega
      · have hn := Lib.hid (hno.out (by rw [hgc.out]; simp; omega))
        obtain ⟨h1, h2⟩ := h
        have q1 : (48 : Int) ≤ x := by omega
        have q2 : ¬ (x : Int) ≤ 57 := by omega
        have q3 : ¬ (97 : Int) ≤ x := by omega
        have q4 : ((x : Int) == 45) = false := by simp; omega
        go_wp2_with fail
        go_ret
        exact ⟨by rw [hn.out]; rfl, rfl⟩
      · have hn := Lib.hid (hno.out (by rw [hgc.out]; simp; omega))
        have q1 : (48 : Int) ≤ x := by omega
        have q2 : ¬ (x : Int) ≤ 57 := by omega
        have q3 : (97 : Int) ≤ x := by omega
        have q5 : ¬ (x : Int) ≤ 122 := by omega
        have q4 : ((x : Int) == 45) = false := by simp; omega
        go_wp2_with fail
        go_ret
        exact ⟨by rw [hn.out]; rfl, rfl⟩
    · obtain rfl : k = B.size := by omega
      have hg : Hid (G = (decide (0 < B.size) && decide (B.size ≤ 16))) := Lib.hid (by
        rw [← HG.out]
        have : s.all goodC = true := List.all_eq_true.2 (fun c hc => by
          obtain ⟨i, hi, rfl⟩ := List.getElem_of_mem hc
          exact HA.out i hi (by rw [HSZ.out]; exact hi))
        unfold goodB
        rw [this, HSZ.out]; rfl)
      obtain ⟨m, hm⟩ : ∃ m, B.size = m := ⟨_, rfl⟩
      rw [hm] at hg
      rcases (by omega : m < 1 ∨ (1 ≤ m ∧ m ≤ 16) ∨ 16 < m) with h | ⟨h, h'⟩ | h
      · have q1 : ¬ (1 : Int) ≤ m := by omega
        go_wp2_with fail
        go_ret
        exact ⟨by rw [hg.out]; simp; omega, rfl⟩
      · have q1 : (1 : Int) ≤ m := by omega
        have q2 : (m : Int) ≤ 16 := by omega
        go_wp2_with fail
        go_ret
        exact ⟨by rw [hg.out]; simp; omega, rfl⟩
      · have q1 : (1 : Int) ≤ m := by omega
        have q2 : ¬ (m : Int) ≤ 16 := by omega
        go_wp2_with fail
        go_ret
        exact ⟨by rw [hg.out]; simp; omega, rfl⟩
end Go.Proofs.YtefjdcghdcbojaaGreat

namespace Go.Proofs.YtefjdcghdcbojaaGreat
open Go.RowKit Go.Maps
/-- An item's cells, at its place. -/
theorem Il.at_ {w : World} {a : Option Addr} {n c k : Nat} {L : Its} {p : Str × Int} (h : Il w (.slice a n c) L) (hp : L[k]? = some p) : ∃ ad, a = some ad ∧ okS p.1 ∧ okI p.2 ∧ w.cell? (ad.add (k * 2)) = some (vS p.1) ∧ w.cell? ⟨(ad.add (k * 2)).block, (ad.add (k * 2)).off + 1, none⟩ = some (.int .i64 p.2) := by
  obtain ⟨_, a', c', e, h1⟩ := h
  injection e with e1 _ _
  obtain ⟨x1, x2, ad, x3, x4, x5⟩ := h1 k p hp
  exact ⟨ad, e1.trans x3, x1, x2, x4, x5⟩
end Go.Proofs.YtefjdcghdcbojaaGreat

namespace Go.Proofs.YtefjdcghdcbojaaGreat
open Go.RowKit
/-- Bytes. -/
def Bs (w : World) (v : Value) (bs : List Int) : Prop := bs.length ≤ 9223372036854775807 ∧ ∃ (a : Option Addr) (c : Nat), v = .slice a bs.length c ∧ ∀ (i : Nat) (x : Int), bs[i]? = some x → 0 ≤ x ∧ x < 256 ∧ ∃ ad, a = some ad ∧ w.cell? (ad.add i) = some (.int .u8 x)
theorem Bs.nil (w : World) : Bs w (.slice none 0 0) [] := ⟨by simp, none, 0, rfl, fun i x h => by simp at h⟩
theorem Bs.fr {S : Nat → Prop} {w w' : World} {v : Value} {bs : List Int} (h : Bs w v bs) (hf : Fr S w w') (hS : ∀ b, S b → w.heap.size ≤ b) : Bs w' v bs := by
  obtain ⟨h0, a, c, e, h1⟩ := h
  refine ⟨h0, a, c, e, fun i x hx => ?_⟩
  obtain ⟨b1, b2, ad, e, hc⟩ := h1 i x hx
  exact ⟨b1, b2, ad, e, hf.cell hc (fun hs => by have := hS _ hs; have := World.block_lt_of_cell? w _ hc; omega)⟩
end Go.Proofs.YtefjdcghdcbojaaGreat

namespace Go.Proofs.YtefjdcghdcbojaaGreat
open Go.RowKit Go.Maps
theorem infoU8 : (Tryz.prog.info? 5).map (fun i => (i.zero, i.size, i.bytes)) = some (some (.int .u8 0), 1, 1) := by kernel_rfl
/-- k bytes of u, the highest first. -/
def beB (u : Nat) : Nat → List Int
  | 0 => []
  | k + 1 => ((u / 256 ^ k % 256 : Nat) : Int) :: beB u k
def nSz (u : Nat) : Nat := (Lib.bitLen u + 7) / 8
def numH (n : Int) : Int := if n < 0 then 144 else 128
def numU (n : Int) : Nat := if n < 0 then (-1 - n).toNat else n.toNat
/-- A number's cell. -/
def numB (n : Int) : List Int := if 0 ≤ n ∧ n < 128 then [n] else (numH n + nSz (numU n)) :: beB (numU n) (nSz (numU n))
theorem beB_len (u : Nat) : ∀ k, (beB u k).length = k
  | 0 => rfl
  | k + 1 => by simp [beB, beB_len u k]
/-- Bytes as values. -/
def u8s (l : List Int) : List Value := l.map (.int .u8)
/-- Bytes that lie in memory from block B on. -/
def Bn (B : Nat) (w : World) (v : Value) (bs : List Int) : Prop := Bs w v bs ∧ ∀ b, v.ownBlock = some b → B ≤ b
theorem beB_mem {u k : Nat} {x : Int} (h : x ∈ beB u k) : 0 ≤ x ∧ x < 256 := by
  induction k with
  | zero => cases h
  | succ k ih =>
    simp only [beB, List.mem_cons] at h
    rcases h with rfl | h
    · omega
    · exact ih h
theorem nSz_le {u : Nat} (h : u < 18446744073709551616) : nSz u ≤ 8 := by
  have := Lib.bitLen_le u 64 (by omega) h
  unfold nSz; omega
theorem numU_lt {n : Int} (h : okI n) : numU n < 9223372036854775808 := by unfold numU okI at *; split <;> omega
theorem numB_mem {n : Int} (h : okI n) {x : Int} (hx : x ∈ numB n) : 0 ≤ x ∧ x < 256 := by
  unfold numB at hx
  split at hx
  · simp at hx; omega
  · simp only [List.mem_cons] at hx
    rcases hx with rfl | hx
    · have := nSz_le (u := numU n) (by have := numU_lt h; omega)
      unfold numH; split <;> omega
    · exact beB_mem hx
theorem numB_len {n : Int} (h : okI n) : 1 ≤ (numB n).length ∧ (numB n).length ≤ 9 := by
  unfold numB
  split
  · simp
  · have := nSz_le (u := numU n) (by have := numU_lt h; omega)
    simp [beB_len]; omega
/-- A row of the call's own, read as bytes. -/
theorem Bs.own {w : World} {base : Nat} {v : Value} {bs : List Int} (h : w.ownsRow base 5 1 v bs.length (u8s bs)) (hb : ∀ x ∈ bs, 0 ≤ x ∧ x < 256) : Bn base w v bs := by
  rcases Nat.eq_zero_or_pos bs.length with h0 | h0
  · have : bs = [] := List.eq_nil_of_length_eq_zero h0
    subst this
    obtain ⟨hl, h1 | ⟨g, cap, cur, rfl, hbs, hh, hn, hm, hs, ht⟩⟩ := h
    · obtain ⟨rfl, -⟩ := h1
      exact ⟨Bs.nil w, fun b hb => by cases hb⟩
    · exact ⟨⟨by simp, _, cap, rfl, fun i x hx => by simp at hx⟩, fun b hb => by cases hb; exact hbs⟩
  · obtain ⟨g, cap, rfl, hg, hlt⟩ := h.form h0
    refine ⟨⟨?_, _, cap, rfl, fun i x hx => ?_⟩, fun b hb => by cases hb; exact hg⟩
    · obtain ⟨-, h1 | ⟨g', cap', cur, e, _, _, hn, hm, _, _⟩⟩ := h
      · omega
      · have hm : cap' ≤ 9223372036854775807 := hm
        omega
    · have hi := (List.getElem?_eq_some_iff.1 hx).1
      have hmem : x ∈ bs := List.mem_of_getElem? hx
      refine ⟨(hb x hmem).1, (hb x hmem).2, _, rfl, ?_⟩
      have := h.cellAt (g := g) (j := i) (by simpa using hi)
      rw [show (⟨g, 0, none⟩ : Addr).add i = ⟨g, i, none⟩ by simp [Addr.add]; omega, this]
      simp [u8s, hx]
end Go.Proofs.YtefjdcghdcbojaaGreat

namespace Go.Proofs.YtefjdcghdcbojaaGreat
open Go.RowKit Go.Maps
theorem beB_get (u : Nat) : ∀ {s k : Nat}, k < s → (beB u s)[k]? = some ((u / 256 ^ (s - 1 - k) % 256 : Nat) : Int)
  | 0, _, h => by omega
  | s + 1, 0, _ => by simp [beB]
  | s + 1, k + 1, h => by
    have := beB_get u (s := s) (k := k) (by omega)
    simp only [beB, List.getElem?_cons_succ]
    rw [this, show s + 1 - 1 - (k + 1) = s - 1 - k by omega]
theorem cClip (w : World) (a : Addr) (n c : Nat) (h : n ≤ c) (hc : c ≤ 9223372036854775807) : Calls Tryz.prog 115 #[.slice (some a) n c] w fun e w' => e = .returned (.slice (some a) n n) ∧ w = w' := by
  go_enter Tryz.func115, Tryz.ntmps115
  go_wp2
  go_ret
  exact ⟨rfl, rfl⟩
theorem pow256 (U m : Nat) : ((U : Int) / 2 ^ (8 * m)) % 256 = ((U / 256 ^ m % 256 : Nat) : Int) := by
  have : (2 : Int) ^ (8 * m) = ((256 ^ m : Nat) : Int) := by
    rw [Int.pow_mul]; simp
  rw [this]; simp
theorem own_cap {w : World} {base : Nat} {e : TypeId} {size n m cap : Nat} {a : Addr} {xs : List Value} (h : w.ownsRow base e size (.slice (some a) n cap) m xs) : n ≤ cap ∧ cap ≤ 9223372036854775807 := by
  rcases h.2 with ⟨h0, _⟩ | ⟨g, c, cur, e1, _, _, h1, h2, _⟩
  · cases h0
  · injection e1 with e2 e3 e4
    subst e3 e4
    exact ⟨h1, h2⟩
theorem Bn.clip {B : Nat} {w : World} {a : Option Addr} {n c c' : Nat} {bs : List Int} (h : Bn B w (.slice a n c) bs) : Bn B w (.slice a n c') bs := by
  obtain ⟨⟨h0, a', c1, e, h1⟩, h2⟩ := h
  injection e with e1 e2 e3
  subst e1 e2
  exact ⟨⟨h0, _, c', rfl, h1⟩, fun b hb => h2 b (by cases a <;> exact hb)⟩
theorem xorOnes (m : Nat) (h : m < 18446744073709551616) : 18446744073709551615 ^^^ m = 18446744073709551615 - m := by
  have h1 := congrArg BitVec.toNat (BitVec.allOnes_xor (x := BitVec.ofNat 64 m))
  rw [BitVec.toNat_xor, BitVec.toNat_not, BitVec.toNat_allOnes, BitVec.toNat_ofNat, Nat.mod_eq_of_lt (by simpa using h)] at h1
  simpa using h1
theorem notU64 {n : Int} (h0 : -9223372036854775808 ≤ n) (h1 : n < 0) : bits BinOp.xor IntKind.u64 IntKind.u64.max (IntKind.u64.wrap n) = ((-1 - n).toNat : Int) := by
  have e1 : IntKind.u64.max = ((18446744073709551615 : Nat) : Int) := by decide
  have e2 : IntKind.u64.wrap n = ((n + 18446744073709551616).toNat : Int) := by
    show n % 18446744073709551616 = _
    omega
  rw [e1, e2, u64_xor_nat _ _ (by omega) (by omega), xorOnes _ (by omega)]
  omega
set_option maxRecDepth 100000 in
set_option maxHeartbeats 2000000 in
theorem cNum (w : World) (n : Int) (hn : okI n) : Calls Tryz.prog 83 #[.int .i64 n] w fun e w' => ∃ v, e = .returned v ∧ Bn w.heap.size w' v (numB n) ∧ Below w.heap.size w w' := by
  obtain ⟨i0, hi', hz0, hz1, hz2⟩ := info_parts infoU8
  have HN := Lib.hid hn
  unfold okI at hn
  by_cases h : 0 ≤ n ∧ n < 128
  · obtain ⟨h0, h1⟩ := h
    have e : numB n = [n] := by unfold numB; rw [if_pos ⟨h0, h1⟩]
    rw [e]
    go_enter Tryz.func83, Tryz.ntmps83
    go_wp2
    go_ret
    exact ⟨_, rfl, Bs.own (w := w.alloc (.cells #[.int .u8 n] 5)) (base := w.heap.size) ⟨by simp [u8s], .inr ⟨_, _, _, rfl, Nat.le_refl _, heap_new _ _, by simp, by decide, by simp, by simp [u8s]⟩⟩ (fun x hx => by simp at hx; omega), (Below.refl _ _).alloc (Nat.le_refl _) _⟩
  · obtain ⟨U, hU⟩ : ∃ U, numU n = U := ⟨_, rfl⟩
    have hU1 := numU_lt HN.out
    have e : numB n = (numH n + nSz U) :: beB U (nSz U) := by unfold numB; rw [if_neg h, hU]
    rw [e]
    rw [hU] at hU1
    obtain ⟨s, hs⟩ : ∃ s, nSz U = s := ⟨_, rfl⟩
    rw [hs]
    have hs8 : s ≤ 8 := by rw [← hs]; exact nSz_le (by omega)
    have hLen := bLen64 (U : Int) w (by omega) (by omega)
    rw [show (U : Int).toNat = U from rfl] at hLen
    obtain ⟨bl, hbl⟩ : ∃ bl, Lib.bitLen U = bl := ⟨_, rfl⟩
    have hbs : (bl + 7) / 8 = s := by rw [← hs, ← hbl]; rfl
    rw [hbl] at hLen
    have hbl64 : bl ≤ 64 := by rw [← hbl]; exact Lib.bitLen_le U 64 (by omega) (by omega)
    have HL := Lib.hid hLen
    clear hLen
    rcases (by omega : n < 0 ∨ 128 ≤ n) with hneg | hpos
    · have hH : numH n = 144 := if_pos hneg
      have hX := notU64 hn.1 hneg
      have hUn : (-1 - n).toNat = U := by rw [← hU]; unfold numU; rw [if_pos hneg]
      rw [hUn] at hX
      rw [hH]
      clear hU hs hbl h e
      go_enter Tryz.func83, Tryz.ntmps83
      go_wp2_with fail
      refine HL.out.mono ?_
      rintro e w' ⟨rfl, hww⟩
      have hww := hww.symm
      subst hww
      go_wp2_with fail
      go_loopw [6, 7] (fun o i wr => ∃ k : Nat, k ≤ s ∧ i = .int .i64 ((s : Int) - 1 - k) ∧ wr.ownsRow w.heap.size 5 1 o (1 + k) (u8s ((144 + (s : Int)) :: (beB U s).take k)) ∧ Below w.heap.size w wr) (fun _ i _ => (intOf i + 1).toNat)
      case atStart =>
        refine ⟨0, by omega, val_int (by omega), ⟨by simp [u8s], .inr ⟨_, _, _, rfl, Nat.le_refl _, heap_new _ _, by simp, by decide, by simp, ?_⟩⟩, (Below.refl _ _).alloc (Nat.le_refl _) _⟩
        simp [u8s]; omega
      case round =>
        obtain ⟨k, hk, rfl, hown, hB⟩ := hrel
        by_cases hks : k < s
        · have HOW := Lib.hid hown; have HBB := Lib.hid hB
          have hBs := hB.size
          clear hown hB
          go_wp2_with (at_builtin; refine wpList_append_own_at _ rfl _ _ 22 rfl w.heap.size 5 i0 (.int .u8 0) 1 1 Tryz.underlying22 hi' hz0 hz1 hz2 rfl (by decide) _ (1 + k) _ rfl (HOW.out.alloc _) ⟨wr.heap.size, 0, none⟩ 1 1 [.int .u8 _] rfl rfl (cell_one_new _ _ _) (by simp [Value.oneCell']) (by unfold maxLen; omega) (by omega) (by simp; omega) ?_; intro v' w1 hown' hgrow _ _)
          go_roundw
          case rel =>
            refine ⟨k + 1, by omega, val_int (by omega), ?_, (HBB.out.alloc hBs _).grown hgrow (by simp; omega) (fun r hr => (HOW.out.lt r hr).1)⟩
            rw [List.take_add_one, beB_get U hks, ← pow256]
            rw [show 1 + (k + 1) = 1 + k + 1 by omega]
            simpa [u8s] using hown'
          case measure => simp [intOf]; omega
        · have hke : k = s := by omega
          subst hke
          obtain ⟨g, cap, rfl, hg, hlt⟩ := hown.form (by omega)
          have HOW := Lib.hid hown; have HBB := Lib.hid hB
          clear hown hB
          go_wp2_with fail
          refine (cClip wr _ _ _ (own_cap HOW.out).1 (own_cap HOW.out).2).mono ?_
          rintro e w3 ⟨rfl, rfl⟩
          go_wp2_with fail
          go_ret
          have hle : (beB U k).take k = beB U k := List.take_of_length_le (by rw [beB_len]; omega)
          have hown := HOW.out
          rw [hle] at hown
          have hl1 : ((144 + (k : Int)) :: beB U k).length = 1 + k := by rw [List.length_cons, beB_len, Nat.add_comm]
          refine ⟨_, rfl, (Bs.own (v := .slice (some ⟨g, 0, none⟩) (1 + k) cap) (bs := (144 + (k : Int)) :: beB U k) (by rw [hl1]; exact hown) (fun x hx => ?_)).clip, HBB.out⟩
          rcases List.mem_cons.1 hx with rfl | hx
          · omega
          · exact beB_mem hx
    · have hH : numH n = 128 := if_neg (by omega)
      have hUn : n = (U : Int) := by rw [← hU]; unfold numU; rw [if_neg (by omega)]; omega
      rw [hH]
      clear hU hs hbl h e HN
      subst hUn
      go_enter Tryz.func83, Tryz.ntmps83
      go_wp2_with fail
      refine HL.out.mono ?_
      rintro e w' ⟨rfl, hww⟩
      have hww := hww.symm
      subst hww
      go_wp2_with fail
      go_loopw [6, 7] (fun o i wr => ∃ k : Nat, k ≤ s ∧ i = .int .i64 ((s : Int) - 1 - k) ∧ wr.ownsRow w.heap.size 5 1 o (1 + k) (u8s ((128 + (s : Int)) :: (beB U s).take k)) ∧ Below w.heap.size w wr) (fun _ i _ => (intOf i + 1).toNat)
      case atStart =>
        refine ⟨0, by omega, val_int (by omega), ⟨by simp [u8s], .inr ⟨_, _, _, rfl, Nat.le_refl _, heap_new _ _, by simp, by decide, by simp, ?_⟩⟩, (Below.refl _ _).alloc (Nat.le_refl _) _⟩
        simp [u8s]; omega
      case round =>
        obtain ⟨k, hk, rfl, hown, hB⟩ := hrel
        by_cases hks : k < s
        · have HOW := Lib.hid hown; have HBB := Lib.hid hB
          have hBs := hB.size
          clear hown hB
          go_wp2_with (at_builtin; refine wpList_append_own_at _ rfl _ _ 22 rfl w.heap.size 5 i0 (.int .u8 0) 1 1 Tryz.underlying22 hi' hz0 hz1 hz2 rfl (by decide) _ (1 + k) _ rfl (HOW.out.alloc _) ⟨wr.heap.size, 0, none⟩ 1 1 [.int .u8 _] rfl rfl (cell_one_new _ _ _) (by simp [Value.oneCell']) (by unfold maxLen; omega) (by omega) (by simp; omega) ?_; intro v' w1 hown' hgrow _ _)
          go_roundw
          case rel =>
            refine ⟨k + 1, by omega, val_int (by omega), ?_, (HBB.out.alloc hBs _).grown hgrow (by simp; omega) (fun r hr => (HOW.out.lt r hr).1)⟩
            rw [List.take_add_one, beB_get U hks, ← pow256]
            rw [show 1 + (k + 1) = 1 + k + 1 by omega]
            simpa [u8s] using hown'
          case measure => simp [intOf]; omega
        · have hke : k = s := by omega
          subst hke
          obtain ⟨g, cap, rfl, hg, hlt⟩ := hown.form (by omega)
          have HOW := Lib.hid hown; have HBB := Lib.hid hB
          clear hown hB
          go_wp2_with fail
          refine (cClip wr _ _ _ (own_cap HOW.out).1 (own_cap HOW.out).2).mono ?_
          rintro e w3 ⟨rfl, rfl⟩
          go_wp2_with fail
          go_ret
          have hle : (beB U k).take k = beB U k := List.take_of_length_le (by rw [beB_len]; omega)
          have hown := HOW.out
          rw [hle] at hown
          have hl1 : ((128 + (k : Int)) :: beB U k).length = 1 + k := by rw [List.length_cons, beB_len, Nat.add_comm]
          refine ⟨_, rfl, (Bs.own (v := .slice (some ⟨g, 0, none⟩) (1 + k) cap) (bs := (128 + (k : Int)) :: beB U k) (by rw [hl1]; exact hown) (fun x hx => ?_)).clip, HBB.out⟩
          rcases List.mem_cons.1 hx with rfl | hx
          · omega
          · exact beB_mem hx
end Go.Proofs.YtefjdcghdcbojaaGreat

namespace Go.Proofs.YtefjdcghdcbojaaGreat
open Go.RowKit Go.Maps
theorem run_append_zeros {P : Program} (w : World) (t ty e ti : TypeId) (i : TypeInfo) (z : Value) (ht : P.underlying t = some (.slice e)) (hti : P.underlying ti = some (.int .i64)) (hi : P.info? e = some i) (hz : i.zero = some z) (hby : i.bytes = 1) (hsz : i.size = 1)
    (n : Nat) (h0 : 0 < n) (h63 : n ≤ 1099511627776) :
    (Builtin.append_ #[t, ti] ty #[.slice none 0 0, .int .i64 n]).run P w =
      .ok (.slice (some ⟨w.heap.size, 0, none⟩) n (grownCap w n 0 e)) (w.drew.alloc (.cells (Builtin.zeroCells z.cells n ++ Builtin.zeroCells z.cells (grownCap w n 0 e - n)) e)) := by
  have hn : n ≠ 0 := by omega
  have h63' : ¬ (9223372036854775807 < (n : Int)) := by omega
  have h48' : ¬ (281474976710656 < Builtin.nextslicecap n 0) := by rw [nextslicecap_zero h0]; omega
  have hw : IntKind.i64.wrap (n : Int) = n := by rw [IntKind.wrap_i64]; omega
  have hl : ¬ ((n : Int) < 0) := by omega
  have hl2 : ¬ (281474976710656 < (n : Int)) := by omega
  simp [Builtin.append_, run_underlying ht, run_underlying hti, sizeOf, typeInfo, zeroValue, hi, hz, hby, hsz, asInt, asIntOf, hw, hl, hl2, hn, h63', h48', Question.forced, run_firstCells_none, newRow, grownCap]
theorem wpList_append_zeros {P : Program} (w : World) {ops : Array Oper} {rest : List Oper} {o : Oper} {a : Act} {Q : Exit → Act → World → Prop} (hgd : o.guard = none) (s x : Operand) (t e ti : TypeId)
    (ho : o.op = .call { callee := .builtin .append, args := #[s, x], argTypes := #[t, ti] }) (i : TypeInfo) (z : Value) (ht : P.underlying t = some (.slice e)) (hti : P.underlying ti = some (.int .i64)) (hi : P.info? e = some i) (hz : i.zero = some z) (hby : i.bytes = 1) (hsz : i.size = 1)
    (n : Nat) (h0 : 0 < n) (h63 : n ≤ 1099511627776) (hs : a.eval s = .slice none 0 0) (hx : a.eval x = .int .i64 n)
    (h : wpList P ops Q rest (a.put o.dst (.slice (some ⟨w.heap.size, 0, none⟩) n (grownCap w n 0 e))) (w.drew.alloc (.cells (Builtin.zeroCells z.cells n ++ Builtin.zeroCells z.cells (grownCap w n 0 e - n)) e))) :
    wpList P ops Q (o :: rest) a w := by
  refine wpList_plain hgd fun K hK => ?_
  have hr := run_append_zeros (P := P) w t o.type e ti i z ht hti hi hz hby hsz n h0 h63
  unfold Oper.wp execOp
  simp only [ho, resolve, invoke, builtin, Sem.run_bind, Sem.run_pure, Result.andThen_ok, List.map_toArray, List.map_cons, List.map_nil, hs, hx, hr]
  exact hK _ _ h
theorem zeroCells_size (z : Array Value) (hz : z.size = 1) (n : Nat) : (Builtin.zeroCells z n).size = n := by simp [Builtin.zeroCells, hz]
set_option maxRecDepth 100000 in
theorem cGrow (w : World) (n : Nat) (hn : (n : Int) ≤ 1099511627776) : Calls Tryz.prog 126 #[.slice none 0 0, .int .i64 n] w fun e w' =>
    ∃ v, e = .returned v ∧ w'.ownsRow w.heap.size 5 1 v 0 [] ∧ Below w.heap.size w w' := by
  obtain ⟨i0, hi', hz0, hz1, hz2⟩ := info_parts infoU8
  by_cases h0 : n = 0
  · subst h0
    go_enter Tryz.func126, Tryz.ntmps126
    go_wp2
    go_ret
    exact ⟨_, rfl, World.ownsRow_nil _ _ _ _, Below.refl _ _⟩
  · have hpos : 0 < n := by omega
    have hcap := Lib.hid (grownCap_ge w n 0 5)
    have hcm := Lib.hid (grownCap_le_maxLen w n 0 5 (by unfold maxLen; omega))
    go_enter Tryz.func126, Tryz.ntmps126
    go_wp2_with (at_builtin; refine wpList_append_zeros _ rfl _ _ 22 5 3 rfl i0 (.int .u8 0) Tryz.underlying22 Tryz.underlying3 hi' hz0 hz2 hz1 n hpos (by omega) rfl rfl ?_)
    go_ret
    refine ⟨_, rfl, World.ownsRow_made (w := w.drew) _ _ (Nat.le_refl _) hcm.out ?_, (Below.refl _ w).drew.alloc (Nat.le_refl _) _⟩
    rw [Array.size_append, zeroCells_size _ rfl, zeroCells_size _ rfl]
    have := hcap.out
    omega
end Go.Proofs.YtefjdcghdcbojaaGreat

namespace Go.Proofs.YtefjdcghdcbojaaGreat
open Go.RowKit Go.Maps
def Parts (w : World) (v : Value) (L : List (Value × List Int)) : Prop := ∃ a c, v = .slice (some a) L.length c ∧ ∀ i p, L[i]? = some p → w.cell? (a.add i) = some p.1 ∧ Bs w p.1 p.2 ∧ ∃ ad n c, p.1 = .slice (some ad) n c
def catL (L : List (Value × List Int)) : List Int := L.flatMap (·.2)
theorem catL_take {L : List (Value × List Int)} {k : Nat} {p : Value × List Int} (h : L[k]? = some p) : catL (L.take (k + 1)) = catL (L.take k) ++ p.2 := by
  unfold catL
  rw [List.take_add_one, h]; simp
theorem catL_le (L : List (Value × List Int)) (k : Nat) : (catL (L.take k)).length ≤ (catL L).length := by
  have : catL L = catL (L.take k) ++ catL (L.drop k) := by
    unfold catL
    rw [← List.flatMap_append, List.take_append_drop]
  rw [this, List.length_append]; omega
theorem Parts.fr {S : Nat → Prop} {w w' : World} {v : Value} {L : List (Value × List Int)} (h : Parts w v L) (hf : Fr S w w') (hS : ∀ b, S b → w.heap.size ≤ b) : Parts w' v L := by
  obtain ⟨a, c, e, h1⟩ := h
  refine ⟨a, c, e, fun i p hp => ⟨?_, (h1 i p hp).2.1.fr hf hS, (h1 i p hp).2.2⟩⟩
  have hc := (h1 i p hp).1
  exact hf.cell hc (fun hs => by have := hS _ hs; have := World.block_lt_of_cell? w _ hc; omega)
set_option maxRecDepth 100000 in
set_option maxHeartbeats 1000000 in
theorem cConcat (w : World) (v : Value) (L : List (Value × List Int)) (h : Parts w v L) (hl : (L.length : Int) ≤ 1000) (hn : ((catL L).length : Int) ≤ 1099511627776) : Calls Tryz.prog 113 #[v] w fun e w' =>
    ∃ v', e = .returned v' ∧ w'.ownsRow w.heap.size 5 1 v' (catL L).length (u8s (catL L)) ∧ Below w.heap.size w w' := by
  obtain ⟨i0, hi', hz0, hz1, hz2⟩ := info_parts infoU8
  obtain ⟨a, c, rfl, -⟩ := id h
  have HP := Lib.hid h
  clear h
  obtain ⟨ln, hln⟩ : ∃ ln, L.length = ln := ⟨_, rfl⟩
  have HLN := Lib.hid hln
  rw [hln] at hl HP ⊢
  clear hln
  have hle := fun k => catL_le L k
  obtain ⟨tot, htot⟩ : ∃ t, (catL L).length = t := ⟨_, rfl⟩
  have HTOT := Lib.hid htot
  rw [htot] at hn hle ⊢
  have HLE := Lib.hid hle
  clear htot hle
  go_enter Tryz.func113, Tryz.ntmps113
  go_wp2
  go_loopw [3, 11] (fun z i wr => ∃ k : Nat, (k : Int) ≤ ln ∧ z = .int .i64 ((catL (L.take k)).length : Nat) ∧ i = .int .i64 k ∧ wr = w) (fun _ i _ => ln - (intOf i).toNat)
  case atStart => exact ⟨0, by omega, by simp [catL], rfl, rfl⟩
  case round =>
    obtain ⟨k, hk, rfl, rfl, rfl⟩ := hrel
    by_cases hkl : (k : Int) < ln
    · obtain ⟨p, hp⟩ : ∃ p, L[k]? = some p := ⟨L[k]'(by have := HLN.out; omega), List.getElem?_eq_getElem _⟩
      obtain ⟨a', c', e, h1⟩ := HP.out
      have hc := (h1 k p hp).1
      obtain ⟨hb1, ba, bc, hbe, -⟩ := id (h1 k p hp).2.1
      injection e with e1 e2 e3
      cases e1
      have e3 := e3.symm
      subst e3
      have HT := Lib.hid (congrArg List.length (catL_take hp))
      have HLE1 := HLE.out (k + 1)
      rw [HT.out, List.length_append] at HLE1
      rw [hbe] at hc
      obtain ⟨pl, hpl⟩ : ∃ n, p.2.length = n := ⟨_, rfl⟩
      rw [hpl] at hc HLE1 hb1
      obtain ⟨z, hz⟩ : ∃ z, (catL (L.take k)).length = z := ⟨_, rfl⟩
      rw [hz] at HLE1 ⊢
      have HZ := Lib.hid hz; have HPL := Lib.hid hpl
      clear h1 hp hz hpl e2 hbe
      go_wp2
      go_roundw
      case rel => exact ⟨k + 1, by omega, val_int (by rw [HT.out, List.length_append, HZ.out, HPL.out]; omega), by go_num, by trivial⟩
      case measure => simp [intOf]; omega
    · have hke : k = ln := by omega
      have hz : (catL (L.take k)).length = tot := by rw [List.take_of_length_le (by have := HLN.out; omega)]; exact HTOT.out
      rw [hz]
      subst hke
      clear hz
      go_wp2_with fail
      refine (cGrow _ _ hn).mono ?_
      rintro e w1 ⟨v1, rfl, hown, hB⟩
      have HOW := Lib.hid hown; have HBB := Lib.hid hB
      clear hown hB
      go_wp2_with fail
      obtain ⟨W0, rfl⟩ : ∃ W0 : World, W0 = wr := ⟨_, rfl⟩
      go_loopw [6, 27] (fun o i w2 => ∃ j : Nat, (j : Int) ≤ k ∧ i = .int .i64 j ∧ w2.ownsRow W0.heap.size 5 1 o (catL (L.take j)).length (u8s (catL (L.take j))) ∧ Below W0.heap.size W0 w2) (fun _ i _ => k - (intOf i).toNat)
      case atStart => exact ⟨0, by omega, rfl, HOW.out, HBB.out⟩
      case round =>
        obtain ⟨j, hj, rfl, hown2, hB2⟩ := hrel
        by_cases hjl : (j : Int) < k
        · obtain ⟨p, hp⟩ : ∃ p, L[j]? = some p := ⟨L[j]'(by have := HLN.out; omega), List.getElem?_eq_getElem _⟩
          obtain ⟨a', c', e, h1⟩ := HP.out
          have hc := (h1 j p hp).1
          obtain ⟨ad, pl', pc, hpe⟩ := (h1 j p hp).2.2
          obtain ⟨hb1, ba, bc, hbe, hbx⟩ := id (h1 j p hp).2.1
          rw [hpe] at hbe
          injection hbe with g1 g2 g3
          subst g1 g2 g3
          injection e with e1 e2 e3
          cases e1
          have e3 := e3.symm
          subst e3
          rw [hpe] at hc
          have hc2 := (hB2.cell (p := a.add j) (World.block_lt_of_cell? W0 _ hc)).trans hc
          have hT := catL_take hp
          have hLE1 := HLE.out (j + 1)
          rw [hT, List.length_append] at hLE1
          have hnews : ∀ (i : Nat) (u : Value), (u8s p.2)[i]? = some u → wr.cell? (ad.add i) = some u := fun i u hu => by
            unfold u8s at hu
            rw [List.getElem?_map] at hu
            obtain ⟨x, hx, rfl⟩ := Option.map_eq_some_iff.1 hu
            obtain ⟨-, -, ad', e, hcell⟩ := hbx i x hx
            cases e
            exact (hB2.cell (World.block_lt_of_cell? W0 _ hcell)).trans hcell
          have hall : ∀ u ∈ u8s p.2, u.oneCell' = true := fun u hu => by
            unfold u8s at hu
            obtain ⟨x, _, rfl⟩ := List.mem_map.1 hu
            rfl
          have hul : (u8s p.2).length = p.2.length := by simp [u8s]
          have HNEWS := Lib.hid hnews; have HALL := Lib.hid hall; have HUL := Lib.hid hul; have HT := Lib.hid hT; have HO2 := Lib.hid hown2; have HB2 := Lib.hid hB2
          obtain ⟨pl, hpl⟩ : ∃ n, p.2.length = n := ⟨_, rfl⟩
          obtain ⟨z, hz⟩ : ∃ z, (catL (L.take j)).length = z := ⟨_, rfl⟩
          have hBs := hB2.size
          rw [hpl] at hc2 hLE1 HUL
          rw [hz] at hLE1 HO2
          have HPL := Lib.hid hpl; have HZ := Lib.hid hz
          clear hnews hall hul hT hown2 hB2 h1 hp hc hbx e2 hb1 hpl hz hpe
          go_wp2_with (at_builtin; refine wpList_append_own_at _ rfl _ _ 22 rfl W0.heap.size 5 i0 (.int .u8 0) 1 1 Tryz.underlying22 hi' hz0 hz1 hz2 rfl (by decide) _ z _ rfl HO2.out ad pl _ (u8s p.2) rfl (by rw [HUL.out, Nat.mul_one]) HNEWS.out HALL.out (by unfold maxLen; omega) (by omega) hBs ?_; intro v' w5 hown' hgrow _ _)
          go_roundw
          case rel =>
            refine ⟨j + 1, by omega, by go_num, ?_, HB2.out.grown hgrow hBs (fun r hr => (HO2.out.lt r hr).1)⟩
            rw [HT.out, List.length_append, HZ.out, HPL.out]
            unfold u8s at hown' ⊢
            rw [List.map_append]
            exact hown'
          case measure => simp [intOf]; omega
        · have hje : j = k := by omega
          subst hje
          rw [List.take_of_length_le (by have := HLN.out; omega), HTOT.out] at hown2
          go_wp2_with fail
          go_ret
          exact ⟨_, rfl, hown2, hB2⟩
end Go.Proofs.YtefjdcghdcbojaaGreat

namespace Go.Proofs.YtefjdcghdcbojaaGreat
open Go.RowKit Go.Maps
/-- A maker that holds bs. -/
structure MK (w : World) (g : Nat) (TS : Nat → Prop) (bs : List Int) (long : Bool) : Prop where
  ex : ∃ v, w.heap[g]? = some (.cells #[v, .bool long] 126) ∧ w.ownsRow 0 5 1 v bs.length (u8s bs) ∧ ∀ b, v.ownBlock = some b → TS b ∧ b ≠ g
  own : TS g
  lt : ∀ b, TS b → b < w.heap.size
  len : (bs.length : Int) ≤ 262144
def putB (bs : List Int) (long : Bool) (c : List Int) : List Int := if long = true ∨ 262144 < bs.length + c.length then bs else bs ++ c
def putL (bs : List Int) (long : Bool) (c : List Int) : Bool := long || decide (262144 < bs.length + c.length)
theorem MK.fr {S TS : Nat → Prop} {w w' : World} {g : Nat} {bs : List Int} {long : Bool} (h : MK w g TS bs long) (hf : Fr S w w') (hS : ∀ b, TS b → ¬ S b) : MK w' g TS bs long := by
  obtain ⟨⟨v, h1, h2, h3⟩, h4, h5, h6⟩ := h
  exact ⟨⟨v, hf.at_ h1 (hS _ h4), hf.row h2 (fun b hb => hS _ (h3 b hb).1), h3⟩, h4, fun b hb => Nat.lt_of_lt_of_le (h5 b hb) hf.size, h6⟩
set_option maxRecDepth 100000 in
theorem cMNew (w : World) : Calls Tryz.prog 35 #[] w fun e w' => e = .returned (.pointer (some ⟨w.heap.size, 0, none⟩)) ∧ MK w' w.heap.size (fun b => b = w.heap.size) [] false ∧ Fr (fun _ => False) w w' := by
  go_enter Tryz.func35, Tryz.ntmps35
  go_wp2
  go_ret
  exact ⟨rfl, ⟨⟨_, heap_new _ _, World.ownsRow_nil _ _ _ _, fun b hb => by cases hb⟩, rfl, fun b hb => by simp [hb], by simp⟩, (Fr.refl _ _).alloc _⟩
set_option maxRecDepth 100000 in
set_option maxHeartbeats 1000000 in
theorem cPut (w : World) (g : Nat) (TS : Nat → Prop) (bs : List Int) (long : Bool) (v : Value) (L : List (Value × List Int)) (h : MK w g TS bs long) (hP : Parts w v L) (hl : (L.length : Int) ≤ 1000) (hn : ((catL L).length : Int) ≤ 1099511627776) (hn0 : 0 < (catL L).length) :
    Calls Tryz.prog 82 #[.pointer (some ⟨g, 0, none⟩), v] w fun e w' => e = .returned (.pointer (some ⟨g, 0, none⟩)) ∧ ∃ TS', MK w' g TS' (putB bs long (catL L)) (putL bs long (catL L)) ∧ Stp TS w w' TS' := by
  obtain ⟨i0, hi', hz0, hz1, hz2⟩ := info_parts infoU8
  go_enter Tryz.func82, Tryz.ntmps82
  go_wp2_with fail
  refine (cConcat w v L hP hl hn).mono ?_
  rintro e w1 ⟨v', rfl, hown, hB⟩
  obtain ⟨g', cap, rfl, hg', hlt'⟩ := hown.form hn0
  have hM := h.fr (Fr.below hB) (fun _ _ h => h)
  obtain ⟨⟨vm, h1, h2, h3⟩, h4, h5, h6⟩ := id hM
  have hgw : g < w.heap.size := h.lt g h.own
  have HLT := Lib.hid h.lt; have HGO := Lib.hid h4
  obtain ⟨am, cm, rfl⟩ : ∃ a c, vm = .slice a bs.length c := by
    rcases h2.2 with ⟨e1, e2⟩ | ⟨_, _, _, e1, _⟩
    · exact ⟨_, _, by rw [e1, e2]⟩
    · exact ⟨_, _, e1⟩
  have b0 := cell_obj h1 0 (.slice am bs.length cm) rfl
  have b1 := cell_obj h1 1 (.bool long) rfl
  have f0 := obj_frozen h1 0
  have f1 := obj_frozen h1 1
  obtain ⟨n, hn1⟩ : ∃ n, bs.length = n := ⟨_, rfl⟩
  obtain ⟨k, hk1⟩ : ∃ k, (catL L).length = k := ⟨_, rfl⟩
  rw [hn1] at b0 h6
  rw [hk1] at hn hn0 ⊢
  have HM := Lib.hid hM; have HN := Lib.hid hn1; have HK := Lib.hid hk1; have HB := Lib.hid hB; have HO := Lib.hid hown; have H1 := Lib.hid h1; have H2 := Lib.hid h2; have H3 := Lib.hid h3
  clear h hM h1 h2 h3 h4 h5 hn1 hk1 hB hown hP hl
  have hlong : ∀ (bs' : List Int), (bs'.length : Int) ≤ 262144 → bs' = bs → ∃ TS', MK (w1.setCell ⟨g, 1, none⟩ (.bool true)) g TS' bs' true ∧ Stp TS w (w1.setCell ⟨g, 1, none⟩ (.bool true)) TS' := by
    rintro bs' h1 rfl
    have hF : Fr (fun b => b = g) w1 (w1.setCell ⟨g, 1, none⟩ (.bool true)) := (Fr.refl (fun b => b = g) w1).setCell (p := ⟨g, 1, none⟩) (fun _ => rfl) _
    exact ⟨TS, ⟨⟨_, obj_set H1.out 1 (.bool true), hF.row H2.out (fun b hb => (H3.out b hb).2), H3.out⟩, HGO.out, fun b hb => by have := HLT.out b hb; have := HB.out.size; have := hF.size; omega, h1⟩,
      ((Fr.below HB.out).mono (S := fun _ => False) (S' := TS) (fun _ _ h => h.elim)).trans' hF (fun b _ e => e ▸ HGO.out), fun b hb => .inl hb⟩
  have HLONG := Lib.hid hlong
  clear hlong
  cases long with
  | true =>
    go_wp2_with fail
    go_ret
    have e1 : putB bs true (catL L) = bs := by simp [putB]
    have e2 : putL bs true (catL L) = true := by simp [putL]
    rw [e1, e2]
    exact ⟨rfl, HLONG.out bs (by have := HN.out; omega) rfl⟩
  | false =>
    by_cases ho : 262144 - (n : Int) < k
    · go_wp2_with fail
      go_ret
      have hov : 262144 < bs.length + (catL L).length := by have := HN.out; have := HK.out; omega
      have e1 : putB bs false (catL L) = bs := by simp [putB, hov]
      have e2 : putL bs false (catL L) = true := by simp [putL, hov]
      rw [e1, e2]
      exact ⟨rfl, HLONG.out bs (by have := HN.out; omega) rfl⟩
    · have hno : ¬ 262144 < bs.length + (catL L).length := by have := HN.out; have := HK.out; omega
      have e1 : putB bs false (catL L) = bs ++ catL L := by simp [putB, hno]
      have e2 : putL bs false (catL L) = false := by simp [putL, hno]
      have HE1 := Lib.hid e1; have HE2 := Lib.hid e2; have HNO := Lib.hid hno
      clear HLONG e1 e2 hno
      have hd : decide (262144 - (n : Int) < k) = false := by simpa using ho
      have hF : Fr (fun b => b = g) w1 (w1.setCell ⟨g, 1, none⟩ (.bool false)) := (Fr.refl (fun b => b = g) w1).setCell (p := ⟨g, 1, none⟩) (fun _ => rfl) _
      have hG := obj_set H1.out 1 (.bool false)
      have hrow := hF.row H2.out (fun b hb => (H3.out b hb).2)
      have hrowc := hF.row HO.out (fun b hb => by cases hb; show ¬ g' = g; omega)
      have hnews : ∀ (i : Nat) (u : Value), (u8s (catL L))[i]? = some u → (w1.setCell ⟨g, 1, none⟩ (.bool false)).cell? ((⟨g', 0, none⟩ : Addr).add i) = some u := fun i u hu => by
        have hi := (List.getElem?_eq_some_iff.1 hu).1
        have := hrowc.cellAt (g := g') (j := i) (by simpa [u8s] using hi)
        rw [show (⟨g', 0, none⟩ : Addr).add i = ⟨g', i, none⟩ by simp [Addr.add]; omega, this]
        exact hu
      have hall : ∀ u ∈ u8s (catL L), u.oneCell' = true := fun u hu => by
        unfold u8s at hu
        obtain ⟨x, _, rfl⟩ := List.mem_map.1 hu
        rfl
      have hul : (u8s (catL L)).length = k * 1 := by have := HK.out; simp [u8s]; exact this
      have HNEWS := Lib.hid hnews; have HALL := Lib.hid hall; have HUL := Lib.hid hul; have HROW := Lib.hid hrow; have HG := Lib.hid hG; have HF := Lib.hid hF
      rw [HN.out] at HROW
      clear hnews hall hul hrow hG hF hrowc ho
      have c0 := cell_obj HG.out 0 (.slice am n cm) (by rw [← HN.out]; rfl)
      have h3 := H3.out
      rw [HN.out] at h3
      have HNB := Lib.hid h3
      clear h3
      go_wp2_with (at_builtin; refine wpList_append_own_at _ rfl _ _ 22 rfl 0 5 i0 (.int .u8 0) 1 1 Tryz.underlying22 hi' hz0 hz1 hz2 rfl (by decide) (.slice am n cm) n (u8s bs) rfl HROW.out ⟨g', 0, none⟩ k _ (u8s (catL L)) rfl HUL.out HNEWS.out HALL.out (by unfold maxLen; omega) (by omega) (Nat.zero_le _) ?_; intro v' w5 hown' hgrow _ hat; obtain ⟨g5, cap5, rfl, -, hl5⟩ := hown'.form (by omega); have hG5 := (hgrow.block g (Array.getElem?_eq_some_iff.1 HG.out).1 (fun e => (HNB.out g e.symm).2 rfl)).trans HG.out; have c5 := cell_obj hG5 0 (.slice am n cm) (by rw [← HN.out]; rfl); have f5 := obj_frozen hG5 0)
      go_ret
      rw [HE1.out, HE2.out]
      have hs1 : (w1.setCell ⟨g, 1, none⟩ (.bool false)).heap.size = w1.heap.size := by simp [World.setCell]
      have hat2 : TS g5 ∧ g5 ≠ g ∨ g5 = w1.heap.size := by
        rcases hat with e | e
        · exact .inl (HNB.out g5 e.symm)
        · rw [hs1] at e; exact .inr (by injection e)
      have hBs := HB.out.size
      have hne : g5 ≠ g := by
        rcases hat2 with e | e
        · exact e.2
        · omega
      have hF6 : Fr (fun b => b = g) w5 (w5.setCell ⟨g, 0, none⟩ (.slice (some ⟨g5, 0, none⟩) (n + k) cap5)) := (Fr.refl (fun b => b = g) w5).setCell (p := ⟨g, 0, none⟩) (fun _ => rfl) _
      have hs5 := hgrow.size
      have hs6 := hF6.size
      refine ⟨rfl, fun b => TS b ∨ b = g5, ⟨⟨_, obj_set hG5 0 _, ?_, fun b hb => ?_⟩, .inl HGO.out, ?_, ?_⟩, ?_, ?_⟩
      · have hl : (bs ++ catL L).length = n + k := by rw [List.length_append, HN.out, HK.out]
        rw [hl]
        unfold u8s at hown' ⊢
        rw [List.map_append]
        exact hF6.row hown' (fun b hb => by cases hb; exact hne)
      · cases hb; exact ⟨.inr rfl, hne⟩
      · rintro b (hb | rfl)
        · have := HLT.out b hb; omega
        · omega
      · have := HNO.out; rw [List.length_append]; omega
      · refine ((((Fr.below HB.out).mono (S := fun _ => False) (S' := TS) (fun _ _ h => h.elim)).trans' HF.out (fun b _ e => e ▸ HGO.out)).trans' (Fr.grown (S := fun b => TS b) hgrow (fun r hr _ => (HNB.out r hr).1)) (fun b _ e => e)).trans' hF6 (fun b _ e => e ▸ HGO.out)
      · rintro b (hb | rfl)
        · exact .inl hb
        · rcases hat2 with e | e
          · exact .inl e.1
          · exact .inr (by omega)
end Go.Proofs.YtefjdcghdcbojaaGreat

