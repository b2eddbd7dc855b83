/- Texts of this claim, joined: slices.SortStableFunc on []int: symMerge; slices.SortStableFunc on []int: symMerge, whatever the lengths; the blocks; the whole; bins: order's comparison; slices.SortStableFunc at a nil slice; bins: order: the places of the bins that are gone through, in order; bins: a floor as a thing of its own; slices.Clone on bins; slices.SortStableFunc on []api.Place: a row of the caller's, its elements named; swapRange, rotate; slices.DeleteFunc at api.Place, under Route's closure (printed by wip/tools/dfx.py); bins: spread: plain, and what its loop keeps; Plain: sums of goods; what a bin can take; A region that draws its order: all its operations but the last only read (its calls may draw), and the last one (a store) waits for all: one walk in the text's order serves. -/
import Derived.Test.YtlniekobijcanaaGreatBinsRoutesM3
import Derived.Deep.DeepCutAuto
import Derived.BigQuiet
import Derived.Test.YtlniekobijcanaaGreatBinsRoutesM1
import Derived.OwnWalk
import Derived.BigRegion
import Derived.RegionTactic
import Derived.Deep.QuietTactic
import Derived.Test.YtlniekobijcanaaGreatBinsRoutesM2
import Derived.StillTail
namespace Go.Proofs.YtlniekobijcanaaGreat
open Go.RowKit
/-- What a merge does. -/
def SymOk (g : Nat) (cb : Array Value) (cf : Int → Int → Int) (T : EI → EI → Bool) (b n cap : Nat) (d : Nat) : Prop :=
  ∀ (w : World) (P A B S : List EI) (ia im ib : Int), A.length + B.length ≤ d → 0 < A.length → 0 < B.length → RwI w b (P ++ (A ++ (B ++ S))) → n = (P ++ (A ++ (B ++ S))).length → ia = (P.length : Int) → im = ((P.length + A.length : Nat) : Int) → ib = ((P.length + A.length + B.length : Nat) : Int) →
    Srt T A → Srt T B → (∀ p ∈ B, ∀ q ∈ A, Rgt cf T p q) → CmpI g cb cf b w →
    Calls Tryz.prog 138 #[.slice (some ⟨b, 0, none⟩) n cap, .int .i64 ia, .int .i64 im, .int .i64 ib, .func (.func g) #[] cb] w fun e w' => e = .returned (.tuple #[]) ∧ ∃ Z, RwI w' b (P ++ (Z ++ S)) ∧ Srt T Z ∧ Z.Perm (A ++ B) ∧ Fr (fun c => c = b) w w'
theorem snoc_of_take {A : List EI} {s : Nat} {x : EI} {W : List EI} {l : EI} (hx : A[s]? = some x) (h : A.take (s + 1) = W ++ [l]) : l = x := by
  rw [List.take_add_one, hx] at h
  have := List.append_inj_right' h rfl
  injection this with this
  exact this.symm
theorem cons_of_drop {B : List EI} {s : Nat} {y : EI} {V : List EI} {f : EI} (hy : B[s]? = some y) (h : B.drop s = f :: V) : f = y := by
  rw [List.drop_eq_getElem_cons (List.getElem?_eq_some_iff.1 hy).1, (List.getElem?_eq_some_iff.1 hy).2] at h
  injection h with h
  exact h.symm
theorem rotX (w : World) (b n cap : Nat) (fv : Value) (P A B S : List EI) {ia im ib : Int} (h : RwI w b (P ++ (A ++ (B ++ S)))) (hn : n = (P ++ (A ++ (B ++ S))).length) (hm : n ≤ 1000000000000) (ha : ia = (P.length : Int)) (hpm : im = ((P.length + A.length : Nat) : Int)) (hb : ib = ((P.length + A.length + B.length : Nat) : Int)) (h1 : 0 < A.length) (h2 : 0 < B.length) :
    Calls Tryz.prog 150 #[.slice (some ⟨b, 0, none⟩) n cap, .int .i64 ia, .int .i64 im, .int .i64 ib, fv] w fun e w' => e = .returned (.tuple #[]) ∧ RwI w' b (P ++ (B ++ (A ++ S))) ∧ Fr (fun c => c = b) w w' := by
  subst ha hpm hb
  exact rotI w b n cap P.length (P.length + A.length) (P.length + A.length + B.length) fv P A B S h hn hm rfl rfl rfl h1 h2
/-- The search's ends: what is known left of the place, right of it. -/
def LoC (T : EI → EI → Bool) (A B : List EI) (M u i : Nat) : Prop := i = u ∨ ∃ x y, 0 < i ∧ A[i - 1]? = some x ∧ B[M - i]? = some y ∧ T x y = true
def UpC (T : EI → EI → Bool) (A B : List EI) (M v j : Nat) : Prop := j = v ∨ ∃ x y, A[j]? = some x ∧ B[M - 1 - j]? = some y ∧ T y x = true
/-- Where the search ends, what stands left is below what stands right. -/
theorem cut_lt {T : EI → EI → Bool} {A B : List EI} {M u v s : Nat} (tr : ∀ a b c, T a b = true → T b c = true → T a c = true) (hA : Srt T A) (hB : Srt T B) (hu : u = M - B.length) (hv : v = min M A.length) (hs1 : u ≤ s) (hs2 : s ≤ v) (hlo : LoC T A B M u s) (hup : UpC T A B M v s) :
    (∀ x ∈ A.take s, ∀ y ∈ B.drop (M - s), T x y = true) ∧ (∀ y ∈ B.take (M - s), ∀ x ∈ A.drop s, T y x = true) := by
  have hA' : Srt T (A.take s ++ A.drop s) := by rw [List.take_append_drop]; exact hA
  have hB' : Srt T (B.take (M - s) ++ B.drop (M - s)) := by rw [List.take_append_drop]; exact hB
  constructor
  · refine ends_lt tr hA'.left hB'.right (fun W x y V e1 e2 => ?_)
    have l1 : 0 < s := by
      rcases Nat.eq_zero_or_pos s with h | h
      · subst h; rw [List.take_zero] at e1; simp at e1
      · exact h
    have l2 : M - s < B.length := by
      rcases Nat.lt_or_ge (M - s) B.length with h | h
      · exact h
      · rw [List.drop_of_length_le h] at e2; cases e2
    rcases hlo with h | ⟨x', y', _, h1, h2, h3⟩
    · exfalso; omega
    · rw [show s = (s - 1) + 1 by omega] at e1
      rw [snoc_of_take h1 e1, cons_of_drop h2 e2]; exact h3
  · refine ends_lt tr hB'.left hA'.right (fun W y x V e1 e2 => ?_)
    have l1 : 0 < M - s := by
      rcases Nat.eq_zero_or_pos (M - s) with h | h
      · rw [h, List.take_zero] at e1; simp at e1
      · exact h
    have l2 : s < A.length := by
      rcases Nat.lt_or_ge s A.length with h | h
      · exact h
      · rw [List.drop_of_length_le h] at e2; cases e2
    rcases hup with h | ⟨x', y', h1, h2, h3⟩
    · exfalso; omega
    · rw [show M - s = (M - 1 - s) + 1 by omega] at e1
      rw [snoc_of_take h2 e1, cons_of_drop h1 e2]; exact h3
set_option maxRecDepth 100000 in
set_option maxHeartbeats 16000000 in
theorem symI3 (b n cap g : Nat) (cb : Array Value) (cf : Int → Int → Int) (T : EI → EI → Bool) (d : Nat) (eg : ∀ args w, (callFunc g args).run Tryz.prog w = .ok (.enter g args) w) (hm : n ≤ 1000000000000) (tr : ∀ a b c, T a b = true → T b c = true → T a c = true) (ih : SymOk g cb cf T b n cap d)
    (w : World) (P A B S : List EI) (ia im ib : Int) (hd : A.length + B.length ≤ d + 1) (hA2 : 2 ≤ A.length) (hB2 : 2 ≤ B.length) (h : RwI w b (P ++ (A ++ (B ++ S)))) (hn : n = (P ++ (A ++ (B ++ S))).length) (ha : ia = (P.length : Int)) (hpm : im = ((P.length + A.length : Nat) : Int)) (hb : ib = ((P.length + A.length + B.length : Nat) : Int))
    (hA : Srt T A) (hB : Srt T B) (hR : ∀ p ∈ B, ∀ q ∈ A, Rgt cf T p q) (hc : CmpI g cb cf b w) :
    Calls Tryz.prog 138 #[.slice (some ⟨b, 0, none⟩) n cap, .int .i64 ia, .int .i64 im, .int .i64 ib, .func (.func g) #[] cb] w fun e w' => e = .returned (.tuple #[]) ∧ ∃ Z, RwI w' b (P ++ (Z ++ S)) ∧ Srt T Z ∧ Z.Perm (A ++ B) ∧ Fr (fun c => c = b) w w' := by
  obtain ⟨pa, hpa⟩ : ∃ pa, P.length = pa := ⟨_, rfl⟩
  obtain ⟨la, hla⟩ : ∃ la, A.length = la := ⟨_, rfl⟩
  obtain ⟨lb, hlb⟩ : ∃ lb, B.length = lb := ⟨_, rfl⟩
  have hlen : n = pa + la + lb + S.length := by simp at hn; omega
  rw [hpa] at ha hb hpm
  rw [hla] at hb hpm hA2 hd
  rw [hlb] at hb hB2 hd
  obtain ⟨pm, hpm'⟩ : ∃ pm, pa + la = pm := ⟨_, rfl⟩
  obtain ⟨pb, hpb'⟩ : ∃ pb, pm + lb = pb := ⟨_, rfl⟩
  rw [hpm'] at hpm hb
  rw [hpb'] at hb
  subst ha hb hpm
  have H0 := Lib.hid h; have HM := Lib.hid hm; have HN := Lib.hid hn; have HPA := Lib.hid hpa; have HLA := Lib.hid hla; have HLB := Lib.hid hlb; have HRR := Lib.hid hR; have HC := Lib.hid hc; have HTR := Lib.hid tr; have HSA := Lib.hid hA; have HSB := Lib.hid hB; have IH := Lib.hid ih
  have HD := Lib.hid hd; have HLEN := Lib.hid hlen
  have i1 : (n : Int) ≤ 1000000000000 := by omega
  have i2 : (pb : Int) ≤ n := by omega
  have i3 : (pa : Int) + la ≤ pm := by omega
  have i4 : (pm : Int) ≤ pa + la := by omega
  have i5 : (pm : Int) + lb ≤ pb := by omega
  have i6 : (pb : Int) ≤ pm + lb := by omega
  have b1 : ((pm : Int) - (pa : Int) == 1) = false := by simp; omega
  have b2 : ((pb : Int) - (pm : Int) == 1) = false := by simp; omega
  obtain ⟨mid, hmid⟩ : ∃ m, (pa + pb) / 2 = m := ⟨_, rfl⟩
  have he : ((pa : Int) + pb) / 2 = mid := by omega
  obtain ⟨M, hM⟩ : ∃ M, pa + M = mid := ⟨mid - pa, by omega⟩
  have hM1 : 2 * M ≤ la + lb := by omega
  have hM2 : la + lb ≤ 2 * M + 1 := by omega
  have j1 : (pa : Int) + M ≤ mid := by omega
  have j2 : (mid : Int) ≤ pa + M := by omega
  obtain ⟨u0, hu⟩ : ∃ u, u = M - lb := ⟨_, rfl⟩
  obtain ⟨v0, hv⟩ : ∃ v, v = min M la := ⟨_, rfl⟩
  have HU := Lib.hid hu; have HV := Lib.hid hv
  have k1 : u0 ≤ v0 := by omega
  have k2 : v0 ≤ la := by omega
  have k3 : v0 ≤ M := by omega
  have k4 : M ≤ u0 + lb := by omega
  have HPM := Lib.hid hpm'; have HPB := Lib.hid hpb'; have HMID := Lib.hid hM
  have hsl : (mid < pm ∧ (mid : Int) + pm - pb = pa + u0 ∧ (mid : Int) = pa + v0) ∨ (pm ≤ mid ∧ u0 = 0 ∧ (pm : Int) = pa + v0) := by omega
  clear h hn hpa hla hlb hR hc tr hlen hA hB ih hd hm hmid hM hu hv hpm' hpb'
  rcases hsl with ⟨hh, e1, e2⟩ | ⟨hh, e1, e2⟩
  all_goals
    first
    | have hhI : (mid : Int) < (pm : Int) := by omega
    | have hhI : ¬ (mid : Int) < (pm : Int) := by omega
    have E1 := Lib.hid e1; have E2 := Lib.hid e2
    clear e1 e2
    go_enter Tryz.func138, Tryz.ntmps138
    go_wp2_with fail
    go_loopw [20, 21] (fun vi vj wr => ∃ i j : Nat, vi = .int .i64 ((pa : Int) + i) ∧ vj = .int .i64 ((pa : Int) + j) ∧ u0 ≤ i ∧ i ≤ j ∧ j ≤ v0 ∧ LoC T A B M u0 i ∧ UpC T A B M v0 j ∧ Fr (fun _ => False) w wr) (fun vi vj _ => (intOf vj - intOf vi).toNat)
    case atStart => exact ⟨u0, v0, by first | rfl | (rw [E1.out]; done) | (rw [E1.out]; simp; done), by first | rfl | (rw [E2.out]; done), Nat.le_refl _, k1, Nat.le_refl _, .inl rfl, .inl rfl, Fr.refl _ _⟩
    case round => as_aux_lemma =>
      obtain ⟨i, j, rfl, rfl, hui, hij, hjl, hlo, hup, hf⟩ := hrel
      have HLO := Lib.hid hlo; have HUP := Lib.hid hup; have HF := Lib.hid hf
      clear hlo hup hf
      by_cases hlt : i < j
      · have hltI : (pa : Int) + i < (pa : Int) + j := by omega
        obtain ⟨hq, hhh⟩ : ∃ q, (i + j) / 2 = q := ⟨_, rfl⟩
        have hq1 : i ≤ hq := by omega
        have hq2 : hq < j := by omega
        have he2 : ((pa : Int) + i + ((pa : Int) + j)) / 2 = (pa : Int) + hq := by omega
        obtain ⟨x, hx⟩ : ∃ x, A[hq]? = some x := ⟨A[hq]'(by rw [HLA.out]; omega), List.getElem?_eq_getElem _⟩
        obtain ⟨y, hy⟩ : ∃ y, B[M - 1 - hq]? = some y := ⟨B[M - 1 - hq]'(by rw [HLB.out]; omega), List.getElem?_eq_getElem _⟩
        have hrw := H0.out.fr HF.out (fun e => e)
        have hax : (P ++ (A ++ (B ++ S)))[pa + hq]? = some x := by
          rw [List.getElem?_append_right (by rw [HPA.out]; omega), HPA.out, show pa + hq - pa = hq by omega, List.getElem?_append_left (by rw [HLA.out]; omega)]
          exact hx
        have hby : (P ++ (A ++ (B ++ S)))[pm + (M - 1 - hq)]? = some y := by
          rw [List.getElem?_append_right (by rw [HPA.out]; omega), HPA.out, show pm + (M - 1 - hq) - pa = la + (M - 1 - hq) by omega, List.getElem?_append_right (by rw [HLA.out]; omega), HLA.out, show la + (M - 1 - hq) - la = M - 1 - hq by omega, List.getElem?_append_left (by rw [HLB.out]; omega)]
          exact hy
        have c1 := FrW.cell (hrw.cell hax)
        have c2 := FrW.cell (hrw.cell hby)
        obtain ⟨qa, hqa⟩ : ∃ q, pa + hq = q := ⟨_, rfl⟩
        obtain ⟨qb, hqb⟩ : ∃ q, pm + (M - 1 - hq) = q := ⟨_, rfl⟩
        rw [hqa] at c1
        rw [hqb] at c2
        have ta : ((pa : Int) + hq).toNat = qa := by omega
        have tb : ((mid : Int) + pm - 1 - ((pa : Int) + hq)).toNat = qb := by omega
        have za : (0 : Int) ≤ (pa : Int) + hq := by omega
        have zb : (0 : Int) ≤ (mid : Int) + pm - 1 - ((pa : Int) + hq) := by omega
        have la1 : (pa : Int) + hq < n := by omega
        have lb1 : (mid : Int) + pm - 1 - ((pa : Int) + hq) < n := by omega
        have rb : IntKind.i64.wrap ((mid : Int) + pm - 1 - ((pa : Int) + hq)) = (mid : Int) + pm - 1 - ((pa : Int) + hq) := IntWalk.i64_in _ (by omega)
        have hry := HRR.out y (List.mem_of_getElem? hy) x (List.mem_of_getElem? hx)
        have HDM := Lib.hid hry.2.2
        have HX := Lib.hid hx; have HY := Lib.hid hy
        clear hrw hax hby hqa hqb hhh hx hy
        cases hT : T y x with
        | true =>
          have hv : decide (cf y.1 x.1 < 0) = true := hry.1.trans hT
          have hnx : Hid (UpC T A B M v0 hq) := Lib.hid (.inr ⟨x, y, HX.out, HY.out, hT⟩)
          clear hry
          go_wp2_with fail
          refine wp_region_fr (by kernel_rfl) (by kernel_rfl) ?_
          repeat (go_big_quiet_step ((go_at_fn g; rename_i X; refine (HC.out _ _ _ ((HF.out.mono (fun _ _ e => e.elim)).trans (X.fr.mono (fun _ _ e => e.elim))) HDM.out).mono ?_; rintro e w2 ⟨rfl, hF⟩; exact ⟨rfl, ⟨w2, X.fr.trans hF⟩, rfl⟩)))
          refine wpQuiet_nil ?_
          rintro V ⟨⟨_, hV⟩, rfl⟩
          go_wp2_with fail
          go_roundw
          case rel => exact ⟨i, hq, rfl, by first | rfl | (congr 1; done) | (congr 1; omega), hui, hq1, by omega, HLO.out, hnx.out, HF.out.trans hV⟩
          case measure => simp [intOf]; omega
        | false =>
          have hv : decide (cf y.1 x.1 < 0) = false := hry.1.trans hT
          have hnx : Hid (LoC T A B M u0 (hq + 1)) := Lib.hid (.inr ⟨x, y, by omega, by simpa using HX.out, by rw [show M - (hq + 1) = M - 1 - hq by omega]; exact HY.out, hry.2.1 hT⟩)
          clear hry
          go_wp2_with fail
          refine wp_region_fr (by kernel_rfl) (by kernel_rfl) ?_
          repeat (go_big_quiet_step ((go_at_fn g; rename_i X; refine (HC.out _ _ _ ((HF.out.mono (fun _ _ e => e.elim)).trans (X.fr.mono (fun _ _ e => e.elim))) HDM.out).mono ?_; rintro e w2 ⟨rfl, hF⟩; exact ⟨rfl, ⟨w2, X.fr.trans hF⟩, rfl⟩)))
          refine wpQuiet_nil ?_
          rintro V ⟨⟨_, hV⟩, rfl⟩
          go_wp2_with fail
          go_roundw
          case rel => exact ⟨hq + 1, j, by first | rfl | (congr 1; done) | (congr 1; omega), rfl, by omega, by omega, hjl, hnx.out, HUP.out, HF.out.trans hV⟩
          case measure => simp [intOf]; omega
      · obtain rfl : i = j := by omega
        have hltI : ¬ (pa : Int) + i < (pa : Int) + i := by omega
        obtain ⟨c1, c2⟩ := cut_lt HTR.out HSA.out HSB.out (by rw [HLB.out]; exact HU.out) (by rw [HLA.out]; exact HV.out) hui hjl HLO.out HUP.out
        obtain ⟨A1, A2, hAA, hl1, hl2⟩ := split_len A (k := i) (by rw [HLA.out]; omega)
        obtain ⟨B1, B2, hBB, hl3, hl4⟩ := split_len B (k := M - i) (by rw [HLB.out]; omega)
        have e1 : A.take i = A1 := by rw [hAA, ← hl1, List.take_left]
        have e2 : A.drop i = A2 := by rw [hAA, ← hl1, List.drop_left]
        have e3 : B.take (M - i) = B1 := by rw [hBB, ← hl3, List.take_left]
        have e4 : B.drop (M - i) = B2 := by rw [hBB, ← hl3, List.drop_left]
        rw [e1, e4] at c1
        rw [e3, e2] at c2
        obtain ⟨l2, hl2'⟩ : ∃ l, A2.length = l := ⟨_, rfl⟩
        obtain ⟨l3, hl3'⟩ : ∃ l, B1.length = l := ⟨_, rfl⟩
        obtain ⟨l4, hl4'⟩ : ∃ l, B2.length = l := ⟨_, rfl⟩
        have q1 : i + l2 = la := by have := HLA.out; omega
        have q2 : i + l3 = M := by omega
        have q3 : l3 + l4 = lb := by have := HLB.out; omega
        have HQ := Lib.hid (And.intro hl1 (And.intro hl2' (And.intro hl3' (And.intro hl4' (And.intro q1 (And.intro q2 q3))))))
        have HAA := Lib.hid hAA; have HBB := Lib.hid hBB; have HC1 := Lib.hid c1; have HC2 := Lib.hid c2
        have hr0 : RwI wr b (P ++ (A1 ++ (A2 ++ (B1 ++ (B2 ++ S))))) := by have := H0.out.fr HF.out (fun e => e); rw [hAA, hBB, List.append_assoc, List.append_assoc] at this; exact this
        have HR0 := Lib.hid hr0
        have HS1 : Hid (Srt T A1 ∧ Srt T A2 ∧ Srt T B1 ∧ Srt T B2) := Lib.hid (by have h1 := HSA.out; have h2 := HSB.out; rw [hAA] at h1; rw [hBB] at h2; exact ⟨h1.left, h1.right, h2.left, h2.right⟩)
        have HRG : Hid ((∀ p ∈ B1, ∀ q ∈ A1, Rgt cf T p q) ∧ (∀ p ∈ B2, ∀ q ∈ A2, Rgt cf T p q)) := Lib.hid (by
          have h1 := HRR.out
          rw [hAA, hBB] at h1
          exact ⟨fun p hp q hq => h1 p (by simp [hp]) q (by simp [hq]), fun p hp q hq => h1 p (by simp [hp]) q (by simp [hq])⟩)
        obtain ⟨pe, hpe⟩ : ∃ pe, pm + l3 = pe := ⟨_, rfl⟩
        have HPE := Lib.hid hpe
        have he3 : (mid : Int) + pm - ((pa : Int) + i) = (pe : Int) := by omega
        have v1 : (pe : Int) ≤ pm + l3 := by omega
        have v2 : (pm : Int) + l3 ≤ pe := by omega
        have v3 : (pa : Int) + i + l2 ≤ pm := by omega
        have v4 : (pm : Int) ≤ pa + i + l2 := by omega
        have v5 : (pa : Int) + i + l3 ≤ mid := by omega
        have v6 : (mid : Int) ≤ pa + i + l3 := by omega
        have v7 : (pe : Int) + l4 ≤ pb := by omega
        have v8 : (pb : Int) ≤ pe + l4 := by omega
        clear e1 e2 e3 e4 hl1 hl2 hl3 hl4 hl2' hl3' hl4' q1 q2 q3 hAA hBB c1 c2 hr0 hpe HLO HUP
        obtain ⟨G1, hG1⟩ : ∃ G, decide (0 < l2 ∧ 0 < l3) = G := ⟨_, rfl⟩
        obtain ⟨G2, hG2⟩ : ∃ G, decide (0 < i ∧ 0 < l3) = G := ⟨_, rfl⟩
        obtain ⟨G3, hG3⟩ : ∃ G, decide (0 < l2 ∧ 0 < l4) = G := ⟨_, rfl⟩
        have HG1 := Lib.hid hG1; have HG2 := Lib.hid hG2; have HG3 := Lib.hid hG3
        clear hG1 hG2 hG3
        go_upto_region 39 with (fail)
        go_cut [185] (fun s wx => s = .bool G1 ∧ wr = wx)
        case first => as_aux_lemma =>
          rcases (by omega : (0 < l2 ∧ 0 < l3) ∨ (l2 = 0) ∨ (0 < l2 ∧ l3 = 0)) with ⟨w1, w2⟩ | w1 | ⟨w1, w2⟩
          · have z1 : (pa : Int) + i < pm := by omega
            have z2 : (pm : Int) < pe := by omega
            have hg : G1 = true := by rw [← HG1.out]; simp [w1, w2]
            clear HG1
            go_wp2_with fail
            go_meet
            exact ⟨by rw [hg], rfl⟩
          · have z1 : ¬ (pa : Int) + i < pm := by omega
            have hg : G1 = false := by rw [← HG1.out]; simp [w1]
            clear HG1
            go_wp2_with fail
            go_meet
            exact ⟨by rw [hg], rfl⟩
          · have z1 : (pa : Int) + i < pm := by omega
            have z2 : ¬ (pm : Int) < pe := by omega
            have hg : G1 = false := by rw [← HG1.out]; simp [w2]
            clear HG1
            go_wp2_with fail
            go_meet
            exact ⟨by rw [hg], rfl⟩
        case rest => as_aux_lemma =>
          obtain ⟨rfl, rfl⟩ := hcut
          go_upto_if 185 with (fail)
          go_cut [191] (fun s wx => RwI wx b (P ++ (A1 ++ (B1 ++ (A2 ++ (B2 ++ S))))) ∧ Fr (fun c => c = b) w wx)
          case first => as_aux_lemma =>
            cases G1 with
            | true =>
              have hg : 0 < l2 ∧ 0 < l3 := of_decide_eq_true HG1.out
              go_wp2_with fail
              refine (rotX wr b n cap _ (P ++ A1) A2 B1 (B2 ++ S) (by have := HR0.out; simpa using this) (by have := HLEN.out; have := HQ.out; have := HPA.out; simp; omega) HM.out (by have := HQ.out; have := HPA.out; simp; omega) (by have := HQ.out; have := HPA.out; simp; omega) (by have := HQ.out; have := HPA.out; simp; omega) (by have := HQ.out; omega) (by have := HQ.out; omega)).mono ?_
              rintro e w3 ⟨rfl, hr3, hf3⟩
              have HR3 := Lib.hid hr3; have HF3 := Lib.hid ((HF.out.mono (fun _ _ e => e.elim)).trans hf3)
              clear hr3 hf3 hg
              go_wp2_with fail
              go_meet
              exact ⟨by have := HR3.out; simpa using this, HF3.out⟩
            | false =>
              have hg : l2 = 0 ∨ l3 = 0 := by have := of_decide_eq_false HG1.out; omega
              have hr1 : RwI wr b (P ++ (A1 ++ (B1 ++ (A2 ++ (B2 ++ S))))) := by
                rcases hg with hg | hg
                · have : A2 = [] := List.eq_nil_of_length_eq_zero (by have := HQ.out; omega)
                  have h := HR0.out; rw [this] at h ⊢; exact h
                · have : B1 = [] := List.eq_nil_of_length_eq_zero (by have := HQ.out; omega)
                  have h := HR0.out; rw [this] at h ⊢; exact h
              have HR1 := Lib.hid hr1
              clear hg hr1
              go_wp2_with fail
              go_meet
              exact ⟨HR1.out, HF.out.mono (fun _ _ e => e.elim)⟩
          case rest => as_aux_lemma =>
            obtain ⟨hr1, hf1⟩ := hcut
            have HR1 := Lib.hid hr1; have HF1 := Lib.hid hf1
            clear hr1 hf1 HR0 HF
            go_upto_region 41 with (fail)
            go_cut [199] (fun s wx => s = .bool G2 ∧ wc = wx)
            case first => as_aux_lemma =>
              rcases (by omega : (0 < i ∧ 0 < l3) ∨ (i = 0) ∨ (0 < i ∧ l3 = 0)) with ⟨w1, w2⟩ | w1 | ⟨w1, w2⟩
              · have z1 : (pa : Int) < (pa : Int) + i := by omega
                have z2 : (pa : Int) + i < mid := by omega
                have z3 : (0 : Int) < (i : Int) := by omega
                have hg : G2 = true := by rw [← HG2.out]; simp [w1, w2]
                clear HG2
                go_wp2_with fail
                go_meet
                exact ⟨by rw [hg], rfl⟩
              · have z1 : ¬ (pa : Int) < (pa : Int) + i := by omega
                have z3 : ¬ (0 : Int) < (i : Int) := by omega
                have hg : G2 = false := by rw [← HG2.out]; simp [w1]
                have w1' := Lib.hid w1
                clear HG2 w1
                go_wp2_with fail
                go_meet
                exact ⟨by rw [hg], rfl⟩
              · have z1 : (pa : Int) < (pa : Int) + i := by omega
                have z2 : ¬ (pa : Int) + i < mid := by omega
                have z3 : (0 : Int) < (i : Int) := by omega
                have hg : G2 = false := by rw [← HG2.out]; simp [w2]
                clear HG2
                go_wp2_with fail
                go_meet
                exact ⟨by rw [hg], rfl⟩
            case rest => as_aux_lemma =>
              obtain ⟨rfl, rfl⟩ := hcut
              go_upto_if 199 with (fail)
              go_cut [205] (fun s wx => ∃ Z1, RwI wx b (P ++ (Z1 ++ (A2 ++ (B2 ++ S)))) ∧ Srt T Z1 ∧ Z1.Perm (A1 ++ B1) ∧ Fr (fun c => c = b) w wx)
              case first => as_aux_lemma =>
                cases G2 with
                | true =>
                  have hg : 0 < i ∧ 0 < l3 := of_decide_eq_true HG2.out
                  go_wp2_with fail
                  refine (IH.out _ P A1 B1 (A2 ++ (B2 ++ S)) _ _ _ (by have := HQ.out; have := HD.out; omega) (by have := HQ.out; omega) (by have := HQ.out; omega) HR1.out (by have := HLEN.out; have := HQ.out; have := HPA.out; simp; omega) (by have := HPA.out; omega) (by have := HQ.out; have := HPA.out; omega) (by have := HQ.out; have := HPA.out; omega) HS1.out.1 HS1.out.2.2.1 HRG.out.1 (HC.out.fr HF1.out)).mono ?_
                  rintro e w3 ⟨rfl, Z1, hr3, hs3, hp3, hf3⟩
                  have HR3 := Lib.hid hr3; have HF3 := Lib.hid (HF1.out.trans hf3); have HS3 := Lib.hid hs3; have HP3 := Lib.hid hp3
                  clear hr3 hf3 hg hs3 hp3
                  go_wp2_with fail
                  go_meet
                  exact ⟨Z1, HR3.out, HS3.out, HP3.out, HF3.out⟩
                | false =>
                  have hg : i = 0 ∨ l3 = 0 := by have := of_decide_eq_false HG2.out; omega
                  have hs : Hid (Srt T (A1 ++ B1)) := Lib.hid (by
                    rcases hg with hg | hg
                    · have : A1 = [] := List.eq_nil_of_length_eq_zero (by have := HQ.out; omega)
                      rw [this]; exact HS1.out.2.2.1
                    · have : B1 = [] := List.eq_nil_of_length_eq_zero (by have := HQ.out; omega)
                      rw [this, List.append_nil]; exact HS1.out.1)
                  clear hg
                  go_wp2_with fail
                  go_meet
                  exact ⟨A1 ++ B1, by have := HR1.out; simpa using this, hs.out, List.Perm.refl _, HF1.out⟩
              case rest => as_aux_lemma =>
                obtain ⟨Z1, hr2, hs2, hp2, hf2⟩ := hcut
                have HR2 := Lib.hid hr2; have HF2 := Lib.hid hf2; have HS2 := Lib.hid hs2; have HP2 := Lib.hid hp2
                have HZL : Hid (Z1.length = M) := Lib.hid (by have := hp2.length_eq; have := HQ.out; simp at *; omega)
                clear hr2 hf2 hs2 hp2
                go_upto_region 43 with (fail)
                go_cut [213] (fun s wx => s = .bool G3 ∧ wc = wx)
                case first => as_aux_lemma =>
                  rcases (by omega : (0 < l2 ∧ 0 < l4) ∨ (l2 = 0) ∨ (0 < l2 ∧ l4 = 0)) with ⟨w1, w2⟩ | w1 | ⟨w1, w2⟩
                  · have z1 : (mid : Int) < pe := by omega
                    have z2 : (pe : Int) < pb := by omega
                    have hg : G3 = true := by rw [← HG3.out]; simp [w1, w2]
                    clear HG3
                    go_wp2_with fail
                    go_meet
                    exact ⟨by rw [hg], rfl⟩
                  · have z1 : ¬ (mid : Int) < pe := by omega
                    have hg : G3 = false := by rw [← HG3.out]; simp [w1]
                    clear HG3 w1
                    go_wp2_with fail
                    go_meet
                    exact ⟨by rw [hg], rfl⟩
                  · have z1 : (mid : Int) < pe := by omega
                    have z2 : ¬ (pe : Int) < pb := by omega
                    have hg : G3 = false := by rw [← HG3.out]; simp [w2]
                    clear HG3 w2
                    go_wp2_with fail
                    go_meet
                    exact ⟨by rw [hg], rfl⟩
                case rest => as_aux_lemma =>
                  obtain ⟨rfl, rfl⟩ := hcut
                  cases G3 with
                  | true =>
                    have hg : 0 < l2 ∧ 0 < l4 := of_decide_eq_true HG3.out
                    go_wp2_with fail
                    refine (IH.out _ (P ++ Z1) A2 B2 S _ _ _ (by have := HQ.out; have := HD.out; omega) (by have := HQ.out; omega) (by have := HQ.out; omega) (by have := HR2.out; rw [List.append_assoc]; exact this) (by have := HLEN.out; have := HQ.out; have := HPA.out; have := HZL.out; simp; omega) (by have := HPA.out; have := HZL.out; have := HQ.out; simp; omega) (by have := HQ.out; have := HPA.out; have := HZL.out; simp; omega) (by have := HQ.out; have := HPA.out; have := HZL.out; simp; omega) HS1.out.2.1 HS1.out.2.2.2 HRG.out.2 (HC.out.fr HF2.out)).mono ?_
                    rintro e w3 ⟨rfl, Z2, hr3, hs3, hp3, hf3⟩
                    have HR3 := Lib.hid hr3; have HF3 := Lib.hid (HF2.out.trans hf3); have HS3 := Lib.hid hs3; have HP3 := Lib.hid hp3
                    clear hr3 hf3 hg hs3 hp3
                    go_wp2_with fail
                    go_end0
                    have hj := mrg_join (by rw [← HAA.out]; exact HSA.out) (by rw [← HBB.out]; exact HSB.out) HC1.out HC2.out HS2.out HS3.out HP2.out HP3.out
                    refine ⟨rfl, Z1 ++ Z2, by have := HR3.out; simpa using this, hj.1, by rw [HAA.out, HBB.out]; exact hj.2, HF3.out⟩
                  | false =>
                    have hg : l2 = 0 ∨ l4 = 0 := by have := of_decide_eq_false HG3.out; omega
                    have hs : Hid (Srt T (A2 ++ B2)) := Lib.hid (by
                      rcases hg with hg | hg
                      · have : A2 = [] := List.eq_nil_of_length_eq_zero (by have := HQ.out; omega)
                        rw [this]; exact HS1.out.2.2.2
                      · have : B2 = [] := List.eq_nil_of_length_eq_zero (by have := HQ.out; omega)
                        rw [this, List.append_nil]; exact HS1.out.2.1)
                    clear hg
                    go_wp2_with fail
                    go_end0
                    have hj := mrg_join (by rw [← HAA.out]; exact HSA.out) (by rw [← HBB.out]; exact HSB.out) HC1.out HC2.out HS2.out hs.out HP2.out (List.Perm.refl _)
                    refine ⟨rfl, Z1 ++ (A2 ++ B2), by have := HR2.out; simpa using this, hj.1, by rw [HAA.out, HBB.out]; exact hj.2, HF2.out⟩
end Go.Proofs.YtlniekobijcanaaGreat
namespace Go.Proofs.YtlniekobijcanaaGreat
open Go.RowKit
theorem symAll (b n cap g : Nat) (cb : Array Value) (cf : Int → Int → Int) (T : EI → EI → Bool) (eg : ∀ args w, (callFunc g args).run Tryz.prog w = .ok (.enter g args) w) (hm : n ≤ 1000000000000) (tr : ∀ a b c, T a b = true → T b c = true → T a c = true) : ∀ d, SymOk g cb cf T b n cap d
  | 0 => fun w P A B S ia im ib hd hA hB => by omega
  | d + 1 => fun w P A B S ia im ib hd hA hB h hn ha hpm hb sA sB hR hc => by
    by_cases h1 : A.length = 1
    · obtain ⟨x, rfl⟩ := List.length_eq_one_iff.1 h1
      refine (symI1 w b n cap g cb cf T P B S x eg (by simpa using h) (by simpa using hn) hm ha hpm (by rw [hb]; simp) tr sB (fun p hp => hR p hp x (by simp)) hc).mono ?_
      rintro e w' ⟨he, Z, z1, z2, z3, z4⟩
      exact ⟨he, Z, z1, z2, by simpa using z3, z4⟩
    · by_cases h2 : B.length = 1
      · obtain ⟨y, rfl⟩ := List.length_eq_one_iff.1 h2
        refine (symI2 w b n cap g cb cf T P A S y eg (by simpa using h) (by simpa using hn) hm ha hpm (by rw [hb]; simp) (by omega) tr sA (fun q hq => hR y (by simp) q hq) hc).mono ?_
        rintro e w' ⟨he, Z, z1, z2, z3, z4⟩
        exact ⟨he, Z, z1, z2, z3, z4⟩
      · exact symI3 b n cap g cb cf T d eg hm tr (symAll b n cap g cb cf T eg hm tr d) w P A B S ia im ib hd (by omega) (by omega) h hn ha hpm hb sA sB hR hc
/-- A part of a list. -/
def seg (xs : List EI) (a b : Nat) : List EI := (xs.take b).drop a
/-- That part rises, and holds what it held in X. -/
def Blk (T : EI → EI → Bool) (X ys : List EI) (a b : Nat) : Prop := Srt T (seg ys a b) ∧ (seg ys a b).Perm (seg X a b)
theorem seg_len {xs : List EI} {a b : Nat} (hb : b ≤ xs.length) : (seg xs a b).length = b - a := by unfold seg; simp; omega
theorem seg_split (xs : List EI) {a b : Nat} (hab : a ≤ b) : xs = xs.take a ++ (seg xs a b ++ xs.drop b) := by
  unfold seg
  have h1 : xs.take a = (xs.take b).take a := by rw [List.take_take, Nat.min_eq_left hab]
  rw [h1, ← List.append_assoc, List.take_append_drop, List.take_append_drop]
theorem seg_get (xs : List EI) (c d i : Nat) : (seg xs c d)[i]? = if c + i < d then xs[c + i]? else none := by
  unfold seg
  rw [List.getElem?_drop, List.getElem?_take]
theorem put_get {xs Z : List EI} {a b : Nat} (hab : a ≤ b) (hb : b ≤ xs.length) (hZ : Z.length = b - a) (j : Nat) : (xs.take a ++ (Z ++ xs.drop b))[j]? = if j < a then xs[j]? else if j < b then Z[j - a]? else xs[j]? := by
  have hta : (xs.take a).length = a := by simp; omega
  by_cases h1 : j < a
  · rw [if_pos h1, List.getElem?_append_left (by omega), List.getElem?_take, if_pos h1]
  · rw [if_neg h1, List.getElem?_append_right (by omega), hta]
    by_cases h2 : j < b
    · rw [if_pos h2, List.getElem?_append_left (by omega)]
    · rw [if_neg h2, List.getElem?_append_right (by omega), List.getElem?_drop]
      congr 1; omega
/-- A part is changed for another of its length: the parts elsewhere are as they were. -/
theorem seg_put {xs Z : List EI} {a b : Nat} (hab : a ≤ b) (hb : b ≤ xs.length) (hZ : Z.length = b - a) :
    (xs.take a ++ (Z ++ xs.drop b)).length = xs.length ∧ seg (xs.take a ++ (Z ++ xs.drop b)) a b = Z ∧ (∀ c d, d ≤ a → seg (xs.take a ++ (Z ++ xs.drop b)) c d = seg xs c d) ∧ (∀ c d, b ≤ c → seg (xs.take a ++ (Z ++ xs.drop b)) c d = seg xs c d) := by
  refine ⟨by simp; omega, ?_, fun c d hd => ?_, fun c d hc => ?_⟩
  · apply List.ext_getElem?
    intro i
    rw [seg_get, put_get hab hb hZ]
    by_cases h : a + i < b
    · rw [if_pos h, if_neg (by omega), if_pos h]; congr 1; omega
    · rw [if_neg h]; exact (List.getElem?_eq_none (by omega)).symm
  · apply List.ext_getElem?
    intro i
    rw [seg_get, seg_get, put_get hab hb hZ]
    by_cases h : c + i < d
    · rw [if_pos h, if_pos h, if_pos (by omega)]
    · rw [if_neg h, if_neg h]
  · apply List.ext_getElem?
    intro i
    rw [seg_get, seg_get, put_get hab hb hZ]
    by_cases h : c + i < d
    · rw [if_pos h, if_pos h, if_neg (by omega), if_neg (by omega)]
    · rw [if_neg h, if_neg h]
theorem seg_app (xs : List EI) {a m b : Nat} (h1 : a ≤ m) (h2 : m ≤ b) : seg xs a b = seg xs a m ++ seg xs m b := by
  apply List.ext_getElem?
  intro i
  rw [seg_get]
  by_cases hm : m ≤ xs.length
  · have hl : (seg xs a m).length = m - a := seg_len hm
    by_cases h : i < m - a
    · rw [List.getElem?_append_left (by omega), seg_get, if_pos (by omega), if_pos (by omega)]
    · rw [List.getElem?_append_right (by omega), seg_get, hl]
      by_cases h3 : a + i < b
      · rw [if_pos h3, if_pos (by omega)]; congr 1; omega
      · rw [if_neg h3, if_neg (by omega)]
  · have e1 : seg xs m b = [] := by unfold seg; rw [List.drop_of_length_le]; simp; omega
    rw [e1, List.append_nil, seg_get]
    by_cases h3 : a + i < m
    · rw [if_pos (by omega), if_pos h3]
    · rw [if_neg h3]
      by_cases h4 : a + i < b
      · rw [if_pos h4]; exact List.getElem?_eq_none (by omega)
      · rw [if_neg h4]
theorem seg_sub {xs : List EI} {a b : Nat} {x : EI} (h : x ∈ seg xs a b) : x ∈ xs := by
  unfold seg at h
  exact List.mem_of_mem_take (List.mem_of_mem_drop h)
/-- What stands in a later part stands right of what stands in an earlier one. -/
theorem seg_pair {R : EI → EI → Prop} {X : List EI} (h : X.Pairwise R) {a m b : Nat} (h1 : a ≤ m) (h2 : m ≤ b) : ∀ q ∈ seg X a m, ∀ p ∈ seg X m b, R q p := by
  intro q hq p hp
  have hs : (seg X a b).Pairwise R := h.sublist ((List.drop_sublist _ _).trans (List.take_sublist _ _))
  rw [seg_app X h1 h2] at hs
  exact (List.pairwise_append.1 hs).2.2 q hq p hp
theorem seg_pw {R : EI → EI → Prop} {X : List EI} (h : X.Pairwise R) (a b : Nat) : (seg X a b).Pairwise R := h.sublist ((List.drop_sublist _ _).trans (List.take_sublist _ _))
/-- From lo to hi, in steps of s, each block rises and holds what it held. -/
def Okb (T : EI → EI → Bool) (X ys : List EI) (s lo hi : Nat) : Prop := ∀ q, lo + q * s < hi → Blk T X ys (lo + q * s) (min (lo + (q + 1) * s) hi)
theorem okb_head {T : EI → EI → Bool} {X ys : List EI} {s lo hi : Nat} (h : Okb T X ys s lo hi) (hl : lo < hi) : Blk T X ys lo (min (lo + s) hi) := by
  have := h 0 (by omega)
  simpa using this
theorem okb_tail {T : EI → EI → Bool} {X ys : List EI} {s lo hi : Nat} (h : Okb T X ys s lo hi) : Okb T X ys s (lo + s) hi := fun q hq => by
  have e1 : lo + s + q * s = lo + (q + 1) * s := by rw [Nat.add_mul]; omega
  have e2 : lo + s + (q + 1) * s = lo + (q + 1 + 1) * s := by rw [Nat.add_mul (q + 1)]; omega
  rw [e1] at hq ⊢
  rw [e2]
  exact h (q + 1) hq
theorem okb_nil {T : EI → EI → Bool} {X ys : List EI} {s lo hi : Nat} (h : hi ≤ lo) : Okb T X ys s lo hi := fun q hq => by omega
theorem okb_snoc {T : EI → EI → Bool} {X ys : List EI} {t a b k : Nat} (h : Okb T X ys t 0 a) (ha : a = k * t) (hab : a < b) (hb : b ≤ a + t) (hB : Blk T X ys a b) : Okb T X ys t 0 b := fun q hq => by
  rw [Nat.zero_add] at hq ⊢
  rw [Nat.zero_add]
  rcases Nat.lt_trichotomy q k with hl | he | hg
  · have h1 : (q + 1) * t ≤ k * t := Nat.mul_le_mul_right t hl
    have h2 := h q (by rw [Nat.zero_add]; rw [Nat.add_mul] at h1; omega)
    rw [Nat.zero_add, Nat.zero_add] at h2
    rw [Nat.min_eq_left (by omega)] at h2 ⊢
    exact h2
  · subst he
    rw [Nat.min_eq_right (by rw [Nat.add_mul]; omega), ← ha]
    exact hB
  · have h1 : (k + 1) * t ≤ q * t := Nat.mul_le_mul_right t hg
    rw [Nat.add_mul] at h1
    omega
theorem okb_low {T : EI → EI → Bool} {X ys Z : List EI} {t a b : Nat} (hab : a ≤ b) (hb : b ≤ ys.length) (hZ : Z.length = b - a) (h : Okb T X ys t 0 a) : Okb T X (ys.take a ++ (Z ++ ys.drop b)) t 0 a := fun q hq => by
  have := h q hq
  unfold Blk at this ⊢
  rw [(seg_put hab hb hZ).2.2.1 _ _ (Nat.min_le_right _ _)]
  exact this
theorem okb_high {T : EI → EI → Bool} {X ys Z : List EI} {s a b n : Nat} (hab : a ≤ b) (hb : b ≤ ys.length) (hZ : Z.length = b - a) (h : Okb T X ys s b n) : Okb T X (ys.take a ++ (Z ++ ys.drop b)) s b n := fun q hq => by
  have := h q hq
  unfold Blk at this ⊢
  rw [(seg_put hab hb hZ).2.2.2 _ _ (by omega)]
  exact this
theorem blk_put {T : EI → EI → Bool} {X ys Z : List EI} {a b : Nat} (hab : a ≤ b) (hb : b ≤ ys.length) (hZ : Z.length = b - a) (hs : Srt T Z) (hp : Z.Perm (seg X a b)) : Blk T X (ys.take a ++ (Z ++ ys.drop b)) a b := by
  unfold Blk
  rw [(seg_put hab hb hZ).2.1]
  exact ⟨hs, hp⟩
/-- What is not sorted yet is as it was. -/
def Rest (X ys : List EI) (a : Nat) : Prop := ∀ c d, a ≤ c → seg ys c d = seg X c d
set_option maxRecDepth 100000 in
set_option maxHeartbeats 16000000 in
theorem stabI (w : World) (bk n cap g : Nat) (cb : Array Value) (cf : Int → Int → Int) (T : EI → EI → Bool) (X : List EI) (eg : ∀ args w, (callFunc g args).run Tryz.prog w = .ok (.enter g args) w) (h : RwI w bk X) (hn : X.length = n) (hm : n ≤ 1000000000000)
    (tr : ∀ a b c, T a b = true → T b c = true → T a c = true) (hR : X.Pairwise (fun q p => Rgt cf T p q)) (hc : CmpI g cb cf bk w) :
    Calls Tryz.prog 127 #[.slice (some ⟨bk, 0, none⟩) n cap, .int .i64 n, .func (.func g) #[] cb] w fun e w' => e = .returned (.tuple #[]) ∧ ∃ Z, RwI w' bk Z ∧ Srt T Z ∧ Z.Perm X ∧ Fr (fun c => c = bk) w w' := by
  have H0 := Lib.hid h; have HN := Lib.hid hn; have HM := Lib.hid hm; have HTR := Lib.hid tr; have HRR := Lib.hid hR; have HC := Lib.hid hc
  have SYM := Lib.hid (symAll bk n cap g cb cf T eg hm tr)
  have INS := Lib.hid (fun w P A S ia ib h hn ha hb hR hc => @insI w bk n cap g cb cf T P A S ia ib eg h hn hm ha hb tr hR hc)
  have i1 : (n : Int) ≤ 1000000000000 := by omega
  clear h hn hm tr hR hc
  go_enter Tryz.func127, Tryz.ntmps127
  go_wp2_with fail
  go_loopw [7, 8] (fun va vb wr => ∃ (a k : Nat) (ys : List EI), va = .int .i64 a ∧ vb = .int .i64 ((a : Int) + 20) ∧ a = k * 20 ∧ a ≤ n ∧ ys.length = n ∧ RwI wr bk ys ∧ Okb T X ys 20 0 a ∧ Rest X ys a ∧ Fr (fun c => c = bk) w wr) (fun va _ _ => ((n : Int) - intOf va).toNat)
  case atStart => exact ⟨0, 0, X, rfl, by simp, rfl, Nat.zero_le _, HN.out, H0.out, okb_nil (Nat.le_refl _), fun _ _ _ => rfl, Fr.refl _ _⟩
  case round =>
    obtain ⟨a, k, ys, rfl, rfl, hk, han, hyl, hr, hok, hrest, hf⟩ := hrel
    have HK := Lib.hid hk; have HYL := Lib.hid hyl; have HR := Lib.hid hr; have HOK := Lib.hid hok; have HRS := Lib.hid hrest; have HF := Lib.hid hf
    clear hk hyl hr hok hrest hf
    by_cases hlt : a + 20 ≤ n
    · have hltI : (a : Int) + 20 ≤ n := by omega
      have hrow : Hid (RwI wr bk (ys.take a ++ (seg ys a (a + 20) ++ ys.drop (a + 20)))) := Lib.hid (by have := HR.out; rw [seg_split ys (show a ≤ a + 20 by omega)] at this; exact this)
      go_wp2_with fail
      refine (INS.out wr (ys.take a) (seg ys a (a + 20)) (ys.drop (a + 20)) _ _ hrow.out (by rw [← seg_split ys (show a ≤ a + 20 by omega), HYL.out]) (by have := HYL.out; simp; omega) (by rw [seg_len (by have := HYL.out; omega)]; have := HYL.out; simp; omega) (by rw [HRS.out a (a + 20) (Nat.le_refl _)]; exact seg_pw HRR.out _ _) (HC.out.fr HF.out)).mono ?_
      rintro e w3 ⟨rfl, Z, hz1, hz2, hz3, hz4⟩
      have hzl : Z.length = a + 20 - a := by rw [hz3.length_eq, seg_len (by have := HYL.out; omega)]
      rw [HRS.out a (a + 20) (Nat.le_refl _)] at hz3
      have HZ1 := Lib.hid hz1; have HZ2 := Lib.hid hz2; have HZ3 := Lib.hid hz3; have HZL := Lib.hid hzl; have HF3 := Lib.hid (HF.out.trans hz4)
      clear hz1 hz2 hz3 hz4 hzl
      go_wp2_with fail
      go_roundw
      case rel =>
        have hp := seg_put (xs := ys) (Z := Z) (a := a) (b := a + 20) (by omega) (by have := HYL.out; omega) HZL.out
        refine ⟨a + 20, k + 1, ys.take a ++ (Z ++ ys.drop (a + 20)), by first | rfl | (congr 1; done) | (congr 1; omega), by first | rfl | (congr 1; done) | (congr 1; omega), by have := HK.out; omega, hlt, by rw [hp.1]; exact HYL.out, HZ1.out, ?_, fun c d hcd => ?_, HF3.out⟩
        · exact okb_snoc (okb_low (by omega) (by have := HYL.out; omega) HZL.out HOK.out) HK.out (by omega) (Nat.le_refl _) (blk_put (by omega) (by have := HYL.out; omega) HZL.out HZ2.out HZ3.out)
        · rw [hp.2.2.2 c d hcd]; exact HRS.out c d (by omega)
      case measure => simp [intOf]; omega
    · have hltI : ¬ (a : Int) + 20 ≤ n := by omega
      have hrow : Hid (RwI wr bk (ys.take a ++ (seg ys a n ++ ys.drop n))) := Lib.hid (by have := HR.out; rw [seg_split ys han] at this; exact this)
      go_wp2_with fail
      refine (INS.out wr (ys.take a) (seg ys a n) (ys.drop n) _ _ hrow.out (by rw [← seg_split ys han, HYL.out]) (by have := HYL.out; simp; omega) (by rw [seg_len (by have := HYL.out; omega)]; have := HYL.out; simp; omega) (by rw [HRS.out a n (Nat.le_refl _)]; exact seg_pw HRR.out _ _) (HC.out.fr HF.out)).mono ?_
      rintro e w3 ⟨rfl, Z, hz1, hz2, hz3, hz4⟩
      have hzl : Z.length = n - a := by rw [hz3.length_eq, seg_len (by have := HYL.out; omega)]
      rw [HRS.out a n (Nat.le_refl _)] at hz3
      have hp := seg_put (xs := ys) (Z := Z) (a := a) (b := n) han (by have := HYL.out; omega) hzl
      have hok2 : Okb T X (ys.take a ++ (Z ++ ys.drop n)) 20 0 n := by
        have hlow := okb_low han (by have := HYL.out; omega) hzl HOK.out
        by_cases e : a = n
        · rw [e] at hlow ⊢; exact hlow
        · exact okb_snoc hlow HK.out (by omega) (by omega) (blk_put han (by have := HYL.out; omega) hzl hz2 hz3)
      obtain ⟨y2, hy2⟩ : ∃ y2, ys.take a ++ (Z ++ ys.drop n) = y2 := ⟨_, rfl⟩
      have hl2 := hp.1
      rw [hy2] at hz1 hok2 hl2
      have HZ1 := Lib.hid hz1; have HOK2 := Lib.hid hok2; have HL2 := Lib.hid (hl2.trans HYL.out); have HF3 := Lib.hid (HF.out.trans hz4)
      clear hz1 hz2 hz3 hz4 hzl hp hok2 hy2 hl2 hltI
      go_wp2_with fail
      go_loopw [6] (fun vs wr => ∃ (s : Nat) (y : List EI), vs = .int .i64 s ∧ 0 < s ∧ y.length = n ∧ RwI wr bk y ∧ Okb T X y s 0 n ∧ Fr (fun c => c = bk) w wr) (fun vs _ => ((n : Int) - intOf vs).toNat)
      case atStart => exact ⟨20, y2, rfl, by omega, HL2.out, HZ1.out, HOK2.out, HF3.out⟩
      case round =>
        obtain ⟨s, y, rfl, hs0, hyl, hr, hok, hf⟩ := hrel
        have HYL := Lib.hid hyl; have HR := Lib.hid hr; have HOK := Lib.hid hok; have HF := Lib.hid hf
        clear hyl hr hok hf
        by_cases hsn : s < n
        · have hsI : (s : Int) < n := by omega
          have hs0I : (0 : Int) < s := by omega
          obtain ⟨wo, rfl⟩ : ∃ wo : World, wo = wr := ⟨_, rfl⟩
          go_wp2_with fail
          go_loopw [7, 8] (fun va vb wr => ∃ (a k : Nat) (ys : List EI), va = .int .i64 a ∧ vb = .int .i64 ((a : Int) + 2 * s) ∧ a = k * (2 * s) ∧ a ≤ n ∧ ys.length = n ∧ RwI wr bk ys ∧ Okb T X ys (2 * s) 0 a ∧ Okb T X ys s a n ∧ Fr (fun c => c = bk) w wr) (fun va _ _ => ((n : Int) - intOf va).toNat)
          case atStart => exact ⟨0, 0, y, rfl, by simp, by simp, Nat.zero_le _, HYL.out, HR.out, okb_nil (Nat.le_refl _), HOK.out, HF.out⟩
          case round =>
            obtain ⟨a, k, ys, rfl, rfl, hk, han, hyl, hr, hok1, hok2, hf⟩ := hrel
            have HK := Lib.hid hk; have HYL := Lib.hid hyl; have HR := Lib.hid hr; have HOK1 := Lib.hid hok1; have HOK2 := Lib.hid hok2; have HF := Lib.hid hf
            clear hk hyl hr hok1 hok2 hf
            by_cases hlt : a + 2 * s ≤ n
            · have hltI : (a : Int) + 2 * s ≤ n := by omega
              have b1 := okb_head HOK2.out (by omega)
              have b2 := okb_head (okb_tail HOK2.out) (by omega)
              rw [Nat.min_eq_left (by omega)] at b1 b2
              rw [show a + s + s = a + 2 * s by omega] at b2
              have hsp : ys = ys.take a ++ (seg ys a (a + s) ++ (seg ys (a + s) (a + 2 * s) ++ ys.drop (a + 2 * s))) := by
                rw [← List.append_assoc (seg ys a (a + s)), ← seg_app ys (by omega) (by omega)]
                exact seg_split ys (by omega)
              have l1 : (seg ys a (a + s)).length = s := by rw [seg_len (by have := HYL.out; omega)]; omega
              have l2 : (seg ys (a + s) (a + 2 * s)).length = s := by rw [seg_len (by have := HYL.out; omega)]; omega
              have l3 : (ys.take a).length = a := by have := HYL.out; simp; omega
              have hrow : Hid (RwI wr bk (ys.take a ++ (seg ys a (a + s) ++ (seg ys (a + s) (a + 2 * s) ++ ys.drop (a + 2 * s))))) := Lib.hid (by rw [← hsp]; exact HR.out)
              have HSP := Lib.hid hsp; have L1 := Lib.hid l1; have L2 := Lib.hid l2; have L3 := Lib.hid l3; have B1 := Lib.hid b1; have B2 := Lib.hid b2
              clear hsp l1 l2 l3 b1 b2
              go_wp2_with fail
              refine (SYM.out _ wr (ys.take a) (seg ys a (a + s)) (seg ys (a + s) (a + 2 * s)) (ys.drop (a + 2 * s)) _ _ _ (Nat.le_refl _) (by rw [L1.out]; omega) (by rw [L2.out]; omega) hrow.out (by rw [← HSP.out, HYL.out]) (by rw [L3.out]) (by rw [L3.out, L1.out]; omega) (by rw [L3.out, L1.out, L2.out]; omega) B1.out.1 B2.out.1 (fun p hp q hq => seg_pair HRR.out (show a ≤ a + s by omega) (show a + s ≤ a + 2 * s by omega) q (B1.out.2.mem_iff.1 hq) p (B2.out.2.mem_iff.1 hp)) (HC.out.fr HF.out)).mono ?_
              rintro e w3 ⟨rfl, Z, hz1, hz2, hz3, hz4⟩
              have hzl : Z.length = a + 2 * s - a := by rw [hz3.length_eq, List.length_append, L1.out, L2.out]; omega
              have hz5 : Z.Perm (seg X a (a + 2 * s)) := by rw [seg_app X (show a ≤ a + s by omega) (show a + s ≤ a + 2 * s by omega)]; exact hz3.trans (B1.out.2.append B2.out.2)
              have HZ1 := Lib.hid hz1; have HZ2 := Lib.hid hz2; have HZ3 := Lib.hid hz5; have HZL := Lib.hid hzl; have HF3 := Lib.hid (HF.out.trans hz4)
              clear hz1 hz2 hz3 hz4 hz5 hzl
              go_wp2_with fail
              go_roundw
              case rel =>
                have hp := seg_put (xs := ys) (Z := Z) (a := a) (b := a + 2 * s) (by omega) (by have := HYL.out; omega) HZL.out
                refine ⟨a + 2 * s, k + 1, ys.take a ++ (Z ++ ys.drop (a + 2 * s)), by first | rfl | (congr 1; done) | (congr 1; omega), by first | rfl | (congr 1; done) | (congr 1; omega), by have := HK.out; rw [Nat.add_mul]; omega, hlt, by rw [hp.1]; exact HYL.out, HZ1.out, ?_, ?_, HF3.out⟩
                · exact okb_snoc (okb_low (by omega) (by have := HYL.out; omega) HZL.out HOK1.out) HK.out (by omega) (Nat.le_refl _) (blk_put (by omega) (by have := HYL.out; omega) HZL.out HZ2.out HZ3.out)
                · refine okb_high (by omega) (by have := HYL.out; omega) HZL.out ?_
                  have := okb_tail (okb_tail HOK2.out)
                  rw [show a + s + s = a + 2 * s by omega] at this
                  exact this
              case measure => simp [intOf]; omega
            · have hltI : ¬ (a : Int) + 2 * s ≤ n := by omega
              by_cases hmn : a + s < n
              · have hmI : (a : Int) + s < n := by omega
                have b1 := okb_head HOK2.out (by omega)
                have b2 := okb_head (okb_tail HOK2.out) hmn
                rw [Nat.min_eq_left (by omega)] at b1
                rw [Nat.min_eq_right (by omega)] at b2
                have hsp : ys = ys.take a ++ (seg ys a (a + s) ++ (seg ys (a + s) n ++ ys.drop n)) := by
                  rw [← List.append_assoc (seg ys a (a + s)), ← seg_app ys (by omega) (by omega)]
                  exact seg_split ys han
                have l1 : (seg ys a (a + s)).length = s := by rw [seg_len (by have := HYL.out; omega)]; omega
                have l2 : (seg ys (a + s) n).length = n - (a + s) := by rw [seg_len (by have := HYL.out; omega)]
                have l3 : (ys.take a).length = a := by have := HYL.out; simp; omega
                have hrow : Hid (RwI wr bk (ys.take a ++ (seg ys a (a + s) ++ (seg ys (a + s) n ++ ys.drop n)))) := Lib.hid (by rw [← hsp]; exact HR.out)
                have HSP := Lib.hid hsp; have L1 := Lib.hid l1; have L2 := Lib.hid l2; have L3 := Lib.hid l3; have B1 := Lib.hid b1; have B2 := Lib.hid b2
                clear hsp l1 l2 l3 b1 b2
                go_wp2_with fail
                refine (SYM.out _ wr (ys.take a) (seg ys a (a + s)) (seg ys (a + s) n) (ys.drop n) _ _ _ (Nat.le_refl _) (by rw [L1.out]; omega) (by rw [L2.out]; omega) hrow.out (by rw [← HSP.out, HYL.out]) (by rw [L3.out]) (by rw [L3.out, L1.out]; omega) (by rw [L3.out, L1.out, L2.out]; omega) B1.out.1 B2.out.1 (fun p hp q hq => seg_pair HRR.out (show a ≤ a + s by omega) (show a + s ≤ n by omega) q (B1.out.2.mem_iff.1 hq) p (B2.out.2.mem_iff.1 hp)) (HC.out.fr HF.out)).mono ?_
                rintro e w3 ⟨rfl, Z, hz1, hz2, hz3, hz4⟩
                have hzl : Z.length = n - a := by rw [hz3.length_eq, List.length_append, L1.out, L2.out]; omega
                have hz5 : Z.Perm (seg X a n) := by rw [seg_app X (show a ≤ a + s by omega) (show a + s ≤ n by omega)]; exact hz3.trans (B1.out.2.append B2.out.2)
                have hp := seg_put (xs := ys) (Z := Z) (a := a) (b := n) han (by have := HYL.out; omega) hzl
                have hfin : Okb T X (ys.take a ++ (Z ++ ys.drop n)) (2 * s) 0 n := okb_snoc (okb_low han (by have := HYL.out; omega) hzl HOK1.out) HK.out (by omega) (by omega) (blk_put han (by have := HYL.out; omega) hzl hz2 hz5)
                obtain ⟨y3, hy3⟩ : ∃ y3, ys.take a ++ (Z ++ ys.drop n) = y3 := ⟨_, rfl⟩
                have hl3 := hp.1
                rw [hy3] at hz1 hfin hl3
                have HZ1 := Lib.hid hz1; have HFIN := Lib.hid hfin; have HL3 := Lib.hid (hl3.trans HYL.out); have HF3 := Lib.hid (HF.out.trans hz4)
                clear hz1 hz2 hz3 hz4 hz5 hzl hp hfin hy3 hl3
                go_wp2_with fail
                go_roundw
                case rel => exact ⟨2 * s, y3, by first | rfl | (congr 1; done) | (congr 1; omega), by omega, HL3.out, HZ1.out, HFIN.out, HF3.out⟩
                case measure => simp [intOf]; omega
              · have hmI : ¬ (a : Int) + s < n := by omega
                have hfin : Okb T X ys (2 * s) 0 n := by
                  by_cases e : a = n
                  · rw [← e]; exact HOK1.out
                  · have b1 := okb_head HOK2.out (by omega)
                    rw [Nat.min_eq_right (by omega)] at b1
                    exact okb_snoc HOK1.out HK.out (by omega) (by omega) b1
                have HFIN := Lib.hid hfin
                clear hfin
                go_wp2_with fail
                go_roundw
                case rel => exact ⟨2 * s, ys, by first | rfl | (congr 1; done) | (congr 1; omega), by omega, HYL.out, HR.out, HFIN.out, HF.out⟩
                case measure => simp [intOf]; omega
        · have hsI : ¬ (s : Int) < n := by omega
          have hfin : Srt T y ∧ y.Perm X := by
            by_cases e : n = 0
            · have e1 : y = [] := List.eq_nil_of_length_eq_zero (by rw [HYL.out]; exact e)
              have e2 : X = [] := List.eq_nil_of_length_eq_zero (by rw [HN.out]; exact e)
              rw [e1, e2]; exact ⟨Srt.nil, List.Perm.refl _⟩
            · have b1 := okb_head HOK.out (by omega)
              rw [Nat.zero_add, Nat.min_eq_right (by omega)] at b1
              have e1 : ∀ u : List EI, u.length = n → seg u 0 n = u := fun u hu => by unfold seg; rw [List.drop_zero, List.take_of_length_le (by omega)]
              unfold Blk at b1
              rw [e1 y HYL.out, e1 X HN.out] at b1
              exact b1
          have HFIN := Lib.hid hfin
          clear hfin
          go_wp2_with fail
          go_end0
          exact ⟨rfl, y, HR.out, HFIN.out.1, HFIN.out.2, HF.out⟩
/-- The same, its elements named by their places. -/
theorem rwI_zip {W : World} {b : Nat} {l : List Int} {rest : List Value} (h : W.heap[b]? = some (.cells (l.map (Value.int .i64) ++ rest).toArray 3)) : RwI W b (l.zipIdx 0) := ⟨rest, by
  have e : (l.zipIdx 0).map encI = l.map (Value.int .i64) := by
    apply List.ext_getElem?
    intro i
    rw [List.getElem?_map, List.getElem?_zipIdx, List.getElem?_map]
    cases l[i]? <;> rfl
  rw [e]; exact h⟩
set_option maxRecDepth 100000 in
set_option maxHeartbeats 4000000 in
/-- slices.SortStableFunc: a row of ints of the caller's own is laid in the stable order. -/
theorem sortStableI (w : World) (bk n cap g : Nat) (cb : Array Value) (cf : Int → Int → Int) (l : List Int) (eg : ∀ args w, (callFunc g args).run Tryz.prog w = .ok (.enter g args) w) (hl : l.length = n) (hm : n ≤ 1000000000000) (hS : SwoB (fun x y => decide (cf x y < 0)))
    (h : RwI w bk (l.zipIdx 0)) (hD : ∀ x ∈ l, ∀ y ∈ l, -1 ≤ cf x y ∧ cf x y ≤ 1) (hc : CmpI g cb cf bk w) :
    Calls Tryz.prog 93 #[.slice (some ⟨bk, 0, none⟩) n cap, .func (.func g) #[] cb] w fun e w' => e = .returned (.tuple #[]) ∧ (∃ rest : List Value, w'.heap[bk]? = some (.cells ((stab (fun x y => decide (cf x y < 0)) l).map (Value.int .i64) ++ rest).toArray 3)) ∧ Fr (fun c => c = bk) w w' := by
  have hst := Lib.hid (stabI w bk n cap g cb cf (tagT (fun x y => decide (cf x y < 0))) (l.zipIdx 0) eg h (by rw [List.length_zipIdx]; exact hl) hm (tag_tr hS) ((zip_pair l 0).imp_of_mem (fun {q p} hq hp hlt => by
    obtain ⟨h1, h2⟩ := tag_rgt hS hlt
    exact ⟨h1.symm, h2, hD _ (zip_mem hp) _ (zip_mem hq)⟩)) hc)
  have HS := Lib.hid hS
  have hnI : (n : Int) ≤ 1000000000000 := by omega
  clear h hc hl hm hS hD
  go_enter Tryz.func93, Tryz.ntmps93
  go_wp2_with (go_at_call 127; refine hst.out.mono ?_; rintro e w' ⟨rfl, Z, hz1, hz2, hz3, hz4⟩; have HZ1 := Lib.hid hz1; have HZ2 := Lib.hid hz2; have HZ3 := Lib.hid hz3; have HZ4 := Lib.hid hz4; clear hz1 hz2 hz3 hz4)
  go_end0
  refine ⟨rfl, ?_, HZ4.out⟩
  obtain ⟨rest, hr⟩ := HZ1.out
  refine ⟨rest, ?_⟩
  rw [← stab_eq HS.out HZ2.out HZ3.out, List.map_map]
  exact hr
end Go.Proofs.YtlniekobijcanaaGreat
namespace Go.Proofs.YtlniekobijcanaaGreat
open Go.RowKit Go.Maps
set_option maxRecDepth 100000 in
set_option maxHeartbeats 8000000 in
theorem bOrd1 (w : World) (g gc b5 b3 i j : Nat) (cbc : Array Value) (L : List BV) (A B : BV) (C : Int) (eg : ∀ args w, (callFunc gc args).run Tryz.prog w = .ok (.enter gc args) w) (h : Fl w g L) (hi : L[i]? = some A) (hj : L[j]? = some B)
    (h5 : w.cell? ⟨b5, 0, none⟩ = some (.func (.func gc) #[] cbc)) (h3 : w.cell? ⟨b3, 0, none⟩ = some (.pointer (some ⟨g, 0, none⟩)))
    (hC : ∀ W, Fr (fun _ => False) w W → Calls Tryz.prog gc (#[.agg A.cs, .agg B.cs] ++ cbc) W fun e w' => e = .returned (.int .i64 C) ∧ Fr (fun _ => False) W w') :
    Calls Tryz.prog 94 #[.int .i64 i, .int .i64 j, .pointer (some ⟨b5, 0, none⟩), .pointer (some ⟨b3, 0, none⟩)] w fun e w' => e = .returned (.int .i64 C) ∧ Fr (fun _ => False) w w' := by
  obtain ⟨a, c, q1, q2⟩ := h
  have hiN := (List.getElem?_eq_some_iff.1 hi).1
  have hjN := (List.getElem?_eq_some_iff.1 hj).1
  have hNI := q2.len
  obtain ⟨N, hN⟩ : ∃ N, L.length = N := ⟨_, rfl⟩
  rw [hN] at q1 q2 hNI hiN hjN
  have hiI : (i : Int) < N := by omega
  have hjI : (j : Int) < N := by omega
  obtain ⟨ad, rfl, okA, z0, zs⟩ := q2.at_ hi
  obtain ⟨ad', e', okB, y0, ys⟩ := q2.at_ hj
  cases e'
  obtain ⟨la, lc, hl⟩ := okA.l.sl
  obtain ⟨lb, ld, hm⟩ := okB.l.sl
  have HC : Hid (∀ W, Fr (fun _ => False) w W → Calls Tryz.prog gc (#[.agg #[.int .i64 A.nu, .int .i64 A.zo, .int .i64 A.ro, .slice la A.its.length lc], .agg #[.int .i64 B.nu, .int .i64 B.zo, .int .i64 B.ro, .slice lb B.its.length ld]] ++ cbc) W fun e w' => e = .returned (.int .i64 C) ∧ Fr (fun _ => False) W w') := Lib.hid (fun W hf => by
    have := hC W hf
    unfold BV.cs at this
    rw [hl, hm] at this
    exact this)
  have u0 := FrW.cell (cell_obj q1 0 (.slice (some ad) N c) rfl)
  have u1 := FrW.cell (z0 (.int .i64 A.nu) rfl)
  have u2 := FrW.cell (zs 0 (.int .i64 A.zo) rfl)
  have u3 := FrW.cell (zs 1 (.int .i64 A.ro) rfl)
  have u4 := FrW.cell (zs 2 (.slice la A.its.length lc) (by rw [← hl]; rfl))
  have u5 := FrW.cell (y0 (.int .i64 B.nu) rfl)
  have u6 := FrW.cell (ys 0 (.int .i64 B.zo) rfl)
  have u7 := FrW.cell (ys 1 (.int .i64 B.ro) rfl)
  have u8 := FrW.cell (ys 2 (.slice lb B.its.length ld) (by rw [← hm]; rfl))
  have u9 := FrW.cell h5
  have u10 := FrW.cell h3
  clear hC h5 h3 q1 q2 hi hj z0 zs y0 ys okA okB hl hm hN
  go_enter Tryz.func94, Tryz.ntmps94
  go_wp2_with fail
  refine wp_region_fr (by kernel_rfl) (by kernel_rfl) ?_
  repeat (go_big_quiet_step ((go_at_fn gc; rename_i X; refine (HC.out X.val X.fr).mono ?_; rintro e w2 ⟨rfl, hF⟩; exact ⟨rfl, ⟨w2, X.fr.trans hF⟩, rfl⟩)))
  refine wpQuiet_nil ?_
  rintro _ ⟨⟨V, hV⟩, rfl⟩
  go_wp2_with fail
  go_ret
  exact ⟨rfl, hV⟩
end Go.Proofs.YtlniekobijcanaaGreat
namespace Go.Proofs.YtlniekobijcanaaGreat
open Go.RowKit
set_option maxRecDepth 100000 in
set_option maxHeartbeats 1000000 in
theorem insNil (w : World) (fv : Value) : Calls Tryz.prog 137 #[.slice none 0 0, .int .i64 0, .int .i64 0, fv] w fun e w' => e = .returned (.tuple #[]) ∧ Fr (fun _ => False) w w' := by
  go_enter Tryz.func137, Tryz.ntmps137
  go_wp2
  refine wp_loop_rounds 2 ?_
  repeat (rw [rounds_succ]; go_wp2)
  go_end0
  exact ⟨rfl, Fr.refl _ _⟩
set_option maxRecDepth 100000 in
set_option maxHeartbeats 1000000 in
theorem stabNil (w : World) (fv : Value) : Calls Tryz.prog 127 #[.slice none 0 0, .int .i64 0, fv] w fun e w' => e = .returned (.tuple #[]) ∧ Fr (fun _ => False) w w' := by
  go_enter Tryz.func127, Tryz.ntmps127
  go_wp2_with fail
  refine wp_loop_rounds 2 ?_
  repeat (rw [rounds_succ]; go_wp2_with fail)
  refine (insNil _ _).mono ?_
  rintro e w1 ⟨rfl, hf1⟩
  go_wp2_with fail
  refine wp_loop_rounds 2 ?_
  repeat (rw [rounds_succ]; go_wp2_with fail)
  go_end0
  exact ⟨rfl, hf1⟩
set_option maxRecDepth 100000 in
set_option maxHeartbeats 1000000 in
theorem sortNil (w : World) (fv : Value) : Calls Tryz.prog 93 #[.slice none 0 0, fv] w fun e w' => e = .returned (.tuple #[]) ∧ Fr (fun _ => False) w w' := by
  go_enter Tryz.func93, Tryz.ntmps93
  go_wp2_with fail
  refine (stabNil _ _).mono ?_
  rintro e w1 ⟨rfl, hf1⟩
  go_wp2_with fail
  go_end0
  exact ⟨rfl, hf1⟩
set_option maxRecDepth 100000 in
set_option maxHeartbeats 1000000 in
theorem insNilP (w : World) (fv : Value) : Calls Tryz.prog 124 #[.slice none 0 0, .int .i64 0, .int .i64 0, fv] w fun e w' => e = .returned (.tuple #[]) ∧ Fr (fun _ => False) w w' := by
  go_enter Tryz.func124, Tryz.ntmps124
  go_wp2
  refine wp_loop_rounds 2 ?_
  repeat (rw [rounds_succ]; go_wp2)
  go_end0
  exact ⟨rfl, Fr.refl _ _⟩
set_option maxRecDepth 100000 in
set_option maxHeartbeats 1000000 in
theorem stabNilP (w : World) (fv : Value) : Calls Tryz.prog 90 #[.slice none 0 0, .int .i64 0, fv] w fun e w' => e = .returned (.tuple #[]) ∧ Fr (fun _ => False) w w' := by
  go_enter Tryz.func90, Tryz.ntmps90
  go_wp2_with fail
  refine wp_loop_rounds 2 ?_
  repeat (rw [rounds_succ]; go_wp2_with fail)
  refine (insNilP _ _).mono ?_
  rintro e w1 ⟨rfl, hf1⟩
  go_wp2_with fail
  refine wp_loop_rounds 2 ?_
  repeat (rw [rounds_succ]; go_wp2_with fail)
  go_end0
  exact ⟨rfl, hf1⟩
set_option maxRecDepth 100000 in
set_option maxHeartbeats 1000000 in
theorem sortNilP (w : World) (fv : Value) : Calls Tryz.prog 40 #[.slice none 0 0, fv] w fun e w' => e = .returned (.tuple #[]) ∧ Fr (fun _ => False) w w' := by
  go_enter Tryz.func40, Tryz.ntmps40
  go_wp2_with fail
  refine (stabNilP _ _).mono ?_
  rintro e w1 ⟨rfl, hf1⟩
  go_wp2_with fail
  go_end0
  exact ⟨rfl, hf1⟩
end Go.Proofs.YtlniekobijcanaaGreat
namespace Go.Proofs.YtlniekobijcanaaGreat
open Go.RowKit Go.Maps
theorem infoIntB : (Tryz.prog.info? 3).map (fun i => (i.zero, i.size, i.bytes)) = some (some (.int .i64 0), 1, 8) := by kernel_rfl
/-- A comparison of bins, as one of places (out of L: behind all others). -/
def cfI {α : Type} (L : List α) (cf : α → α → Int) (x y : Int) : Int :=
  match (if 0 ≤ x then L[x.toNat]? else none), (if 0 ≤ y then L[y.toNat]? else none) with
  | some a, some b => cf a b
  | some _, none => -2
  | none, _ => 2
/-- The places of the bins that are so, of the first k. -/
def idxK {α : Type} (L : List α) (isF : α → Bool) (k : Nat) : List Int := ((List.range k).filter fun i => (L[i]?).any isF).map Int.ofNat
theorem idxK_succ {α : Type} {L : List α} {isF : α → Bool} {k : Nat} {x : α} (h : L[k]? = some x) : idxK L isF (k + 1) = idxK L isF k ++ (if isF x = true then [(k : Int)] else []) := by
  unfold idxK
  rw [List.range_succ, List.filter_append, List.map_append]
  congr 1
  by_cases hx : isF x = true <;> simp [h, hx]
theorem idxK_len {α : Type} (L : List α) (isF : α → Bool) (k : Nat) : (idxK L isF k).length ≤ k := by
  unfold idxK
  rw [List.length_map]
  exact Nat.le_trans (List.length_filter_le _ _) (by simp)
theorem idxK_mem {α : Type} {L : List α} {isF : α → Bool} {k : Nat} {x : Int} (h : x ∈ idxK L isF k) : ∃ (i : Nat) (b : α), x = (i : Int) ∧ i < k ∧ L[i]? = some b ∧ isF b = true := by
  unfold idxK at h
  obtain ⟨i, hi, rfl⟩ := List.mem_map.1 h
  obtain ⟨h1, h2⟩ := List.mem_filter.1 hi
  cases hb : L[i]? with
  | none => rw [hb] at h2; cases h2
  | some b => rw [hb] at h2; exact ⟨i, b, rfl, List.mem_range.1 h1, hb, h2⟩
theorem cfI_at {α : Type} {L : List α} {cf : α → α → Int} {i j : Nat} {a b : α} (hi : L[i]? = some a) (hj : L[j]? = some b) : cfI L cf (i : Int) (j : Int) = cf a b := by
  unfold cfI
  rw [if_pos (by omega), if_pos (by omega)]
  simp [hi, hj]
theorem cfI_in {α : Type} {L : List α} {cf : α → α → Int} {x y : Int} (h : -1 ≤ cfI L cf x y ∧ cfI L cf x y ≤ 1) : ∃ (i j : Nat) (a b : α), x = (i : Int) ∧ y = (j : Int) ∧ L[i]? = some a ∧ L[j]? = some b := by
  unfold cfI at h
  have key : ∀ x : Int, (∃ (i : Nat) (a : α), x = (i : Int) ∧ (if 0 ≤ x then L[x.toNat]? else none) = some a ∧ L[i]? = some a) ∨ (if 0 ≤ x then L[x.toNat]? else none) = none := fun x => by
    by_cases hx : 0 ≤ x
    · cases hl : L[x.toNat]? with
      | none => right; rw [if_pos hx]
      | some a => left; exact ⟨x.toNat, a, by omega, by rw [if_pos hx], hl⟩
    · right; rw [if_neg hx]
  rcases key x with ⟨i, a, e1, e2, e3⟩ | e2
  · rcases key y with ⟨j, b, f1, f2, f3⟩ | f2
    · exact ⟨i, j, a, b, e1, f1, e3, f3⟩
    · rw [e2, f2] at h; dsimp only at h; omega
  · rw [e2] at h; dsimp only at h; omega
theorem stab_perm {α : Type} (lt : α → α → Bool) (l : List α) : (stab lt l).Perm l := by
  suffices h : ∀ (l acc : List α), (l.foldl (insR lt) acc).Perm (acc ++ l) from h l []
  intro l
  induction l with
  | nil => intro acc; simp
  | cons x r ih =>
    intro acc
    rw [List.foldl_cons]
    refine (ih (insR lt acc x)).trans ?_
    refine ((insR_perm acc x).append_right r).trans ?_
    rw [List.cons_append]
    exact List.perm_middle.symm
theorem stab_len {α : Type} (lt : α → α → Bool) (l : List α) : (stab lt l).length = l.length := (stab_perm lt l).length_eq
/-- A slice of numbers. -/
abbrev Sn (w : World) (v : Value) (L : List Int) : Prop := Sq 1 (fun x : Int => #[Value.int .i64 x]) (fun _ _ => True) w v L
/-- The order: the places. -/
def ordI {α : Type} (L : List α) (isF : α → Bool) (cf : α → α → Int) : List Int := stab (fun x y => decide (cfI L cf x y < 0)) (idxK L isF L.length)
set_option maxRecDepth 100000 in
set_option maxHeartbeats 8000000 in
theorem bOrder (w : World) (g gi gc : Nat) (cbi cbc : Array Value) (L : List BV) (isF : BV → Bool) (cf : BV → BV → Int) (egi : ∀ args w, (callFunc gi args).run Tryz.prog w = .ok (.enter gi args) w) (egc : ∀ args w, (callFunc gc args).run Tryz.prog w = .ok (.enter gc args) w)
    (h : Fl w g L) (hL : 0 < L.length) (hL2 : L.length ≤ 1000000)
    (hI : ∀ (W : World) (x : BV), x ∈ L → Fr (fun _ => False) w W → Calls Tryz.prog gi (#[.agg x.cs] ++ cbi) W fun e w' => e = .returned (.bool (isF x)) ∧ Fr (fun _ => False) W w')
    (hC : ∀ (W : World) (x y : BV), x ∈ L → y ∈ L → Fr (fun _ => False) w W → Calls Tryz.prog gc (#[.agg x.cs, .agg y.cs] ++ cbc) W fun e w' => e = .returned (.int .i64 (cf x y)) ∧ Fr (fun _ => False) W w')
    (hS : SwoB (fun x y => decide (cfI L cf x y < 0))) (hD : ∀ x ∈ L, ∀ y ∈ L, -1 ≤ cf x y ∧ cf x y ≤ 1) :
    Calls Tryz.prog 47 #[.pointer (some ⟨g, 0, none⟩), .func (.func gi) #[] cbi, .func (.func gc) #[] cbc] w fun e w' => ∃ v, e = .returned v ∧ Sn w' v (ordI L isF cf) ∧ (∀ b, v.ownBlock = some b → w.heap.size ≤ b) ∧ Fr (fun _ => False) w w' := by
  obtain ⟨i0, hi', hz0, hz1, hz2⟩ := info_parts infoIntB
  obtain ⟨n0, hn0⟩ : ∃ n0, w.heap.size = n0 := ⟨_, rfl⟩
  obtain ⟨W0, hW0⟩ : ∃ W0, (w.alloc (.cells #[.pointer (some ⟨g, 0, none⟩)] 25)).alloc (.cells #[.func (.func gc) #[] cbc] 91) = W0 := ⟨_, rfl⟩
  have hb0 : W0.heap[n0]? = some (.cells #[.pointer (some ⟨g, 0, none⟩)] 25) := by rw [← hW0]; exact heap_keep (heap_at hn0.symm _) _
  have hb1 : W0.heap[n0 + 1]? = some (.cells #[.func (.func gc) #[] cbc] 91) := by rw [← hW0]; exact heap_at (by simp; omega) _
  have hF0 : Fr (fun _ => False) w W0 := by rw [← hW0]; exact ((Fr.refl _ w).alloc _).alloc _
  have HB0 := Lib.hid hb0; have HB1 := Lib.hid hb1; have HF0 := Lib.hid hF0; have HN0 := Lib.hid hn0
  have HI := Lib.hid hI; have HC := Lib.hid hC; have HS := Lib.hid hS; have HD := Lib.hid hD; have HFL := Lib.hid h
  obtain ⟨a, c, q1, q2⟩ := h.keep hF0
  have hNb := q2.len
  obtain ⟨N, hN⟩ : ∃ N, L.length = N := ⟨_, rfl⟩
  have HN := Lib.hid hN
  rw [hN] at q1 q2 hNb hL hL2
  have HL2 := Lib.hid hL2
  have HQ2 := Lib.hid q2
  have c0 := cell_obj q1 0 (.slice a N c) rfl
  have p0 := cell_obj hb0 0 (.pointer (some ⟨g, 0, none⟩)) rfl
  clear hI hC hS hD h q1 q2 hb0 hb1 hF0 hN
  go_enter Tryz.func47, Tryz.ntmps47
  go_wp2_with fail
  have hs0 : Hid (W0.heap.size = n0 + 2) := Lib.hid (by rw [← hW0]; simp; omega)
  go_loopw [7, 15] (fun vo vi wr => ∃ k : Nat, k ≤ N ∧ vi = .int .i64 k ∧ wr.ownsRow (n0 + 2) 3 1 vo (idxK L isF k).length ((idxK L isF k).map (Value.int .i64)) ∧ Fr (fun c => n0 + 2 ≤ c) W0 wr) (fun _ vi _ => N - (intOf vi).toNat)
  case atStart => exact ⟨0, Nat.zero_le _, rfl, World.ownsRow_nil _ _ _ _, Fr.refl _ _⟩
  case round =>
    obtain ⟨k, hk, rfl, hown, hfr⟩ := hrel
    have HOW := Lib.hid hown; have HFR := Lib.hid hfr
    have HF := Lib.hid (HF0.out.trans' hfr (fun b hb (e : n0 + 2 ≤ b) => by have := HN0.out; omega))
    obtain ⟨ao, co, rfl⟩ := row_sl hown
    have HKL := Lib.hid (idxK_len L isF k)
    by_cases hlt : k < N
    · obtain ⟨x, hx⟩ : ∃ x, L[k]? = some x := ⟨L[k]'(by rw [HN.out]; exact hlt), List.getElem?_eq_getElem _⟩
      have HIX := Lib.hid (idxK_succ (isF := isF) hx)
      have hxm := List.mem_of_getElem? hx
      obtain ⟨ad, rfl, hok, z0, zs⟩ := (HQ2.out.fr bokKeeps hfr (fun b e => by have := hs0.out; omega)).at_ hx
      have hkI : (k : Int) < N := by omega
      obtain ⟨la, lc, hl⟩ := hok.l.sl
      have x0 := z0 (.int .i64 x.nu) rfl
      have x1 := zs 0 (.int .i64 x.zo) rfl
      have x2 := zs 1 (.int .i64 x.ro) rfl
      have x3 := zs 2 x.l rfl
      dsimp only [Nat.zero_add, Nat.reduceAdd] at x0 x1 x2 x3
      rw [hl] at x3
      have hCI : Hid (Calls Tryz.prog gi (#[.agg #[.int .i64 x.nu, .int .i64 x.zo, .int .i64 x.ro, .slice la x.its.length lc]] ++ cbi) (wr.alloc (.cells #[.int .i64 x.nu, .int .i64 x.zo, .int .i64 x.ro, .slice la x.its.length lc] 76)) fun e w' => e = .returned (.bool (isF x)) ∧ Fr (fun _ => False) (wr.alloc (.cells #[.int .i64 x.nu, .int .i64 x.zo, .int .i64 x.ro, .slice la x.its.length lc] 76)) w') := Lib.hid (by
        have := HI.out (wr.alloc (.cells #[.int .i64 x.nu, .int .i64 x.zo, .int .i64 x.ro, .slice la x.its.length lc] 76)) x hxm (HF.out.alloc _)
        unfold BV.cs at this
        rw [hl] at this
        exact this)
      clear hx hxm hok z0 zs hl hown hfr
      cases hb : isF x with
      | false =>
        rw [hb] at hCI HIX
        rw [if_neg (by simp), List.append_nil] at HIX
        clear hb
        go_wp2_with (go_at_fn gi; refine hCI.out.mono ?_; rintro e w2 ⟨rfl, hf2⟩; have HF2 := Lib.hid (((Fr.refl (fun _ => False) wr).alloc _).trans hf2); clear hf2)
        go_roundw
        case rel => exact ⟨k + 1, by omega, by go_num, by rw [HIX.out]; exact HF2.out.row HOW.out (fun _ _ e => e), HFR.out.trans (HF2.out.mono (fun _ _ e => e.elim))⟩
        case measure => simp [intOf]; omega
      | true =>
        rw [hb] at hCI HIX
        rw [if_pos rfl] at HIX
        clear hb
        go_wp2_with (first
          | (go_at_fn gi; refine hCI.out.mono ?_; rintro e w2 ⟨rfl, hf2⟩; have HF2 := Lib.hid (((Fr.refl (fun _ => False) wr).alloc _).trans hf2); clear hf2)
          | (at_builtin; refine wpList_append_src rfl _ _ 87 rfl (n0 + 2) 3 i0 (.int .i64 0) 8 Tryz.underlying87 hi' hz0 hz1 hz2 rfl (by decide) (.slice ao (idxK L isF k).length co) (idxK L isF k).length ((idxK L isF k).map (Value.int .i64)) rfl (((HF2.out.alloc _).row HOW.out (fun _ _ e => e))) 1 rfl (rd_obj (cs := [.int .i64 k]) (heap_new _ _) rfl) (by intro u hu; simp only [List.mem_cons, List.not_mem_nil, or_false] at hu; rcases hu with rfl; rfl) (by have := HKL.out; have := HL2.out; unfold maxLen; omega) (by have := HKL.out; have := HL2.out; omega) (by have := hs0.out; have := HFR.out.size; have := HF2.out.size; simp; omega) ?_; intro v3 w3 hown3 hgrow3 hloc3; have HO3 := Lib.hid hown3; have HW3 := Lib.hid ((HFR.out.trans (HF2.out.mono (fun _ _ e => e.elim))).trans (((Fr.refl (fun c => n0 + 2 ≤ c) w2).alloc _).trans' (Fr.grown (S := fun c => n0 + 2 ≤ c) hgrow3 (fun r hr _ => (HOW.out.lt r hr).1)) (fun _ _ e => e))); obtain ⟨a3, c3, rfl⟩ := row_sl hown3; clear hown3 hgrow3 hloc3))
        go_roundw
        case rel => exact ⟨k + 1, by omega, by go_num, by rw [HIX.out, List.length_append, List.map_append]; exact HO3.out, HW3.out⟩
        case measure => simp [intOf]; omega
    · obtain rfl : k = N := by omega
      have hkI : ¬ (k : Int) < k := by omega
      have hidx : idxK L isF k = idxK L isF L.length := by rw [HN.out]
      obtain ⟨l, hl⟩ : ∃ l, idxK L isF k = l := ⟨_, rfl⟩
      have hord : ordI L isF cf = stab (fun x y => decide (cfI L cf x y < 0)) l := by unfold ordI; rw [← hidx, hl]
      have HORD := Lib.hid hord
      have HMEM : Hid (∀ x ∈ l, ∃ (i : Nat) (b : BV), x = (i : Int) ∧ L[i]? = some b) := Lib.hid (fun x hx => by
        rw [← hl] at hx
        obtain ⟨i, b, e, _, hb, _⟩ := idxK_mem hx
        exact ⟨i, b, e, hb⟩)
      rw [hl] at HOW hown HKL
      rw [hl]
      clear hidx hl hord hfr
      rcases hown.2 with ⟨e, h0⟩ | ⟨bk, cap, cur, e, hbase, hb, hn, hm, hsz, ht⟩
      · injection e with e1 e2 e3
        subst e1 e3
        have hl0 : l = [] := List.eq_nil_of_length_eq_zero h0
        subst hl0
        clear hown h0 e2
        go_wp2_with (go_at_call 93; refine (sortNil _ _).mono ?_; rintro e w2 ⟨rfl, hf2⟩; have HF2 := Lib.hid hf2; clear hf2)
        go_ret
        refine ⟨_, rfl, by rw [HORD.out]; exact Sq.nil, fun b hb => by simp [Value.ownBlock] at hb, HF.out.trans HF2.out⟩
      · injection e with e1 e2 e3
        subst e1 e3
        have hcur : cur = (l.map (Value.int .i64) ++ cur.toList.drop l.length).toArray := by
          apply Array.toList_inj.1
          rw [← ht, Nat.mul_one, List.take_append_drop]
        have hrw : RwI wr bk (l.zipIdx 0) := rwI_zip (rest := cur.toList.drop l.length) (by rw [← hcur]; exact hb)
        have hsl := sortStableI wr bk l.length co 94 #[.pointer (some ⟨n0 + 1, 0, none⟩), .pointer (some ⟨n0, 0, none⟩)] (cfI L cf) l (enters_of Tryz.func94 (by kernel_rfl) rfl) rfl (by have := HKL.out; have := HL2.out; omega) HS.out hrw
          (fun x hx y hy => by
            obtain ⟨i, a', rfl, ha⟩ := HMEM.out x hx
            obtain ⟨j, b', rfl, hb'⟩ := HMEM.out y hy
            rw [cfI_at ha hb']
            exact HD.out a' (List.mem_of_getElem? ha) b' (List.mem_of_getElem? hb'))
          (fun W x y hw hdom => by
            obtain ⟨i, j, a', b', rfl, rfl, ha, hb'⟩ := cfI_in hdom
            rw [cfI_at ha hb']
            have hWW : Fr (fun _ => False) w W := HF.out.trans' hw (fun b hb e => by have := HN0.out; omega)
            exact bOrd1 W g gc (n0 + 1) n0 i j cbc L a' b' (cf a' b') egc (HFL.out.keep hWW) ha hb' (hw.cell (HFR.out.cell (cell_obj HB1.out 0 (.func (.func gc) #[] cbc) rfl) (by show ¬ n0 + 2 ≤ n0 + 1; omega)) (by show ¬ n0 + 1 = bk; omega)) (hw.cell (HFR.out.cell (cell_obj HB0.out 0 (.pointer (some ⟨g, 0, none⟩)) rfl) (by show ¬ n0 + 2 ≤ n0; omega)) (by show ¬ n0 = bk; omega))
              (fun W' hf => HC.out W' a' b' (List.mem_of_getElem? ha) (List.mem_of_getElem? hb') (hWW.trans hf)))
        have HSL := Lib.hid hsl
        have HBK := Lib.hid hbase
        have hlen : (ordI L isF cf).length = l.length := by rw [HORD.out]; exact stab_len _ _
        have HLEN := Lib.hid hlen
        clear hown hb hn hm hsz ht hcur hrw hsl hbase hlen e2
        go_wp2_with (go_at_call 93; refine HSL.out.mono ?_; rintro e w2 ⟨rfl, hrow, hf2⟩; have HROW := Lib.hid hrow; have HF2 := Lib.hid hf2; clear hrow hf2)
        go_ret
        refine ⟨.slice (some ⟨bk, 0, none⟩) l.length co, rfl, ?_, fun b hb => by (have e : bk = b := (by simpa [Value.ownBlock] using hb)); have := HBK.out; have := HN0.out; omega, HF.out.trans' HF2.out (fun b hb e => by have := HBK.out; have := HN0.out; omega)⟩
        obtain ⟨rest, hr⟩ := HROW.out
        rw [← HORD.out] at hr
        have hl2 := HLEN.out
        refine ⟨by have := HKL.out; have := HL2.out; unfold maxLen; omega, some ⟨bk, 0, none⟩, co, by rw [hl2], fun i x hx => ⟨trivial, _, rfl, fun j u hu => ?_⟩⟩
        have hj : j = 0 := by have := (Array.getElem?_eq_some_iff.1 hu).1; simp at this; omega
        subst hj
        have hu' : Value.int .i64 x = u := by simpa using hu
        subst hu'
        have hil := (List.getElem?_eq_some_iff.1 hx).1
        have e0 : (⟨bk, 0, none⟩ : Addr).add (i * 1 + 0) = ⟨bk, i, none⟩ := by unfold Addr.add; simp; try omega
        rw [e0]
        refine cell_obj hr i _ ?_
        rw [List.getElem?_toArray, List.getElem?_append_left (by simpa using hil), List.getElem?_map, hx]
        rfl
end Go.Proofs.YtlniekobijcanaaGreat
namespace Go.Proofs.YtlniekobijcanaaGreat
open Go.RowKit Go.Maps
/-- What a bin is, wherever its goods lie. -/
structure BE where
  nu : Int
  zo : Int
  ro : Int
  its : Its
def BV.e (b : BV) : BE := ⟨b.nu, b.zo, b.ro, b.its⟩
def leftE (b : BE) : Int := wrap64 (b.ro - totF b.its)
def kindE (b : BE) (s : Str) : Int := if 0 < ofF b.its s then 0 else if b.its.length = 0 then 1 else if b.its.length < 16 then 2 else 3
theorem leftE_e (b : BV) : leftF b = leftE b.e := rfl
theorem kindE_e (b : BV) (s : Str) : kindF b s = kindE b.e s := rfl
def BE.put (b : BE) (s : Str) (n : Int) : BE := ⟨b.nu, b.zo, b.ro, setF b.its s n⟩
theorem put_e (b : BV) (v : Value) (s : Str) (n : Int) : (b.put v s n).e = b.e.put s n := rfl
theorem BOk.keep {S : Nat → Prop} {w w' : World} {b : BV} (h : BOk w b) (hf : Fr S w w') (hS : b.its ≠ [] → ∀ c, b.l.ownBlock = some c → ¬ S c) : BOk w' b := ⟨h.nu, h.zo, h.ro, h.l.keep hf hS⟩
/-- Floor g is these bins, and owns the blocks of TS. -/
structure FA (w : World) (g : Nat) (TS : Nat → Prop) (L : List BV) : Prop where
  ex : ∃ r cap cur, w.heap[g]? = some (.cells #[.slice (some ⟨r, 0, none⟩) L.length cap] 79) ∧ w.heap[r]? = some (.cells cur 76) ∧ L.length ≤ cap ∧ cap ≤ maxLen ∧ cur.size = cap * 4 ∧ cur.toList.take (L.length * 4) = flat BV.cs L ∧ TS r ∧ r ≠ g ∧
    ∀ b ∈ L, BOk w b ∧ (b.its ≠ [] → ∀ c, b.l.ownBlock = some c → TS c ∧ c ≠ g ∧ c ≠ r)
  own : TS g
  lt : ∀ b, TS b → b < w.heap.size
theorem FA.fr {S TS : Nat → Prop} {w w' : World} {g : Nat} {L : List BV} (h : FA w g TS L) (hf : Fr S w w') (hS : ∀ b, TS b → ¬ S b) : FA w' g TS L := by
  obtain ⟨⟨r, cap, cur, h1, h2, h3, h4, h5, h6, h7, h8, h9⟩, ho, hl⟩ := h
  exact ⟨⟨r, cap, cur, hf.at_ h1 (hS _ ho), hf.at_ h2 (hS _ h7), h3, h4, h5, h6, h7, h8, fun b hb => ⟨(h9 b hb).1.keep hf (fun hne c hc => hS _ ((h9 b hb).2 hne c hc).1), (h9 b hb).2⟩⟩, ho, fun b hb => Nat.lt_of_lt_of_le (hl b hb) hf.size⟩
theorem FA.row {TS : Nat → Prop} {w : World} {g : Nat} {L : List BV} (h : FA w g TS L) : ∃ r cap, w.heap[g]? = some (.cells #[.slice (some ⟨r, 0, none⟩) L.length cap] 79) ∧ w.ownsRow 0 76 4 (.slice (some ⟨r, 0, none⟩) L.length cap) L.length (flat BV.cs L) ∧ Bl w (.slice (some ⟨r, 0, none⟩) L.length cap) L := by
  obtain ⟨⟨r, cap, cur, h1, h2, h3, h4, h5, h6, h7, h8, h9⟩, ho, hl⟩ := h
  have hr : w.ownsRow 0 76 4 (.slice (some ⟨r, 0, none⟩) L.length cap) L.length (flat BV.cs L) := ⟨flat_len1 bvSize L, .inr ⟨r, cap, cur, rfl, Nat.zero_le _, h2, h3, h4, h5, h6⟩⟩
  exact ⟨r, cap, h1, hr, Sq.own bvSize hr (fun b hb => (h9 b hb).1)⟩
theorem FA.fl {TS : Nat → Prop} {w : World} {g : Nat} {L : List BV} (h : FA w g TS L) : Fl w g L := by
  obtain ⟨r, cap, h1, _, h3⟩ := h.row
  exact ⟨_, cap, h1, h3⟩
theorem infoBin : (Tryz.prog.info? 76).map (fun i => (i.zero, i.size, i.bytes)) = some (some (.agg #[.int .i64 0, .int .i64 0, .int .i64 0, .slice none 0 0]), 4, 48) := by kernel_rfl
theorem bv_one {L : List BV} (h : ∀ b ∈ L, ∃ a n c, b.l = .slice a n c) : ∀ u ∈ flat BV.cs L, u.oneCell' = true := by
  intro u hu
  simp only [flat, List.mem_flatMap] at hu
  obtain ⟨b, hb, hr⟩ := hu
  obtain ⟨a, n, c, e⟩ := h b hb
  simp only [BV.cs, e, List.mem_cons, List.not_mem_nil, or_false] at hr
  rcases hr with rfl | rfl | rfl | rfl <;> rfl
set_option maxRecDepth 100000 in
set_option maxHeartbeats 4000000 in
theorem bnClone (w : World) (v : Value) (L : List BV) (h : Bl w v L) (hl : L.length ≤ 1000) (hL : 0 < L.length) : Calls Tryz.prog 97 #[v] w fun e w' =>
    ∃ v', e = .returned v' ∧ w'.ownsRow w.heap.size 76 4 v' L.length (flat BV.cs L) ∧ Fr (fun _ => False) w w' := by
  obtain ⟨i0, hi', hz0, hz1, hz2⟩ := info_parts infoBin
  have hone : ∀ u ∈ flat BV.cs L, u.oneCell' = true := bv_one (fun b hb => by obtain ⟨a, c, e⟩ := (h.okm hb).l.sl; exact ⟨a, _, c, e⟩)
  obtain ⟨hb1, a, c, rfl, hbx⟩ := id h
  obtain ⟨n, hn⟩ : ∃ n, L.length = n := ⟨_, rfl⟩
  have HN := Lib.hid hn
  rw [hn] at hl hb1 hL ⊢
  have hq := fun (w : World) (a : Option Addr) (n c n' c' : Nat) => Lib.run_eql_slice_nil (P := Tryz.prog) w 77 _ a n c n' c' Tryz.underlying77
  obtain ⟨x0, hx0⟩ : ∃ x, L[0]? = some x := ⟨L[0]'(by omega), List.getElem?_eq_getElem _⟩
  obtain ⟨-, ad, rfl, -⟩ := hbx 0 x0 hx0
  have hown : (w.alloc (.cells #[] 76)).ownsRow w.heap.size 76 4 (.slice (some ⟨w.heap.size, 0, none⟩) 0 0) 0 [] := World.ownsRow_made w #[] 0 (Nat.le_refl _) (Nat.zero_le _) rfl
  have hnews : ∀ (i : Nat) (u : Value), (flat BV.cs L)[i]? = some u → (w.alloc (.cells #[] 76)).cell? (ad.add i) = some u := fun i u hu => by
    have hi := (List.getElem?_eq_some_iff.1 hu).1
    rw [flat_len1 bvSize] at hi
    obtain ⟨x, hx⟩ : ∃ x, L[i / 4]? = some x := ⟨L[i / 4]'(by omega), List.getElem?_eq_getElem _⟩
    obtain ⟨-, ad', e, hc⟩ := hbx (i / 4) x hx
    cases e
    have hxs : (BV.cs x)[i % 4]? = some ((BV.cs x)[i % 4]'(by rw [bvSize]; omega)) := Array.getElem?_eq_getElem _
    have h2 := flat_at bvSize hx (i % 4) _ hxs
    have h3 := hc (i % 4) _ hxs
    rw [show i / 4 * 4 + i % 4 = i by omega] at h2 h3
    rw [h2] at hu
    cases hu
    exact ((Fr.refl (fun _ => False) w).alloc _).cell h3 (fun h => h)
  have hul : (flat BV.cs L).length = n * 4 := by rw [flat_len1 bvSize, hn]
  have HNEWS := Lib.hid hnews; have HALL := Lib.hid hone; have HUL := Lib.hid hul; have HO := Lib.hid hown
  clear hnews hone hul hown hbx h hn hx0
  go_enter Tryz.func97, Tryz.ntmps97
  go_wp2_with (at_builtin; refine wpList_append_own_at _ rfl _ _ 77 rfl w.heap.size 76 i0 _ 4 48 Tryz.underlying77 hi' hz0 hz1 hz2 rfl (by decide) (.slice (some ⟨w.heap.size, 0, none⟩) 0 0) 0 [] rfl HO.out ad n _ (flat BV.cs L) rfl HUL.out HNEWS.out HALL.out (by unfold maxLen; omega) (by omega) (by simp) ?_; intro v' w5 hown' hgrow _ hat)
  go_ret
  refine ⟨_, rfl, by simpa using hown', ((Fr.refl (fun _ => False) w).alloc _).trans' (Fr.grown (S := fun b => b = w.heap.size) hgrow (fun r hr _ => by cases hr; rfl)) (fun b hb e => by omega)⟩
end Go.Proofs.YtlniekobijcanaaGreat
namespace Go.Proofs.YtlniekobijcanaaGreat
open Go.RowKit
/-- A place: its bin, its good, how many. -/
structure PV where
  b : Int
  g : Str
  n : Int
abbrev PV.cs (p : PV) : List Value := [.int .i64 p.b, vS p.g, .int .i64 p.n]
/-- An element: what is compared, where it stood. -/
abbrev EP := PV × Nat
def flP (xs : List EP) : List Value := xs.flatMap fun p => p.1.cs
theorem flP_app (xs ys : List EP) : flP (xs ++ ys) = flP xs ++ flP ys := by simp [flP]
theorem flP_len (xs : List EP) : (flP xs).length = xs.length * 3 := by
  induction xs with
  | nil => rfl
  | cons x r ih => simp [flP] at ih ⊢; omega
/-- Block b begins with these. -/
def RwP (W : World) (b : Nat) (xs : List EP) : Prop := ∃ rest : List Value, W.heap[b]? = some (.cells (flP xs ++ rest).toArray 55)
theorem RwP.cells {W : World} {b : Nat} {xs : List EP} (h : RwP W b xs) {i : Nat} {p : EP} (hp : xs[i]? = some p) : W.cell? ⟨b, i * 3, none⟩ = some (.int .i64 p.1.b) ∧ W.cell? ⟨b, i * 3 + 1, none⟩ = some (vS p.1.g) ∧ W.cell? ⟨b, i * 3 + 2, none⟩ = some (.int .i64 p.1.n) := by
  obtain ⟨rest, h⟩ := h
  have hi := (List.getElem?_eq_some_iff.1 hp).1
  have e : xs = xs.take i ++ p :: xs.drop (i + 1) := by
    rw [← (List.getElem?_eq_some_iff.1 hp).2, ← List.drop_eq_getElem_cons hi, List.take_append_drop]
  have hl : (flP (xs.take i)).length = i * 3 := by rw [flP_len]; simp; omega
  have key : ∀ k, k < 3 → (flP xs ++ rest)[i * 3 + k]? = p.1.cs[k]? := fun k hk => by
    rw [e, flP_app, List.append_assoc, List.getElem?_append_right (by rw [hl]; omega), hl, show i * 3 + k - i * 3 = k by omega]
    show (p.1.cs ++ flP (xs.drop (i + 1)) ++ rest)[k]? = _
    rw [List.append_assoc, List.getElem?_append_left (by simp; omega)]
  exact ⟨cell_obj h _ _ (by rw [List.getElem?_toArray]; exact key 0 (by omega)), cell_obj h _ _ (by rw [List.getElem?_toArray]; exact key 1 (by omega)), cell_obj h _ _ (by rw [List.getElem?_toArray]; exact key 2 (by omega))⟩
theorem RwP.frz {W : World} {b : Nat} {xs : List EP} (h : RwP W b xs) (i : Nat) : W.frozen? ⟨b, i, none⟩ = false := by
  obtain ⟨rest, h⟩ := h
  exact obj_frozen h i
/-- Three stores: an element is set. -/
abbrev set3 (W : World) (b i : Nat) (p : PV) : World := ((W.setCell ⟨b, i * 3, none⟩ (.int .i64 p.b)).setCell ⟨b, i * 3 + 1, none⟩ (vS p.g)).setCell ⟨b, i * 3 + 2, none⟩ (.int .i64 p.n)
theorem RwP.set {W : World} {b : Nat} {A B : List EP} {x p : EP} (h : RwP W b (A ++ x :: B)) : RwP (set3 W b A.length p.1) b (A ++ p :: B) := by
  obtain ⟨rest, h⟩ := h
  refine ⟨rest, ?_⟩
  have hl := flP_len A
  have e1 : flP (A ++ x :: B) ++ rest = flP A ++ (.int .i64 x.1.b :: vS x.1.g :: .int .i64 x.1.n :: (flP B ++ rest)) := by simp [flP]
  have e2 : flP (A ++ p :: B) ++ rest = flP A ++ (.int .i64 p.1.b :: vS p.1.g :: .int .i64 p.1.n :: (flP B ++ rest)) := by simp [flP]
  rw [e1] at h
  rw [e2]
  rw [obj_set (obj_set (obj_set h (A.length * 3) _) (A.length * 3 + 1) _) (A.length * 3 + 2) _]
  congr 2
  rw [List.setIfInBounds_toArray, List.setIfInBounds_toArray, List.setIfInBounds_toArray]
  congr 1
  rw [List.set_append_right _ _ (by omega), List.set_append_right _ _ (by omega), List.set_append_right _ _ (by omega), hl]
  rw [show A.length * 3 - A.length * 3 = 0 by omega, show A.length * 3 + 1 - A.length * 3 = 1 by omega, show A.length * 3 + 2 - A.length * 3 = 2 by omega]
  rfl
theorem RwP.fr {S : Nat → Prop} {W W' : World} {b : Nat} {xs : List EP} (h : RwP W b xs) (hf : Fr S W W') (hS : ¬ S b) : RwP W' b xs := by
  obtain ⟨rest, h⟩ := h
  exact ⟨rest, hf.at_ h hS⟩
theorem RwP.swap {W : World} {b : Nat} {A B C : List EP} {x y : EP} (h : RwP W b (A ++ x :: (B ++ y :: C))) {i j : Nat} (hi : i = A.length) (hj : j = A.length + 1 + B.length) :
    RwP (set3 (set3 W b i y.1) b j x.1) b (A ++ y :: (B ++ x :: C)) := by
  subst hi
  have h1 := h.set (p := y)
  have h2 : RwP (set3 W b A.length y.1) b ((A ++ y :: B) ++ y :: C) := by simpa using h1
  have h3 := h2.set (p := x)
  have e : (A ++ y :: B).length = j := by rw [hj]; simp; omega
  rw [e] at h3
  simpa using h3
theorem RwP.swap' {W : World} {b : Nat} {A B C : List EP} {x y : EP} (h : RwP W b (A ++ x :: (B ++ y :: C))) {i j : Nat} (hi : i = A.length) (hj : j = A.length + 1 + B.length) :
    RwP (set3 (set3 W b j x.1) b i y.1) b (A ++ y :: (B ++ x :: C)) := by
  subst hi
  have h2 : RwP W b ((A ++ x :: B) ++ y :: C) := by simpa using h
  have h3 := h2.set (p := x)
  have e : (A ++ x :: B).length = j := by rw [hj]; simp; omega
  rw [e] at h3
  have h4 : RwP (set3 W b j x.1) b (A ++ x :: (B ++ x :: C)) := by simpa using h3
  exact h4.set (p := y)
theorem at_leftP {A B : List EP} {x : EP} : (A ++ x :: B)[A.length]? = some x := by
  rw [List.getElem?_append_right (Nat.le_refl _), Nat.sub_self]; rfl
theorem at_rightP {A B C : List EP} {x y : EP} : (A ++ x :: (B ++ y :: C))[A.length + 1 + B.length]? = some y := by
  rw [List.getElem?_append_right (by omega)]
  have e2 : A.length + 1 + B.length - A.length = B.length + 1 := by omega
  rw [e2, List.getElem?_cons_succ]
  exact at_leftP
theorem fr_set3 {w W : World} {b i : Nat} {p : PV} (h : Fr (fun c => c = b) w W) : Fr (fun c => c = b) w (set3 W b i p) :=
  ((h.setCell (p := ⟨b, i * 3, none⟩) (fun _ => rfl) _).setCell (p := ⟨b, i * 3 + 1, none⟩) (fun _ => rfl) _).setCell (p := ⟨b, i * 3 + 2, none⟩) (fun _ => rfl) _
theorem cell_ne {W : World} {b i j : Nat} {u v : Value} (h : W.cell? ⟨b, j, none⟩ = some v) (hne : i ≠ j) : (W.setCell ⟨b, i, none⟩ u).cell? ⟨b, j, none⟩ = some v := by
  exact (World.cell?_setCell_other W u (a := ⟨b, i, none⟩) (b := ⟨b, j, none⟩) (fun e => hne (by injection e))).trans h
theorem RwP.after {W : World} {b : Nat} {xs : List EP} (h : RwP W b xs) {i j : Nat} (hne : i ≠ j) {p : PV} {v0 v1 v2 : Value} (c0 : W.cell? ⟨b, j * 3, none⟩ = some v0) (c1 : W.cell? ⟨b, j * 3 + 1, none⟩ = some v1) (c2 : W.cell? ⟨b, j * 3 + 2, none⟩ = some v2) :
    ((W.frozen? ⟨b, i * 3, none⟩ = false ∧ W.frozen? ⟨b, i * 3 + 1, none⟩ = false ∧ W.frozen? ⟨b, i * 3 + 2, none⟩ = false ∧ W.frozen? ⟨b, j * 3, none⟩ = false ∧ W.frozen? ⟨b, j * 3 + 1, none⟩ = false ∧ W.frozen? ⟨b, j * 3 + 2, none⟩ = false) ∧
    (set3 W b i p).cell? ⟨b, j * 3, none⟩ = some v0 ∧ (set3 W b i p).cell? ⟨b, j * 3 + 1, none⟩ = some v1 ∧ (set3 W b i p).cell? ⟨b, j * 3 + 2, none⟩ = some v2) :=
  ⟨⟨h.frz _, h.frz _, h.frz _, h.frz _, h.frz _, h.frz _⟩, cell_ne (cell_ne (cell_ne c0 (by omega)) (by omega)) (by omega), cell_ne (cell_ne (cell_ne c1 (by omega)) (by omega)) (by omega), cell_ne (cell_ne (cell_ne c2 (by omega)) (by omega)) (by omega)⟩
/-- A range is changed with another, i done. -/
theorem swp_stepP {P U M V S : List EP} {i : Nat} {x y : EP} (hx : U[i]? = some x) (hy : V[i]? = some y) :
    P ++ (V.take i ++ (U.drop i ++ (M ++ (U.take i ++ (V.drop i ++ S))))) = (P ++ V.take i) ++ x :: ((U.drop (i + 1) ++ (M ++ U.take i)) ++ y :: (V.drop (i + 1) ++ S)) ∧
    P ++ (V.take (i + 1) ++ (U.drop (i + 1) ++ (M ++ (U.take (i + 1) ++ (V.drop (i + 1) ++ S))))) = (P ++ V.take i) ++ y :: ((U.drop (i + 1) ++ (M ++ U.take i)) ++ x :: (V.drop (i + 1) ++ S)) := by
  have eu : U.drop i = x :: U.drop (i + 1) := by
    rw [List.drop_eq_getElem_cons (List.getElem?_eq_some_iff.1 hx).1, (List.getElem?_eq_some_iff.1 hx).2]
  have ev : V.drop i = y :: V.drop (i + 1) := by
    rw [List.drop_eq_getElem_cons (List.getElem?_eq_some_iff.1 hy).1, (List.getElem?_eq_some_iff.1 hy).2]
  constructor
  · rw [eu, ev]; simp
  · rw [List.take_add_one, List.take_add_one, hx, hy]; simp
set_option maxRecDepth 100000 in
set_option maxHeartbeats 4000000 in
theorem swapP (w : World) (b n cap pa pb k : Nat) (fv : Value) (P U M V S : List EP) (h : RwP w b (P ++ (U ++ (M ++ (V ++ S))))) (hn : n = (P ++ (U ++ (M ++ (V ++ S)))).length) (hm : n ≤ 1000000000000) (ha : pa = P.length) (hb : pb = pa + U.length + M.length) (hk : k = U.length) (hv : V.length = k) :
    Calls Tryz.prog 149 #[.slice (some ⟨b, 0, none⟩) n cap, .int .i64 pa, .int .i64 pb, .int .i64 k, fv] w fun e w' => e = .returned (.tuple #[]) ∧ RwP w' b (P ++ (V ++ (M ++ (U ++ S)))) ∧ Fr (fun c => c = b) w w' := by
  have hlen : n = pa + k + M.length + k + S.length := by simp at hn; omega
  have HN := Lib.hid hlen; have H0 := Lib.hid h
  have HA := Lib.hid ha; have HB := Lib.hid hb; have HK := Lib.hid hk; have HV := Lib.hid hv
  have i1 : (n : Int) ≤ 1000000000000 := by omega
  have i2 : (pa : Int) + k ≤ n := by omega
  have i3 : (pb : Int) + k ≤ n := by omega
  clear h hn hm ha hb hk hv hlen
  go_enter Tryz.func149, Tryz.ntmps149
  go_wp2_with fail
  go_loopw [10] (fun v wr => ∃ i : Nat, i ≤ k ∧ v = .int .i64 i ∧ RwP wr b (P ++ (V.take i ++ (U.drop i ++ (M ++ (U.take i ++ (V.drop i ++ S)))))) ∧ Fr (fun c => c = b) w wr) (fun v _ => k - (intOf v).toNat)
  case atStart => exact ⟨0, Nat.zero_le _, rfl, by simpa using H0.out, Fr.refl _ _⟩
  case round =>
    obtain ⟨i, hi, rfl, hr, hf⟩ := hrel
    by_cases hlt : i < k
    · obtain ⟨x, hx⟩ : ∃ x, U[i]? = some x := ⟨U[i]'(by have := HK.out; omega), List.getElem?_eq_getElem _⟩
      obtain ⟨y, hy⟩ : ∃ y, V[i]? = some y := ⟨V[i]'(by have := HV.out; omega), List.getElem?_eq_getElem _⟩
      obtain ⟨s1, s2⟩ := swp_stepP (P := P) (M := M) (S := S) hx hy
      rw [s1] at hr
      have e1 : pa + i = (P ++ V.take i).length := by have := HA.out; have := HV.out; simp; omega
      have e2 : pb + i = (P ++ V.take i).length + 1 + (U.drop (i + 1) ++ (M ++ U.take i)).length := by have := HA.out; have := HB.out; have := HK.out; have := HV.out; simp; omega
      obtain ⟨c10, c11, c12⟩ := hr.cells (i := pa + i) (by rw [e1]; exact at_leftP)
      obtain ⟨c20, c21, c22⟩ := hr.cells (i := pb + i) (by rw [e2]; exact at_rightP)
      have hsw := hr.swap (i := pa + i) (j := pb + i) e1 e2
      rw [← s2] at hsw
      have hne : pa + i ≠ pb + i := by have := HB.out; have := HK.out; omega
      have hltI : (i : Int) < k := by omega
      have HSW := Lib.hid hsw; have HF := Lib.hid hf; have HNE := Lib.hid hne
      obtain ⟨⟨f10, f11, f12, f20, f21, f22⟩, d0, d1, d2⟩ := hr.after hne (p := y.1) c20 c21 c22
      clear hr hf hsw e1 e2 s1 s2 hx hy hne
      obtain ⟨ja, hja⟩ : ∃ j, pa + i = j := ⟨_, rfl⟩
      obtain ⟨jb, hjb⟩ : ∃ j, pb + i = j := ⟨_, rfl⟩
      rw [hja] at c10 c11 c12 f10 f11 f12 HSW HNE d0 d1 d2
      rw [hjb] at c20 c21 c22 f20 f21 f22 HSW HNE d0 d1 d2
      have ta : ((pa : Int) + i).toNat = ja := by omega
      have tb : ((pb : Int) + i).toNat = jb := by omega
      have za : (0 : Int) ≤ (pa : Int) + i := by omega
      have zb : (0 : Int) ≤ (pb : Int) + i := by omega
      have la : (pa : Int) + i < n := by omega
      have lb : (pb : Int) + i < n := by omega
      have ra : IntKind.i64.wrap ((pa : Int) + i) = (pa : Int) + i := IntWalk.i64_in _ (by omega)
      have rb : IntKind.i64.wrap ((pb : Int) + i) = (pb : Int) + i := IntWalk.i64_in _ (by omega)
      clear hja hjb
      go_wp2_with fail
      go_region
      have hfs : Fr (fun c => c = b) wr (set3 (set3 wr b ja y.1) b jb x.1) := fr_set3 (fr_set3 (Fr.refl _ wr))
      have HFS := Lib.hid (HF.out.trans hfs)
      clear c10 c11 c12 c20 c21 c22 f10 f11 f12 f20 f21 f22 d0 d1 d2 hfs
      go_wp2_with fail
      go_roundw
      case rel => exact ⟨i + 1, by omega, by go_num, HSW.out.fr (S := fun _ => False) (Fr.refl _ _).drew (fun e => e), HFS.out.drew⟩
      case measure => simp [intOf]; omega
    · obtain rfl : i = k := by omega
      rw [List.take_of_length_le (by have := HV.out; have := HK.out; omega), List.take_of_length_le (by have := HV.out; have := HK.out; omega), List.drop_of_length_le (by have := HV.out; have := HK.out; omega), List.drop_of_length_le (by have := HV.out; have := HK.out; omega), List.nil_append, List.nil_append] at hr
      have HR := Lib.hid hr; have HF := Lib.hid hf
      have hltI : ¬ (i : Int) < i := by omega
      clear hr hf
      go_wp2_with fail
      go_end0
      exact ⟨rfl, HR.out, HF.out⟩
theorem swapXP (w : World) (b n cap : Nat) (fv : Value) (P U M V S : List EP) {ia ib ik : Int} (h : RwP w b (P ++ (U ++ (M ++ (V ++ S))))) (hn : n = (P ++ (U ++ (M ++ (V ++ S)))).length) (hm : n ≤ 1000000000000) (ha : ia = (P.length : Int)) (hb : ib = ((P.length + U.length + M.length : Nat) : Int)) (hk : ik = (U.length : Int)) (hv : V.length = U.length) :
    Calls Tryz.prog 149 #[.slice (some ⟨b, 0, none⟩) n cap, .int .i64 ia, .int .i64 ib, .int .i64 ik, fv] w fun e w' => e = .returned (.tuple #[]) ∧ RwP w' b (P ++ (V ++ (M ++ (U ++ S)))) ∧ Fr (fun c => c = b) w w' := by
  subst ha hb hk
  exact swapP w b n cap P.length (P.length + U.length + M.length) U.length fv P U M V S h hn hm rfl rfl rfl hv
set_option maxRecDepth 100000 in
set_option maxHeartbeats 4000000 in
theorem rotP (w : World) (b n cap pa pm pb : Nat) (fv : Value) (P A B S : List EP) (h : RwP w b (P ++ (A ++ (B ++ S)))) (hn : n = (P ++ (A ++ (B ++ S))).length) (hm : n ≤ 1000000000000) (ha : pa = P.length) (hpm : pm = pa + A.length) (hb : pb = pm + B.length) (h1 : 0 < A.length) (h2 : 0 < B.length) :
    Calls Tryz.prog 136 #[.slice (some ⟨b, 0, none⟩) n cap, .int .i64 pa, .int .i64 pm, .int .i64 pb, fv] w fun e w' => e = .returned (.tuple #[]) ∧ RwP w' b (P ++ (B ++ (A ++ S))) ∧ Fr (fun c => c = b) w w' := by
  have hlen : n = pa + A.length + B.length + S.length := by simp at hn; omega
  have HN := Lib.hid hn; have HM := Lib.hid hm; have H0 := Lib.hid h; have HA := Lib.hid ha
  obtain ⟨la, hla⟩ : ∃ la, A.length = la := ⟨_, rfl⟩
  obtain ⟨lb, hlb⟩ : ∃ lb, B.length = lb := ⟨_, rfl⟩
  have HPM := Lib.hid hpm; have HPB := Lib.hid hb
  rw [hla] at hlen h1 hpm HPM
  rw [hlb] at hlen h2 hb HPB
  have HLA := Lib.hid hla; have HLB := Lib.hid hlb; have HLEN := Lib.hid hlen
  have i1 : (n : Int) ≤ 1000000000000 := by omega
  have i2 : (pm : Int) ≤ pa + la := by omega
  have i3 : (pa : Int) + la ≤ pm := by omega
  have i4 : (pb : Int) ≤ pm + lb := by omega
  have i5 : (pm : Int) + lb ≤ pb := by omega
  have i6 : (pb : Int) ≤ n := by omega
  clear h hn hm ha hpm hb hla hlb hlen
  go_enter Tryz.func136, Tryz.ntmps136
  go_wp2_with fail
  go_loopw [10, 11] (fun vi vj wr => ∃ (i j : Nat) (P' X Y S' : List EP), vi = .int .i64 i ∧ vj = .int .i64 j ∧ 0 < i ∧ 0 < j ∧ X.length = i ∧ Y.length = j ∧ P'.length + i = pm ∧ pm + j ≤ n ∧ RwP wr b (P' ++ (X ++ (Y ++ S'))) ∧ P' ++ (Y ++ (X ++ S')) = P ++ (B ++ (A ++ S)) ∧ n = (P' ++ (X ++ (Y ++ S'))).length ∧ Fr (fun c => c = b) w wr) (fun vi vj _ => (intOf vi).toNat + (intOf vj).toNat)
  case atStart => exact ⟨la, lb, P, A, B, S, by congr 1; omega, by congr 1; omega, h1, h2, HLA.out, HLB.out, by have := HA.out; omega, by omega, H0.out, rfl, HN.out, Fr.refl _ _⟩
  case round =>
    obtain ⟨i, j, P', X, Y, S', rfl, rfl, hi0, hj0, hX, hY, hP, hjn, hr, hEq, hN, hf⟩ := hrel
    have HX := Lib.hid hX; have HY := Lib.hid hY; have HP := Lib.hid hP; have HEQ := Lib.hid hEq; have HN2 := Lib.hid hN; have HR := Lib.hid hr; have HF := Lib.hid hf
    have g1 : (i : Int) ≤ pm := by omega
    have g2 : (pm : Int) + j ≤ n := by omega
    have g3 : 0 < (i : Int) := by omega
    have g4 : 0 < (j : Int) := by omega
    obtain ⟨qa, hqa⟩ : ∃ q, pm - i = q := ⟨_, rfl⟩
    have q1 : ((qa : Nat) : Int) ≤ pm - i := by omega
    have q2 : (pm : Int) - i ≤ qa := by omega
    clear hX hY hP hEq hN hr hf hqa hjn
    rcases (by omega : i < j ∨ i = j ∨ j < i) with hlt | heq | hgt
    · obtain ⟨Y1, Y2, rfl, hl1, hl2⟩ := split_len Y (k := j - i) (by have := HY.out; omega)
      have hl3 : Y2.length = i := by have := HY.out; omega
      have HL1 := Lib.hid hl1; have HL3 := Lib.hid hl3
      clear hl1 hl2 hl3
      have hltI : (i : Int) < j := by omega
      go_wp2_with fail
      refine (swapXP wr b n cap fv P' X Y1 Y2 S' (by have := HR.out; rw [List.append_assoc] at this; exact this) (by have := HN2.out; simp at this ⊢; omega) HM.out (by have := HP.out; omega) (by have := HP.out; have := HX.out; have := HL1.out; omega) (by have := HX.out; omega) (by have := HX.out; have := HL3.out; omega)).mono ?_
      rintro e w3 ⟨rfl, hr3, hf3⟩
      have HR3 := Lib.hid hr3; have HF3 := Lib.hid (HF.out.trans hf3)
      clear hr3 hf3
      go_wp2_with fail
      go_roundw
      case rel => exact ⟨i, j - i, P', Y2, Y1, X ++ S', rfl, by congr 1; omega, by omega, by omega, HL3.out, HL1.out, HP.out, by omega, HR3.out, by rw [← HEQ.out]; simp, by have := HN2.out; simp at this ⊢; omega, HF3.out⟩
      case measure => simp [intOf]; omega
    · subst heq
      go_wp2_with fail
      refine (swapXP wr b n cap fv P' X [] Y S' HR.out HN2.out HM.out (by have := HP.out; omega) (by have := HP.out; have := HX.out; simp; omega) (by have := HX.out; omega) (by have := HX.out; have := HY.out; omega)).mono ?_
      rintro e w3 ⟨rfl, hr3, hf3⟩
      have HR3 := Lib.hid hr3; have HF3 := Lib.hid (HF.out.trans hf3)
      clear hr3 hf3
      go_wp2_with fail
      go_end0
      exact ⟨rfl, by have := HR3.out; rw [← HEQ.out]; exact this, HF3.out⟩
    · obtain ⟨X1, X2, rfl, hl1, hl2⟩ := split_len X (k := j) (by have := HX.out; omega)
      have hl3 : X2.length = i - j := by have := HX.out; omega
      have HL1 := Lib.hid hl1; have HL3 := Lib.hid hl3
      clear hl1 hl2 hl3
      have hltI : (j : Int) < i := by omega
      go_wp2_with fail
      refine (swapXP wr b n cap fv P' X1 X2 Y S' (by have := HR.out; rw [List.append_assoc] at this; exact this) (by have := HN2.out; simp at this ⊢; omega) HM.out (by have := HP.out; omega) (by have := HP.out; have := HL1.out; have := HL3.out; omega) (by have := HL1.out; omega) (by have := HL1.out; have := HY.out; omega)).mono ?_
      rintro e w3 ⟨rfl, hr3, hf3⟩
      have HR3 := Lib.hid hr3; have HF3 := Lib.hid (HF.out.trans hf3)
      clear hr3 hf3
      go_wp2_with fail
      go_roundw
      case rel => exact ⟨i - j, j, P' ++ Y, X2, X1, S', by congr 1; omega, rfl, by omega, by omega, HL3.out, HL1.out, by have := HP.out; have := HY.out; simp; omega, by omega, by have := HR3.out; rw [List.append_assoc]; exact this, by rw [← HEQ.out]; simp, by have := HN2.out; simp at this ⊢; omega, HF3.out⟩
      case measure => simp [intOf]; omega
end Go.Proofs.YtlniekobijcanaaGreat
namespace Go.Proofs.YtlniekobijcanaaGreat
open Go.RowKit Go.Maps
def pvC (p : PV) : Array Value := #[.int .i64 p.b, vS p.g, .int .i64 p.n]
def okPv (_ : World) (p : PV) : Prop := okI p.b ∧ okS p.g ∧ okI p.n
theorem okPvKeeps : Keeps okPv := fun _ _ _ _ h _ _ => h
set_option maxRecDepth 100000 in
set_option maxHeartbeats 4000000 in
theorem ixPlace (w : World) (v : Value) (L : List PV) (p : PV → Bool) (b0 : Nat) (h : Sq 3 pvC okPv w v L)
    (hf : ∀ (W : World) (i : Nat) (x : PV), L[i]? = some x → Fr (fun _ => False) w W → Calls Tryz.prog 38 #[.agg (pvC x), .pointer (some ⟨b0, 0, none⟩)] W fun e W' => e = .returned (.bool (p x)) ∧ Fr (fun _ => False) W W') :
    Calls Tryz.prog 87 #[v, .func (.func 38) #[] #[.pointer (some ⟨b0, 0, none⟩)]] w fun e w' => e = .returned (.int .i64 (idxOf p L)) ∧ Fr (fun _ => False) w w' := by
  obtain ⟨a, c, rfl⟩ := h.sl
  obtain ⟨N, hN⟩ : ∃ N, L.length = N := ⟨_, rfl⟩
  have hNb : (N : Int) ≤ 9223372036854775807 := by have := h.len; omega
  have HL := Lib.hid h; have HN := Lib.hid hN; have HF := Lib.hid hf
  rw [hN] at HL ⊢
  obtain ⟨R, hR⟩ : ∃ R, idxOf p L = R := ⟨_, rfl⟩
  have HR := Lib.hid hR
  rw [hR]
  clear h hN hf hR
  go_enter Tryz.func87, Tryz.ntmps87
  go_wp2_with fail
  go_loopw [5, 8] (fun _ i wr => ∃ j : Nat, j ≤ N ∧ i = .int .i64 j ∧ Fr (fun _ => False) w wr ∧ ∀ q x, q < j → L[q]? = some x → p x = false) (fun _ i _ => N - (intOf i).toNat)
  case atStart => exact ⟨0, Nat.zero_le _, rfl, Fr.refl _ _, fun q x hq => by omega⟩
  case round =>
    obtain ⟨j, hj, rfl, hfr, hno⟩ := hrel
    have HFR := Lib.hid hfr; have HNO := Lib.hid hno
    clear hno
    by_cases hlt : j < N
    · obtain ⟨x, hx⟩ : ∃ x, L[j]? = some x := ⟨L[j]'(by rw [HN.out]; exact hlt), List.getElem?_eq_getElem _⟩
      obtain ⟨ad, rfl, hok, z0, zs⟩ := (HL.out.fr0 okPvKeeps hfr).at_ hx
      have hC := HF.out wr j x hx hfr
      obtain ⟨b, hb⟩ : ∃ b, p x = b := ⟨_, rfl⟩
      rw [hb] at hC
      have HB := Lib.hid hb; have HX := Lib.hid hx
      have hjI : (j : Int) < N := by omega
      obtain ⟨X, hXX⟩ : ∃ X, X = x := ⟨_, rfl⟩
      rw [← hXX] at HB HX
      obtain ⟨pb, pg, pn⟩ := x
      clear hXX
      have x0 := z0 (.int .i64 pb) rfl
      have x1 := zs 0 (vS pg) rfl
      have x2 := zs 1 (.int .i64 pn) rfl
      dsimp only [Nat.zero_add, Nat.reduceAdd] at x0 x1 x2
      have hC' : Calls Tryz.prog 38 #[.agg #[.int .i64 pb, vS pg, .int .i64 pn], .pointer (some ⟨b0, 0, none⟩)] wr fun e W' => e = .returned (.bool b) ∧ Fr (fun _ => False) wr W' := hC
      have HC := Lib.hid hC'
      clear hC hC' hb hx hok z0 zs hfr
      cases b with
      | true =>
        have hres : Hid (R = (j : Int)) := Lib.hid (by rw [← HR.out]; exact idxOf_at HX.out HB.out HNO.out)
        go_wp2_with (go_at_call 38; refine HC.out.mono ?_; rintro e w1 ⟨rfl, hf1⟩; have HF1 := Lib.hid hf1; clear hf1)
        go_ret
        exact ⟨by rw [hres.out]; rfl, HFR.out.trans HF1.out⟩
      | false =>
        go_wp2_with (go_at_call 38; refine HC.out.mono ?_; rintro e w1 ⟨rfl, hf1⟩; have HF1 := Lib.hid hf1; clear hf1)
        go_roundw
        case rel =>
          refine ⟨j + 1, by omega, by go_num, HFR.out.trans HF1.out, fun q x hq hx => ?_⟩
          by_cases e : q = j
          · subst e
            have := HX.out
            rw [this] at hx
            injection hx with hx
            rw [← hx]
            exact HB.out
          · exact HNO.out q x (by omega) hx
        case measure => simp [intOf]; omega
    · obtain rfl : j = N := by omega
      have hres : Hid (R = -1) := Lib.hid (by rw [← HR.out]; exact idxOf_no (fun q x hx => HNO.out q x (by have := (List.getElem?_eq_some_iff.1 hx).1; have := HN.out; omega) hx))
      clear hfr
      go_wp2_with fail
      go_ret
      exact ⟨by rw [hres.out]; rfl, HFR.out⟩
set_option maxRecDepth 100000 in
set_option maxHeartbeats 4000000 in
theorem dfPlace (w : World) (base : Nat) (v : Value) (L : List PV) (p : PV → Bool) (b0 : Nat) (h : w.ownsRow base 55 3 v L.length (flat pvC L)) (hL : L.length ≤ 1000000000000000) (hok : ∀ x ∈ L, okPv w x)
    (hf : ∀ (W : World) (i : Nat) (x : PV), L[i]? = some x → Fr (fun c => v.ownBlock = some c) w W → Calls Tryz.prog 38 #[.agg (pvC x), .pointer (some ⟨b0, 0, none⟩)] W fun e W' => e = .returned (.bool (p x)) ∧ Fr (fun _ => False) W W') :
    Calls Tryz.prog 36 #[v, .func (.func 38) #[] #[.pointer (some ⟨b0, 0, none⟩)]] w fun e w' => ∃ v', e = .returned v' ∧ w'.ownsRow base 55 3 v' (L.filter fun x => !p x).length (flat pvC (L.filter fun x => !p x)) ∧ (∀ c, v'.ownBlock = some c → v.ownBlock = some c) ∧ Fr (fun c => v.ownBlock = some c) w w' := by
  have hcs : ∀ r : PV, (pvC r).size = 3 := fun _ => rfl
  have hsq : Sq 3 pvC okPv w v L := Sq.own hcs h hok
  have hix := Lib.hid (ixPlace w v L p b0 hsq (fun W i x hx hfr => hf W i x hx (hfr.mono (fun _ _ e => e.elim))))
  rcases h.2 with ⟨rfl, h0⟩ | ⟨g, cap, cur, rfl, hbase, hb, hn, hm, hs, ht⟩
  · have hLn : L = [] := List.eq_nil_of_length_eq_zero h0
    subst hLn
    have e1 : idxOf p ([] : List PV) = -1 := rfl
    rw [e1] at hix
    clear h hsq hf hok e1 h0
    go_enter Tryz.func36, Tryz.ntmps36
    go_wp2_with (go_at_call 87; refine hix.out.mono ?_; rintro e w1 ⟨rfl, hf1⟩; have HF1 := Lib.hid hf1; clear hf1)
    go_ret
    refine ⟨.slice none 0 0, rfl, World.ownsRow_nil _ _ _ _, fun c e => by simp [Value.ownBlock] at e, HF1.out.mono (fun _ _ e => e.elim)⟩
  · obtain ⟨N, hN⟩ : ∃ N, L.length = N := ⟨_, rfl⟩
    have HN := Lib.hid hN
    have hown : ∀ c, (Value.slice (some ⟨g, 0, none⟩) L.length cap).ownBlock = some c → c = g := fun c e => by injection e with e; exact e.symm
    rcases idxOf_cases p L with ⟨h1, h2, h3⟩ | ⟨j0, x0, h1, h2, h3, h4⟩
    · have e1 : (L.filter fun x => !p x) = L := List.filter_eq_self.2 (fun x hx => by show (!p x) = true; rw [h3 x hx]; rfl)
      have HH := Lib.hid h
      rw [h1] at hix
      rw [e1]
      rw [hN] at hix ⊢
      clear h hsq hf hok e1 h1 h2 h3 hb ht hN
      go_enter Tryz.func36, Tryz.ntmps36
      go_wp2_with (go_at_call 87; refine hix.out.mono ?_; rintro e w1 ⟨rfl, hf1⟩; have HF1 := Lib.hid hf1; clear hf1)
      go_ret
      refine ⟨.slice (some ⟨g, 0, none⟩) N cap, rfl, by have := HF1.out.row HH.out (fun _ _ e => e); rw [HN.out] at this; exact this, fun c e => e, HF1.out.mono (fun _ _ e => e.elim)⟩
    · have hst := DelI.skip (DelI.start (kp := fun x => !p x) (j := j0) (cur := cur) hcs hb ht (Nat.le_of_lt (List.getElem?_eq_some_iff.1 h1).1) (fun x hx => by show (!p x) = true; rw [idxOf_before h3 x hx]; rfl)) h1 (by show (!p x0) = false; rw [h2]; rfl)
      have HST := Lib.hid hst
      have HF : Hid (∀ (W : World) (i : Nat) (x : PV), L[i]? = some x → Fr (fun c => c = g) w W → Calls Tryz.prog 38 #[.agg (pvC x), .pointer (some ⟨b0, 0, none⟩)] W fun e W' => e = .returned (.bool (p x)) ∧ Fr (fun _ => False) W W') := Lib.hid (fun W i x hx hfr => hf W i x hx (hfr.mono (fun c _ e => by rw [e]; rfl)))
      have HT := Lib.hid ht
      have hj0 := (List.getElem?_eq_some_iff.1 h1).1
      have HM := Lib.hid hm; have HS := Lib.hid hs; have HBS := Lib.hid hbase
      have HRES : Hid (∀ i W' vs, DelI 3 pvC (fun x => !p x) L 55 g cur L.length i W' → i * 3 + vs.length ≤ cur.size → (W'.setCells g (i * 3) vs).ownsRow base 55 3 (.slice (some ⟨g, 0, none⟩) i cap) (L.filter fun x => !p x).length (flat pvC (L.filter fun x => !p x))) := Lib.hid (fun i W' vs hD hv => by
        have := hD.done hcs hbase hn hm hs vs hv
        have e := hD.cnt
        rw [List.take_of_length_le (Nat.le_refl _)] at e
        rw [e] at this ⊢
        exact this)
      rw [h3] at hix
      rw [hN] at hix hn hL hj0 ⊢
      have hNI : (N : Int) ≤ 1000000000000000 := by omega
      have hcapI : (N : Int) ≤ cap := by omega
      have hjI : (j0 : Int) < N := by omega
      have hne1 : ((j0 : Int) == -1) = false := beq_eq_false_iff_ne.2 (by omega)
      have hv := fun (w : World) => (show (zeroValue 55).run Tryz.prog w = .ok (.agg #[.int .i64 0, vS [], .int .i64 0]) w by kernel_rfl)
      have HV := Lib.hid hv
      clear h hsq hf hok h1 h2 h3 h4 hb ht hN hst hm hs hbase hown hv
      go_enter Tryz.func36, Tryz.ntmps36
      go_wp2_with (go_at_call 87; refine hix.out.mono ?_; rintro e w1 ⟨rfl, hf1⟩; have HF1 := Lib.hid hf1; clear hf1)
      go_loopw [5, 6, 7] (fun vi vj _ wr => ∃ i j : Nat, vi = .int .i64 i ∧ vj = .int .i64 j ∧ j ≤ N ∧ i < j ∧ DelI 3 pvC (fun x => !p x) L 55 g cur j i wr ∧ Fr (fun c => c = g) w wr) (fun _ vj _ _ => N - (intOf vj).toNat)
      case atStart => exact ⟨j0, j0 + 1, rfl, by go_num, by omega, by omega, HST.out.keep0 HF1.out, HF1.out.mono (fun _ _ e => e.elim)⟩
      case round =>
        obtain ⟨i, j, rfl, rfl, hjN, hij, hD, hfr⟩ := hrel
        have HD := Lib.hid hD; have HFR := Lib.hid hfr
        by_cases hlt : j < N
        · obtain ⟨x, hx⟩ : ∃ x, L[j]? = some x := ⟨L[j]'(by rw [HN.out]; exact hlt), List.getElem?_eq_getElem _⟩
          have x0 := hD.at_ hcs HT.out hx (q := 0) (u := .int .i64 x.b) rfl
          have x1 := hD.at_ hcs HT.out hx (q := 1) (u := vS x.g) rfl
          have x2 := hD.at_ hcs HT.out hx (q := 2) (u := .int .i64 x.n) rfl
          have hC := HF.out (wr.alloc (.cells #[.int .i64 x.b, vS x.g, .int .i64 x.n] 55)) j x hx (hfr.alloc _)
          obtain ⟨b, hb⟩ : ∃ b, p x = b := ⟨_, rfl⟩
          rw [hb] at hC
          have HB := Lib.hid hb; have HX := Lib.hid hx
          have HC : Hid (Calls Tryz.prog 38 #[.agg #[.int .i64 x.b, vS x.g, .int .i64 x.n], .pointer (some ⟨b0, 0, none⟩)] (wr.alloc (.cells #[.int .i64 x.b, vS x.g, .int .i64 x.n] 55)) fun e W' => e = .returned (.bool b) ∧ Fr (fun _ => False) (wr.alloc (.cells #[.int .i64 x.b, vS x.g, .int .i64 x.n] 55)) W') := Lib.hid hC
          have hjI2 : (j : Int) < N := by omega
          have hiI2 : (i : Int) < N := by omega
          have hsz : N * 3 ≤ cur.size := by rw [HS.out]; exact Nat.mul_le_mul_right _ (by omega)
          clear hC hb hx hD hfr
          dsimp only [Nat.zero_add, Nat.reduceAdd, Nat.add_zero] at x0 x1 x2
          cases b with
          | true =>
            go_wp2_with (go_at_call 38; refine HC.out.mono ?_; rintro e w2 ⟨rfl, hf2⟩; have HF2 := Lib.hid (((Fr.refl (fun _ => False) wr).alloc _).trans hf2); clear hf2)
            go_roundw
            case rel => exact ⟨i, j + 1, rfl, by go_num, by omega, by omega, (HD.out.keep0 HF2.out).skip HX.out (by show (!p x) = _; rw [HB.out]; rfl), HFR.out.trans (HF2.out.mono (fun _ _ e => e.elim))⟩
            case measure => simp [intOf]; omega
          | false =>
            have hlt2 : ∀ q, q < 3 → i * 3 + q < cur.size := fun q hq => by
              have : (i + 1) * 3 ≤ N * 3 := Nat.mul_le_mul_right _ (by omega)
              rw [Nat.succ_mul] at this
              omega
            have HLT := Lib.hid hlt2
            clear hlt2
            go_wp2_with (go_at_call 38; refine HC.out.mono ?_; rintro e w2 ⟨rfl, hf2⟩; have hd2 := (HD.out.keep0 ((Fr.refl (fun _ => False) wr).alloc _)).keep0 hf2; have HD2 := Lib.hid hd2; obtain ⟨u0, d0⟩ := hd2.get (q := i * 3) (by have := HLT.out 0 (by omega); omega); have f0 := hd2.frz (i * 3); obtain ⟨u1, d1⟩ := hd2.get (q := i * 3 + 1) (by have := HLT.out 1 (by omega); omega); have f1 := hd2.frz (i * 3 + 1); obtain ⟨u2, d2⟩ := hd2.get (q := i * 3 + 2) (by have := HLT.out 2 (by omega); omega); have f2 := hd2.frz (i * 3 + 2); have hb7 := hf2.at_ (heap_new wr (.cells #[.int .i64 x.b, vS x.g, .int .i64 x.n] 55)) (fun e => e); have y0 := cell_obj hb7 0 (.int .i64 x.b) rfl; have y1 := cell_obj hb7 1 (vS x.g) rfl; have y2 := cell_obj hb7 2 (.int .i64 x.n) rfl; have HF2 := Lib.hid (((Fr.refl (fun _ => False) wr).alloc _).trans hf2); clear hf2 hd2 hb7)
            go_roundw
            case rel => exact ⟨i + 1, j + 1, by go_num, by go_num, by omega, by omega, HD2.out.put hcs (by rw [HN.out]; exact hsz) HX.out (by show (!p x) = _; rw [HB.out]; rfl), HFR.out.trans ((fr_setCells (pvC x).toList (i * 3) (HF2.out.mono (S' := fun c => c = g) (fun _ _ e => e.elim)) (fun _ => rfl)))⟩
            case measure => simp [intOf]; omega
        · obtain rfl : j = N := by omega
          have hjI2 : ¬ (j : Int) < j := by omega
          have hiI2 : (i : Int) ≤ j := by omega
          have hiI0 : (i : Int) < cap := by omega
          have hsz : i * 3 + (j - i) * 3 ≤ cur.size := by rw [HS.out, ← Nat.add_mul]; exact Nat.mul_le_mul_right _ (by omega)
          have hcl : ∀ ty, (Builtin.clear_ #[23] ty #[.slice (some ⟨g, i * 3, none⟩) (j - i) (cap - i)]).run Tryz.prog wr = .ok (.tuple #[]) (wr.setCells g (i * 3) (Builtin.zeroCells #[.int .i64 0, vS [], .int .i64 0] (j - i)).toList) := fun ty =>
            run_clear_cells (P := Tryz.prog) wr 23 55 ty (.agg #[.int .i64 0, vS [], .int .i64 0]) Tryz.underlying23 HV.out (fun u hu => by simp [Value.cells] at hu; (first | (rcases hu with rfl | rfl | rfl <;> rfl) | (rcases hu with rfl | rfl <;> rfl))) g (i * 3) (j - i) (cap - i)
              (fun q hq => by obtain ⟨u, hu⟩ := HD.out.get (q := i * 3 + q) (by simp [Value.cells] at hq; omega); rw [hu]; rfl) (fun q hq => HD.out.frz _)
          clear hD hfr
          go_wp2
          go_ret
          refine ⟨.slice (some ⟨g, 0, none⟩) i cap, rfl, HRES.out i wr _ (by have := HD.out; rw [HN.out]; exact this) (by rw [zeroCells_len]; exact hsz), fun c e => e, ?_⟩
          exact (fr_setCells _ _ HFR.out (fun _ => rfl)).mono (fun c _ e => by rw [e]; rfl)

end Go.Proofs.YtlniekobijcanaaGreat
namespace Go.Proofs.YtlniekobijcanaaGreat
open Go.RowKit Go.Maps
/-- One bin is gone through: so many are put there, or taken. -/
def stepS (can : BE → Int) (nE : BE → Int → Int) (s : Str) (st : List BE × Int × List PV) (i : Int) : List BE × Int × List PV :=
  match st.1[i.toNat]? with
  | none => st
  | some b => if min st.2.1 (can b) ≤ 0 then st else (st.1.set i.toNat (b.put s (nE b (min st.2.1 (can b)))), st.2.1 - min st.2.1 (can b), st.2.2 ++ [⟨b.nu, s, min st.2.1 (can b)⟩])
abbrev Pl (w : World) (v : Value) (L : List PV) : Prop := Sq 3 pvC okPv w v L
theorem pvSize (p : PV) : (pvC p).size = 3 := rfl
theorem set_get {α : Type} {L : List α} {i q : Nat} {x y : α} (h : (L.set i x)[q]? = some y) : (q = i ∧ y = x) ∨ (q ≠ i ∧ L[q]? = some y) := by
  rw [List.getElem?_set] at h
  by_cases e : i = q
  · rw [if_pos e] at h
    split at h
    · exact .inl ⟨e.symm, by injection h with h; exact h.symm⟩
    · cases h
  · rw [if_neg e] at h
    exact .inr ⟨fun e2 => e e2.symm, h⟩
structure SpI (w0 : World) (O : Nat → Prop) (r cap N : Nat) (PE : BE → Prop) (W : World) (Lj : List BV) (vo : Value) (out : List PV) : Prop where
  row : ∃ cur, W.heap[r]? = some (.cells cur 76) ∧ cur.size = cap * 4 ∧ cur.toList.take (N * 4) = flat BV.cs Lj
  len : Lj.length = N
  le : N ≤ cap
  bins : ∀ b ∈ Lj, BOk W b ∧ PE b.e ∧ (b.its ≠ [] → ∀ c, b.l.ownBlock = some c → c ≠ r ∧ vo.ownBlock ≠ some c ∧ (O c ∨ w0.heap.size ≤ c))
  out : W.ownsRow w0.heap.size 55 3 vo out.length (flat pvC out)
  oner : vo.ownBlock ≠ some r
  fr : Fr (fun _ => False) w0 W
  low : w0.heap.size ≤ r
section
variable {w0 W W' : World} {O : Nat → Prop} {r cap N : Nat} {PE : BE → Prop} {Lj : List BV} {vo : Value} {out : List PV}
theorem SpI.keep0 (h : SpI w0 O r cap N PE W Lj vo out) (hf : Fr (fun _ => False) W W') : SpI w0 O r cap N PE W' Lj vo out := by
  obtain ⟨⟨cur, h1, h2⟩, h3, hle, h4, h5, h6, h7, h8⟩ := h
  exact ⟨⟨cur, hf.at_ h1 (fun e => e), h2⟩, h3, hle, fun b hb => ⟨(h4 b hb).1.keep hf (fun _ _ _ e => e), (h4 b hb).2⟩, hf.row h5 (fun _ _ e => e), h6, h7.trans hf, h8⟩
theorem SpI.cells (h : SpI w0 O r cap N PE W Lj vo out) {i : Nat} {x : BV} (hx : Lj[i]? = some x) :
    W.cell? ⟨r, i * 4, none⟩ = some (.int .i64 x.nu) ∧ W.cell? ⟨r, i * 4 + 1, none⟩ = some (.int .i64 x.zo) ∧ W.cell? ⟨r, i * 4 + 2, none⟩ = some (.int .i64 x.ro) ∧ W.cell? ⟨r, i * 4 + 3, none⟩ = some x.l ∧ ∀ q, W.frozen? ⟨r, q, none⟩ = false := by
  obtain ⟨⟨cur, h1, h2, h3⟩, hl, hle, -⟩ := h
  have hi := (List.getElem?_eq_some_iff.1 hx).1
  have h4 : (i + 1) * 4 ≤ N * 4 := Nat.mul_le_mul_right 4 (by omega)
  have key : ∀ (q : Nat) (u : Value), q < 4 → (BV.cs x)[q]? = some u → W.cell? ⟨r, i * 4 + q, none⟩ = some u := fun q u hq hu => by
    refine cell_obj h1 _ _ ?_
    rw [← Array.getElem?_toList, take_get h3 (by omega)]
    exact flat_at bvSize hx q u hu
  exact ⟨key 0 _ (by omega) rfl, key 1 _ (by omega) rfl, key 2 _ (by omega) rfl, key 3 _ (by omega) rfl, fun q => obj_frozen h1 q⟩
theorem SpI.store (h : SpI w0 O r cap N PE W Lj vo out) {i : Nat} {x b : BV} (hx : Lj[i]? = some x) (hb : BOk W b) (hP : PE b.e) (hne : ∀ c, b.l.ownBlock = some c → c ≠ r ∧ vo.ownBlock ≠ some c ∧ (O c ∨ w0.heap.size ≤ c)) : SpI w0 O r cap N PE (W.setCells r (i * 4) (BV.cs b).toList) (Lj.set i b) vo out := by
  obtain ⟨⟨cur, h1, h2, h3⟩, hl, hle, h4, h5, h6, h7, h8⟩ := h
  have hi := (List.getElem?_eq_some_iff.1 hx).1
  have g1 : (i + 1) * 4 ≤ N * 4 := Nat.mul_le_mul_right 4 (by omega)
  have g2 : N * 4 ≤ cap * 4 := Nat.mul_le_mul_right 4 hle
  have hcl : (BV.cs b).toList.length = 4 := rfl
  obtain ⟨cur', c1, c2, c3⟩ := row_setCells (BV.cs b).toList (i * 4) h1 (by rw [hcl]; omega)
  have hf : Fr (fun c => c = r) W (W.setCells r (i * 4) (BV.cs b).toList) := fr_setCells _ _ (Fr.refl _ W) (fun _ => rfl)
  have hlen : (flat BV.cs (Lj.set i b)).length = N * 4 := by rw [flat_len1 bvSize, List.length_set, hl]
  refine ⟨⟨cur', c1, by omega, ?_⟩, by rw [List.length_set]; exact hl, hle, fun y hy => ?_, hf.row h5 (fun c hc e => h6 (by rw [hc, e])), h6, h7.trans' hf (fun c hc e => by omega), h8⟩
  · apply List.ext_getElem?
    intro q
    by_cases hq : q < N * 4
    · rw [List.getElem?_take_of_lt hq, Array.getElem?_toList, c3 q, hcl]
      obtain ⟨y, hy⟩ : ∃ y, (Lj.set i b)[q / 4]? = some y := ⟨_, List.getElem?_eq_getElem (by rw [List.length_set]; omega)⟩
      have hys : (BV.cs y)[q % 4]? = some ((BV.cs y)[q % 4]'(by rw [bvSize]; omega)) := Array.getElem?_eq_getElem _
      have h10 := flat_at bvSize hy (q % 4) _ hys
      rw [show q / 4 * 4 + q % 4 = q by omega] at h10
      rw [h10]
      rcases set_get hy with ⟨e1, e2⟩ | ⟨e1, e2⟩
      · subst e2
        rw [if_pos (by omega), Array.getElem?_toList, show q - i * 4 = q % 4 by omega]
        exact hys
      · rw [if_neg (by omega), ← Array.getElem?_toList, take_get h3 hq]
        have h11 := flat_at bvSize e2 (q % 4) _ hys
        rw [show q / 4 * 4 + q % 4 = q by omega] at h11
        exact h11
    · rw [List.getElem?_take_eq_none (by omega), List.getElem?_eq_none (by omega)]
  · obtain ⟨q, hq⟩ := List.getElem?_of_mem hy
    rcases set_get hq with ⟨-, rfl⟩ | ⟨-, e2⟩
    · exact ⟨hb.keep hf (fun _ c hc e => (hne c hc).1 e), hP, fun _ c hc => hne c hc⟩
    · obtain ⟨k1, k2, k3⟩ := h4 y (List.mem_of_getElem? e2)
      exact ⟨k1.keep hf (fun hn c hc e => (k3 hn c hc).1 e), k2, k3⟩
theorem flat_pv_snoc (L : List PV) (p : PV) : flat pvC (L ++ [p]) = flat pvC L ++ [.int .i64 p.b, vS p.g, .int .i64 p.n] := by rw [flat_app]; rfl
theorem SpI.push (h : SpI w0 O r cap N PE W Lj vo out) {vo' : Value} {p : PV} (hown : W'.ownsRow w0.heap.size 55 3 vo' (out.length + 1) (flat pvC out ++ [.int .i64 p.b, vS p.g, .int .i64 p.n])) (hg : W.grownBy W' vo.ownBlock) (hloc : vo'.ownBlock = vo.ownBlock ∨ vo'.ownBlock = some W.heap.size) : SpI w0 O r cap N PE W' Lj vo' (out ++ [p]) := by
  obtain ⟨⟨cur, h1, h2, h3⟩, hl, hle, h4, h5, h6, h7, h8⟩ := h
  have hf : Fr (fun c => vo.ownBlock = some c) W W' := Fr.grown hg (fun c hc _ => hc)
  have hr := (Array.getElem?_eq_some_iff.1 h1).1
  refine ⟨⟨cur, hf.at_ h1 h6, h2, h3⟩, hl, hle, fun b hb => ?_, by rw [flat_pv_snoc, List.length_append]; exact hown, fun e => ?_, h7.trans' hf (fun c hc e => by have := (h5.lt c e).1; omega), h8⟩
  · obtain ⟨k1, k2, k3⟩ := h4 b hb
    refine ⟨k1.keep hf (fun hn c hc e => (k3 hn c hc).2.1 e), k2, fun hn c hc => ⟨(k3 hn c hc).1, fun e => ?_, (k3 hn c hc).2.2⟩⟩
    rcases hloc with e2 | e2
    · exact (k3 hn c hc).2.1 (by rw [← e2, e])
    · rw [e2] at e
      injection e with e
      have := k1.l.lt hn c hc
      omega
  · rcases hloc with e2 | e2
    · exact h6 (by rw [← e2, e])
    · rw [e2] at e
      injection e with e
      omega
end
end Go.Proofs.YtlniekobijcanaaGreat
namespace Go.Proofs.YtlniekobijcanaaGreat
open Go.RowKit
def sumI (L : Its) : Int := (L.map (·.2)).sum
def getI (L : Its) (s : Str) : Int := sumI (L.filter fun p => decide (p.1 = s))
theorem sumI_app (A B : Its) : sumI (A ++ B) = sumI A + sumI B := by simp [sumI]
theorem sumI_cons (p : Str × Int) (B : Its) : sumI (p :: B) = p.2 + sumI B := by simp [sumI]
theorem sumI_perm {A B : Its} (h : A.Perm B) : sumI A = sumI B := by
  induction h with
  | nil => rfl
  | cons x _ ih => rw [sumI_cons, sumI_cons, ih]
  | swap x y l => simp only [sumI_cons]; omega
  | trans _ _ h1 h2 => exact h1.trans h2
theorem sumI_nn {L : Its} (h : ∀ p ∈ L, 0 ≤ p.2) : 0 ≤ sumI L := by
  induction L with
  | nil => exact Int.le_refl _
  | cons p r ih =>
    rw [sumI_cons]
    have := h p List.mem_cons_self
    have := ih (fun q hq => h q (List.mem_cons_of_mem _ hq))
    omega
theorem sumI_part (L : Its) (s : Str) : sumI L = getI L s + sumI (L.filter fun p => !decide (p.1 = s)) := by
  rw [← sumI_perm (List.filter_append_perm (fun p : Str × Int => decide (p.1 = s)) L), sumI_app]
  rfl
theorem sumI_set (L : Its) (s : Str) (n : Int) : sumI (setF L s n) = sumI L - getI L s + (if 0 < n then n else 0) := by
  rw [sumI_perm (setF_perm L s n), sumI_app, sumI_part L s]
  have : sumI (if 0 < n then [(s, n)] else []) = if 0 < n then n else 0 := by
    by_cases h : 0 < n
    · rw [if_pos h, if_pos h]; simp [sumI]
    · rw [if_neg h, if_neg h]; rfl
  rw [this]
  omega
theorem getI_set (L : Its) (s : Str) (n : Int) (t : Str) : getI (setF L s n) t = if t = s then (if 0 < n then n else 0) else getI L t := by
  unfold getI
  rw [sumI_perm ((setF_perm L s n).filter _), List.filter_append, sumI_app, List.filter_filter]
  by_cases e : t = s
  · subst e
    rw [if_pos rfl]
    have e1 : (L.filter fun p => decide (p.1 = t) && !decide (p.1 = t)) = [] := List.filter_eq_nil_iff.2 (fun p _ => by simp)
    rw [e1]
    by_cases h : 0 < n
    · rw [if_pos h, if_pos h]; simp [sumI]
    · rw [if_neg h, if_neg h]; rfl
  · rw [if_neg e]
    have e1 : (L.filter fun p => decide (p.1 = t) && !decide (p.1 = s)) = L.filter fun p => decide (p.1 = t) := List.filter_congr fun p _ => by
      by_cases h : p.1 = t
      · have : p.1 ≠ s := fun e2 => e (h ▸ e2)
        simp [h, e]
      · simp [h]
    have e2 : (if 0 < n then [(s, n)] else []).filter (fun p : Str × Int => decide (p.1 = t)) = [] := by
      refine List.filter_eq_nil_iff.2 (fun p hp => ?_)
      rw [(mem_mid hp).1]
      simpa using fun h => e h.symm
    rw [e1, e2]
    simp [sumI]
theorem wrap64_in {x : Int} (h : -9223372036854775808 ≤ x ∧ x ≤ 9223372036854775807) : wrap64 x = x := by unfold wrap64; omega
theorem totF_aux : ∀ (L : Its) (a : Int), 0 ≤ a → (∀ p ∈ L, 0 ≤ p.2) → a + sumI L ≤ 9223372036854775807 → L.foldl (fun a p => wrap64 (a + p.2)) a = a + sumI L
  | [], a, _, _, _ => by simp [sumI]
  | p :: r, a, ha, hp, hb => by
    rw [sumI_cons] at hb ⊢
    have h1 := hp p List.mem_cons_self
    have h2 := sumI_nn (fun q hq => hp q (List.mem_cons_of_mem _ hq))
    rw [List.foldl_cons, wrap64_in ⟨by omega, by omega⟩, totF_aux r (a + p.2) (by omega) (fun q hq => hp q (List.mem_cons_of_mem _ hq)) (by omega)]
    omega
theorem totF_sum {L : Its} (hp : ∀ p ∈ L, 0 ≤ p.2) (hb : sumI L ≤ 9223372036854775807) : totF L = sumI L := by
  have := totF_aux L 0 (Int.le_refl _) hp (by omega)
  unfold totF
  omega
theorem ofF_aux (s : Str) : ∀ (L : Its) (a : Int), 0 ≤ a → (∀ p ∈ L, 0 ≤ p.2) → a + getI L s ≤ 9223372036854775807 → L.foldl (ofStep s) a = a + getI L s
  | [], a, _, _, _ => by simp [getI, sumI]
  | p :: r, a, ha, hp, hb => by
    have h1 := hp p List.mem_cons_self
    have h2 : 0 ≤ getI r s := sumI_nn (fun q hq => hp q (List.mem_cons_of_mem _ ((List.mem_filter.1 hq).1)))
    rw [List.foldl_cons]
    by_cases e : p.1 = s
    · have e1 : getI (p :: r) s = p.2 + getI r s := by unfold getI; rw [List.filter_cons, if_pos (by simpa using e), sumI_cons]
      rw [e1] at hb ⊢
      have e2 : ofStep s a p = a + p.2 := by unfold ofStep; rw [if_pos e, wrap64_in ⟨by omega, by omega⟩]
      rw [e2, ofF_aux s r (a + p.2) (by omega) (fun q hq => hp q (List.mem_cons_of_mem _ hq)) (by omega)]
      omega
    · have e1 : getI (p :: r) s = getI r s := by unfold getI; rw [List.filter_cons, if_neg (by simpa using e)]
      rw [e1] at hb ⊢
      have e2 : ofStep s a p = a := by unfold ofStep; rw [if_neg e]
      rw [e2, ofF_aux s r a ha (fun q hq => hp q (List.mem_cons_of_mem _ hq)) hb]
theorem getI_le {L : Its} (s : Str) (hp : ∀ p ∈ L, 0 ≤ p.2) : getI L s ≤ sumI L := by
  rw [sumI_part L s]
  have := sumI_nn (L := L.filter fun p => !decide (p.1 = s)) (fun q hq => hp q ((List.mem_filter.1 hq).1))
  omega
theorem getI_nn {L : Its} (s : Str) (hp : ∀ p ∈ L, 0 ≤ p.2) : 0 ≤ getI L s := sumI_nn (fun q hq => hp q ((List.mem_filter.1 hq).1))
theorem ofF_get {L : Its} (s : Str) (hp : ∀ p ∈ L, 0 ≤ p.2) (hb : sumI L ≤ 9223372036854775807) : ofF L s = getI L s := by
  have := ofF_aux s L 0 (Int.le_refl _) hp (by have := getI_le s hp; omega)
  unfold ofF
  omega
/-- A bin that may be gone through for a good. -/
structure BW (s : Str) (x : BE) : Prop where
  ro : 1 ≤ x.ro ∧ x.ro ≤ 1099511627776
  ri : RiseI x.its
  it : ∀ p ∈ x.its, goodB p.1 = true ∧ 1 ≤ p.2 ∧ p.2 ≤ 1099511627776
  fl : (x.its.filter fun p => !decide (p.1 = s)).length ≤ 16
  tot : sumI x.its ≤ x.ro
theorem BW.pos {s : Str} {x : BE} (h : BW s x) : ∀ p ∈ x.its, 0 ≤ p.2 := fun p hp => by have := (h.it p hp).2.1; omega
theorem BW.of {s : Str} {x : BE} (h : BW s x) (t : Str) : ofF x.its t = getI x.its t := ofF_get t h.pos (by have := h.tot; have := h.ro; omega)
theorem BW.left {s : Str} {x : BE} (h : BW s x) : leftE x = x.ro - sumI x.its := by
  unfold leftE
  have h1 := h.tot; have h2 := h.ro; have h3 := sumI_nn h.pos
  rw [totF_sum h.pos (by omega), wrap64_in ⟨by omega, by omega⟩]
theorem rise_one {L : Its} (h : RiseI L) (s : Str) : (L.filter fun p => decide (p.1 = s)).length ≤ 1 := by
  have h2 := h.filter (fun p => decide (p.1 = s))
  generalize hg : L.filter (fun p => decide (p.1 = s)) = F at h2
  match F, h2 with
  | [], _ => simp
  | [_], _ => simp
  | a :: b :: r, h2 =>
    have h3 := (List.pairwise_cons.1 h2).1 b List.mem_cons_self
    have ha : a ∈ L.filter (fun p => decide (p.1 = s)) := by rw [hg]; exact List.mem_cons_self
    have hb : b ∈ L.filter (fun p => decide (p.1 = s)) := by rw [hg]; exact List.mem_cons_of_mem _ List.mem_cons_self
    have e1 : a.1 = s := of_decide_eq_true (List.mem_filter.1 ha).2
    have e2 : b.1 = s := of_decide_eq_true (List.mem_filter.1 hb).2
    rw [e1, e2] at h3
    exact absurd h3 (str_irr s)
theorem len_part (L : Its) (s : Str) : L.length = (L.filter fun p => decide (p.1 = s)).length + (L.filter fun p => !decide (p.1 = s)).length := by
  rw [← (List.filter_append_perm (fun p : Str × Int => decide (p.1 = s)) L).length_eq, List.length_append]
theorem BW.len {s : Str} {x : BE} (h : BW s x) : x.its.length ≤ 17 := by
  have := len_part x.its s; have := rise_one h.ri s; have := h.fl; omega
theorem setF_filt (L : Its) (s : Str) (n : Int) : ((setF L s n).filter fun p => !decide (p.1 = s)).Perm (L.filter fun p => !decide (p.1 = s)) := by
  refine ((setF_perm L s n).filter _).trans ?_
  rw [List.filter_append, List.filter_filter]
  have e1 : (L.filter fun p => (!decide (p.1 = s)) && !decide (p.1 = s)) = L.filter fun p => !decide (p.1 = s) := List.filter_congr fun p _ => by simp
  have e2 : (if 0 < n then [(s, n)] else []).filter (fun p : Str × Int => !decide (p.1 = s)) = [] := by
    refine List.filter_eq_nil_iff.2 (fun p hp => ?_)
    rw [(mem_mid hp).1]
    simp
  rw [e1, e2, List.append_nil]
theorem BW.put {s : Str} {x : BE} (h : BW s x) (hs : goodB s = true) {n : Int} (h0 : 0 ≤ n) (h1 : sumI x.its - getI x.its s + n ≤ x.ro) : BW s (x.put s n) := by
  have hg := getI_nn s h.pos
  have hle := getI_le s h.pos
  refine ⟨h.ro, setF_rise h.ri, fun p hp => ?_, by rw [show (x.put s n).its = setF x.its s n from rfl, (setF_filt x.its s n).length_eq]; exact h.fl, ?_⟩
  · rcases setF_mem hp with ⟨h2, -⟩ | ⟨rfl, h2⟩
    · exact h.it p h2
    · have := h.ro
      exact ⟨hs, by show 1 ≤ n; omega, by show n ≤ _; omega⟩
  · show sumI (setF x.its s n) ≤ x.ro
    rw [sumI_set]
    by_cases hn : 0 < n
    · rw [if_pos hn]; exact h1
    · rw [if_neg hn]; omega
end Go.Proofs.YtlniekobijcanaaGreat
namespace Go.Proofs.YtlniekobijcanaaGreat
open Go
/-- The last operation, made harmless. -/
def idle (o : Oper) : Oper := { o with op := .assign (.const (.bool false)) }
section
variable {P : Program} {md : Region.Mode} {l : List Oper} {z : Oper} {C : World → Prop}
theorem idle_size : (l ++ [idle z]).toArray.size = (l ++ [z]).toArray.size := by simp
theorem idle_after (i : Nat) : ((l ++ [idle z]).toArray[i]?).map (·.after) = ((l ++ [z]).toArray[i]?).map (·.after) := by
  simp only [List.getElem?_toArray]
  rcases Nat.lt_trichotomy i l.length with h | h | h
  · rw [List.getElem?_append_left h, List.getElem?_append_left h]
  · subst h; simp [idle]
  · rw [List.getElem?_append_right (by omega), List.getElem?_append_right (by omega), List.getElem?_eq_none (by simp; omega), List.getElem?_eq_none (by simp; omega)]
theorem idle_dst (i : Nat) : ((l ++ [idle z]).toArray[i]?).bind (·.dst) = ((l ++ [z]).toArray[i]?).bind (·.dst) := by
  simp only [List.getElem?_toArray]
  rcases Nat.lt_trichotomy i l.length with h | h | h
  · rw [List.getElem?_append_left h, List.getElem?_append_left h]
  · subst h; simp [idle]
  · rw [List.getElem?_append_right (by omega), List.getElem?_append_right (by omega), List.getElem?_eq_none (by simp; omega), List.getElem?_eq_none (by simp; omega)]
theorem idle_ready (listed : Array Bool) : Region.ready md (l ++ [idle z]).toArray listed = Region.ready md (l ++ [z]).toArray listed := by
  unfold Region.ready
  rw [idle_size]
  refine List.filter_congr fun i _ => ?_
  have h := idle_after (l := l) (z := z) i
  congr 1
  generalize (l ++ [idle z]).toArray[i]? = x at *
  generalize (l ++ [z]).toArray[i]? = y at *
  cases x <;> cases y <;> simp at h ⊢
  rw [h]
theorem idle_yielded (tmps : Array Value) : yielded (l ++ [idle z]).toArray tmps = yielded (l ++ [z]).toArray tmps := by
  funext j
  unfold yielded
  rw [idle_dst]
theorem idle_wpOp {Q : Exit → Act → World → Prop} {i : Nat} (hi : i < l.length) (K : Act → World → Prop) (a : Act) (w : World) : wpOp P (l ++ [idle z]).toArray Q i K a w = wpOp P (l ++ [z]).toArray Q i K a w := by
  have h : (l ++ [idle z]).toArray[i]? = (l ++ [z]).toArray[i]? := by simp only [List.getElem?_toArray]; rw [List.getElem?_append_left hi, List.getElem?_append_left hi]
  unfold wpOp
  rw [h, idle_yielded]
theorem wpAny_done {ops : Array Oper} {Q : Exit → Act → World → Prop} {a : Act} {w : World} {listed : Array Bool} (h : Region.ready md ops listed = []) (hQ : Q .normal a w) : ∀ f, wpAny P md ops Q f listed a w
  | 0 => ⟨h, hQ⟩
  | f + 1 => ⟨fun _ => hQ, fun i hi => by rw [h] at hi; cases hi⟩
theorem wpAnyQ_done {ops : Array Oper} {Q : Act → Prop} {a : Act} {listed : Array Bool} (h : Region.ready md ops listed = []) : ∀ f, wpAnyQ P md ops C Q f listed a → Q a
  | 0, hq => hq.2
  | _ + 1, hq => hq.1 h
/-- Each operation waits for earlier ones only. -/
def acyB (md : Region.Mode) (ops : Array Oper) : Bool := (List.range ops.size).all fun k => match ops[k]? with
  | some o => o.after.all fun e => !Region.binds md e || decide (e.on < k)
  | none => true
theorem ready_some {ops : Array Oper} {listed : Array Bool} (ha : acyB md ops = true) (hs : listed.size = ops.size) : ∀ (n k : Nat), k < ops.size → k ≤ n → listed.getD k true = false → Region.ready md ops listed ≠ []
  | n, k, hk, hn, hu => by
    by_cases hall : ∀ j, j < k → listed.getD j false = true
    · intro e
      have : k ∈ Region.ready md ops listed := by
        refine mem_ready.2 ⟨hu, ops[k], Array.getElem?_eq_getElem hk, fun e he hb => ?_⟩
        have h1 := List.all_eq_true.1 ha k (List.mem_range.2 hk)
        rw [Array.getElem?_eq_getElem hk] at h1
        obtain ⟨i, hi, rfl⟩ := Array.mem_iff_getElem.1 he
        have h2 := Array.all_eq_true.1 h1 i hi
        simp only [hb, Bool.not_true, Bool.false_or, decide_eq_true_eq] at h2
        exact hall _ h2
      rw [e] at this; cases this
    · cases n with
      | zero => exact absurd (fun j hj => by omega) hall
      | succ n =>
        have : ∃ j, j < k ∧ listed.getD j false ≠ true := Classical.byContradiction fun h => hall fun j hj => Classical.byContradiction fun hne => h ⟨j, hj, hne⟩
        obtain ⟨j, hj, hne⟩ := this
        refine ready_some ha hs n j (by omega) (by omega) ?_
        exact getD_in (by omega) (by simpa using hne)
theorem quiet_tail_sim {Q : Exit → Act → World → Prop} (hs : Region.sinkB md (l ++ [z]).toArray l.length = true) (hc : Region.chainB md (l ++ [z]).toArray l.length = true) (ha : acyB md (l ++ [z]).toArray = true) (hd : z.dst = none) :
    ∀ (fuel : Nat) (listed : Array Bool) (a : Act) (w : World), C w → HeadInv md (l ++ [z]).toArray l.length listed →
      wpAnyQ P md (l ++ [idle z]).toArray C (fun a' => ∀ w', C w' → wpOp P (l ++ [z]).toArray Q l.length (fun a w => Q .normal a w) a' w') fuel listed a → wpAny P md (l ++ [z]).toArray Q fuel listed a w := by
  intro fuel
  have hsz : (l ++ [z]).toArray.size = l.length + 1 := by simp
  induction fuel with
  | zero =>
    intro listed a w hw inv h
    have h1 := h.1
    rw [idle_ready] at h1
    exact absurd h1 (ready_some ha inv.size _ l.length (by omega) (Nat.le_refl _) (inv.tail _ (Nat.le_refl _) (by omega)))
  | succ fuel ih =>
    intro listed a w hw inv h
    have hne := ready_some ha inv.size _ l.length (by omega) (Nat.le_refl _) (inv.tail _ (Nat.le_refl _) (by omega))
    refine ⟨fun e => absurd e hne, fun i hi => ?_⟩
    have hq := h.2 i (by rw [idle_ready]; exact hi)
    have hi1 : i < l.length + 1 := by
      obtain ⟨_, o, ho, _⟩ := mem_ready.1 hi
      have := (Array.getElem?_eq_some_iff.1 ho).1
      omega
    by_cases hil : i < l.length
    · rw [← idle_wpOp hil]
      exact wpOp_of_qOp hw (fun a' w' hw' hK => ih _ a' w' hw' (inv.set hi hil) hK) hq
    · have hin : i = l.length := by omega
      subst hin
      have hall : ∀ j, j < l.length → listed.getD j true = true := by
        intro j hj
        cases e : listed.getD j true with
        | true => rfl
        | false => exact absurd hi (tail_waits hs hc (by omega) inv _ j rfl hj e _ (Nat.le_refl _))
      have hdone : Region.ready md (l ++ [z]).toArray (listed.setIfInBounds l.length true) = [] := by
        rw [List.eq_nil_iff_forall_not_mem]
        intro j hj
        obtain ⟨hu, o, ho, _⟩ := mem_ready.1 hj
        have hjl := (Array.getElem?_eq_some_iff.1 ho).1
        by_cases e : j = l.length
        · subst e
          have hls : l.length < listed.size := by rw [inv.size]; omega
          simp [hls] at hu
        · rw [getD_set_ne true (fun h => e h.symm)] at hu
          rw [hall j (by omega)] at hu; cases hu
      have h0 : (l ++ [idle z]).toArray[l.length]? = some (idle z) := by simp
      obtain ⟨v, _, hK⟩ := yieldsIn_of_qOp h0 hq
      have hput : a.put (idle z).dst v = a := by
        have : (idle z).dst = none := hd
        rw [this]; rfl
      rw [hput] at hK
      have hQ := wpAnyQ_done (by rw [idle_ready]; exact hdone) _ hK w hw
      exact wpOp_mono (fun a' w' h' => wpAny_done hdone h' _) hQ
/-- What is asked of the region, apart from its walk. -/
def tailQ (l : List Oper) (n : Nat) : Bool :=
  decide (l.length = n + 1) && (match l[n]? with | some z => z.dst.isNone | none => false) && Region.sinkB .any l.toArray n && Region.chainB .any l.toArray n && acyB .any l.toArray && Region.lexB .any (l.take n ++ (l.drop n).map idle).toArray
theorem wp_region_quiet_tail {id : Nat} {Q : Exit → Act → World → Prop} {a : Act} {w : World} {l : List Oper} (n : Nat) (hm : P.follows .mixedOrders = true) (hB : tailQ l n = true)
    (h : wpQuiet P (l.take n ++ (l.drop n).map idle).toArray (fun w' => ∃ q, w' = w.drewN q) (fun a' => ∀ q, wpList P l.toArray Q (l.drop n) a' (w.drewN q)) (l.take n ++ (l.drop n).map idle) a) : (Code.region id l.toArray true).wp P Q a w := by
  simp only [tailQ, Bool.and_eq_true, decide_eq_true_eq] at hB
  obtain ⟨⟨⟨⟨⟨hl, hd⟩, hs⟩, hc⟩, ha⟩, hx⟩ := hB
  obtain ⟨z, hz⟩ : ∃ z, l[n]? = some z := ⟨l[n], List.getElem?_eq_getElem (by omega)⟩
  rw [hz] at hd
  have hdz : z.dst = none := by simpa using hd
  have hdr : l.drop n = [z] := by
    rw [List.drop_eq_getElem_cons (by omega), (List.getElem?_eq_some_iff.1 hz).2, List.drop_eq_nil_of_le (by omega)]
  obtain ⟨L, hL⟩ : ∃ L, l.take n = L := ⟨_, rfl⟩
  have hlL : l = L ++ [z] := by rw [← hL, ← hdr, List.take_append_drop]
  have hnL : L.length = n := by rw [← hL, List.length_take]; omega
  rw [hdr, hL, List.map_cons, List.map_nil] at h hx
  subst hlL
  subst hnL
  have hz0 : (L ++ [z]).toArray[L.length]? = some z := by simp
  have eQ : (fun a' => ∀ q, wpList P (L ++ [z]).toArray Q [z] a' (w.drewN q)) = (fun a' => ∀ w', (∃ q, w' = w.drewN q) → wpOp P (L ++ [z]).toArray Q L.length (fun a w => Q .normal a w) a' w') := by
    funext a'
    have e : ∀ q, wpList P (L ++ [z]).toArray Q [z] a' (w.drewN q) = wpOp P (L ++ [z]).toArray Q L.length (fun a w => Q .normal a w) a' (w.drewN q) := fun q => by
      unfold wpOp wpList
      simp only [hz0]
      rfl
    refine propext ⟨?_, fun h q => by rw [e]; exact h _ ⟨q, rfl⟩⟩
    rintro h w' ⟨q, rfl⟩
    rw [← e]; exact h q
  rw [eQ] at h
  refine wp_region_any hm ?_
  have hx' := hx
  simp only [Region.lexB, Bool.and_eq_true] at hx'
  have H := wpAnyQ_lex (P := P) (C := fun w' => ∃ q, w' = w.drewN q) (md := .any) hx'.1 (L ++ [idle z]) 0 (Array.replicate (L ++ [idle z]).toArray.size false) a (by simp) (by simpa using hx'.2) h
  have inv0 : HeadInv .any (L ++ [z]).toArray L.length (Array.replicate (L ++ [z]).toArray.size false) :=
    ⟨by simp, fun j oj _ hl => (by rw [getD_replicate_false] at hl; cases hl), fun t _ ht => getD_in (by simpa using ht) (getD_replicate_false _ _)⟩
  rw [idle_size, show (L ++ [idle z]).length = (L ++ [z]).toArray.size by simp] at H
  exact quiet_tail_sim (C := fun w' => ∃ q, w' = w.drewN q) hs hc ha hdz _ _ a { w with drawn := w.drawn + 1 } ⟨1, rfl⟩ inv0 H
end
end Go.Proofs.YtlniekobijcanaaGreat
