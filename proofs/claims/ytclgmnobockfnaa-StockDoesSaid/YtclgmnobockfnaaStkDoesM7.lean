/- stock: Offer. -/
import Derived.Test.YtclgmnobockfnaaStkDoesM2
import Derived.Test.YtclgmnobockfnaaStkDoesM6
namespace Go.Proofs.Ytclgmnobockfnaa
open Go.RowKit Go.Maps
attribute [local go_sem] Oper.semAt_some
theorem offerS_app (A : Stk) (L M : Its) : offerS A (L ++ M) = offerS A L ++ offerS A M := by simp [offerS]
theorem offerS_len (A : Stk) (L : Its) : (offerS A L).length ≤ L.length := List.length_filterMap_le _ _
theorem offerS_ok {A : Stk} {L : Its} (hL : ∀ p ∈ L, okS p.1 ∧ 0 ≤ p.2 ∧ p.2 ≤ 1099511627776) : ∀ p ∈ offerS A L, okS p.1 ∧ okI p.2 := by
  intro p hp
  unfold offerS at hp
  obtain ⟨q, hq, e⟩ := List.mem_filterMap.1 hp
  have := hL q hq
  split at e
  · injection e with e
    subst e
    refine ⟨this.1, ?_⟩
    unfold okI
    dsimp only
    omega
  · cases e
theorem cell_two (w : World) (x y : Value) (t : TypeId) : ∀ j u, [x, y][j]? = some u → (w.alloc (.cells #[x, y] t)).cell? ((⟨w.heap.size, 0, none⟩ : Addr).add j) = some u := by
  intro j u hj
  match j, hj with
  | 0, hj => simp at hj; subst hj; simp [Addr.add]
  | 1, hj => simp at hj; subst hj; simp [Addr.add]
  | (j + 2), hj => simp at hj
theorem Col.congr {W : World} {base B : Nat} {t e : TypeId} {size : Nat} {C : Nat → Prop} {v : Value} {n n' : Nat} {xs xs' : List Value} (h : Col W base B t e size C v n xs) (h1 : n = n') (h2 : xs = xs') : Col W base B t e size C v n' xs' := h1 ▸ h2 ▸ h
def OfJ (w w5 : World) (n0 ob g : Nat) (A : Stk) (L : Its) (k : Nat) (C : Nat → Prop) (W : World) : Prop :=
  W.heap[n0]? = some (.cells #[.pointer (some ⟨g, 0, none⟩)] 24) ∧ (∃ v, Col W (ob + 2) ob 23 66 2 C v (offerS A (L.take k)).length (itCs (offerS A (L.take k)))) ∧ Fr (fun b => n0 ≤ b) w W ∧ Fr (fun b => b = ob) w5 W
theorem OfJ.fa {B : Nat} {w w5 W W' : World} {n0 ob g k : Nat} {C : Nat → Prop} {A : Stk} {L : Its} (h : OfJ w w5 n0 ob g A L k C W) (hf : Fa B W W') (hB : w.heap.size ≤ B ∧ w5.heap.size ≤ B) : OfJ w w5 n0 ob g A L k C W' :=
  ⟨Fa.cells hf h.1, h.2.1.elim fun v hv => ⟨v, hv.fa hf⟩, h.2.2.1.trans' hf (fun b hb e => by have := e.1; omega), h.2.2.2.trans' hf (fun b hb e => by have := e.1; omega)⟩
set_option maxRecDepth 100000 in
set_option maxHeartbeats 8000000 in
theorem sOffer (w : World) (g : Nat) (TS : Nat → Prop) (A : Stk) (v : Value) (L : Its) (h : SA w g TS A) (hA : SOk A) (hv : Il w v L) :
    Calls Try.prog 23 #[.pointer (some ⟨g, 0, none⟩), v] w fun e w' => ∃ v', e = .returned v' ∧ Il w' v' (if mayL L = true then offerS A L else []) ∧ (∀ b, v'.ownBlock = some b → w.heap.size ≤ b ∧ b < w'.heap.size) ∧ Fr (fun _ => False) w w' := by
  obtain ⟨i0, hi', hz0, hz1, hz2⟩ := info_parts infoItem
  obtain ⟨n0, hn0⟩ : ∃ n0, w.heap.size = n0 := ⟨_, rfl⟩
  have HS := Lib.hid hn0
  have HL := Lib.hid hv
  have hob := hv.lt
  have HOB := Lib.hid hob
  have hokl : Hid (∀ (j : Nat) (p : Str × Int), L[j]? = some p → okS p.1) := Lib.hid (fun j p hp => by obtain ⟨_, _, _, _, hx⟩ := hv; exact (hx j p hp).1)
  obtain ⟨a, c, rfl⟩ := hv.sl
  obtain ⟨N, hN⟩ : ∃ N, L.length = N := ⟨_, rfl⟩
  have HN := Lib.hid hN
  rw [hN] at HL HOB ⊢
  have HSA := Lib.hid h
  have HAA := Lib.hid hA
  have HGL : Hid (g < w.heap.size) := Lib.hid (h.lt g h.own)
  obtain ⟨m, hc, hm, hTm⟩ := h.cell
  obtain ⟨W0, hW0⟩ : ∃ W0, w.alloc (.cells #[.pointer (some ⟨g, 0, none⟩)] 24) = W0 := ⟨_, rfl⟩
  have hF0 : Fr (fun _ => False) w W0 := by rw [← hW0]; exact (Fr.refl _ w).alloc _
  have hs0 : W0.heap.size = n0 + 1 := by rw [← hW0]; simp; omega
  have hb0 : W0.heap[n0]? = some (.cells #[.pointer (some ⟨g, 0, none⟩)] 24) := by rw [← hW0]; exact heap_at hn0.symm _
  have HF0 := Lib.hid hF0; have HS0 := Lib.hid hs0; have HB0 := Lib.hid hb0
  have hmd := Lib.hid (callsIn_wide (n := 0) |>.2 (smade W0 g m (hF0.cell hc (fun h => h))))
  have hIM := Lib.hid (callsIn_wide (n := 0) |>.2 (iMay W0 (.slice a N c) L (HL.out.fr hF0 (fun b hb => hb.elim))))
  have hcs := cell_obj hb0 0 (.pointer (some ⟨g, 0, none⟩)) rfl
  clear hv hob hN h hm hTm hA hF0 hb0 hc
  refine (callsIn_wide (n := 0)).1 ?_
  refine callsIn_of_wp_marks Try.func23 rfl trivial ?_ rfl
  simp only [Try.ntmps23, List.size_toArray, List.length_cons, List.length_nil, Nat.reduceAdd, Nat.reduceSub, Array.replicate_succ, Array.replicate_zero, List.push_toArray, List.append_toArray, List.nil_append, List.cons_append]
  have hfn : ∀ f, Fence.wide.fn f := fun _ => trivial
  have hdp : Fence.wide.depth.isSome = false := rfl
  cases hml : mayL L with
  | false =>
    rw [hml] at hIM
    simp only [Bool.false_eq_true, if_false]
    gi_wp2_with (first
      | (gi_at_call 31; refine hmd.out.mono ?_; rintro e w1 ⟨rfl, rfl⟩)
      | (gi_at_call 32; refine hIM.out.mono ?_; rintro e w2 ⟨rfl, hf2⟩; have HF2 := Lib.hid (HF0.out.trans hf2); clear hf2))
    refine ⟨.slice none 0 0, by simp [results, Try.results23, go_sem], _, rfl, ⟨by simp, none, 0, rfl, fun i p hp => by simp at hp⟩, (fun b hb => by cases hb), HF2.out⟩
  | true =>
    rw [hml] at hIM
    simp only [if_true]
    have hpos : Hid (∀ p ∈ L, 0 ≤ p.2 ∧ p.2 ≤ 1099511627776) := Lib.hid (mayL_pos hml)
    have h16 : Hid (L.length ≤ 16) := Lib.hid (by unfold mayL at hml; simp at hml; exact hml.2)
    clear hml
    gi_wp2_with (first
      | (gi_at_call 31; refine hmd.out.mono ?_; rintro e w1 ⟨rfl, rfl⟩)
      | (gi_at_call 32; refine hIM.out.mono ?_; rintro e w2 ⟨rfl, hf2⟩; have HF2 := Lib.hid (HF0.out.trans hf2); have HB2 := Lib.hid (hf2.at_ HB0.out (fun h => h)); clear hf2)
      | (gi_at_call 35; refine (callsIn_wide.2 (iAll _ _ _ _)).mono ?_; rintro e w5 ⟨rfl, rfl⟩))
    have hsz2 := HF2.out.size
    obtain ⟨ob, hob⟩ : ∃ ob, w2.heap.size = ob := ⟨_, rfl⟩
    have hcb : Boxed ((w2.alloc (.cells #[.slice none 0 0] 23)).alloc (.cells #[.slice a N c] 23)) ob 23 (.slice none 0 0) := heap_keep (heap_at hob.symm _) _
    have hBx : Boxed ((w2.alloc (.cells #[.slice none 0 0] 23)).alloc (.cells #[.slice a N c] 23)) (ob + 1) 23 (.slice a N c) := heap_at (by simp; omega) _
    have hsb : ((w2.alloc (.cells #[.slice none 0 0] 23)).alloc (.cells #[.slice a N c] 23)).heap[n0]? = some (.cells #[.pointer (some ⟨g, 0, none⟩)] 24) := heap_keep (heap_keep HB2.out _) _
    have hF5 : Fr (fun _ => False) w ((w2.alloc (.cells #[.slice none 0 0] 23)).alloc (.cells #[.slice a N c] 23)) := (HF2.out.alloc _).alloc _
    have hs5 : ((w2.alloc (.cells #[.slice none 0 0] 23)).alloc (.cells #[.slice a N c] 23)).heap.size = ob + 2 := by simp; omega
    have hnob : n0 < ob := by have := (Array.getElem?_eq_some_iff.1 HB2.out).1; omega
    obtain ⟨W5, hW5⟩ : ∃ W5, (w2.alloc (.cells #[.slice none 0 0] 23)).alloc (.cells #[.slice a N c] 23) = W5 := ⟨_, rfl⟩
    rw [hW5] at hcb hBx hsb hF5 hs5 ⊢
    rw [hob]
    have hL5 := HL.out.fr hF5 (fun b hb => hb.elim)
    have HCB := Lib.hid hcb; have HSB := Lib.hid hsb; have HF5 := Lib.hid hF5; have HS5 := Lib.hid hs5
    clear hW5 hob hsz2 hF5 hcb hsb HF2 HB2
    refine rangeX (w0 := W5) (X := L) (S := fun b => b = ob) rfl (enters_of Try.func68 (by kernel_rfl) rfl)
      (iAll1 _ W5 _ _ L hBx hL5 (by omega) (fun hl b hb e => by have := HOB.out hl b e; omega)) (Below.refl _ _) (fun b hb => by omega) (fun _ => rfl)
      (OfJ w W5 n0 ob g A L) (fun _ _ _ _ => False)
      (fun k C W W' hs hf => hs.fa hf (by omega)) (fun c k C W W' hs hf => hs)
      ⟨HSB.out, ⟨_, HCB.out, World.ownsRow_nil _ _ _ _, fun b hb => by cases hb⟩, HF5.out.mono (fun _ _ h => h.elim), Fr.refl _ _⟩ ?round ?done ?stop
    case stop => intro D c k C W hD hk hX; exact hX.elim
    case round =>
      rintro lp j x C W hx hlp hi hr
      dsimp only [encIt]
      gi_wp2
      refine Took.mk (Fr.refl _ _) hi ?_
      rintro Wb ⟨hQ, ⟨v, hcol⟩, hFw, hF5w⟩ hrb hf hsz hsw hCC _
      have hok := hokl.out j x hx
      have hpos := hpos.out x (List.mem_of_getElem? hx)
      have hjl := (List.getElem?_eq_some_iff.1 hx).1
      have htk : offerS A (L.take (j + 1)) = offerS A (L.take j) ++ offerS A [x] := by rw [List.take_add_one, hx, offerS_app]; rfl
      have hol : (offerS A (L.take j)).length ≤ 16 := by have h1 := offerS_len A (L.take j); have h2 := h16.out; rw [List.length_take] at h1; omega
      obtain ⟨gd, n⟩ := x
      dsimp only at hok hpos ⊢
      have cs := cell_obj hQ 0 (.pointer (some ⟨g, 0, none⟩)) rfl
      have hSW : SA Wb g TS A := HSA.out.fr hFw (fun b hb e => by have := HSA.out.lt b hb; omega)
      have hLv := Lib.hid (callsIn_wide (n := 0) |>.2 (sLevel Wb g TS A gd hSW hok))
      have hRok := (HAA.out.at_ gd).b.a0
      obtain ⟨R, hRR⟩ : ∃ R, rowAt A gd = R := ⟨_, rfl⟩
      rw [hRR] at hLv hRok
      have hof : Hid (offerS A [(gd, n)] = if 0 < min n R.free then [(gd, min n R.free)] else []) := Lib.hid (by
        unfold offerS
        simp only [List.filterMap_cons, List.filterMap_nil, hRR]
        split <;> split <;> simp_all)
      unfold SR.lev at hLv
      clear hRR
      obtain ⟨f0, f1, f2, f3, f4, f5, f6, f7, f8, f9, f10⟩ := R
      dsimp only at hLv hRok hof
      have hfl : ∀ W, (Instr.field 42 (.agg #[.int .i64 f0, .int .i64 f1, .int .i64 f2, .int .i64 f3]) 0).run Try.prog W = .ok (.int .i64 f0) W := fun W => by kernel_rfl
      have HQ := Lib.hid hQ; have HFW := Lib.hid hFw; have HF5W := Lib.hid hF5w; have HCOL := Lib.hid hcol; have HTK := Lib.hid htk; have HCC := Lib.hid hCC; have HX := Lib.hid hx; have HOK := Lib.hid hok
      clear hi hr hf hrb hQ hFw hF5w htk hx hok hSW hCC
      have hIG : okI (min n f0) := by unfold okI; have := hRok; omega
      have hIG := Lib.hid hIG
      by_cases hpm : 0 < min n f0
      · obtain ⟨M, hM⟩ : ∃ M, min n f0 = M := ⟨_, rfl⟩
        have HM := Lib.hid hM
        have hof1 : Hid (offerS A [(gd, n)] = [(gd, M)]) := Lib.hid (by rw [hof.out, if_pos hpm, hM])
        clear hof
        gi_wp2_with (first
          | (gi_at_call 29; refine hLv.out.mono ?_; rintro e w6 ⟨rfl, hf6⟩; have HF6 := Lib.hid hf6; have hcol6 : Col w6 (ob + 2) ob 23 66 2 C v _ _ := ⟨hf6.box HCOL.out.box (fun h => h), hf6.row HCOL.out.row (fun _ _ h => h), HCOL.out.mine⟩; have hco := hcol6.box.cell; clear hf6)
          | (gi_at_builtin; refine wpListIn_append_own_at _ rfl _ _ 23 rfl (ob + 2) 66 i0 (.agg #[.string ⟨#[]⟩, .int .i64 0]) 2 24 Try.underlying23 hi' hz0 hz1 hz2 rfl (by decide) _ _ _ rfl (hcol6.row.alloc _) ⟨w6.heap.size, 0, none⟩ 1 1 [vS gd, .int .i64 M] rfl rfl (cell_two _ _ _ _) (by intro u hu; simp only [List.mem_cons, List.not_mem_nil, or_false] at hu; rcases hu with rfl | rfl <;> rfl) (by unfold maxLen; omega) (by omega) (by have := HF6.out.size; simp; omega) ?_; intro v' w1 hown' hgrow _ hat; obtain ⟨g', cap', rfl⟩ := ownsRow_succ hown'; obtain ⟨hv1, hc1, hf1⟩ := hcol6.appended (W0 := W) (S := fun b => b = ob) (by decide) rfl (Nat.le_trans hsz HF6.out.size) hown' hgrow hat; have hcc := hv1.cell; have hcf := hv1.frozen; have HC1 := Lib.hid hc1; have HF1 := Lib.hid hf1; clear hc1 hf1 hat hgrow hown' hcol6))
        have hfA := (HF6.out.mono (fun _ _ e => e.elim)).trans HF1.out
        have hsz0 := HF5W.out.size
        have hcc0 : ∀ b, b < Wb.heap.size → (b = ob ∨ CC C W w6 b) → b = ob ∨ ob + 2 ≤ b := by
          rintro b hb (e | e | e)
          · exact .inl e
          · have := HCC.out b e; omega
          · have := e.1; omega
        have eLn : (offerS A (L.take j)).length + 1 = (offerS A (L.take (j + 1))).length := by rw [HTK.out, hof1.out, List.length_append]; rfl
        have eCs : itCs (offerS A (L.take j)) ++ [vS gd, .int .i64 M] = itCs (offerS A (L.take (j + 1))) := by rw [HTK.out, hof1.out, itCs_app]; rfl
        refine ⟨hfA.mono (fun b hb e => e.imp_right (fun e => e.elim .inl (fun e => .inr ⟨e.1, hb⟩))), hfA.at_ HQ.out (fun e => ?_), ⟨_, HC1.out.congr eLn eCs⟩, HFW.out.trans' hfA (fun b hb e => ?_), HF5W.out.trans' hfA (fun b hb e => ?_)⟩
        · have := hcc0 _ (Array.getElem?_eq_some_iff.1 HQ.out).1 e; omega
        · have := HFW.out.size; have := hcc0 _ (by omega) e; have := HS.out; omega
        · have := hcc0 _ (by omega) e; omega
      · have hof1 : Hid (offerS A [(gd, n)] = []) := Lib.hid (by rw [hof.out, if_neg hpm])
        clear hof
        gi_wp2_with (gi_at_call 29; refine hLv.out.mono ?_; rintro e w6 ⟨rfl, hf6⟩; have HF6 := Lib.hid hf6; clear hf6)
        have h6 := HF6.out
        refine ⟨h6.mono (fun _ _ e => e.elim), h6.at_ HQ.out (fun e => e), ⟨v, ?_⟩, HFW.out.trans (h6.mono fun _ _ e => e.elim), HF5W.out.trans (h6.mono fun _ _ e => e.elim)⟩
        rw [HTK.out, hof1.out, List.append_nil]
        exact ⟨h6.box HCOL.out.box (fun h => h), h6.row HCOL.out.row (fun _ _ h => h), fun b hb => .inl (HCOL.out.mine b hb)⟩
    case done =>
      rintro D C W hD ⟨hQ, ⟨v, hcol⟩, hFw, hF5w⟩ hr hK
      have hco := hcol.box.cell
      rw [show L.take L.length = L from List.take_length] at hcol
      have hown := hcol.row
      have HFW := Lib.hid hFw; have HCOL := Lib.hid hcol; have HKK := Lib.hid hK; have HR := Lib.hid hr; have HD := Lib.hid hD
      clear hcol hFw hK hF5w hQ hr hD hown
      gi_wp2
      refine ⟨by simp, .inl ⟨_, _, rfl, run_takeDeferred HKK.out, ?_⟩⟩
      refine ⟨_, results_tmp rfl _ _ _, v, rfl, ?_, ?_, ?_⟩
      · exact (Il.own (ownsRow_putObj HCOL.out.row _ HKK.out rfl) (offerS_ok fun p hp => ⟨by obtain ⟨i, hi⟩ := List.mem_iff_getElem?.1 hp; exact hokl.out i p hi, hpos.out p hp⟩)).1
      · intro b hb
        have := HCOL.out.row.lt b hb
        have e2 : (W.putObj D (.deferred none)).heap.size = W.heap.size := by simp
        omega
      · have := HS.out; have := HS5.out
        exact (HFW.out.putObj (l := D) (fun h => by have := HD.out; omega) _).mono (fun b hb e => by omega)
end Go.Proofs.Ytclgmnobockfnaa
