/- Texts of this claim, joined: stock: Goods, the iterator; Offer; stock: Offer; Goods' lengths, plainly; entrepotref07: Count, Free; entrepotref07: move. -/
import Derived.Test.YtogphlnakdnchaaGreatHoldBackM5
import Derived.Test.YtogphlnakdnchaaGreatHoldBackM2
import Derived.Test.YtogphlnakdnchaaGreatHoldBackM1
namespace Go.Proofs.YtogphlnakdnchaaGreat
open Go.RowKit Go.Maps
theorem sGoods (p : Option Addr) (w : World) : Calls Tryz.prog 59 #[.pointer p] w fun e w' =>
    e = .returned (.func (.func 96) #[] #[.pointer (some ⟨w.heap.size, 0, none⟩)]) ∧ w' = w.alloc (.cells #[.pointer p] 58) := by
  go_enter Tryz.func59, Tryz.ntmps59
  go_wp2
  go_ret
  exact ⟨rfl, rfl⟩
def encS (s : Str) : Array Value := #[vS s]
set_option maxRecDepth 100000 in
set_option maxHeartbeats 4000000 in
theorem sGoods1 (S : Nat → Prop) (w : World) (Bt g : Nat) (TS : Nat → Prop) (A : Stk) (hBt : Boxed w Bt 58 (.pointer (some ⟨g, 0, none⟩))) (h : SA w g TS A) (hl : A.length ≤ 1000) (n1 : ¬ S Bt) (n2 : ∀ b, TS b → ¬ S b) :
    ItX 96 #[.pointer (some ⟨Bt, 0, none⟩)] encS (A.map (·.1)) S w := by
  intro lp S' J Jx W hW hS' hJ hY hJx h0
  have hBW := boxed_below hBt hW hBt.lt
  have hAW := h.fr (Fr.below (S := fun _ => False) hW) (fun _ _ h => h)
  obtain ⟨m, hc, hm, hTm⟩ := hAW.cell
  have hkS := keysSorted W m SR.enc A hm (by omega)
  have HK1 := Lib.hid (callsIn_wide.1 hkS.1); have HK2 := Lib.hid (callsIn_wide.1 hkS.2)
  have hcB := hBW.cell
  obtain ⟨N, hN⟩ : ∃ N, A.length = N := ⟨_, rfl⟩
  have HN := Lib.hid hN
  have HS := Lib.hid hS'
  have HX : Hid ((A.map (·.1)).length = N) := Lib.hid (by rw [List.length_map]; exact hN)
  rw [hN] at HK2 hl
  have hfn : ∀ f, Fence.wide.fn f := fun _ => trivial
  have hdp : Fence.wide.depth.isSome = false := rfl
  clear hBt h n1 n2 hS' hBW hW hm hN hkS hAW hTm
  refine (callsIn_wide (n := 0)).1 ?_
  refine callsIn_of_wp Tryz.func96 rfl trivial ?_ rfl
  simp only [Tryz.ntmps96, List.size_toArray, List.length_cons, List.length_nil, Nat.reduceAdd, Nat.reduceSub, Array.replicate_succ, Array.replicate_zero, List.push_toArray, List.append_toArray, List.nil_append, List.cons_append]
  gi_wp2_with (first
    | (gi_at_call 69; refine (callsIn_wide.2 (smade _ g m hc)).mono ?_; rintro e w1 ⟨rfl, rfl⟩)
    | (gi_at_call 98; refine (callsIn_wide.2 HK1.out).mono ?_; rintro e w1 ⟨rfl, rfl⟩)
    | (gi_at_call 97; refine (callsIn_wide.2 HK2.out).mono ?_; rintro e w1 ⟨v, rfl, hown, hb⟩; obtain ⟨a, c, rfl⟩ := row_slice hown))
  have hJ1 := hJ 0 _ _ _ h0 (Fr.below hb)
  have HW1 : Hid (W.heap.size ≤ w1.heap.size) := Lib.hid hb.size
  have HO := Lib.hid hown; have HJ1 := Lib.hid hJ1
  clear h0 hcB hc hown hb hJ1
  gi_loopw [15] (fun i wr => ∃ (k : Nat) (C : Nat → Prop), k ≤ N ∧ i = .int .i64 k ∧ J k C wr ∧ (∀ b, C b → w1.heap.size ≤ b ∧ b < wr.heap.size) ∧ Fr (fun b => S' b ∨ C b) w1 wr) (fun i _ => N - (intOf i).toNat)
  case atStart => exact ⟨0, _, Nat.zero_le _, rfl, HJ1.out, fun _ h => False.elim h, Fr.refl _ _⟩
  case round =>
    obtain ⟨k, C, hk, rfl, hJr, hC, hkp⟩ := hrel
    by_cases hlt : k < N
    · obtain ⟨p, hp⟩ : ∃ p, A[k]? = some p := ⟨A[k]'(by rw [HN.out]; exact hlt), List.getElem?_eq_getElem _⟩
      obtain ⟨g', rfl, hg1, hg2⟩ := row_addr HO.out (by omega)
      have m5 : ¬ (S' g' ∨ C g') := fun e => e.elim (fun e => by have := (HS.out _ e).1; omega) (fun e => by have := hC _ e; omega)
      have hownr := hkp.row HO.out (fun b e => by obtain rfl : g' = b := (by simpa [Value.ownBlock] using e); exact m5)
      have hcx : wr.cell? ⟨g', k, none⟩ = some (vS p.1) := by
        have := hownr.cellAt (g := g') (j := k) (by omega)
        rw [this]; simp [hp]
      have hxx : (A.map (·.1))[k]? = some p.1 := by rw [List.getElem?_map, hp]; rfl
      obtain ⟨fn, tmps, assign, body, hy, hR⟩ := hY k p.1 C wr hxx hJr
      dsimp only [encS] at hy
      have hlI : (k : Int) < N := by omega
      have HC := Lib.hid hC; have HK := Lib.hid hkp
      clear hC hkp hp hJr hownr hxx
      gi_wp2
      refine hR.mono ?_
      rintro e W3 (⟨rfl, hJ3, hk3⟩ | ⟨rfl, hJx3, _⟩)
      · gi_wp2
        go_roundw
        case rel =>
          refine ⟨k + 1, _, by omega, by go_num, hJ3, ?_, ?_⟩
          · have hs3 := hk3.size
            rintro b (e | e)
            · have := HC.out b e; exact ⟨this.1, by omega⟩
            · have := HK.out.size; exact ⟨by omega, e.2⟩
          · exact (HK.out.mono (fun b _ e => e.elim .inl (fun e => .inr (.inl e)))).trans (hk3.mono (fun b _ e => e.elim .inl (fun e => .inr (.inl e))))
        case measure => simp [intOf]; omega
      · gi_wp2
        refine bodyPost_ret (results_none rfl _ _ _) rfl ?_
        refine ⟨⟨_, rfl⟩, .inr ⟨_, _, ?_, hJx3⟩⟩
        have := HX.out
        omega
    · have : k = N := by omega
      subst this
      gi_wp2
      go_end0
      exact ⟨⟨_, rfl⟩, .inl ⟨C, by rw [HX.out]; exact hJr⟩⟩
end Go.Proofs.YtogphlnakdnchaaGreat

namespace Go.Proofs.YtogphlnakdnchaaGreat
open Go.RowKit Go.Maps
attribute [local go_sem] Oper.semAt_some
theorem offerS_app (A : Stk) (L M : Its) : offerS A (L ++ M) = offerS A L ++ offerS A M := by simp [offerS]
theorem offerS_len (A : Stk) (L : Its) : (offerS A L).length ≤ L.length := List.length_filterMap_le _ _
theorem offerS_ok {A : Stk} {L : Its} (hL : ∀ p ∈ L, okS p.1 ∧ 0 ≤ p.2 ∧ p.2 ≤ 1099511627776) : ∀ p ∈ offerS A L, okS p.1 ∧ okI p.2 := by
  intro p hp
  unfold offerS at hp
  obtain ⟨q, hq, e⟩ := List.mem_filterMap.1 hp
  have := hL q hq
  split at e
  · injection e with e
    subst e
    refine ⟨this.1, ?_⟩
    unfold okI
    dsimp only
    omega
  · cases e
theorem cell_two (w : World) (x y : Value) (t : TypeId) : ∀ j u, [x, y][j]? = some u → (w.alloc (.cells #[x, y] t)).cell? ((⟨w.heap.size, 0, none⟩ : Addr).add j) = some u := by
  intro j u hj
  match j, hj with
  | 0, hj => simp at hj; subst hj; simp [Addr.add]
  | 1, hj => simp at hj; subst hj; simp [Addr.add]
  | (j + 2), hj => simp at hj
theorem Col.congr {W : World} {base B : Nat} {t e : TypeId} {size : Nat} {C : Nat → Prop} {v : Value} {n n' : Nat} {xs xs' : List Value} (h : Col W base B t e size C v n xs) (h1 : n = n') (h2 : xs = xs') : Col W base B t e size C v n' xs' := h1 ▸ h2 ▸ h
def OfJ (w w5 : World) (n0 ob g : Nat) (A : Stk) (L : Its) (k : Nat) (C : Nat → Prop) (W : World) : Prop :=
  W.heap[n0]? = some (.cells #[.pointer (some ⟨g, 0, none⟩)] 58) ∧ (∃ v, Col W (ob + 2) ob 27 65 2 C v (offerS A (L.take k)).length (itCs (offerS A (L.take k)))) ∧ Fr (fun b => n0 ≤ b) w W ∧ Fr (fun b => b = ob) w5 W
theorem OfJ.fa {B : Nat} {w w5 W W' : World} {n0 ob g k : Nat} {C : Nat → Prop} {A : Stk} {L : Its} (h : OfJ w w5 n0 ob g A L k C W) (hf : Fa B W W') (hB : w.heap.size ≤ B ∧ w5.heap.size ≤ B) : OfJ w w5 n0 ob g A L k C W' :=
  ⟨Fa.cells hf h.1, h.2.1.elim fun v hv => ⟨v, hv.fa hf⟩, h.2.2.1.trans' hf (fun b hb e => by have := e.1; omega), h.2.2.2.trans' hf (fun b hb e => by have := e.1; omega)⟩
set_option maxRecDepth 100000 in
set_option maxHeartbeats 8000000 in
theorem sOffer (w : World) (g : Nat) (TS : Nat → Prop) (A : Stk) (v : Value) (L : Its) (h : SA w g TS A) (hA : SOk A) (hv : Il w v L) :
    Calls Tryz.prog 29 #[.pointer (some ⟨g, 0, none⟩), v] w fun e w' => ∃ v', e = .returned v' ∧ Il w' v' (if mayL L = true then offerS A L else []) ∧ (∀ b, v'.ownBlock = some b → w.heap.size ≤ b ∧ b < w'.heap.size) ∧ Fr (fun _ => False) w w' := by
  obtain ⟨i0, hi', hz0, hz1, hz2⟩ := info_parts infoItem
  obtain ⟨n0, hn0⟩ : ∃ n0, w.heap.size = n0 := ⟨_, rfl⟩
  have HS := Lib.hid hn0
  have HL := Lib.hid hv
  have hob := hv.lt
  have HOB := Lib.hid hob
  have hokl : Hid (∀ (j : Nat) (p : Str × Int), L[j]? = some p → okS p.1) := Lib.hid (fun j p hp => by obtain ⟨_, _, _, _, hx⟩ := hv; exact (hx j p hp).1)
  obtain ⟨a, c, rfl⟩ := hv.sl
  obtain ⟨N, hN⟩ : ∃ N, L.length = N := ⟨_, rfl⟩
  have HN := Lib.hid hN
  rw [hN] at HL HOB ⊢
  have HSA := Lib.hid h
  have HAA := Lib.hid hA
  have HGL : Hid (g < w.heap.size) := Lib.hid (h.lt g h.own)
  obtain ⟨m, hc, hm, hTm⟩ := h.cell
  obtain ⟨W0, hW0⟩ : ∃ W0, w.alloc (.cells #[.pointer (some ⟨g, 0, none⟩)] 58) = W0 := ⟨_, rfl⟩
  have hF0 : Fr (fun _ => False) w W0 := by rw [← hW0]; exact (Fr.refl _ w).alloc _
  have hs0 : W0.heap.size = n0 + 1 := by rw [← hW0]; simp; omega
  have hb0 : W0.heap[n0]? = some (.cells #[.pointer (some ⟨g, 0, none⟩)] 58) := by rw [← hW0]; exact heap_at hn0.symm _
  have HF0 := Lib.hid hF0; have HS0 := Lib.hid hs0; have HB0 := Lib.hid hb0
  have hmd := Lib.hid (callsIn_wide (n := 0) |>.2 (smade W0 g m (hF0.cell hc (fun h => h))))
  have hIM := Lib.hid (callsIn_wide (n := 0) |>.2 (iMay W0 (.slice a N c) L (HL.out.fr hF0 (fun b hb => hb.elim))))
  have hcs := cell_obj hb0 0 (.pointer (some ⟨g, 0, none⟩)) rfl
  clear hv hob hN h hm hTm hA hF0 hb0 hc
  refine (callsIn_wide (n := 0)).1 ?_
  refine callsIn_of_wp_marks Tryz.func29 rfl trivial ?_ rfl
  simp only [Tryz.ntmps29, List.size_toArray, List.length_cons, List.length_nil, Nat.reduceAdd, Nat.reduceSub, Array.replicate_succ, Array.replicate_zero, List.push_toArray, List.append_toArray, List.nil_append, List.cons_append]
  have hfn : ∀ f, Fence.wide.fn f := fun _ => trivial
  have hdp : Fence.wide.depth.isSome = false := rfl
  cases hml : mayL L with
  | false =>
    rw [hml] at hIM
    simp only [Bool.false_eq_true, if_false]
    gi_wp2_with (first
      | (gi_at_call 69; refine hmd.out.mono ?_; rintro e w1 ⟨rfl, rfl⟩)
      | (gi_at_call 28; refine hIM.out.mono ?_; rintro e w2 ⟨rfl, hf2⟩; have HF2 := Lib.hid (HF0.out.trans hf2); clear hf2))
    refine ⟨.slice none 0 0, by simp [results, Tryz.results29, go_sem], _, rfl, ⟨by simp, none, 0, rfl, fun i p hp => by simp at hp⟩, (fun b hb => by cases hb), HF2.out⟩
  | true =>
    rw [hml] at hIM
    simp only [if_true]
    have hpos : Hid (∀ p ∈ L, 0 ≤ p.2 ∧ p.2 ≤ 1099511627776) := Lib.hid (mayL_pos hml)
    have h16 : Hid (L.length ≤ 16) := Lib.hid (by unfold mayL at hml; simp at hml; exact hml.2)
    clear hml
    gi_wp2_with (first
      | (gi_at_call 69; refine hmd.out.mono ?_; rintro e w1 ⟨rfl, rfl⟩)
      | (gi_at_call 28; refine hIM.out.mono ?_; rintro e w2 ⟨rfl, hf2⟩; have HF2 := Lib.hid (HF0.out.trans hf2); have HB2 := Lib.hid (hf2.at_ HB0.out (fun h => h)); clear hf2)
      | (gi_at_call 58; refine (callsIn_wide.2 (iAll _ _ _ _)).mono ?_; rintro e w5 ⟨rfl, rfl⟩))
    have hsz2 := HF2.out.size
    obtain ⟨ob, hob⟩ : ∃ ob, w2.heap.size = ob := ⟨_, rfl⟩
    have hcb : Boxed ((w2.alloc (.cells #[.slice none 0 0] 27)).alloc (.cells #[.slice a N c] 27)) ob 27 (.slice none 0 0) := heap_keep (heap_at hob.symm _) _
    have hBx : Boxed ((w2.alloc (.cells #[.slice none 0 0] 27)).alloc (.cells #[.slice a N c] 27)) (ob + 1) 27 (.slice a N c) := heap_at (by simp; omega) _
    have hsb : ((w2.alloc (.cells #[.slice none 0 0] 27)).alloc (.cells #[.slice a N c] 27)).heap[n0]? = some (.cells #[.pointer (some ⟨g, 0, none⟩)] 58) := heap_keep (heap_keep HB2.out _) _
    have hF5 : Fr (fun _ => False) w ((w2.alloc (.cells #[.slice none 0 0] 27)).alloc (.cells #[.slice a N c] 27)) := (HF2.out.alloc _).alloc _
    have hs5 : ((w2.alloc (.cells #[.slice none 0 0] 27)).alloc (.cells #[.slice a N c] 27)).heap.size = ob + 2 := by simp; omega
    have hnob : n0 < ob := by have := (Array.getElem?_eq_some_iff.1 HB2.out).1; omega
    obtain ⟨W5, hW5⟩ : ∃ W5, (w2.alloc (.cells #[.slice none 0 0] 27)).alloc (.cells #[.slice a N c] 27) = W5 := ⟨_, rfl⟩
    rw [hW5] at hcb hBx hsb hF5 hs5 ⊢
    rw [hob]
    have hL5 := HL.out.fr hF5 (fun b hb => hb.elim)
    have HCB := Lib.hid hcb; have HSB := Lib.hid hsb; have HF5 := Lib.hid hF5; have HS5 := Lib.hid hs5
    clear hW5 hob hsz2 hF5 hcb hsb HF2 HB2
    refine rangeX (w0 := W5) (X := L) (S := fun b => b = ob) rfl (enters_of Tryz.func95 (by kernel_rfl) rfl)
      (iAll1 _ W5 _ _ L hBx hL5 (by omega) (fun hl b hb e => by have := HOB.out hl b e; omega)) (Below.refl _ _) (fun b hb => by omega) (fun _ => rfl)
      (OfJ w W5 n0 ob g A L) (fun _ _ _ _ => False)
      (fun k C W W' hs hf => hs.fa hf (by omega)) (fun c k C W W' hs hf => hs)
      ⟨HSB.out, ⟨_, HCB.out, World.ownsRow_nil _ _ _ _, fun b hb => by cases hb⟩, HF5.out.mono (fun _ _ h => h.elim), Fr.refl _ _⟩ ?round ?done ?stop
    case stop => intro D c k C W hD hk hX; exact hX.elim
    case round =>
      rintro lp j x C W hx hlp hi hr
      dsimp only [encIt]
      gi_wp2
      refine Took.mk (Fr.refl _ _) hi ?_
      rintro Wb ⟨hQ, ⟨v, hcol⟩, hFw, hF5w⟩ hrb hf hsz hsw hCC _
      have hok := hokl.out j x hx
      have hpos := hpos.out x (List.mem_of_getElem? hx)
      have hjl := (List.getElem?_eq_some_iff.1 hx).1
      have htk : offerS A (L.take (j + 1)) = offerS A (L.take j) ++ offerS A [x] := by rw [List.take_add_one, hx, offerS_app]; rfl
      have hol : (offerS A (L.take j)).length ≤ 16 := by have h1 := offerS_len A (L.take j); have h2 := h16.out; rw [List.length_take] at h1; omega
      obtain ⟨gd, n⟩ := x
      dsimp only at hok hpos ⊢
      have cs := cell_obj hQ 0 (.pointer (some ⟨g, 0, none⟩)) rfl
      have hSW : SA Wb g TS A := HSA.out.fr hFw (fun b hb e => by have := HSA.out.lt b hb; omega)
      have hLv := Lib.hid (callsIn_wide (n := 0) |>.2 (sLevel Wb g TS A gd hSW hok))
      have hRok := (HAA.out.at_ gd).b.a0
      obtain ⟨R, hRR⟩ : ∃ R, rowAt A gd = R := ⟨_, rfl⟩
      rw [hRR] at hLv hRok
      have hof : Hid (offerS A [(gd, n)] = if 0 < min n R.free then [(gd, min n R.free)] else []) := Lib.hid (by
        unfold offerS
        simp only [List.filterMap_cons, List.filterMap_nil, hRR]
        split <;> split <;> simp_all)
      unfold SR.lev at hLv
      clear hRR
      obtain ⟨f0, f1, f2, f3, f4, f5, f6, f7, f8, f9, f10⟩ := R
      dsimp only at hLv hRok hof
      have hfl : ∀ W, (Instr.field 98 (.agg #[.int .i64 f0, .int .i64 f1, .int .i64 f2, .int .i64 f3]) 0).run Tryz.prog W = .ok (.int .i64 f0) W := fun W => by kernel_rfl
      have HQ := Lib.hid hQ; have HFW := Lib.hid hFw; have HF5W := Lib.hid hF5w; have HCOL := Lib.hid hcol; have HTK := Lib.hid htk; have HCC := Lib.hid hCC; have HX := Lib.hid hx; have HOK := Lib.hid hok
      clear hi hr hf hrb hQ hFw hF5w htk hx hok hSW hCC
      have hIG : okI (min n f0) := by unfold okI; have := hRok; omega
      have hIG := Lib.hid hIG
      by_cases hpm : 0 < min n f0
      · obtain ⟨M, hM⟩ : ∃ M, min n f0 = M := ⟨_, rfl⟩
        have HM := Lib.hid hM
        have hof1 : Hid (offerS A [(gd, n)] = [(gd, M)]) := Lib.hid (by rw [hof.out, if_pos hpm, hM])
        clear hof
        gi_wp2_with (first
          | (gi_at_call 60; refine hLv.out.mono ?_; rintro e w6 ⟨rfl, hf6⟩; have HF6 := Lib.hid hf6; have hcol6 : Col w6 (ob + 2) ob 27 65 2 C v _ _ := ⟨hf6.box HCOL.out.box (fun h => h), hf6.row HCOL.out.row (fun _ _ h => h), HCOL.out.mine⟩; have hco := hcol6.box.cell; clear hf6)
          | (gi_at_builtin; refine wpListIn_append_own_at _ rfl _ _ 27 rfl (ob + 2) 65 i0 (.agg #[.string ⟨#[]⟩, .int .i64 0]) 2 24 Tryz.underlying27 hi' hz0 hz1 hz2 rfl (by decide) _ _ _ rfl (hcol6.row.alloc _) ⟨w6.heap.size, 0, none⟩ 1 1 [vS gd, .int .i64 M] rfl rfl (cell_two _ _ _ _) (by intro u hu; simp only [List.mem_cons, List.not_mem_nil, or_false] at hu; rcases hu with rfl | rfl <;> rfl) (by unfold maxLen; omega) (by omega) (by have := HF6.out.size; simp; omega) ?_; intro v' w1 hown' hgrow _ hat; obtain ⟨g', cap', rfl⟩ := ownsRow_succ hown'; obtain ⟨hv1, hc1, hf1⟩ := hcol6.appended (W0 := W) (S := fun b => b = ob) (by decide) rfl (Nat.le_trans hsz HF6.out.size) hown' hgrow hat; have hcc := hv1.cell; have hcf := hv1.frozen; have HC1 := Lib.hid hc1; have HF1 := Lib.hid hf1; clear hc1 hf1 hat hgrow hown' hcol6))
        have hfA := (HF6.out.mono (fun _ _ e => e.elim)).trans HF1.out
        have hsz0 := HF5W.out.size
        have hcc0 : ∀ b, b < Wb.heap.size → (b = ob ∨ CC C W w6 b) → b = ob ∨ ob + 2 ≤ b := by
          rintro b hb (e | e | e)
          · exact .inl e
          · have := HCC.out b e; omega
          · have := e.1; omega
        have eLn : (offerS A (L.take j)).length + 1 = (offerS A (L.take (j + 1))).length := by rw [HTK.out, hof1.out, List.length_append]; rfl
        have eCs : itCs (offerS A (L.take j)) ++ [vS gd, .int .i64 M] = itCs (offerS A (L.take (j + 1))) := by rw [HTK.out, hof1.out, itCs_app]; rfl
        refine ⟨hfA.mono (fun b hb e => e.imp_right (fun e => e.elim .inl (fun e => .inr ⟨e.1, hb⟩))), hfA.at_ HQ.out (fun e => ?_), ⟨_, HC1.out.congr eLn eCs⟩, HFW.out.trans' hfA (fun b hb e => ?_), HF5W.out.trans' hfA (fun b hb e => ?_)⟩
        · have := hcc0 _ (Array.getElem?_eq_some_iff.1 HQ.out).1 e; omega
        · have := HFW.out.size; have := hcc0 _ (by omega) e; have := HS.out; omega
        · have := hcc0 _ (by omega) e; omega
      · have hof1 : Hid (offerS A [(gd, n)] = []) := Lib.hid (by rw [hof.out, if_neg hpm])
        clear hof
        gi_wp2_with (gi_at_call 60; refine hLv.out.mono ?_; rintro e w6 ⟨rfl, hf6⟩; have HF6 := Lib.hid hf6; clear hf6)
        have h6 := HF6.out
        refine ⟨h6.mono (fun _ _ e => e.elim), h6.at_ HQ.out (fun e => e), ⟨v, ?_⟩, HFW.out.trans (h6.mono fun _ _ e => e.elim), HF5W.out.trans (h6.mono fun _ _ e => e.elim)⟩
        rw [HTK.out, hof1.out, List.append_nil]
        exact ⟨h6.box HCOL.out.box (fun h => h), h6.row HCOL.out.row (fun _ _ h => h), fun b hb => .inl (HCOL.out.mine b hb)⟩
    case done =>
      rintro D C W hD ⟨hQ, ⟨v, hcol⟩, hFw, hF5w⟩ hr hK
      have hco := hcol.box.cell
      rw [show L.take L.length = L from List.take_length] at hcol
      have hown := hcol.row
      have HFW := Lib.hid hFw; have HCOL := Lib.hid hcol; have HKK := Lib.hid hK; have HR := Lib.hid hr; have HD := Lib.hid hD
      clear hcol hFw hK hF5w hQ hr hD hown
      gi_wp2
      refine ⟨by simp, .inl ⟨_, _, rfl, run_takeDeferred HKK.out, ?_⟩⟩
      refine ⟨_, results_tmp rfl _ _ _, v, rfl, ?_, ?_, ?_⟩
      · exact (Il.own (ownsRow_putObj HCOL.out.row _ HKK.out rfl) (offerS_ok fun p hp => ⟨by obtain ⟨i, hi⟩ := List.mem_iff_getElem?.1 hp; exact hokl.out i p hi, hpos.out p hp⟩)).1
      · intro b hb
        have := HCOL.out.row.lt b hb
        have e2 : (W.putObj D (.deferred none)).heap.size = W.heap.size := by simp
        omega
      · have := HS.out; have := HS5.out
        exact (HFW.out.putObj (l := D) (fun h => by have := HD.out; omega) _).mono (fun b hb e => by omega)
end Go.Proofs.YtogphlnakdnchaaGreat

namespace Go.Proofs.YtogphlnakdnchaaGreat
open Go.RowKit Go.Maps
theorem goodB_len {s : Str} (h : goodB s = true) : s.length ≤ 16 := by
  unfold goodB at h
  simp at h
  omega
theorem textB_len {s : Str} (h : s.length ≤ 16) : (textB s).length ≤ 25 := by
  unfold textB
  rw [List.length_append, sB_len]
  have := (numB_len (n := (s.length : Int)) (by unfold okI; omega)).2
  omega
end Go.Proofs.YtogphlnakdnchaaGreat

namespace Go.Proofs.YtogphlnakdnchaaGreat
open Go.RowKit Go.Maps
theorem FindR.no {A : Stk} {s : Str} {i : Int} (h : FindR A s i) (hn : getS A s = none) : i = -1 := by
  rcases h with ⟨k, r, -, -, h⟩ | ⟨h, -⟩
  · rw [hn] at h; cases h
  · exact h
theorem FindR.yes {A : Stk} {s : Str} {i : Int} {r : SR} (h : FindR A s i) (hn : getS A s = some r) : ∃ k : Nat, i = k := by
  rcases h with ⟨k, r, h, -, -⟩ | ⟨-, h⟩
  · exact ⟨k, h⟩
  · rw [hn] at h; cases h
theorem countS_may {A : Stk} {s : Str} {n : Int} (h : mayI n = false) : countS A s n = (0, 1, A) := by unfold countS; rw [if_pos h]
theorem countS_none {A : Stk} {s : Str} {n : Int} (h : mayI n = true) (h1 : getS A s = none) : countS A s n = (0, 71, A) := by unfold countS; rw [if_neg (by rw [h]; decide), h1]
theorem countS_held {A : Stk} {s : Str} {n : Int} {r : SR} (h : mayI n = true) (h1 : getS A s = some r) (h2 : n < r.held) : countS A s n = (0, 70, A) := by unfold countS; rw [if_neg (by rw [h]; decide), h1]; dsimp only; rw [if_pos h2]
theorem countS_some {A : Stk} {s : Str} {n f0 f1 f2 f3 f4 f5 f6 f7 f8 f9 f10 : Int} (h : mayI n = true) (h1 : getS A s = some ⟨f0, f1, f2, f3, f4, f5, f6, f7, f8, f9, f10⟩) (h2 : ¬ n < f1) :
    countS A s n = if (SR.mk (n - f1) f1 f2 f3 f4 f5 (f6 + (n - f1 - f0)) f7 f8 f9 f10).right = true then (n - f1 - f0, 0, putS ktS.lt A s (SR.mk (n - f1) f1 f2 f3 f4 f5 (f6 + (n - f1 - f0)) f7 f8 f9 f10)) else (0, 50, A) := by
  unfold countS
  rw [if_neg (by rw [h]; decide), h1]
  dsimp only
  rw [if_neg h2, show f0 + (n - f1 - f0) = n - f1 by omega]
set_option maxRecDepth 100000 in
set_option maxHeartbeats 8000000 in
theorem r7Count {X : List Value × TypeId} (w : World) (g : Nat) (TS : Nat → Prop) (A : Stk) (s : Str) (n : Int) (h : RSX X w g TS A) (hA : SOk A) :
    Calls Tryz.prog 47 #[.pointer (some ⟨g, 0, none⟩), vS s, .int .i64 n] w fun e w' =>
      e = .returned (.tuple #[.int .i64 (countS A s n).1, .int .i64 (countS A s n).2.1]) ∧ ∃ TS', RSX X w' g TS' (countS A s n).2.2 ∧ Stp TS w w' TS' := by
  obtain ⟨Z, hZ⟩ : ∃ Z, countS A s n = Z := ⟨_, rfl⟩
  rw [hZ]
  have hM := Lib.hid (fun W => r5May W n)
  have H := Lib.hid h; have HA := Lib.hid hA; have HZ := Lib.hid hZ
  have hl64 : (A.length : Int) ≤ 1048576 := by have := hA.len; omega
  have HL := Lib.hid hl64
  clear h hZ hA hl64
  have hFi := Lib.hid (r7Find w g TS A s H.out HA.out.rise (by have := HL.out; omega))
  cases hm : mayI n with
  | false =>
    have hz := Lib.hid (HZ.out.symm.trans (countS_may hm))
    rw [hm] at hM
    clear hm
    go_enter Tryz.func47, Tryz.ntmps47
    go_wp2_with (go_at_call 84; refine (hM.out _).mono ?_; rintro e w1 ⟨rfl, rfl⟩)
    go_ret2
    rw [hz.out]
    exact ⟨rfl, TS, H.out, Stp.refl (Fr.refl _ _)⟩
  | true =>
    have hn := mayI_iff.1 hm
    rw [hm] at hM
    cases hg : getS A s with
    | none =>
      have hz := Lib.hid (HZ.out.symm.trans (countS_none hm hg))
      have HG := Lib.hid hg
      clear hm hg
      go_enter Tryz.func47, Tryz.ntmps47
      go_wp2_with (first
        | (go_at_call 84; refine (hM.out _).mono ?_; rintro e w1 ⟨rfl, rfl⟩)
        | (go_at_call 85; refine hFi.out.mono ?_; rintro e w1 ⟨i, rfl, hfi, hw1⟩; obtain rfl : w = w1 := hw1.symm; obtain rfl := hfi.no HG.out; clear hfi))
      go_ret2
      rw [hz.out]
      exact ⟨rfl, TS, H.out, Stp.refl (Fr.refl _ _)⟩
    | some r =>
      have HG := Lib.hid hg; have HMM := Lib.hid hm
      have hrA : rowAt A s = r := by unfold rowAt; rw [hg]; rfl
      have hok := HA.out.row _ (getS_memS hg)
      have hRow := Lib.hid (r7Row w g TS A s H.out HA.out.rise (by have := HL.out; omega))
      rw [hrA] at hRow
      obtain ⟨⟨b0, b1, b2, b3, c0, c1, c2, c3, c4, c5⟩, -, -⟩ := id hok
      have hct := hok.counted
      obtain ⟨f0, f1, f2, f3, f4, f5, f6, f7, f8, f9, f10⟩ := r
      dsimp only at b0 b1 hct ⊢
      unfold rowV at hRow
      dsimp only at hRow
      obtain ⟨b0, b0'⟩ := b0; obtain ⟨b1, b1'⟩ := b1; obtain ⟨hct, hct'⟩ := hct; obtain ⟨hn, hn'⟩ := hn
      clear hm hg hok hrA b2 b3 c0 c1 c2 c3 c4 c5
      by_cases hh : n < f1
      · have hz := Lib.hid (HZ.out.symm.trans (countS_held HMM.out HG.out hh))
        go_enter Tryz.func47, Tryz.ntmps47
        go_wp2_with (first
          | (go_at_call 84; refine (hM.out _).mono ?_; rintro e w1 ⟨rfl, rfl⟩)
          | (go_at_call 85; refine hFi.out.mono ?_; rintro e w1 ⟨i, rfl, hfi, hw1⟩; obtain rfl : w = w1 := hw1.symm; obtain ⟨k, rfl⟩ := hfi.yes HG.out; clear hfi)
          | (go_at_call 86; refine hRow.out.mono ?_; rintro e w2 ⟨rfl, hf2⟩; have HF2 := Lib.hid hf2; clear hf2))
        go_ret2
        rw [hz.out]
        exact ⟨rfl, TS, H.out.fr (HF2.out.alloc _) (fun _ _ e => e), Stp.refl (HF2.out.alloc _)⟩
      · have hz1 := Lib.hid (HZ.out.symm.trans (countS_some HMM.out HG.out hh))
        obtain ⟨ri, hri⟩ : ∃ b, (SR.mk (n - f1) f1 f2 f3 f4 f5 (f6 + (n - f1 - f0)) f7 f8 f9 f10).right = b := ⟨_, rfl⟩
        have hRi := Lib.hid (fun W => r7Right W s ⟨n - f1, f1, f2, f3, f4, f5, f6 + (n - f1 - f0), f7, f8, f9, f10⟩)
        rw [hri] at hRi hz1
        unfold rowV at hRi
        dsimp only at hRi
        clear hri
        cases ri with
        | false =>
          have hz : Hid (Z = (0, 50, A)) := Lib.hid hz1.out
          go_enter Tryz.func47, Tryz.ntmps47
          go_wp2_with (first
            | (go_at_call 84; refine (hM.out _).mono ?_; rintro e w1 ⟨rfl, rfl⟩)
            | (go_at_call 85; refine hFi.out.mono ?_; rintro e w1 ⟨i, rfl, hfi, hw1⟩; obtain rfl : w = w1 := hw1.symm; obtain ⟨k, rfl⟩ := hfi.yes HG.out; clear hfi)
            | (go_at_call 86; refine hRow.out.mono ?_; rintro e w2 ⟨rfl, hf2⟩; have HF2 := Lib.hid hf2; clear hf2)
            | (go_at_call 87; refine (hRi.out _).mono ?_; rintro e w3 ⟨rfl, hf3⟩; have HF3 := Lib.hid hf3; clear hf3))
          go_ret2
          rw [hz.out]
          have hF : Fr (fun _ => False) w w3 := by
            refine Fr.trans ?_ HF3.out
            exact HF2.out.alloc _
          exact ⟨rfl, TS, H.out.fr hF (fun _ _ e => e), Stp.refl hF⟩
        | true =>
          have hz : Hid (Z = (n - f1 - f0, 0, putS ktS.lt A s ⟨n - f1, f1, f2, f3, f4, f5, f6 + (n - f1 - f0), f7, f8, f9, f10⟩)) := Lib.hid hz1.out
          have hSet := Lib.hid (fun W (hR : RSX X W g TS A) => r7Set W g TS A s ⟨n - f1, f1, f2, f3, f4, f5, f6 + (n - f1 - f0), f7, f8, f9, f10⟩ hR HA.out.rise HL.out)
          unfold rowV at hSet
          dsimp only at hSet
          go_enter Tryz.func47, Tryz.ntmps47
          go_wp2_with (first
            | (go_at_call 84; refine (hM.out _).mono ?_; rintro e w1 ⟨rfl, rfl⟩)
            | (go_at_call 85; refine hFi.out.mono ?_; rintro e w1 ⟨i, rfl, hfi, hw1⟩; obtain rfl : w = w1 := hw1.symm; obtain ⟨k, rfl⟩ := hfi.yes HG.out; clear hfi)
            | (go_at_call 86; refine hRow.out.mono ?_; rintro e w2 ⟨rfl, hf2⟩; have HF2 := Lib.hid hf2; clear hf2)
            | (go_at_call 87; refine (hRi.out _).mono ?_; rintro e w3 ⟨rfl, hf3⟩; have HF3 : Hid (Fr (fun _ => False) w w3) := Lib.hid ((HF2.out.alloc _).trans hf3); have xr := hf3.at_ (heap_new _ _) (fun e => e); have x0 := cell_obj xr 0 (vS s) rfl; have x1 := cell_obj xr 1 (.int .i64 (n - f1)) rfl; have x2 := cell_obj xr 2 (.int .i64 f1) rfl; have x3 := cell_obj xr 3 (.int .i64 f2) rfl; have x4 := cell_obj xr 4 (.int .i64 f3) rfl; have x5 := cell_obj xr 5 (.int .i64 f4) rfl; have x6 := cell_obj xr 6 (.int .i64 f5) rfl; have x7 := cell_obj xr 7 (.int .i64 (f6 + (n - f1 - f0))) rfl; have x8 := cell_obj xr 8 (.int .i64 f7) rfl; have x9 := cell_obj xr 9 (.int .i64 f8) rfl; have x10 := cell_obj xr 10 (.int .i64 f9) rfl; have x11 := cell_obj xr 11 (.int .i64 f10) rfl; clear hf3 xr)
            | (go_at_call 88; refine (hSet.out _ (H.out.fr HF3.out (fun _ _ e => e))).mono ?_; rintro e w4 ⟨⟨v, rfl⟩, TS', hR4, hS4⟩; have HR4 := Lib.hid hR4; have HS4 := Lib.hid hS4; clear hR4 hS4))
          go_ret2
          rw [hz.out]
          exact ⟨rfl, TS', HR4.out, (Stp.refl HF3.out).trans HS4.out⟩
/-- Free: where the list may be. -/
theorem offerS_take {A : Stk} {L : Its} {k : Nat} {p : Str × Int} (hp : L[k]? = some p) : offerS A (L.take (k + 1)) = offerS A (L.take k) ++ (if 0 < min p.2 (rowAt A p.1).free then [(p.1, min p.2 (rowAt A p.1).free)] else []) := by
  rw [List.take_add_one, hp, offerS_app]
  congr 1
  unfold offerS
  simp only [Option.toList, List.filterMap_cons, List.filterMap_nil]
  split <;> simp_all
structure FreI (W0 : World) (n0 : Nat) (A : Stk) (L : Its) (k : Nat) (v : Value) (W : World) : Prop where
  own : W.ownsRow n0 65 2 v (offerS A (L.take k)).length (itCs (offerS A (L.take k)))
  fr : Fr (fun b => n0 ≤ b) W0 W
theorem FreI.push {W0 W W' : World} {n0 k : Nat} {A : Stk} {L : Its} {v v' : Value} {gd : Str} {M : Int} {o : Obj} (h : FreI W0 n0 A L k v W) (hst : offerS A (L.take (k + 1)) = offerS A (L.take k) ++ [(gd, M)])
    (hown : W'.ownsRow n0 65 2 v' ((offerS A (L.take k)).length + 1) (itCs (offerS A (L.take k)) ++ [vS gd, .int .i64 M])) (hgrow : (W.alloc o).grownBy W' v.ownBlock) : FreI W0 n0 A L (k + 1) v' W' := by
  refine ⟨?_, (h.fr.alloc o).trans (Fr.grown hgrow (fun b hb _ => (h.own.lt b hb).1))⟩
  rw [hst, itCs_app, List.length_append]
  exact hown
set_option maxRecDepth 100000 in
set_option maxHeartbeats 8000000 in
theorem r7Free {X : List Value × TypeId} (w : World) (g : Nat) (TS : Nat → Prop) (A : Stk) (v : Value) (L : Its) (h : RSX X w g TS A) (hA : SOk A) (hv : Il w v L) (hm : mayL L = true) :
    Calls Tryz.prog 80 #[.pointer (some ⟨g, 0, none⟩), v] w fun e w' => ∃ v', e = .returned v' ∧ Il w' v' (offerS A L) ∧ (∀ b, v'.ownBlock = some b → w.heap.size ≤ b ∧ b < w'.heap.size) ∧ Fr (fun _ => False) w w' := by
  obtain ⟨i0, hi', hz0, hz1, hz2⟩ := info_parts infoItem
  obtain ⟨n0, hn0⟩ : ∃ n0, w.heap.size = n0 := ⟨_, rfl⟩
  obtain ⟨a, c, rfl⟩ := hv.sl
  obtain ⟨hm1, hm2⟩ := mayL_iff.1 hm
  have hall := (its_all hm1).2
  obtain ⟨N, hN⟩ : ∃ N, L.length = N := ⟨_, rfl⟩
  have HV := Lib.hid hv; have HALL := Lib.hid hall; have HN := Lib.hid hN; have H := Lib.hid h; have HA := Lib.hid hA; have HS := Lib.hid hn0
  have hN16 : (N : Int) ≤ 16 := by omega
  rw [hN] at HV ⊢
  have HLT := Lib.hid hv.lt
  rw [hN] at HLT
  have hKeep : Hid (∀ W, Fr (fun b => n0 ≤ b) w W → RSX X W g TS A ∧ Il W (.slice a N c) L) := Lib.hid (fun W hf => ⟨H.out.fr hf (fun b hb e => by have := H.out.lt b hb; omega), HV.out.fr hf (fun b hb => by omega)⟩)
  have hl64 : (A.length : Int) ≤ 1099511627776 := by have := hA.len; omega
  have HL := Lib.hid hl64
  have hfin : Hid (∀ W v', FreI w n0 A L N v' W → Il W v' (offerS A L) ∧ (∀ b, v'.ownBlock = some b → w.heap.size ≤ b ∧ b < W.heap.size) ∧ Fr (fun _ => False) w W) := Lib.hid (fun W v' hI => by
    have ho := hI.own
    rw [List.take_of_length_le (by rw [hN]; exact Nat.le_refl _)] at ho
    have hi := Il.own ho (offerS_ok (fun p hp => by
      have := HALL.out p hp
      have h16 := goodB_len this.1
      exact ⟨by unfold okS maxLen; omega, by omega, this.2.2.1⟩))
    exact ⟨hi.1, fun b hb => by rw [hn0]; exact hi.2 b hb, hI.fr.mono (fun b hb e => by omega)⟩)
  clear h hA hv hm hm1 hm2 hall hN hl64 hn0
  go_enter Tryz.func80, Tryz.ntmps80
  go_wp2_with fail
  go_loopw [6, 5] (fun i v wr => ∃ k : Nat, k ≤ N ∧ i = .int .i64 k ∧ FreI w n0 A L k v wr) (fun i _ _ => N - (intOf i).toNat)
  case atStart => exact ⟨0, Nat.zero_le _, rfl, ⟨by simpa [offerS, itCs] using World.ownsRow_nil w n0 65 2, Fr.refl _ _⟩⟩
  case round =>
    obtain ⟨k, hk, rfl, hI⟩ := hrel
    have HI := Lib.hid hI
    clear hI
    by_cases hlt : k < N
    · obtain ⟨p, hp⟩ : ∃ p, L[k]? = some p := ⟨L[k]'(by rw [HN.out]; exact hlt), List.getElem?_eq_getElem _⟩
      obtain ⟨hR0, hV0⟩ := hKeep.out wr HI.out.fr
      have hlI : (k : Int) < N := by omega
      obtain ⟨ad, rfl, ho1, ho2, p0, p1⟩ := hV0.at_ hp
      have hrow := Lib.hid (r7Row wr g TS A p.1 hR0 HA.out.rise HL.out)
      have hst := Lib.hid (offerS_take (A := A) hp)
      have hfb := ((HA.out.at_ p.1).b).a0
      have hpb := HALL.out p (List.mem_of_getElem? hp)
      have hol : Hid ((offerS A (L.take k)).length ≤ k) := Lib.hid (by have := offerS_len A (L.take k); rw [List.length_take] at this; omega)
      have hF0 : Hid (n0 ≤ wr.heap.size) := Lib.hid (by have := HI.out.fr.size; have := HS.out; omega)
      obtain ⟨RW, hRW⟩ : ∃ RW, rowAt A p.1 = RW := ⟨_, rfl⟩
      rw [hRW] at hrow hst hfb
      obtain ⟨gd, m⟩ := p
      obtain ⟨f0, f1, f2, f3, f4, f5, f6, f7, f8, f9, f10⟩ := RW
      dsimp only at ho1 ho2 p0 p1 hrow hst hfb hpb
      unfold rowV at hrow
      dsimp only at hrow
      obtain ⟨hfb0, hfb1⟩ := hfb
      obtain ⟨-, hm0, hm1, -⟩ := hpb
      have hfl1 : ∀ W, (Instr.field 132 (.agg #[vS gd, .int .i64 f0, .int .i64 f1, .int .i64 f2, .int .i64 f3, .int .i64 f4, .int .i64 f5, .int .i64 f6, .int .i64 f7, .int .i64 f8, .int .i64 f9, .int .i64 f10]) 1).run Tryz.prog W = .ok (.agg #[.int .i64 f0, .int .i64 f1, .int .i64 f2, .int .i64 f3]) W := fun W => by kernel_rfl
      have hfl2 : ∀ W, (Instr.field 98 (.agg #[.int .i64 f0, .int .i64 f1, .int .i64 f2, .int .i64 f3]) 0).run Tryz.prog W = .ok (.int .i64 f0) W := fun W => by kernel_rfl
      have HO1 := Lib.hid ho1; have HO2 := Lib.hid ho2; have HV0 := Lib.hid hV0
      clear hR0 hV0 hp hRW ho1 ho2
      have hF : Hid (∀ W', Fr (fun _ => False) wr W' → FreI w n0 A L k u5 W') := Lib.hid (fun W' hf => ⟨hf.row HI.out.own (fun _ _ e => e), HI.out.fr.trans' hf (fun _ _ e => e.elim)⟩)
      by_cases hlt2 : m < f0
      · have hst2 : Hid (offerS A (L.take (k + 1)) = offerS A (L.take k) ++ [(gd, m)]) := Lib.hid (by rw [hst.out, if_pos (by omega), Int.min_eq_left (by omega)])
        go_wp2_with (first
          | (go_at_call 86; refine hrow.out.mono ?_; rintro e w2 ⟨rfl, hf2⟩; have HF2 := Lib.hid hf2; have HI2 := Lib.hid (hF.out w2 hf2); have HZ2 : Hid (n0 ≤ w2.heap.size) := Lib.hid (Nat.le_trans hF0.out hf2.size); have p1 := hf2.cell p1 (fun h => h); have p0 := hf2.cell p0 (fun h => h); clear hf2)
          | (at_builtin; refine wpList_append_src rfl _ _ 27 rfl n0 65 i0 (.agg #[.string ⟨#[]⟩, .int .i64 0]) 24 Tryz.underlying27 hi' hz0 hz1 hz2 rfl (by decide) _ _ (itCs (offerS A (L.take k))) rfl (((Fr.refl (fun _ => False) w2).alloc _).row HI2.out.own (fun _ _ e => e)) 1 rfl (rd_obj (cs := [vS gd, .int .i64 m]) (heap_new _ _) rfl) (by intro u hu; simp only [List.mem_cons, List.not_mem_nil, or_false] at hu; rcases hu with rfl | rfl <;> rfl) (by have := hol.out; unfold maxLen; omega) (by have := hol.out; omega) (by have := HZ2.out; simp; omega) ?_; intro v1 w1 hown1 hgrow1 hloc1; have HP1 := Lib.hid (HI2.out.push hst2.out hown1 hgrow1); clear hown1 hgrow1 hloc1))
        go_roundw
        case rel => exact ⟨k + 1, by omega, by go_num, HP1.out⟩
        case measure => simp [intOf]; omega
      · by_cases hf00 : 0 < f0
        · have hst2 : Hid (offerS A (L.take (k + 1)) = offerS A (L.take k) ++ [(gd, f0)]) := Lib.hid (by rw [hst.out, if_pos (by omega), Int.min_eq_right (by omega)])
          go_wp2_with (first
          | (go_at_call 86; refine hrow.out.mono ?_; rintro e w2 ⟨rfl, hf2⟩; have HF2 := Lib.hid hf2; have HI2 := Lib.hid (hF.out w2 hf2); have HZ2 : Hid (n0 ≤ w2.heap.size) := Lib.hid (Nat.le_trans hF0.out hf2.size); have p1 := hf2.cell p1 (fun h => h); have p0 := hf2.cell p0 (fun h => h); clear hf2)
          | (at_builtin; refine wpList_append_src rfl _ _ 27 rfl n0 65 i0 (.agg #[.string ⟨#[]⟩, .int .i64 0]) 24 Tryz.underlying27 hi' hz0 hz1 hz2 rfl (by decide) _ _ (itCs (offerS A (L.take k))) rfl (((Fr.refl (fun _ => False) w2).alloc _).row HI2.out.own (fun _ _ e => e)) 1 rfl (rd_obj (cs := [vS gd, .int .i64 f0]) (heap_new _ _) rfl) (by intro u hu; simp only [List.mem_cons, List.not_mem_nil, or_false] at hu; rcases hu with rfl | rfl <;> rfl) (by have := hol.out; unfold maxLen; omega) (by have := hol.out; omega) (by have := HZ2.out; simp; omega) ?_; intro v1 w1 hown1 hgrow1 hloc1; have HP1 := Lib.hid (HI2.out.push hst2.out hown1 hgrow1); clear hown1 hgrow1 hloc1))
          go_roundw
          case rel => exact ⟨k + 1, by omega, by go_num, HP1.out⟩
          case measure => simp [intOf]; omega
        · have hst2 : Hid (offerS A (L.take (k + 1)) = offerS A (L.take k)) := Lib.hid (by rw [hst.out, if_neg (by omega), List.append_nil])
          go_wp2_with (first
          | (go_at_call 86; refine hrow.out.mono ?_; rintro e w2 ⟨rfl, hf2⟩; have HF2 := Lib.hid hf2; have HI2 := Lib.hid (hF.out w2 hf2); have HZ2 : Hid (n0 ≤ w2.heap.size) := Lib.hid (Nat.le_trans hF0.out hf2.size); have p1 := hf2.cell p1 (fun h => h); have p0 := hf2.cell p0 (fun h => h); clear hf2)
          | (at_builtin; refine wpList_append_src rfl _ _ 27 rfl n0 65 i0 (.agg #[.string ⟨#[]⟩, .int .i64 0]) 24 Tryz.underlying27 hi' hz0 hz1 hz2 rfl (by decide) _ _ (itCs (offerS A (L.take k))) rfl (((Fr.refl (fun _ => False) w2).alloc _).row HI2.out.own (fun _ _ e => e)) 1 rfl (rd_obj (cs := [vS gd, .int .i64 f0]) (heap_new _ _) rfl) (by intro u hu; simp only [List.mem_cons, List.not_mem_nil, or_false] at hu; rcases hu with rfl | rfl <;> rfl) (by have := hol.out; unfold maxLen; omega) (by have := hol.out; omega) (by have := HZ2.out; simp; omega) ?_; intro v1 w1 hown1 hgrow1 hloc1; have HP1 := Lib.hid (HI2.out.push hst2.out hown1 hgrow1); clear hown1 hgrow1 hloc1))
          go_roundw
          case rel => exact ⟨k + 1, by omega, by go_num, ⟨by rw [hst2.out]; exact HI2.out.own, HI2.out.fr⟩⟩
          case measure => simp [intOf]; omega
    · obtain rfl : k = N := by omega
      go_wp2_with fail
      go_ret
      exact ⟨_, rfl, hfin.out _ _ HI.out⟩
end Go.Proofs.YtogphlnakdnchaaGreat

namespace Go.Proofs.YtogphlnakdnchaaGreat
open Go.RowKit Go.Maps
/-- How many there are of what a kind takes (-1: it takes from none). -/
def haveF (k : Int) (r : SR) : Int := match (roadF k).1 with | none => -1 | some i => r.get i
set_option maxRecDepth 100000 in
set_option maxHeartbeats 4000000 in
theorem r7Move0 (w : World) (g : Str) (f0 f1 f2 f3 f4 f5 f6 f7 f8 f9 f10 n : Int) (k : Int) (hk : ¬ (1 ≤ k ∧ k ≤ 11)) :
    Calls Tryz.prog 110 #[.int .i64 k, .agg #[vS g, .int .i64 f0, .int .i64 f1, .int .i64 f2, .int .i64 f3, .int .i64 f4, .int .i64 f5, .int .i64 f6, .int .i64 f7, .int .i64 f8, .int .i64 f9, .int .i64 f10], .int .i64 n] w fun e w' => e = .returned (.tuple #[.agg (rowV g (SR.move ⟨f0, f1, f2, f3, f4, f5, f6, f7, f8, f9, f10⟩ k n)), .int .i64 (haveF k ⟨f0, f1, f2, f3, f4, f5, f6, f7, f8, f9, f10⟩)]) ∧ Fr (fun _ => False) w w' := by
  obtain ⟨R, hR⟩ : ∃ R, Ending.returned (.tuple #[.agg (rowV g (SR.move ⟨f0, f1, f2, f3, f4, f5, f6, f7, f8, f9, f10⟩ k n)), .int .i64 (haveF k ⟨f0, f1, f2, f3, f4, f5, f6, f7, f8, f9, f10⟩)]) = R := ⟨_, rfl⟩
  rw [hR]
  have HR := Lib.hid hR
  clear hR
  have b1 : (k == 1) = false := by simp; omega
  have b2 : (k == 2) = false := by simp; omega
  have b3 : (k == 3) = false := by simp; omega
  have b4 : (k == 4) = false := by simp; omega
  have b5 : (k == 5) = false := by simp; omega
  have b6 : (k == 6) = false := by simp; omega
  have b7 : (k == 7) = false := by simp; omega
  have b8 : (k == 8) = false := by simp; omega
  have b9 : (k == 9) = false := by simp; omega
  have b10 : (k == 10) = false := by simp; omega
  have b11 : (k == 11) = false := by simp; omega
  have e0 : Hid (roadF k = (none, none, none)) := Lib.hid (by unfold roadF; rw [if_neg (by omega), if_neg (by omega), if_neg (by omega), if_neg (by omega), if_neg (by omega), if_neg (by omega), if_neg (by omega), if_neg (by omega), if_neg (by omega), if_neg (by omega), if_neg (by omega)])
  clear hk
  go_enter Tryz.func110, Tryz.ntmps110
  go_wp2_with fail
  refine bodyPost_ret (v := .tuple #[.agg #[vS g, .int .i64 f0, .int .i64 f1, .int .i64 f2, .int .i64 f3, .int .i64 f4, .int .i64 f5, .int .i64 f6, .int .i64 f7, .int .i64 f8, .int .i64 f9, .int .i64 f10], .int .i64 (-1)]) (by simp [results, Tryz.results110, go_sem]) rfl ⟨?_, ((Fr.refl _ w).alloc _).alloc _⟩
  rw [← HR.out]
  unfold haveF SR.move
  rw [e0.out]
  rfl
set_option maxRecDepth 100000 in
set_option maxHeartbeats 4000000 in
theorem r7Move1 (w : World) (g : Str) (f0 f1 f2 f3 f4 f5 f6 f7 f8 f9 f10 n : Int) (u0 : IntKind.i64.wrap (f0 + n) = f0 + n) (u4 : IntKind.i64.wrap (f4 + n) = f4 + n) :
    Calls Tryz.prog 110 #[.int .i64 (1), .agg #[vS g, .int .i64 f0, .int .i64 f1, .int .i64 f2, .int .i64 f3, .int .i64 f4, .int .i64 f5, .int .i64 f6, .int .i64 f7, .int .i64 f8, .int .i64 f9, .int .i64 f10], .int .i64 n] w fun e w' => e = .returned (.tuple #[.agg (rowV g (SR.move ⟨f0, f1, f2, f3, f4, f5, f6, f7, f8, f9, f10⟩ 1 n)), .int .i64 (haveF 1 ⟨f0, f1, f2, f3, f4, f5, f6, f7, f8, f9, f10⟩)]) ∧ Fr (fun _ => False) w w' := by
  obtain ⟨R, hR⟩ : ∃ R, Ending.returned (.tuple #[.agg (rowV g (SR.move ⟨f0, f1, f2, f3, f4, f5, f6, f7, f8, f9, f10⟩ 1 n)), .int .i64 (haveF 1 ⟨f0, f1, f2, f3, f4, f5, f6, f7, f8, f9, f10⟩)]) = R := ⟨_, rfl⟩
  rw [hR]
  have HR := Lib.hid hR
  clear hR
  go_enter Tryz.func110, Tryz.ntmps110
  go_wp2_with fail
  refine bodyPost_ret (v := .tuple #[.agg #[vS g, .int .i64 (f0 + n), .int .i64 f1, .int .i64 f2, .int .i64 f3, .int .i64 (f4 + n), .int .i64 f5, .int .i64 f6, .int .i64 f7, .int .i64 f8, .int .i64 f9, .int .i64 f10], .int .i64 (-1)]) (by simp [results, Tryz.results110, go_sem]) rfl ⟨?_, ((Fr.refl _ w).alloc _).alloc _⟩
  rw [← HR.out]
  rfl
set_option maxRecDepth 100000 in
set_option maxHeartbeats 4000000 in
theorem r7Move2 (w : World) (g : Str) (f0 f1 f2 f3 f4 f5 f6 f7 f8 f9 f10 n : Int) (u1 : IntKind.i64.wrap (f1 + n) = f1 + n) (v0 : IntKind.i64.wrap (f0 - n) = f0 - n) :
    Calls Tryz.prog 110 #[.int .i64 (2), .agg #[vS g, .int .i64 f0, .int .i64 f1, .int .i64 f2, .int .i64 f3, .int .i64 f4, .int .i64 f5, .int .i64 f6, .int .i64 f7, .int .i64 f8, .int .i64 f9, .int .i64 f10], .int .i64 n] w fun e w' => e = .returned (.tuple #[.agg (rowV g (SR.move ⟨f0, f1, f2, f3, f4, f5, f6, f7, f8, f9, f10⟩ 2 n)), .int .i64 (haveF 2 ⟨f0, f1, f2, f3, f4, f5, f6, f7, f8, f9, f10⟩)]) ∧ Fr (fun _ => False) w w' := by
  obtain ⟨R, hR⟩ : ∃ R, Ending.returned (.tuple #[.agg (rowV g (SR.move ⟨f0, f1, f2, f3, f4, f5, f6, f7, f8, f9, f10⟩ 2 n)), .int .i64 (haveF 2 ⟨f0, f1, f2, f3, f4, f5, f6, f7, f8, f9, f10⟩)]) = R := ⟨_, rfl⟩
  rw [hR]
  have HR := Lib.hid hR
  clear hR
  go_enter Tryz.func110, Tryz.ntmps110
  go_wp2_with fail
  refine bodyPost_ret (v := .tuple #[.agg #[vS g, .int .i64 (f0 - n), .int .i64 (f1 + n), .int .i64 f2, .int .i64 f3, .int .i64 f4, .int .i64 f5, .int .i64 f6, .int .i64 f7, .int .i64 f8, .int .i64 f9, .int .i64 f10], .int .i64 f0]) (by simp [results, Tryz.results110, go_sem]) rfl ⟨?_, ((Fr.refl _ w).alloc _).alloc _⟩
  rw [← HR.out]
  rfl
set_option maxRecDepth 100000 in
set_option maxHeartbeats 4000000 in
theorem r7Move3 (w : World) (g : Str) (f0 f1 f2 f3 f4 f5 f6 f7 f8 f9 f10 n : Int) (u0 : IntKind.i64.wrap (f0 + n) = f0 + n) (v1 : IntKind.i64.wrap (f1 - n) = f1 - n) :
    Calls Tryz.prog 110 #[.int .i64 (3), .agg #[vS g, .int .i64 f0, .int .i64 f1, .int .i64 f2, .int .i64 f3, .int .i64 f4, .int .i64 f5, .int .i64 f6, .int .i64 f7, .int .i64 f8, .int .i64 f9, .int .i64 f10], .int .i64 n] w fun e w' => e = .returned (.tuple #[.agg (rowV g (SR.move ⟨f0, f1, f2, f3, f4, f5, f6, f7, f8, f9, f10⟩ 3 n)), .int .i64 (haveF 3 ⟨f0, f1, f2, f3, f4, f5, f6, f7, f8, f9, f10⟩)]) ∧ Fr (fun _ => False) w w' := by
  obtain ⟨R, hR⟩ : ∃ R, Ending.returned (.tuple #[.agg (rowV g (SR.move ⟨f0, f1, f2, f3, f4, f5, f6, f7, f8, f9, f10⟩ 3 n)), .int .i64 (haveF 3 ⟨f0, f1, f2, f3, f4, f5, f6, f7, f8, f9, f10⟩)]) = R := ⟨_, rfl⟩
  rw [hR]
  have HR := Lib.hid hR
  clear hR
  go_enter Tryz.func110, Tryz.ntmps110
  go_wp2_with fail
  refine bodyPost_ret (v := .tuple #[.agg #[vS g, .int .i64 (f0 + n), .int .i64 (f1 - n), .int .i64 f2, .int .i64 f3, .int .i64 f4, .int .i64 f5, .int .i64 f6, .int .i64 f7, .int .i64 f8, .int .i64 f9, .int .i64 f10], .int .i64 f1]) (by simp [results, Tryz.results110, go_sem]) rfl ⟨?_, ((Fr.refl _ w).alloc _).alloc _⟩
  rw [← HR.out]
  rfl
set_option maxRecDepth 100000 in
set_option maxHeartbeats 4000000 in
theorem r7Move4 (w : World) (g : Str) (f0 f1 f2 f3 f4 f5 f6 f7 f8 f9 f10 n : Int) (u2 : IntKind.i64.wrap (f2 + n) = f2 + n) (v1 : IntKind.i64.wrap (f1 - n) = f1 - n) :
    Calls Tryz.prog 110 #[.int .i64 (4), .agg #[vS g, .int .i64 f0, .int .i64 f1, .int .i64 f2, .int .i64 f3, .int .i64 f4, .int .i64 f5, .int .i64 f6, .int .i64 f7, .int .i64 f8, .int .i64 f9, .int .i64 f10], .int .i64 n] w fun e w' => e = .returned (.tuple #[.agg (rowV g (SR.move ⟨f0, f1, f2, f3, f4, f5, f6, f7, f8, f9, f10⟩ 4 n)), .int .i64 (haveF 4 ⟨f0, f1, f2, f3, f4, f5, f6, f7, f8, f9, f10⟩)]) ∧ Fr (fun _ => False) w w' := by
  obtain ⟨R, hR⟩ : ∃ R, Ending.returned (.tuple #[.agg (rowV g (SR.move ⟨f0, f1, f2, f3, f4, f5, f6, f7, f8, f9, f10⟩ 4 n)), .int .i64 (haveF 4 ⟨f0, f1, f2, f3, f4, f5, f6, f7, f8, f9, f10⟩)]) = R := ⟨_, rfl⟩
  rw [hR]
  have HR := Lib.hid hR
  clear hR
  go_enter Tryz.func110, Tryz.ntmps110
  go_wp2_with fail
  refine bodyPost_ret (v := .tuple #[.agg #[vS g, .int .i64 f0, .int .i64 (f1 - n), .int .i64 (f2 + n), .int .i64 f3, .int .i64 f4, .int .i64 f5, .int .i64 f6, .int .i64 f7, .int .i64 f8, .int .i64 f9, .int .i64 f10], .int .i64 f1]) (by simp [results, Tryz.results110, go_sem]) rfl ⟨?_, ((Fr.refl _ w).alloc _).alloc _⟩
  rw [← HR.out]
  rfl
set_option maxRecDepth 100000 in
set_option maxHeartbeats 4000000 in
theorem r7Move5 (w : World) (g : Str) (f0 f1 f2 f3 f4 f5 f6 f7 f8 f9 f10 n : Int) (u1 : IntKind.i64.wrap (f1 + n) = f1 + n) (v2 : IntKind.i64.wrap (f2 - n) = f2 - n) :
    Calls Tryz.prog 110 #[.int .i64 (5), .agg #[vS g, .int .i64 f0, .int .i64 f1, .int .i64 f2, .int .i64 f3, .int .i64 f4, .int .i64 f5, .int .i64 f6, .int .i64 f7, .int .i64 f8, .int .i64 f9, .int .i64 f10], .int .i64 n] w fun e w' => e = .returned (.tuple #[.agg (rowV g (SR.move ⟨f0, f1, f2, f3, f4, f5, f6, f7, f8, f9, f10⟩ 5 n)), .int .i64 (haveF 5 ⟨f0, f1, f2, f3, f4, f5, f6, f7, f8, f9, f10⟩)]) ∧ Fr (fun _ => False) w w' := by
  obtain ⟨R, hR⟩ : ∃ R, Ending.returned (.tuple #[.agg (rowV g (SR.move ⟨f0, f1, f2, f3, f4, f5, f6, f7, f8, f9, f10⟩ 5 n)), .int .i64 (haveF 5 ⟨f0, f1, f2, f3, f4, f5, f6, f7, f8, f9, f10⟩)]) = R := ⟨_, rfl⟩
  rw [hR]
  have HR := Lib.hid hR
  clear hR
  go_enter Tryz.func110, Tryz.ntmps110
  go_wp2_with fail
  refine bodyPost_ret (v := .tuple #[.agg #[vS g, .int .i64 f0, .int .i64 (f1 + n), .int .i64 (f2 - n), .int .i64 f3, .int .i64 f4, .int .i64 f5, .int .i64 f6, .int .i64 f7, .int .i64 f8, .int .i64 f9, .int .i64 f10], .int .i64 f2]) (by simp [results, Tryz.results110, go_sem]) rfl ⟨?_, ((Fr.refl _ w).alloc _).alloc _⟩
  rw [← HR.out]
  rfl
set_option maxRecDepth 100000 in
set_option maxHeartbeats 4000000 in
theorem r7Move6 (w : World) (g : Str) (f0 f1 f2 f3 f4 f5 f6 f7 f8 f9 f10 n : Int) (u8 : IntKind.i64.wrap (f8 + n) = f8 + n) (v2 : IntKind.i64.wrap (f2 - n) = f2 - n) :
    Calls Tryz.prog 110 #[.int .i64 (6), .agg #[vS g, .int .i64 f0, .int .i64 f1, .int .i64 f2, .int .i64 f3, .int .i64 f4, .int .i64 f5, .int .i64 f6, .int .i64 f7, .int .i64 f8, .int .i64 f9, .int .i64 f10], .int .i64 n] w fun e w' => e = .returned (.tuple #[.agg (rowV g (SR.move ⟨f0, f1, f2, f3, f4, f5, f6, f7, f8, f9, f10⟩ 6 n)), .int .i64 (haveF 6 ⟨f0, f1, f2, f3, f4, f5, f6, f7, f8, f9, f10⟩)]) ∧ Fr (fun _ => False) w w' := by
  obtain ⟨R, hR⟩ : ∃ R, Ending.returned (.tuple #[.agg (rowV g (SR.move ⟨f0, f1, f2, f3, f4, f5, f6, f7, f8, f9, f10⟩ 6 n)), .int .i64 (haveF 6 ⟨f0, f1, f2, f3, f4, f5, f6, f7, f8, f9, f10⟩)]) = R := ⟨_, rfl⟩
  rw [hR]
  have HR := Lib.hid hR
  clear hR
  go_enter Tryz.func110, Tryz.ntmps110
  go_wp2_with fail
  refine bodyPost_ret (v := .tuple #[.agg #[vS g, .int .i64 f0, .int .i64 f1, .int .i64 (f2 - n), .int .i64 f3, .int .i64 f4, .int .i64 f5, .int .i64 f6, .int .i64 f7, .int .i64 (f8 + n), .int .i64 f9, .int .i64 f10], .int .i64 f2]) (by simp [results, Tryz.results110, go_sem]) rfl ⟨?_, ((Fr.refl _ w).alloc _).alloc _⟩
  rw [← HR.out]
  rfl
set_option maxRecDepth 100000 in
set_option maxHeartbeats 4000000 in
theorem r7Move7 (w : World) (g : Str) (f0 f1 f2 f3 f4 f5 f6 f7 f8 f9 f10 n : Int) (u3 : IntKind.i64.wrap (f3 + n) = f3 + n) (u5 : IntKind.i64.wrap (f5 + n) = f5 + n) :
    Calls Tryz.prog 110 #[.int .i64 (7), .agg #[vS g, .int .i64 f0, .int .i64 f1, .int .i64 f2, .int .i64 f3, .int .i64 f4, .int .i64 f5, .int .i64 f6, .int .i64 f7, .int .i64 f8, .int .i64 f9, .int .i64 f10], .int .i64 n] w fun e w' => e = .returned (.tuple #[.agg (rowV g (SR.move ⟨f0, f1, f2, f3, f4, f5, f6, f7, f8, f9, f10⟩ 7 n)), .int .i64 (haveF 7 ⟨f0, f1, f2, f3, f4, f5, f6, f7, f8, f9, f10⟩)]) ∧ Fr (fun _ => False) w w' := by
  obtain ⟨R, hR⟩ : ∃ R, Ending.returned (.tuple #[.agg (rowV g (SR.move ⟨f0, f1, f2, f3, f4, f5, f6, f7, f8, f9, f10⟩ 7 n)), .int .i64 (haveF 7 ⟨f0, f1, f2, f3, f4, f5, f6, f7, f8, f9, f10⟩)]) = R := ⟨_, rfl⟩
  rw [hR]
  have HR := Lib.hid hR
  clear hR
  go_enter Tryz.func110, Tryz.ntmps110
  go_wp2_with fail
  refine bodyPost_ret (v := .tuple #[.agg #[vS g, .int .i64 f0, .int .i64 f1, .int .i64 f2, .int .i64 (f3 + n), .int .i64 f4, .int .i64 (f5 + n), .int .i64 f6, .int .i64 f7, .int .i64 f8, .int .i64 f9, .int .i64 f10], .int .i64 (-1)]) (by simp [results, Tryz.results110, go_sem]) rfl ⟨?_, ((Fr.refl _ w).alloc _).alloc _⟩
  rw [← HR.out]
  rfl
set_option maxRecDepth 100000 in
set_option maxHeartbeats 4000000 in
theorem r7Move8 (w : World) (g : Str) (f0 f1 f2 f3 f4 f5 f6 f7 f8 f9 f10 n : Int) (u0 : IntKind.i64.wrap (f0 + n) = f0 + n) (v3 : IntKind.i64.wrap (f3 - n) = f3 - n) :
    Calls Tryz.prog 110 #[.int .i64 (8), .agg #[vS g, .int .i64 f0, .int .i64 f1, .int .i64 f2, .int .i64 f3, .int .i64 f4, .int .i64 f5, .int .i64 f6, .int .i64 f7, .int .i64 f8, .int .i64 f9, .int .i64 f10], .int .i64 n] w fun e w' => e = .returned (.tuple #[.agg (rowV g (SR.move ⟨f0, f1, f2, f3, f4, f5, f6, f7, f8, f9, f10⟩ 8 n)), .int .i64 (haveF 8 ⟨f0, f1, f2, f3, f4, f5, f6, f7, f8, f9, f10⟩)]) ∧ Fr (fun _ => False) w w' := by
  obtain ⟨R, hR⟩ : ∃ R, Ending.returned (.tuple #[.agg (rowV g (SR.move ⟨f0, f1, f2, f3, f4, f5, f6, f7, f8, f9, f10⟩ 8 n)), .int .i64 (haveF 8 ⟨f0, f1, f2, f3, f4, f5, f6, f7, f8, f9, f10⟩)]) = R := ⟨_, rfl⟩
  rw [hR]
  have HR := Lib.hid hR
  clear hR
  go_enter Tryz.func110, Tryz.ntmps110
  go_wp2_with fail
  refine bodyPost_ret (v := .tuple #[.agg #[vS g, .int .i64 (f0 + n), .int .i64 f1, .int .i64 f2, .int .i64 (f3 - n), .int .i64 f4, .int .i64 f5, .int .i64 f6, .int .i64 f7, .int .i64 f8, .int .i64 f9, .int .i64 f10], .int .i64 f3]) (by simp [results, Tryz.results110, go_sem]) rfl ⟨?_, ((Fr.refl _ w).alloc _).alloc _⟩
  rw [← HR.out]
  rfl
set_option maxRecDepth 100000 in
set_option maxHeartbeats 4000000 in
theorem r7Move9 (w : World) (g : Str) (f0 f1 f2 f3 f4 f5 f6 f7 f8 f9 f10 n : Int) (u9 : IntKind.i64.wrap (f9 + n) = f9 + n) (v3 : IntKind.i64.wrap (f3 - n) = f3 - n) :
    Calls Tryz.prog 110 #[.int .i64 (9), .agg #[vS g, .int .i64 f0, .int .i64 f1, .int .i64 f2, .int .i64 f3, .int .i64 f4, .int .i64 f5, .int .i64 f6, .int .i64 f7, .int .i64 f8, .int .i64 f9, .int .i64 f10], .int .i64 n] w fun e w' => e = .returned (.tuple #[.agg (rowV g (SR.move ⟨f0, f1, f2, f3, f4, f5, f6, f7, f8, f9, f10⟩ 9 n)), .int .i64 (haveF 9 ⟨f0, f1, f2, f3, f4, f5, f6, f7, f8, f9, f10⟩)]) ∧ Fr (fun _ => False) w w' := by
  obtain ⟨R, hR⟩ : ∃ R, Ending.returned (.tuple #[.agg (rowV g (SR.move ⟨f0, f1, f2, f3, f4, f5, f6, f7, f8, f9, f10⟩ 9 n)), .int .i64 (haveF 9 ⟨f0, f1, f2, f3, f4, f5, f6, f7, f8, f9, f10⟩)]) = R := ⟨_, rfl⟩
  rw [hR]
  have HR := Lib.hid hR
  clear hR
  go_enter Tryz.func110, Tryz.ntmps110
  go_wp2_with fail
  refine bodyPost_ret (v := .tuple #[.agg #[vS g, .int .i64 f0, .int .i64 f1, .int .i64 f2, .int .i64 (f3 - n), .int .i64 f4, .int .i64 f5, .int .i64 f6, .int .i64 f7, .int .i64 f8, .int .i64 (f9 + n), .int .i64 f10], .int .i64 f3]) (by simp [results, Tryz.results110, go_sem]) rfl ⟨?_, ((Fr.refl _ w).alloc _).alloc _⟩
  rw [← HR.out]
  rfl
set_option maxRecDepth 100000 in
set_option maxHeartbeats 4000000 in
theorem r7Move10 (w : World) (g : Str) (f0 f1 f2 f3 f4 f5 f6 f7 f8 f9 f10 n : Int) (u10 : IntKind.i64.wrap (f10 + n) = f10 + n) (v0 : IntKind.i64.wrap (f0 - n) = f0 - n) :
    Calls Tryz.prog 110 #[.int .i64 (10), .agg #[vS g, .int .i64 f0, .int .i64 f1, .int .i64 f2, .int .i64 f3, .int .i64 f4, .int .i64 f5, .int .i64 f6, .int .i64 f7, .int .i64 f8, .int .i64 f9, .int .i64 f10], .int .i64 n] w fun e w' => e = .returned (.tuple #[.agg (rowV g (SR.move ⟨f0, f1, f2, f3, f4, f5, f6, f7, f8, f9, f10⟩ 10 n)), .int .i64 (haveF 10 ⟨f0, f1, f2, f3, f4, f5, f6, f7, f8, f9, f10⟩)]) ∧ Fr (fun _ => False) w w' := by
  obtain ⟨R, hR⟩ : ∃ R, Ending.returned (.tuple #[.agg (rowV g (SR.move ⟨f0, f1, f2, f3, f4, f5, f6, f7, f8, f9, f10⟩ 10 n)), .int .i64 (haveF 10 ⟨f0, f1, f2, f3, f4, f5, f6, f7, f8, f9, f10⟩)]) = R := ⟨_, rfl⟩
  rw [hR]
  have HR := Lib.hid hR
  clear hR
  go_enter Tryz.func110, Tryz.ntmps110
  go_wp2_with fail
  refine bodyPost_ret (v := .tuple #[.agg #[vS g, .int .i64 (f0 - n), .int .i64 f1, .int .i64 f2, .int .i64 f3, .int .i64 f4, .int .i64 f5, .int .i64 f6, .int .i64 f7, .int .i64 f8, .int .i64 f9, .int .i64 (f10 + n)], .int .i64 f0]) (by simp [results, Tryz.results110, go_sem]) rfl ⟨?_, ((Fr.refl _ w).alloc _).alloc _⟩
  rw [← HR.out]
  rfl
set_option maxRecDepth 100000 in
set_option maxHeartbeats 4000000 in
theorem r7Move11 (w : World) (g : Str) (f0 f1 f2 f3 f4 f5 f6 f7 f8 f9 f10 n : Int) (u0 : IntKind.i64.wrap (f0 + n) = f0 + n) (u7 : IntKind.i64.wrap (f7 + n) = f7 + n) :
    Calls Tryz.prog 110 #[.int .i64 (11), .agg #[vS g, .int .i64 f0, .int .i64 f1, .int .i64 f2, .int .i64 f3, .int .i64 f4, .int .i64 f5, .int .i64 f6, .int .i64 f7, .int .i64 f8, .int .i64 f9, .int .i64 f10], .int .i64 n] w fun e w' => e = .returned (.tuple #[.agg (rowV g (SR.move ⟨f0, f1, f2, f3, f4, f5, f6, f7, f8, f9, f10⟩ 11 n)), .int .i64 (haveF 11 ⟨f0, f1, f2, f3, f4, f5, f6, f7, f8, f9, f10⟩)]) ∧ Fr (fun _ => False) w w' := by
  obtain ⟨R, hR⟩ : ∃ R, Ending.returned (.tuple #[.agg (rowV g (SR.move ⟨f0, f1, f2, f3, f4, f5, f6, f7, f8, f9, f10⟩ 11 n)), .int .i64 (haveF 11 ⟨f0, f1, f2, f3, f4, f5, f6, f7, f8, f9, f10⟩)]) = R := ⟨_, rfl⟩
  rw [hR]
  have HR := Lib.hid hR
  clear hR
  go_enter Tryz.func110, Tryz.ntmps110
  go_wp2_with fail
  refine bodyPost_ret (v := .tuple #[.agg #[vS g, .int .i64 (f0 + n), .int .i64 f1, .int .i64 f2, .int .i64 f3, .int .i64 f4, .int .i64 f5, .int .i64 f6, .int .i64 (f7 + n), .int .i64 f8, .int .i64 f9, .int .i64 f10], .int .i64 (-1)]) (by simp [results, Tryz.results110, go_sem]) rfl ⟨?_, ((Fr.refl _ w).alloc _).alloc _⟩
  rw [← HR.out]
  rfl
set_option maxHeartbeats 8000000 in
theorem r7Move (w : World) (g : Str) (r : SR) (k n : Int) (hb : SRb r) (hn : 0 ≤ n ∧ n ≤ 1099511627776) :
    Calls Tryz.prog 110 #[.int .i64 k, .agg (rowV g r), .int .i64 n] w fun e w' => e = .returned (.tuple #[.agg (rowV g (r.move k n)), .int .i64 (haveF k r)]) ∧ Fr (fun _ => False) w w' := by
  obtain ⟨f0, f1, f2, f3, f4, f5, f6, f7, f8, f9, f10⟩ := r
  obtain ⟨a0, a1, a2, a3, c0, c1, c2, c3, c4, c5⟩ := hb
  dsimp only at a0 a1 a2 a3 c0 c1 c2 c3 c4 c5
  have u0 : IntKind.i64.wrap (f0 + n) = f0 + n := by rw [IntKind.wrap_i64]; omega
  have v0 : IntKind.i64.wrap (f0 - n) = f0 - n := by rw [IntKind.wrap_i64]; omega
  have u1 : IntKind.i64.wrap (f1 + n) = f1 + n := by rw [IntKind.wrap_i64]; omega
  have v1 : IntKind.i64.wrap (f1 - n) = f1 - n := by rw [IntKind.wrap_i64]; omega
  have u2 : IntKind.i64.wrap (f2 + n) = f2 + n := by rw [IntKind.wrap_i64]; omega
  have v2 : IntKind.i64.wrap (f2 - n) = f2 - n := by rw [IntKind.wrap_i64]; omega
  have u3 : IntKind.i64.wrap (f3 + n) = f3 + n := by rw [IntKind.wrap_i64]; omega
  have v3 : IntKind.i64.wrap (f3 - n) = f3 - n := by rw [IntKind.wrap_i64]; omega
  have u4 : IntKind.i64.wrap (f4 + n) = f4 + n := by rw [IntKind.wrap_i64]; omega
  have u5 : IntKind.i64.wrap (f5 + n) = f5 + n := by rw [IntKind.wrap_i64]; omega
  have u7 : IntKind.i64.wrap (f7 + n) = f7 + n := by rw [IntKind.wrap_i64]; omega
  have u8 : IntKind.i64.wrap (f8 + n) = f8 + n := by rw [IntKind.wrap_i64]; omega
  have u9 : IntKind.i64.wrap (f9 + n) = f9 + n := by rw [IntKind.wrap_i64]; omega
  have u10 : IntKind.i64.wrap (f10 + n) = f10 + n := by rw [IntKind.wrap_i64]; omega
  by_cases hk : 1 ≤ k ∧ k ≤ 11
  · rcases (by omega : k = 1 ∨ k = 2 ∨ k = 3 ∨ k = 4 ∨ k = 5 ∨ k = 6 ∨ k = 7 ∨ k = 8 ∨ k = 9 ∨ k = 10 ∨ k = 11) with rfl | rfl | rfl | rfl | rfl | rfl | rfl | rfl | rfl | rfl | rfl
    · exact r7Move1 w g f0 f1 f2 f3 f4 f5 f6 f7 f8 f9 f10 n u0 u4
    · exact r7Move2 w g f0 f1 f2 f3 f4 f5 f6 f7 f8 f9 f10 n u1 v0
    · exact r7Move3 w g f0 f1 f2 f3 f4 f5 f6 f7 f8 f9 f10 n u0 v1
    · exact r7Move4 w g f0 f1 f2 f3 f4 f5 f6 f7 f8 f9 f10 n u2 v1
    · exact r7Move5 w g f0 f1 f2 f3 f4 f5 f6 f7 f8 f9 f10 n u1 v2
    · exact r7Move6 w g f0 f1 f2 f3 f4 f5 f6 f7 f8 f9 f10 n u8 v2
    · exact r7Move7 w g f0 f1 f2 f3 f4 f5 f6 f7 f8 f9 f10 n u3 u5
    · exact r7Move8 w g f0 f1 f2 f3 f4 f5 f6 f7 f8 f9 f10 n u0 v3
    · exact r7Move9 w g f0 f1 f2 f3 f4 f5 f6 f7 f8 f9 f10 n u9 v3
    · exact r7Move10 w g f0 f1 f2 f3 f4 f5 f6 f7 f8 f9 f10 n u10 v0
    · exact r7Move11 w g f0 f1 f2 f3 f4 f5 f6 f7 f8 f9 f10 n u0 u7
  · exact r7Move0 w g f0 f1 f2 f3 f4 f5 f6 f7 f8 f9 f10 n k hk
end Go.Proofs.YtogphlnakdnchaaGreat

