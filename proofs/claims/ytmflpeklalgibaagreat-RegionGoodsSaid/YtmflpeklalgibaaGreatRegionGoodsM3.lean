/- Texts of this claim, joined: stock: Do: the walk; hold: Stock, Count, Do; Plain: the first place where a test holds; count: none, Add (slices.IndexFunc, ContainsFunc at numbers); A region that draws its order, whose operations only read and whose calls may lay blocks, within a round of a range over a function: one walk in the text's order serves (the library's theorem on quiet regions asks for no round); items: sums; append(row, source...) where the source may be nil, empty or not; rows of cells read out of memory; slices.Grow, slices.Concat at items; The keys of map[string]int, in order; items: Norm, Plus; items: Plus; stock: Goods, the iterator; Offer; stock: Offer; stock, plainly: what Do and Count keep; what Do makes of a stock; what is done and undone. -/
import Derived.Test.YtmflpeklalgibaaGreatRegionGoodsM2
import Derived.Test.YtmflpeklalgibaaGreatRegionGoodsM1
import Derived.Lib.Hide
import Derived.Deep.QuietTactic
import Derived.Sort.QuietIn
import Derived.Shelf.Abstract
import Derived.Maps.AppendAt
import Derived.OwnWalk
import Derived.Deep.LoopGhost
import Derived.Test.YtmflpeklalgibaaGreatShelfN
import Derived.Lib.SliceRun
namespace Go.Proofs.YtmflpeklalgibaaGreat
open Go.RowKit Go.Maps
attribute [local go_sem] Oper.semAt_some
theorem itsOk_pos : ∀ {L : Its} {last : Str}, itsOk last L = true → ∀ p ∈ L, goodB p.1 = true ∧ 1 ≤ p.2 ∧ p.2 ≤ 1099511627776
  | [], _, _, p, hp => by cases hp
  | q :: r, last, h, p, hp => by
    rw [itsOk_cons] at h
    simp only [Bool.and_eq_true, decide_eq_true_eq, mayI_iff] at h
    rcases List.mem_cons.1 hp with rfl | hp
    · exact ⟨h.1.1.1.1, h.1.1.1.2, h.1.1.2.2⟩
    · exact itsOk_pos h.2 p hp
theorem mayL_pos {L : Its} (h : mayL L = true) : ∀ p ∈ L, 0 ≤ p.2 ∧ p.2 ≤ 1099511627776 := fun p hp => by
  unfold mayL at h
  rw [Bool.and_eq_true] at h
  have := itsOk_pos h.1 p hp
  omega
def DoJ (w : World) (n0 nb mb : Nat) (k : Int) (A : Stk) (L : Its) (j : Nat) (_ : Nat → Prop) (W : World) : Prop := ∃ B, DoI w W n0 nb mb k 0 B ∧ doFold k A L = doFold k B (L.drop j) ∧ B.length ≤ A.length + j
def DoX (w : World) (n0 nb mb : Nat) (k : Int) (A : Stk) (L : Its) (c : Code) (_ : Nat) (_ : Nat → Prop) (W : World) : Prop := c = .ret ∧ doFold k A L = none ∧ ∃ B, DoI w W n0 nb mb k 50 B
set_option maxRecDepth 100000 in
set_option maxHeartbeats 16000000 in
theorem sDo (w : World) (g : Nat) (TS : Nat → Prop) (A : Stk) (k : Int) (v : Value) (L : Its) (h : SA w g TS A) (hA : SOk A) (hv : Il w v L) :
    Calls Tryz.prog 52 #[.pointer (some ⟨g, 0, none⟩), .int .i64 k, v] w fun e w' => e = .returned (.int .i64 (doS A k L).1) ∧ ∃ TS', SA w' g TS' (doS A k L).2 ∧ Stp TS w w' TS' := by
  obtain ⟨n0, hn0⟩ : ∃ n0, w.heap.size = n0 := ⟨_, rfl⟩
  have HS := Lib.hid hn0
  have HL := Lib.hid hv
  have hob := hv.lt
  have HOB := Lib.hid hob
  have hokl : Hid (∀ (j : Nat) (p : Str × Int), L[j]? = some p → okS p.1) := Lib.hid (fun j p hp => by obtain ⟨_, _, _, _, hx⟩ := hv; exact (hx j p hp).1)
  obtain ⟨a, c, rfl⟩ := hv.sl
  obtain ⟨N, hN⟩ : ∃ N, L.length = N := ⟨_, rfl⟩
  have HN := Lib.hid hN
  rw [hN] at HL HOB ⊢
  have HSA := Lib.hid h
  have HAA := Lib.hid hA
  have HGL : Hid (g < w.heap.size) := Lib.hid (h.lt g h.own)
  obtain ⟨m, hc, hm, hTm⟩ := h.cell
  have HC := Lib.hid hc; have HM := Lib.hid hm
  have hmd := Lib.hid (fun W (hW : W.cell? ⟨g, 0, none⟩ = some (.map (some m))) => smade W g m hW)
  clear hv hob hN h hm hTm hA
  refine (callsIn_wide (n := 0)).1 ?_
  refine callsIn_of_wp_marks Tryz.func52 rfl trivial ?_ rfl
  simp only [Tryz.ntmps52, List.size_toArray, List.length_cons, List.length_nil, Nat.reduceAdd, Nat.reduceSub, Array.replicate_succ, Array.replicate_zero, List.push_toArray, List.append_toArray, List.nil_append, List.cons_append]
  have hfn : ∀ f, Fence.wide.fn f := fun _ => trivial
  have hdp : Fence.wide.depth.isSome = false := rfl
  obtain ⟨W0, hW0⟩ : ∃ W0, (w.alloc (.cells #[.int .i64 k] 3)).alloc (.cells #[.int .i64 0] 25) = W0 := ⟨_, rfl⟩
  have hF0 : Fr (fun _ => False) w W0 := by rw [← hW0]; exact ((Fr.refl _ w).alloc _).alloc _
  have hs0 : W0.heap.size = n0 + 2 := by rw [← hW0]; simp; omega
  have hk0 : W0.heap[n0]? = some (.cells #[.int .i64 k] 3) := by rw [← hW0]; exact heap_keep (heap_at hn0.symm _) _
  have he0 : W0.heap[n0 + 1]? = some (.cells #[.int .i64 0] 25) := by rw [← hW0]; exact heap_at (by simp; omega) _
  have HF0 := Lib.hid hF0; have HS0 := Lib.hid hs0; have HK0 := Lib.hid hk0; have HE0 := Lib.hid he0; have HW0 := Lib.hid hW0
  have hcg0 : W0.cell? ⟨g, 0, none⟩ = some (.map (some m)) := hF0.cell hc (fun h => h)
  have hckk := cell_obj hk0 0 (.int .i64 k) rfl
  have hcee := cell_obj he0 0 (.int .i64 0) rfl
  have hfee := obj_frozen he0 0
  clear hF0 hs0 hk0 he0 hc
  have hrefuse : ∀ W x, Fr (fun _ => False) w W → ∃ TS', SA (W.setCell ⟨n0 + 1, 0, none⟩ (.int .i64 x)) g TS' A ∧ Stp TS w (W.setCell ⟨n0 + 1, 0, none⟩ (.int .i64 x)) TS' := fun W x hf => by
    have hF' : Fr (fun _ => False) w (W.setCell ⟨n0 + 1, 0, none⟩ (.int .i64 x)) := hf.setCell (p := ⟨n0 + 1, 0, none⟩) (fun h => by have := HS.out; have h : n0 + 1 < w.heap.size := h; omega) _
    exact ⟨TS, HSA.out.fr hF' (fun _ _ h => h), Stp.refl hF'⟩
  have HRF := Lib.hid hrefuse
  have hmdc := Lib.hid (fun W (hW : W.cell? ⟨g, 0, none⟩ = some (.map (some m))) => (callsIn_wide (n := 0)).2 (hmd.out W hW))
  clear hrefuse hmd
  by_cases hkr : k < 1 ∨ 11 < k
  · have hd : Hid (doS A k L = (1, A)) := Lib.hid (by unfold doS; rw [if_pos hkr])
    have hres := cell_obj (obj_set HE0.out 0 (.int .i64 1)) 0 (.int .i64 1) rfl
    rcases (by omega : k < 1 ∨ (1 ≤ k ∧ 11 < k)) with h1 | ⟨h1, h2⟩
    all_goals
      gi_wp2_with (gi_at_call 34; refine (hmdc.out _ hcg0).mono ?_; rintro e w1 ⟨rfl, rfl⟩)
      refine ⟨.int .i64 1, by simp [results, Tryz.results52, go_sem, hres], ?_, ?_⟩
      · rw [hd.out]
      · rw [hd.out]; exact HRF.out _ _ HF0.out
  · have hk1 : 1 ≤ k := by omega
    have hk2 : k ≤ 11 := by omega
    have hL0 := HL.out.fr HF0.out (fun b hb => hb.elim)
    have hIM := Lib.hid (iMay W0 (.slice a N c) L hL0)
    clear hL0
    cases hml : mayL L with
    | false =>
      have hd : Hid (doS A k L = (60, A)) := Lib.hid (by unfold doS; rw [if_neg hkr, if_pos hml])
      rw [hml] at hIM
      clear hkr hml
      gi_wp2_with (first
        | (gi_at_call 34; refine (hmdc.out _ hcg0).mono ?_; rintro e w1 ⟨rfl, rfl⟩)
        | (gi_at_call 44; refine (callsIn_wide.2 hIM.out).mono ?_; rintro e w2 ⟨rfl, hf2⟩; have hE2 := Lib.hid (hf2.at_ HE0.out (fun h => h)); have ce2 := cell_obj hE2.out 0 (.int .i64 0) rfl; have fe2 := obj_frozen hE2.out 0; have HF2 := Lib.hid (HF0.out.trans hf2); clear hf2))
      have hres := cell_obj (obj_set hE2.out 0 (.int .i64 60)) 0 (.int .i64 60) rfl
      refine ⟨.int .i64 60, by simp [results, Tryz.results52, go_sem, hres], ?_, ?_⟩
      · rw [hd.out]
      · rw [hd.out]; exact HRF.out _ _ HF2.out
    | true =>
      rw [hml] at hIM
      have hpos : Hid (∀ p ∈ L, 0 ≤ p.2 ∧ p.2 ≤ 1099511627776) := Lib.hid (mayL_pos hml)
      have h16 : Hid (L.length ≤ 16) := Lib.hid (by unfold mayL at hml; simp at hml; exact hml.2)
      have hSM : Hid (∀ W, Fr (fun _ => False) w W → Calls Tryz.prog 87 #[.pointer (some ⟨g, 0, none⟩), .int .i64 k, .slice a N c] W fun e w' => e = .returned (.int .i64 (doMay A k L)) ∧ Fr (fun _ => False) W w') := Lib.hid (fun W hf =>
        sMay W g TS A k (.slice a N c) L (HSA.out.fr hf (fun _ _ h => h)) HAA.out (HL.out.fr hf (fun b hb => hb.elim)))
      obtain ⟨x, hx⟩ : ∃ x, doMay A k L = x := ⟨_, rfl⟩
      rw [hx] at hSM
      by_cases hx0 : x = 0
      · subst hx0
        have hd : Hid (doS A k L = (match doFold k A L with | none => (50, A) | some B => if 64 < B.length then (2, A) else (0, B))) := Lib.hid (by
          unfold doS
          rw [if_neg hkr, if_neg (by rw [hml]; decide), if_neg (by rw [hx]; simp)]
          cases doFold k A L <;> rfl)
        clear hkr hml hx
        gi_wp2_with (first
          | (gi_at_call 34; refine (hmdc.out _ hcg0).mono ?_; rintro e w1 ⟨rfl, rfl⟩)
          | (gi_at_call 44; refine (callsIn_wide.2 hIM.out).mono ?_; rintro e w2 ⟨rfl, hf2⟩; have HF2 := Lib.hid (HF0.out.trans hf2); have hck2 := cell_obj (hf2.at_ HK0.out (fun h => h)) 0 (.int .i64 k) rfl; have HX2 := Lib.hid hf2; clear hf2)
          | (gi_at_call 87; refine (callsIn_wide.2 (hSM.out _ HF2.out)).mono ?_; rintro e w3 ⟨rfl, hf3⟩; have HF3 := Lib.hid (HF2.out.trans hf3); have hcg3 := HF3.out.cell HC.out (fun h => h); have HX3 := Lib.hid (HX2.out.trans hf3); clear hf3))
        refine (callsIn_wide.2 (sClone w3 m A (HF3.out.mp HM.out (fun h => h)))).mono ?_
        rintro e w4 ⟨rfl, hm4, hB4⟩
        obtain ⟨mb, hmb⟩ : ∃ mb, w3.heap.size = mb := ⟨_, rfl⟩
        rw [hmb] at hm4
        have hF4 := HF3.out.trans (Fr.below hB4)
        have hX4 := HX3.out.trans (Fr.below (S := fun _ => False) hB4)
        have hsz3 := HX3.out.size
        have hsz4 := hB4.size
        have hs4 : mb < w4.heap.size := hm4.lt
        rw [HS0.out, hmb] at hsz3
        rw [hmb] at hsz4
        have hI4 : DoI w ((w4.alloc (.cells #[.map (some mb)] 84)).alloc (.cells #[.slice a N c] 23)) n0 w4.heap.size mb k 0 A :=
          ⟨heap_keep (heap_keep (hX4.at_ HK0.out (fun h => h)) _) _, heap_keep (heap_keep (hX4.at_ HE0.out (fun h => h)) _) _, heap_keep (heap_new _ _) _, (hm4.alloc _).alloc _, fun p hp => (HAA.out.row p hp).b, ((hF4.mono (fun _ _ h => h.elim)).alloc _).alloc _, by omega, by omega, by omega⟩
        have hBx : Boxed ((w4.alloc (.cells #[.map (some mb)] 84)).alloc (.cells #[.slice a N c] 23)) (w4.heap.size + 1) 23 (.slice a N c) := heap_at (by simp) _
        have HI4 := Lib.hid hI4; have HBX := Lib.hid hBx
        rw [hmb]
        clear hmb hm4 hB4 hF4 hX4 hI4 hBx hck2 hcg3 HX2 HX3 HF2 HF3 hIM hSM
        gi_wp2_with (gi_at_call 69; refine (callsIn_wide.2 (iAll _ _ _ _)).mono ?_; rintro e w5 ⟨rfl, rfl⟩)
        obtain ⟨nb, hnb⟩ : ∃ nb, w4.heap.size = nb := ⟨_, rfl⟩
        obtain ⟨W5, hW5⟩ : ∃ W5, (w4.alloc (.cells #[.map (some mb)] 84)).alloc (.cells #[.slice a N c] 23) = W5 := ⟨_, rfl⟩
        have hs5 : W5.heap.size = nb + 2 := by rw [← hW5]; simp; omega
        rw [hW5, hnb] at HI4 HBX
        rw [hW5]
        simp only [hnb]
        rw [hnb] at hs4 hsz4
        have hL5 := HL.out.fr HI4.out.fr (fun b hb => by omega)
        clear hW5 hnb
        refine rangeX (w0 := W5) (X := L) (S := fun b => b = n0 + 1 ∨ b = mb) rfl (enters_of Tryz.func101 (by kernel_rfl) rfl)
          (iAll1 _ W5 _ _ L HBX.out hL5 (by omega) (fun hl b hb e => by have := HOB.out hl b e; omega)) (Below.refl _ _) (fun b hb => by omega) (fun _ => rfl)
          (DoJ w n0 nb mb k A L) (DoX w n0 nb mb k A L)
          (fun k C W W' hs hf => by obtain ⟨B, h1, h2⟩ := hs; exact ⟨B, h1.fa hf (by omega), h2⟩) (fun c k C W W' hs hf => by obtain ⟨e, e2, B, h1⟩ := hs; exact ⟨e, e2, B, h1.fa hf (by omega)⟩)
          ⟨A, HI4.out, rfl, by omega⟩ ?round ?done ?stop
        case round =>
          rintro lp j x C W hx hlp hi hr
          dsimp only [encIt]
          gi_wp2
          refine Took.mk (Fr.refl _ _) hi ?_
          rintro Wb ⟨B, hI, hrest, hBl⟩ hrb hf hsz hsw hCC _
          have hdr : L.drop j = x :: L.drop (j + 1) := List.drop_eq_getElem?_toList_append |>.trans (by rw [hx]; rfl)
          rw [hdr, doFold_cons] at hrest
          have hok := hokl.out j x hx
          have hpos := hpos.out x (List.mem_of_getElem? hx)
          obtain ⟨gd, n⟩ := x
          dsimp only at hok hrest hpos ⊢
          have cnx := cell_obj hI.nx 0 (.map (some mb)) rfl
          have hlk := mp_row hI.map hok
          have hRb := rowAt_b hI.rows gd
          obtain ⟨R, hRR⟩ : ∃ R, rowAt B gd = R := ⟨_, rfl⟩
          rw [hRR] at hlk hRb hrest
          have hadd := SR.adds (k := k) hRb hpos
          obtain ⟨ad1, ad2, ad3⟩ := hadd
          unfold SR.enc SR.cs at hlk
          have hnn : IntKind.i64.wrap (-n) = -n := by rw [IntKind.wrap_i64]; omega
          have hIa := hI.keep ((Fr.refl (fun _ => False) Wb).alloc (.cells R.cs 83))
          have hra : RowAt (Wb.alloc (.cells R.cs 83)) Wb.heap.size R := heap_new _ _
          have hcka := cell_obj hIa.k 0 (.int .i64 k) rfl
          unfold SR.cs at hIa hra hcka
          obtain ⟨rb, hrb⟩ : ∃ rb, Wb.heap.size = rb := ⟨_, rfl⟩
          have HI := Lib.hid hI; have HIA := Lib.hid hIa; have HRA := Lib.hid hra; have HREST := Lib.hid hrest; have HBL := Lib.hid hBl; have HRB := Lib.hid hrb; have AD1 := Lib.hid ad1; have AD2 := Lib.hid ad2; have AD3 := Lib.hid ad3
          have hokh := Lib.hid hok; have HXX := Lib.hid hx
          clear hi hr hf hrb hdr hrest hok hI hIa hra hBl ad1 ad2 ad3 hRb hRR hx
          obtain ⟨⟨rf, rt, ro⟩, hR3⟩ : ∃ R, roadF k = R := ⟨_, rfl⟩
          have hroad := Lib.hid (fun W b => sRoad W b k)
          have hmv : Hid (R.move k n = ((R.add rf (-n)).add rt n).add ro n) := Lib.hid (by unfold SR.move; rw [hR3])
          rw [hR3] at AD1 AD2 AD3 hroad
          dsimp only at AD1 AD2 AD3 hroad
          clear hR3 hsz hsw hCC hlp hpos
          gi_wp2_with (gi_at_call 89; refine (callsIn_wide.2 (hroad.out _ _)).mono ?_; rintro e w6 ⟨rfl, q, rfl⟩)
          refine (callsIn_wide.2 (sAdd _ _ R rf (-n) (by exact HRA.out) AD1.out)).mono ?_
          rintro e w7 ⟨⟨v7, rfl⟩, hr7, hf7⟩
          have HR7 := Lib.hid hr7
          have HF7 := Lib.hid ((((Fr.refl (fun b => b = Wb.heap.size) Wb).alloc _).drewN q).trans' hf7 (fun b _ e => e))
          clear hr7 hf7 hcka cnx hlk
          gi_wp2_with fail
          refine (callsIn_wide.2 (sAdd w7 _ _ rt n HR7.out AD2.out)).mono ?_
          rintro e w8 ⟨⟨v8, rfl⟩, hr8, hf8⟩
          have HR8 := Lib.hid hr8
          have HF8 := Lib.hid (HF7.out.trans' hf8 (fun b _ e => e))
          clear hr8 hf8
          gi_wp2_with fail
          refine (callsIn_wide.2 (sAdd w8 _ _ ro n HR8.out AD3.out)).mono ?_
          rintro e w9 ⟨⟨v9, rfl⟩, hr9, hf9⟩
          rw [← hmv.out] at hr9
          have HF9 := Lib.hid (HF8.out.trans' hf9 (fun b _ e => e))
          obtain ⟨M, hM⟩ : ∃ M, R.move k n = M := ⟨_, rfl⟩
          rw [hM] at hr9 HREST
          have HR9 := Lib.hid hr9
          clear hr9 hf9 hM hmv HR7 HR8 HF7 HF8
          gi_wp2_with fail
          refine (callsIn_wide.2 (sRight w9 _ M HR9.out)).mono ?_
          rintro e w10 ⟨rfl, hf10⟩
          have HF10 := Lib.hid (HF9.out.trans' hf10 (fun b _ e => e.elim))
          have hr10 := hf10.at_ HR9.out (fun h => h)
          have hI10 := HI.out.side HF10.out (fun b e => by omega)
          have ce10 := cell_obj hI10.e 0 (.int .i64 0) rfl
          have fe10 := obj_frozen hI10.e 0
          have HI10 := Lib.hid hI10
          have hn' := hI10.hn
          cases hMr : M.right with
          | false =>
            have hno : Hid (doFold k A L = none) := Lib.hid (by rw [HREST.out, if_neg (by rw [hMr]; decide)])
            clear hf10 hr10 hI10 hMr
            gi_wp2_with fail
            exact ⟨((HF10.out.mono (S' := fun b => b = n0 + 1 ∨ b = Wb.heap.size) (fun _ _ e => .inr e)).setCell (p := ⟨n0 + 1, 0, none⟩) (fun _ => .inl rfl) _).mono (fun b hb e => e.elim (fun e => .inl (.inl e)) (fun e => by omega)), rfl, hno.out, B, HI10.out.put 50⟩
          | true =>
            have hyes : Hid (doFold k A L = doFold k (putS ktS.lt B gd M) (L.drop (j + 1))) := Lib.hid (by rw [HREST.out, if_pos hMr])
            have hMb := Lib.hid (right_b hMr)
            have e0 := cell_obj hr10 0 (.int .i64 M.free) rfl
            have e1 := cell_obj hr10 1 (.int .i64 M.held) rfl
            have e2 := cell_obj hr10 2 (.int .i64 M.picked) rfl
            have e3 := cell_obj hr10 3 (.int .i64 M.aside) rfl
            have e4 := cell_obj hr10 4 (.int .i64 M.received) rfl
            have e5 := cell_obj hr10 5 (.int .i64 M.returned) rfl
            have e6 := cell_obj hr10 6 (.int .i64 M.counted) rfl
            have e7 := cell_obj hr10 7 (.int .i64 M.came) rfl
            have e8 := cell_obj hr10 8 (.int .i64 M.shipped) rfl
            have e9 := cell_obj hr10 9 (.int .i64 M.scrapped) rfl
            have e10 := cell_obj hr10 10 (.int .i64 M.sent) rfl
            have cnx := cell_obj hI10.nx 0 (.map (some mb)) rfl
            obtain ⟨w11, hst, hm11, ht11⟩ := hI10.map.store kS Tryz.underlying84 (by have := HBL.out; have := HAA.out.len; have := (List.getElem?_eq_some_iff.1 HXX.out).1; have := h16.out; omega) hokh.out M
            have hst : (Instr.mapUpdate 84 (.map (some mb)) (vS gd) (.agg #[.int .i64 M.free, .int .i64 M.held, .int .i64 M.picked, .int .i64 M.aside, .int .i64 M.received, .int .i64 M.returned, .int .i64 M.counted, .int .i64 M.came, .int .i64 M.shipped, .int .i64 M.scrapped, .int .i64 M.sent])).run Tryz.prog w10 = .ok () w11 := hst
            have HI11 := Lib.hid (hI10.turn ht11 hm11 hMb.out)
            have HT11 := Lib.hid ht11
            clear hf10 hr10 hI10 hMr hm11 ht11 ce10 fe10
            gi_wp2_with fail
            refine ⟨(HF10.out.mono (fun b hb e => by omega)).trans' (Fr.turned (S := fun b => b = mb) HT11.out rfl) (fun b _ e => .inl (.inr e)), _, HI11.out, hyes.out, ?_⟩
            have := putK_len ktS.lt B gd M
            have := HBL.out
            omega
        case stop =>
          rintro D c j C W hD hk ⟨rfl, hno, B, hI⟩ hr hK
          have hc5 := cell_obj (Fa.cells (frPut (B := n0) (.deferred none) (by omega) hK rfl) hI.e) 0 (.int .i64 50) rfl
          have hd2 : Hid (doS A k L = (50, A)) := Lib.hid (by rw [hd.out, hno])
          have hF : Hid (Fr (fun _ => False) w (W.putObj D (.deferred none))) := Lib.hid ((hI.fr.putObj (l := D) (fun _ => by omega) _).mono (fun b hb e => by omega))
          clear hI hr hno
          gi_wp2_with fail
          refine ⟨by simp, .inl ⟨_, _, rfl, run_takeDeferred hK, ?_⟩⟩
          refine ⟨.int .i64 50, by simp [results, Tryz.results52, go_sem, hc5], ?_, ?_⟩
          · rw [hd2.out]
          · rw [hd2.out]; exact ⟨TS, HSA.out.fr hF.out (fun _ _ h => h), Stp.refl hF.out⟩
        case done =>
          rintro D C W hD ⟨B, hI, hrest, hBl⟩ hr hK
          have hdd : doFold k A L = some B := by rw [hrest, List.drop_length]; rfl
          have hlen := hI.map.len Tryz.underlying84 3
          have cnx := cell_obj hI.nx 0 (.map (some mb)) rfl
          have hg0 : w.heap[g]? = some (.cells #[.map (some m)] 86) := by
            obtain ⟨⟨m', e1, e2, e3⟩, -, -⟩ := HSA.out
            have := cell_obj e1 0 _ rfl
            rw [HC.out] at this
            cases this
            exact e1
          have hgW := hI.fr.at_ hg0 (by have := HGL.out; omega)
          have hbl2 : (B.length : Int) ≤ 80 := by have := HAA.out.len; have := h16.out; omega
          obtain ⟨bl, hbl⟩ : ∃ bl, B.length = bl := ⟨_, rfl⟩
          rw [hbl] at hlen hbl2
          have HI := Lib.hid hI; have HGW := Lib.hid hgW
          by_cases h64 : (64 : Int) < bl
          · have hd2 : Hid (doS A k L = (2, A)) := Lib.hid (by rw [hd.out, hdd]; show (if 64 < B.length then _ else _) = _; rw [if_pos (by omega)])
            have ce := cell_obj hI.e 0 (.int .i64 0) rfl
            have fe := obj_frozen hI.e 0
            have hKs := (Below.heap_setCell W ⟨n0 + 1, 0, none⟩ (.int .i64 2) D (by show D ≠ n0 + 1; omega)).trans hK
            have hc5 := cell_obj (Fa.cells (frPut (B := n0) (.deferred none) (by omega) hKs rfl) (hI.put 2).e) 0 (.int .i64 2) rfl
            have hF : Hid (Fr (fun _ => False) w ((W.setCell ⟨n0 + 1, 0, none⟩ (.int .i64 2)).putObj D (.deferred none))) := Lib.hid (((hI.put 2).fr.putObj (l := D) (fun _ => by omega) _).mono (fun b hb e => by omega))
            clear hI hr hrest hdd hBl hgW hK
            gi_wp2_with fail
            refine ⟨by simp, .inl ⟨_, _, rfl, run_takeDeferred hKs, ?_⟩⟩
            refine ⟨.int .i64 2, by simp [results, Tryz.results52, go_sem, hc5], ?_, ?_⟩
            · rw [hd2.out]
            · rw [hd2.out]; exact ⟨TS, HSA.out.fr hF.out (fun _ _ h => h), Stp.refl hF.out⟩
          · have hd2 : Hid (doS A k L = (0, B)) := Lib.hid (by rw [hd.out, hdd]; show (if 64 < B.length then _ else _) = _; rw [if_neg (by omega)])
            have cgW := cell_obj hgW 0 (.map (some m)) rfl
            have fgW := obj_frozen hgW 0
            have hgne : g ≠ n0 + 1 := by have := HGL.out; omega
            have hFg : Fr (fun b => b = g) W (W.setCell ⟨g, 0, none⟩ (.map (some mb))) := (Fr.refl (fun b => b = g) W).setCell (p := ⟨g, 0, none⟩) (fun _ => rfl) _
            have hE1 := hFg.at_ hI.e (fun e => hgne e.symm)
            have ce := cell_obj hE1 0 (.int .i64 0) rfl
            have fe := obj_frozen hE1 0
            obtain ⟨V, hV⟩ : ∃ V, (W.setCell ⟨g, 0, none⟩ (.map (some mb))).setCell ⟨n0 + 1, 0, none⟩ (.int .i64 0) = V := ⟨_, rfl⟩
            have hFV : Fr (fun b => b = g ∨ b = n0 + 1) W V := by
              rw [← hV]
              exact (hFg.mono (fun _ _ e => .inl e)).setCell (p := ⟨n0 + 1, 0, none⟩) (fun _ => .inr rfl) _
            have hEV : V.heap[n0 + 1]? = some (.cells #[.int .i64 0] 25) := by rw [← hV]; exact obj_set hE1 0 _
            have hGV : V.heap[g]? = some (.cells #[.map (some mb)] 86) := by
              rw [← hV]
              exact ((Fr.refl (fun b => b = n0 + 1) _).setCell (p := ⟨n0 + 1, 0, none⟩) (fun _ => rfl) _).at_ (obj_set hgW 0 _) hgne
            have hKs : V.heap[D]? = some (.deferred (some [])) := hFV.at_ hK (by have := HGL.out; omega)
            have hn' := hI.hn
            have hmV := hFV.mp hI.map (by have := HGL.out; omega)
            have hc5 := cell_obj (Fa.cells (frPut (B := n0) (.deferred none) (by omega) hKs rfl) hEV) 0 (.int .i64 0) rfl
            have hP := frPut (B := n0) (.deferred none) (show n0 ≤ D by omega) hKs rfl
            have hfin : SA (V.putObj D (.deferred none)) g (fun b => TS b ∨ b = mb) B ∧ Stp TS w (V.putObj D (.deferred none)) (fun b => TS b ∨ b = mb) := by
              have hFt : Fr (fun b => b = g ∨ n0 ≤ b) w (V.putObj D (.deferred none)) :=
                ((hI.fr.mono (S' := fun b => b = g ∨ n0 ≤ b) (fun b hb e => .inr e)).trans (hFV.mono (S' := fun b => b = g ∨ n0 ≤ b) (fun b _ e => e.imp id (fun e => by omega)))).trans (hP.mono (S' := fun b => b = g ∨ n0 ≤ b) (fun b _ e => .inr e.1))
              have hmlt := hI.map.lt
              have hsW := hFV.size
              refine ⟨⟨⟨mb, Fa.cells hP hGV, Fa.mp hP hmV, .inr rfl⟩, .inl HSA.out.own, fun b hb => ?_⟩, hFt.mono (fun b hb e => e.elim (fun e => e ▸ HSA.out.own) (fun e => by omega)), fun b hb => hb.elim .inl (fun e => .inr (by omega))⟩
              have := hFt.size
              rcases hb with hb | rfl
              · have := HSA.out.lt b hb; omega
              · have := hP.size; omega
            have HFIN := Lib.hid hfin; have HKS := Lib.hid hKs
            clear hI hr hrest hdd hBl hgW hK hFg hE1 hFV hEV hGV hKs hmV hP hfin
            gi_wp2_with fail
            refine ⟨by simp, .inl ⟨_, _, rfl, run_takeDeferred HKS.out, ?_⟩⟩
            refine ⟨.int .i64 0, by simp [results, Tryz.results52, go_sem, hc5], ?_, ?_⟩
            · rw [hd2.out]
            · rw [hd2.out]; exact ⟨_, HFIN.out⟩
      · have hd : Hid (doS A k L = (x, A)) := Lib.hid (by
          unfold doS
          rw [if_neg hkr, if_neg (by rw [hml]; decide), if_pos (by rw [hx]; exact hx0), hx])
        have hxB : (x != 0) = true := by simp; exact hx0
        clear hkr hml hx hx0
        gi_wp2_with (first
          | (gi_at_call 34; refine (hmdc.out _ hcg0).mono ?_; rintro e w1 ⟨rfl, rfl⟩)
          | (gi_at_call 44; refine (callsIn_wide.2 hIM.out).mono ?_; rintro e w2 ⟨rfl, hf2⟩; have HF2 := Lib.hid (HF0.out.trans hf2); have hck2 := cell_obj (hf2.at_ HK0.out (fun h => h)) 0 (.int .i64 k) rfl; have HX2 := Lib.hid hf2; clear hf2)
          | (gi_at_call 87; refine (callsIn_wide.2 (hSM.out _ HF2.out)).mono ?_; rintro e w3 ⟨rfl, hf3⟩; have hE3 := Lib.hid ((HX2.out.trans hf3).at_ HE0.out (fun h => h)); have ce3 := cell_obj hE3.out 0 (.int .i64 0) rfl; have fe3 := obj_frozen hE3.out 0; have HF3 := Lib.hid (HF2.out.trans hf3); clear hf3))
        have hres := cell_obj (obj_set hE3.out 0 (.int .i64 x)) 0 (.int .i64 x) rfl
        refine ⟨.int .i64 x, by simp [results, Tryz.results52, go_sem, hres], ?_, ?_⟩
        · rw [hd.out]
        · rw [hd.out]; exact HRF.out _ _ HF3.out
end Go.Proofs.YtmflpeklalgibaaGreat

namespace Go.Proofs.YtmflpeklalgibaaGreat
open Go.RowKit Go.Maps
section
variable {w : World} {g gs m : Nat} {T0 TB : Nat → Prop} {A : Stk} {l : List (Int × HV)}
theorem hStock (h : SB w g gs m T0 TB A l) : Calls Tryz.prog 33 #[.pointer (some ⟨g, 0, none⟩)] w fun e w' => ∃ g' TS', e = .returned (.pointer (some ⟨g', 0, none⟩)) ∧ SA w' g' TS' A ∧ Fr (fun _ => False) w w' ∧ ∀ b, TS' b → w.heap.size ≤ b := by
  obtain ⟨c0, c1⟩ := h.cells
  have hF := Lib.hid (sFork w gs T0 A h.stk)
  have hm := Lib.hid (hmade w g m c1)
  clear h
  go_enter Tryz.func33, Tryz.ntmps33
  go_wp2_with (first
    | (go_at_call 64; refine hm.out.mono ?_; rintro e w' ⟨rfl, rfl⟩)
    | (go_at_call 65; refine hF.out.mono ?_; rintro e w2 ⟨g', TS', rfl, h1, h2, h3⟩; have H1 := Lib.hid h1; have H2 := Lib.hid h2; have H3 := Lib.hid h3; clear h1 h2 h3))
  go_ret
  exact ⟨g', TS', rfl, H1.out, H2.out, H3.out⟩
theorem hCount (s : Str) (n : Int) (h : SB w g gs m T0 TB A l) (hs : okS s) (hA : SOk A) : Calls Tryz.prog 62 #[.pointer (some ⟨g, 0, none⟩), vS s, .int .i64 n] w fun e w' => e = .returned (.tuple #[.int .i64 (countS A s n).1, .int .i64 (countS A s n).2.1]) ∧ SB w' g gs m T0 TB (countS A s n).2.2 l ∧ Fr T0 w w' := by
  obtain ⟨c0, c1⟩ := h.cells
  have hF := sCount w gs T0 A s n h.stk hs hA
  have hm := Lib.hid (hmade w g m c1)
  have HH := Lib.hid h
  obtain ⟨⟨R1, R2, B⟩, hR⟩ : ∃ R, countS A s n = R := ⟨_, rfl⟩
  rw [hR] at hF ⊢
  have HF := Lib.hid hF
  clear h hF hR
  go_enter Tryz.func62, Tryz.ntmps62
  go_wp2_with (first
    | (go_at_call 64; refine hm.out.mono ?_; rintro e w' ⟨rfl, rfl⟩)
    | (go_at_call 95; refine HF.out.mono ?_; rintro e w2 ⟨rfl, h1, h2⟩; have H1 := Lib.hid h1; have H2 := Lib.hid h2; clear h1 h2))
  go_ret2
  exact ⟨rfl, HH.out.stock H1.out ⟨H2.out, fun b hb => .inl hb⟩, H2.out⟩
def inDo (k : Int) : Prop := k = 1 ∨ k = 7 ∨ k = 8 ∨ k = 9 ∨ k = 10 ∨ k = 11
instance (k : Int) : Decidable (inDo k) := by unfold inDo; infer_instance
def doH (A : Stk) (k : Int) (L : Its) : Int × Stk := if inDo k then doS A k L else (1, A)
set_option maxRecDepth 100000 in
set_option maxHeartbeats 4000000 in
theorem hDo (k : Int) (v : Value) (L : Its) (h : SB w g gs m T0 TB A l) (hA : SOk A) (hv : Il w v L) : Calls Tryz.prog 61 #[.pointer (some ⟨g, 0, none⟩), .int .i64 k, v] w fun e w' => e = .returned (.int .i64 (doH A k L).1) ∧ ∃ T0', SB w' g gs m T0' TB (doH A k L).2 l ∧ Stp T0 w w' T0' := by
  obtain ⟨c0, c1⟩ := h.cells
  have hF := sDo w gs T0 A k v L h.stk hA hv
  have hm := Lib.hid (hmade w g m c1)
  have HH := Lib.hid h
  unfold doH
  by_cases hk : inDo k
  · rw [if_pos hk]
    obtain ⟨⟨R1, B⟩, hR⟩ : ∃ R, doS A k L = R := ⟨_, rfl⟩
    rw [hR] at hF ⊢
    have HF := Lib.hid hF
    clear h hF hR hv
    rcases hk with rfl | rfl | rfl | rfl | rfl | rfl
    all_goals
      go_enter Tryz.func61, Tryz.ntmps61
      go_wp2_with (first
        | (go_at_call 64; refine hm.out.mono ?_; rintro e w' ⟨rfl, rfl⟩)
        | (go_at_call 52; refine HF.out.mono ?_; rintro e w2 ⟨rfl, T0', h1, h2⟩; have H1 := Lib.hid h1; have H2 := Lib.hid h2; clear h1 h2))
      go_ret
      exact ⟨rfl, T0', HH.out.stock H1.out H2.out, H2.out⟩
  · rw [if_neg hk]
    unfold inDo at hk
    have d1 : (k == 1) = false := by simp; omega
    have d2 : (k == 7) = false := by simp; omega
    have d3 : (k == 8) = false := by simp; omega
    have d4 : (k == 9) = false := by simp; omega
    have d5 : (k == 10) = false := by simp; omega
    have d6 : (k == 11) = false := by simp; omega
    clear h hF hv hk
    go_enter Tryz.func61, Tryz.ntmps61
    go_wp2_with (go_at_call 64; refine hm.out.mono ?_; rintro e w' ⟨rfl, rfl⟩)
    go_ret
    exact ⟨rfl, T0, HH.out, Stp.refl (Fr.refl _ _)⟩
end
end Go.Proofs.YtmflpeklalgibaaGreat

namespace Go.Proofs.YtmflpeklalgibaaGreat
/-- The place of the first that is so; -1: none. -/
def idxOf {α : Type} (p : α → Bool) (L : List α) : Int := match L.findIdx? p with | some i => (i : Int) | none => -1
theorem idxOf_at {α : Type} {p : α → Bool} {L : List α} {j : Nat} {x : α} (h : L[j]? = some x) (hp : p x = true) (hno : ∀ q y, q < j → L[q]? = some y → p y = false) : idxOf p L = j := by
  have : L.findIdx? p = some j := by
    rw [List.findIdx?_eq_some_iff_getElem]
    obtain ⟨hj, e⟩ := List.getElem?_eq_some_iff.1 h
    refine ⟨hj, by rw [e]; exact hp, fun q hq => ?_⟩
    have := hno q _ hq (List.getElem?_eq_getElem (by omega))
    simp [this]
  unfold idxOf
  rw [this]
theorem idxOf_no {α : Type} {p : α → Bool} {L : List α} (h : ∀ (q : Nat) (y : α), L[q]? = some y → p y = false) : idxOf p L = -1 := by
  have : L.findIdx? p = none := by
    rw [List.findIdx?_eq_none_iff]
    intro x hx
    obtain ⟨q, hq⟩ := List.getElem?_of_mem hx
    exact h q x hq
  unfold idxOf
  rw [this]
end Go.Proofs.YtmflpeklalgibaaGreat

namespace Go.Proofs.YtmflpeklalgibaaGreat
open Go.RowKit Go.Maps
def nuC (n : Int) : Array Value := #[.int .i64 n]
def okNu (_ : World) (n : Int) : Prop := okI n
theorem okNuKeeps : Keeps okNu := fun _ _ _ _ h _ _ => h
theorem kNone1 (w : World) (n : Int) : Calls Tryz.prog 159 #[.int .i64 n] w fun e w' => e = .returned (.bool (!mayI n)) ∧ w = w' := by
  obtain ⟨b, hb⟩ : ∃ b, mayI n = b := ⟨_, rfl⟩
  have hm := kMay w n
  rw [hb] at hm ⊢
  have HM := Lib.hid hm
  clear hm
  go_enter Tryz.func159, Tryz.ntmps159
  go_wp2_with (go_at_call 78; refine HM.out.mono ?_; rintro e w' ⟨rfl, rfl⟩)
  go_ret
  exact ⟨rfl, rfl⟩
set_option maxRecDepth 100000 in
set_option maxHeartbeats 4000000 in
theorem ixNum (w : World) (v : Value) (L : List Int) (h : Sq 1 nuC okNu w v L) :
    Calls Tryz.prog 170 #[v, .func (.func 159) #[] #[]] w fun e w' => e = .returned (.int .i64 (idxOf (fun n => !mayI n) L)) ∧ Fr (fun _ => False) w w' := by
  obtain ⟨a, c, rfl⟩ := h.sl
  obtain ⟨N, hN⟩ : ∃ N, L.length = N := ⟨_, rfl⟩
  have hNb : (N : Int) ≤ 9223372036854775807 := by have := h.len; omega
  have HL := Lib.hid h; have HN := Lib.hid hN
  rw [hN] at HL ⊢
  obtain ⟨R, hR⟩ : ∃ R, idxOf (fun n => !mayI n) L = R := ⟨_, rfl⟩
  have HR := Lib.hid hR
  rw [hR]
  clear h hN hR
  go_enter Tryz.func170, Tryz.ntmps170
  go_wp2_with fail
  go_loopw [5, 8] (fun _ i wr => ∃ j : Nat, j ≤ N ∧ i = .int .i64 j ∧ Fr (fun _ => False) w wr ∧ ∀ q x, q < j → L[q]? = some x → (!mayI x) = false) (fun _ i _ => N - (intOf i).toNat)
  case atStart => exact ⟨0, Nat.zero_le _, rfl, Fr.refl _ _, fun q x hq => by omega⟩
  case round =>
    obtain ⟨j, hj, rfl, hfr, hno⟩ := hrel
    have HFR := Lib.hid hfr; have HNO := Lib.hid hno
    clear hno
    by_cases hlt : j < N
    · obtain ⟨x, hx⟩ : ∃ x, L[j]? = some x := ⟨L[j]'(by rw [HN.out]; exact hlt), List.getElem?_eq_getElem _⟩
      obtain ⟨ad, rfl, hok, z0, zs⟩ := (HL.out.fr0 okNuKeeps hfr).at_ hx
      have hC := kNone1 wr x
      obtain ⟨b, hb⟩ : ∃ b, (!mayI x) = b := ⟨_, rfl⟩
      rw [hb] at hC
      have HB := Lib.hid hb; have HX := Lib.hid hx
      have hjI : (j : Int) < N := by omega
      have x0 := z0 (.int .i64 x) rfl
      rw [Nat.mul_one] at x0
      have HC := Lib.hid hC
      clear hC hb hx hok z0 zs hfr
      cases b with
      | true =>
        have hres : Hid (R = (j : Int)) := Lib.hid (by rw [← HR.out]; exact idxOf_at HX.out HB.out HNO.out)
        go_wp2_with (go_at_call 159; refine HC.out.mono ?_; rintro e w1 ⟨rfl, rfl⟩)
        go_ret
        exact ⟨by rw [hres.out]; rfl, HFR.out⟩
      | false =>
        go_wp2_with (go_at_call 159; refine HC.out.mono ?_; rintro e w1 ⟨rfl, rfl⟩)
        go_roundw
        case rel =>
          refine ⟨j + 1, by omega, by go_num, HFR.out, fun q y hq hy => ?_⟩
          by_cases e : q = j
          · subst e
            have := HX.out
            rw [this] at hy
            injection hy with hy
            rw [← hy]
            exact HB.out
          · exact HNO.out q y (by omega) hy
        case measure => simp [intOf]; omega
    · obtain rfl : j = N := by omega
      have hres : Hid (R = -1) := Lib.hid (by rw [← HR.out]; exact idxOf_no (fun q x hx => HNO.out q x (by have := (List.getElem?_eq_some_iff.1 hx).1; have := HN.out; omega) hx))
      have hjI : ¬ (j : Int) < j := by omega
      clear hfr
      go_wp2_with fail
      go_ret
      exact ⟨by rw [hres.out]; rfl, HFR.out⟩
theorem kNone (w : World) (v : Value) (L : List Int) (h : Sq 1 nuC okNu w v L) : Calls Tryz.prog 138 #[v] w fun e w' => e = .returned (.bool (decide (0 ≤ idxOf (fun n => !mayI n) L))) ∧ Fr (fun _ => False) w w' := by
  have hI := ixNum w v L h
  obtain ⟨R, hR⟩ : ∃ R, idxOf (fun n => !mayI n) L = R := ⟨_, rfl⟩
  rw [hR] at hI ⊢
  have HI := Lib.hid hI
  have hC : Calls Tryz.prog 158 #[v, .func (.func 159) #[] #[]] w fun e w' => e = .returned (.bool (decide (0 ≤ R))) ∧ Fr (fun _ => False) w w' := by
    go_enter Tryz.func158, Tryz.ntmps158
    go_wp2_with (go_at_call 170; refine HI.out.mono ?_; rintro e w' ⟨rfl, hf⟩)
    go_ret
    exact ⟨rfl, hf⟩
  have HC := Lib.hid hC
  clear hC hI hR h
  go_enter Tryz.func138, Tryz.ntmps138
  go_wp2_with (go_at_call 158; refine HC.out.mono ?_; rintro e w' ⟨rfl, hf⟩)
  go_ret
  exact ⟨rfl, hf⟩
/-- A sum of counts. -/
def addK (a b : Int) : Int × Int := if mayI a = true ∧ mayI b = true then (if 1099511627776 < a + b then (0, 50) else (a + b, 0)) else (0, 1)
set_option maxRecDepth 100000 in
set_option maxHeartbeats 4000000 in
theorem kAdd (w : World) (a b : Int) (ha : okI a) (hb : okI b) : Calls Tryz.prog 128 #[.int .i64 a, .int .i64 b] w fun e w' => e = .returned (.tuple #[.int .i64 (addK a b).1, .int .i64 (addK a b).2]) ∧ Fr (fun _ => False) w w' := by
  obtain ⟨n0, hn0⟩ : ∃ n0, w.heap.size = n0 := ⟨_, rfl⟩
  have hsq : Sq 1 nuC okNu (w.alloc (.cells #[.int .i64 a, .int .i64 b] 3)) (.slice (some ⟨n0, 0, none⟩) 2 2) [a, b] := by
    refine ⟨by simp [maxLen], some ⟨n0, 0, none⟩, 2, rfl, fun i r hr => ?_⟩
    have h0 : (w.alloc (.cells #[.int .i64 a, .int .i64 b] 3)).heap[n0]? = some (.cells #[.int .i64 a, .int .i64 b] 3) := heap_at hn0.symm _
    match i, hr with
    | 0, hr => cases hr; exact ⟨ha, _, rfl, fun j u hu => by match j, hu with | 0, hu => cases hu; exact cell_obj h0 0 _ rfl⟩
    | 1, hr => cases hr; exact ⟨hb, _, rfl, fun j u hu => by match j, hu with | 0, hu => cases hu; exact cell_obj h0 1 _ rfl⟩
  have hN := kNone _ _ _ hsq
  have hid : decide (0 ≤ idxOf (fun n => !mayI n) [a, b]) = !(mayI a && mayI b) := by
    unfold idxOf
    cases h1 : mayI a <;> cases h2 : mayI b <;> simp [List.findIdx?_cons, h1, h2]
  rw [hid] at hN
  subst hn0
  unfold addK
  by_cases hm : mayI a = true ∧ mayI b = true
  · rw [if_pos hm]
    obtain ⟨a0, a1⟩ := mayI_iff.1 hm.1
    obtain ⟨b0, b1⟩ := mayI_iff.1 hm.2
    rw [hm.1, hm.2] at hN
    have HN := Lib.hid hN
    have hw : IntKind.i64.wrap (1099511627776 - a) = 1099511627776 - a := IntWalk.i64_in _ ⟨by omega, by omega⟩
    have hw2 : IntKind.i64.wrap (a + b) = a + b := IntWalk.i64_in _ ⟨by omega, by omega⟩
    clear hN hid hsq hm
    by_cases ho : 1099511627776 < a + b
    · rw [if_pos ho]
      have ho2 : 1099511627776 - a < b := by omega
      go_enter Tryz.func128, Tryz.ntmps128
      go_wp2_with (go_at_call 138; refine HN.out.mono ?_; rintro e w2 ⟨rfl, hf⟩)
      go_ret2
      exact ⟨rfl, ((Fr.refl _ w).alloc _).trans hf⟩
    · rw [if_neg ho]
      have ho2 : ¬ 1099511627776 - a < b := by omega
      go_enter Tryz.func128, Tryz.ntmps128
      go_wp2_with (go_at_call 138; refine HN.out.mono ?_; rintro e w2 ⟨rfl, hf⟩)
      go_ret2
      exact ⟨rfl, ((Fr.refl _ w).alloc _).trans hf⟩
  · rw [if_neg hm]
    have hf : (!(mayI a && mayI b)) = true := by
      cases h1 : mayI a <;> cases h2 : mayI b <;> simp_all
    rw [hf] at hN
    have HN := Lib.hid hN
    clear hN hid hsq hm hf
    go_enter Tryz.func128, Tryz.ntmps128
    go_wp2_with (go_at_call 138; refine HN.out.mono ?_; rintro e w2 ⟨rfl, hf⟩)
    go_ret2
    exact ⟨rfl, ((Fr.refl _ w).alloc _).trans hf⟩
end Go.Proofs.YtmflpeklalgibaaGreat

namespace Go.Proofs.YtmflpeklalgibaaGreat
open Go.RowKit
section
variable {F : Fence} {n : Nat} {P : Program} {ops : Array Oper} {Q : Exit → Act → World → Prop} {md : Region.Mode}
end
end Go.Proofs.YtmflpeklalgibaaGreat

namespace Go.Proofs.YtmflpeklalgibaaGreat
open Go.RowKit Go.Maps
attribute [local go_sem] Oper.semAt_some
theorem kSN : KO Tryz.prog 9 ktS := koS Tryz.underlying9
abbrev encN : Int → Value := .int .i64
/-- The call's own blocks: its two results, its map (block n0 + 2), the map's variable. -/
structure SmI (w0 W : World) (n0 : Nat) (rv : Value) (e : Int) (m : Its) : Prop where
  res : W.heap[n0]? = some (.cells #[rv] 76)
  err : W.heap[n0 + 1]? = some (.cells #[.int .i64 e] 25)
  out : W.heap[n0 + 3]? = some (.cells #[.map (some (n0 + 2))] 76)
  mp : Mp Tryz.prog W 9 ktS encN (n0 + 2) m
  fr : Fr (fun b => n0 ≤ b) w0 W
section
variable {w0 W W' : World} {n0 B : Nat} {rv : Value} {e : Int} {m : Its}
theorem SmI.fa (h : SmI w0 W n0 rv e m) (hf : Fa B W W') (hB : w0.heap.size ≤ B) : SmI w0 W' n0 rv e m :=
  ⟨Fa.cells hf h.res, Fa.cells hf h.err, Fa.cells hf h.out, Fa.mp hf h.mp, h.fr.trans' hf (fun b hb e => by have := e.1; omega)⟩
theorem SmI.keep (h : SmI w0 W n0 rv e m) (hf : Fr (fun _ => False) W W') : SmI w0 W' n0 rv e m :=
  ⟨hf.at_ h.res (fun h => h), hf.at_ h.err (fun h => h), hf.at_ h.out (fun h => h), hf.mp h.mp (fun h => h), h.fr.trans' hf (fun _ _ e => e.elim)⟩
theorem SmI.set (h : SmI w0 W n0 rv e m) (u : Value) (x : Int) : SmI w0 ((W.setCell ⟨n0, 0, none⟩ u).setCell ⟨n0 + 1, 0, none⟩ (.int .i64 x)) n0 u x m := by
  have hF : Fr (fun b => b = n0 ∨ b = n0 + 1) W ((W.setCell ⟨n0, 0, none⟩ u).setCell ⟨n0 + 1, 0, none⟩ (.int .i64 x)) := ((Fr.refl _ W).setCell (p := ⟨n0, 0, none⟩) (fun _ => .inl rfl) _).setCell (p := ⟨n0 + 1, 0, none⟩) (fun _ => .inr rfl) _
  have hF1 : Fr (fun b => b = n0) W (W.setCell ⟨n0, 0, none⟩ u) := (Fr.refl (fun b => b = n0) W).setCell (p := ⟨n0, 0, none⟩) (fun _ => rfl) _
  have hF2 : Fr (fun b => b = n0 + 1) (W.setCell ⟨n0, 0, none⟩ u) ((W.setCell ⟨n0, 0, none⟩ u).setCell ⟨n0 + 1, 0, none⟩ (.int .i64 x)) := (Fr.refl (fun b => b = n0 + 1) _).setCell (p := ⟨n0 + 1, 0, none⟩) (fun _ => rfl) _
  exact ⟨hF2.at_ (obj_set h.res 0 u) (by omega), obj_set (hF1.at_ h.err (by omega)) 0 _, hF.at_ h.out (by omega), hF.mp h.mp (by omega), h.fr.trans' hF (fun b _ e => by omega)⟩
theorem SmI.put {m' : Its} (h : SmI w0 W n0 rv e m) (hm : Mp Tryz.prog W' 9 ktS encN (n0 + 2) m') (ht : W.mapTurned W' (n0 + 2)) : SmI w0 W' n0 rv e m' := by
  have hF : Fr (fun b => b = n0 + 2) W W' := Fr.turned ht rfl
  exact ⟨hF.at_ h.res (by omega), hF.at_ h.err (by omega), hF.at_ h.out (by omega), hm, h.fr.trans' hF (fun b _ e => by omega)⟩
end
def Si1 (w : World) (n0 : Nat) (L : Its) (j : Nat) (_ : Nat → Prop) (W : World) : Prop := SmI w W n0 (.map none) 0 [] ∧ ∀ (i : Nat) (p : Str × Int), i < j → L[i]? = some p → badIt p = false
def Sx1 (w : World) (n0 : Nat) (L : Its) (c : Code) (_ : Nat) (_ : Nat → Prop) (W : World) : Prop := c = .ret ∧ (sumsF L).1 = 60 ∧ SmI w W n0 (.map none) 60 []
def Si2 (w : World) (n0 D : Nat) (L : Its) (j : Nat) (_ : Nat → Prop) (W : World) : Prop := ∃ m, SmI w W n0 (.map none) 0 m ∧ sumsM (L.take j) = some m ∧ W.heap[D]? = some (.deferred (some []))
def Sx2 (w : World) (n0 D : Nat) (L : Its) (c : Code) (_ : Nat) (_ : Nat → Prop) (W : World) : Prop := c = .ret ∧ (sumsF L).1 = 50 ∧ ∃ m, SmI w W n0 (.map none) 50 m ∧ W.heap[D]? = some (.deferred (some []))
theorem def_keep {B D : Nat} {W W' : World} (h : W.heap[D]? = some (.deferred (some []))) (hf : Fa B W W') (hD : D < B) : W'.heap[D]? = some (.deferred (some [])) :=
  hf.at_ h (fun e => by have := e.1; omega)
theorem sums_bad {L : Its} {j : Nat} {p : Str × Int} (h : L[j]? = some p) (hb : badIt p = true) : (sumsF L).1 = 60 := by
  unfold sumsF
  rw [if_pos (List.any_eq_true.2 ⟨p, List.mem_of_getElem? h, hb⟩)]
theorem sums_good {L : Its} (h : ∀ (i : Nat) (p : Str × Int), i < L.length → L[i]? = some p → badIt p = false) : sumsF L = match sumsM L with | some m => (0, m) | none => (50, []) := by
  unfold sumsF
  have : L.any badIt = false := List.any_eq_false.2 (fun p hp => by
    obtain ⟨i, hi, rfl⟩ := List.getElem_of_mem hp
    rw [h i _ hi (List.getElem?_eq_getElem hi)]; simp)
  rw [this, if_neg (by simp)]
  cases sumsM L <;> rfl
theorem sumStep_at {m L : Its} {p : Str × Int} (h : SumOk m L) (hp : badIt p = false) : sumStep (some m) p = (if (addK ((getS m p.1).getD 0) p.2).2 = 0 then some (putS ktS.lt m p.1 (addK ((getS m p.1).getD 0) p.2).1) else none) ∧ ((addK ((getS m p.1).getD 0) p.2).2 = 0 ∨ (addK ((getS m p.1).getD 0) p.2).2 = 50) := by
  have h1 := h.at_ p.1
  have hm : mayI ((getS m p.1).getD 0) = true := mayI_iff.2 h1
  have hp2 : mayI p.2 = true := by
    unfold badIt at hp
    have h3 : (goodB p.1 && mayI p.2) = true := by simpa using hp
    rw [Bool.and_eq_true] at h3
    exact h3.2
  have ha : addK ((getS m p.1).getD 0) p.2 = if 1099511627776 < (getS m p.1).getD 0 + p.2 then (0, 50) else ((getS m p.1).getD 0 + p.2, 0) := by
    unfold addK
    rw [if_pos ⟨hm, hp2⟩]
  rw [ha]
  show ((if 1099511627776 < (getS m p.1).getD 0 + p.2 then none else some (putS ktS.lt m p.1 ((getS m p.1).getD 0 + p.2))) = _) ∧ _
  by_cases hs : 1099511627776 < (getS m p.1).getD 0 + p.2
  · rw [if_pos hs, if_pos hs]
    exact ⟨rfl, .inr rfl⟩
  · rw [if_neg hs, if_neg hs]
    exact ⟨rfl, .inl rfl⟩
theorem sumsM_len : ∀ (B m m' : Its), B.foldl sumStep (some m) = some m' → m'.length ≤ m.length + B.length
  | [], m, m', e => by
    obtain rfl : m = m' := Option.some.inj e
    omega
  | p :: r, m, m', e => by
    rw [List.foldl_cons] at e
    by_cases hs : 1099511627776 < sumAt m p
    · have : sumStep (some m) p = none := by simp only [sumStep, if_pos hs]
      rw [this, sumStep_none] at e; cases e
    · have h1 : sumStep (some m) p = some (putS ktS.lt m p.1 (sumAt m p)) := by simp only [sumStep, if_neg hs]
      rw [h1] at e
      have h2 := sumsM_len r _ m' e
      have h3 := putK_len ktS.lt m p.1 (sumAt m p)
      rw [List.length_cons]
      omega
theorem lookN {m : Its} {W : World} {b : Nat} {g : Str} (h : Mp Tryz.prog W 9 ktS encN b m) (hg : okS g) : (Instr.lookup 76 (.map (some b)) (vS g) false).run Tryz.prog W = .ok (.int .i64 ((getS m g).getD 0)) W := by
  have h0 : (zeroValue 3).run Tryz.prog W = .ok (.int .i64 0) W := by kernel_rfl
  have := h.look kSN Tryz.underlying76 h0 (x := g) hg
  rw [show ktS.enc g = vS g from rfl] at this
  rw [this]
  cases getS m g <;> rfl
set_option maxRecDepth 100000 in
set_option maxHeartbeats 8000000 in
theorem iSums (w : World) (v : Value) (L : Its) (h : Il w v L) : Calls Tryz.prog 107 #[v] w fun e w' => ∃ mv, e = .returned (.tuple #[mv, .int .i64 (sumsF L).1]) ∧ ((sumsF L).1 ≠ 0 → mv = .map none) ∧
    ((sumsF L).1 = 0 → mv = .map (some (w.heap.size + 2)) ∧ Mp Tryz.prog w' 9 ktS encN (w.heap.size + 2) (sumsF L).2) ∧ Fr (fun _ => False) w w' := by
  obtain ⟨n0, hn0⟩ : ∃ n0, w.heap.size = n0 := ⟨_, rfl⟩
  have HS := Lib.hid hn0
  have HL := Lib.hid h
  have hob := h.lt
  have HOB := Lib.hid hob
  have hokl : Hid (∀ (j : Nat) (p : Str × Int), L[j]? = some p → okS p.1 ∧ okI p.2) := Lib.hid (fun j p hp => by obtain ⟨_, _, _, _, hx⟩ := h; exact ⟨(hx j p hp).1, (hx j p hp).2.1⟩)
  have hLb : (L.length : Int) ≤ 9223372036854775807 := by have := h.1; omega
  obtain ⟨a, c, rfl⟩ := h.sl
  obtain ⟨N, hN⟩ : ∃ N, L.length = N := ⟨_, rfl⟩
  have HN := Lib.hid hN
  rw [hN] at HL HOB hLb ⊢
  have HLB := Lib.hid hLb
  clear h hob hN hLb
  refine (callsIn_wide (n := 0)).1 ?_
  refine callsIn_of_wp_marks Tryz.func107 rfl trivial ?_ rfl
  simp only [Tryz.ntmps107, List.size_toArray, List.length_cons, List.length_nil, Nat.reduceAdd, Nat.reduceSub, Array.replicate_succ, Array.replicate_zero, List.push_toArray, List.append_toArray, List.nil_append, List.cons_append]
  have hfn : ∀ f, Fence.wide.fn f := fun _ => trivial
  have hmm := @run_makeMap Tryz.prog
  have hdp : Fence.wide.depth.isSome = false := rfl
  gi_wp2_with (gi_at_call 69; refine (callsIn_wide.2 (iAll _ _ _ _)).mono ?_; rintro e w1 ⟨rfl, rfl⟩)
  clear hmm
  rw [show n0 + 1 + 1 + 1 + 1 = n0 + 4 from rfl, show n0 + 1 + 1 + 1 = n0 + 3 from rfl, show n0 + 1 + 1 = n0 + 2 from rfl]
  obtain ⟨W0, hW0⟩ : ∃ W0, (((((w.alloc (.cells #[.map none] 76)).alloc (.cells #[.int .i64 0] 25)).alloc (.map #[] 0)).alloc (.cells #[.map (some (n0 + 2))] 76)).alloc (.cells #[.slice a N c] 23)) = W0 := ⟨_, rfl⟩
  have hI0 : SmI w W0 n0 (.map none) 0 [] := by
    have hm := Mp.made (κ := Str) (ν := Int) Tryz.prog ((w.alloc (.cells #[.map none] 76)).alloc (.cells #[.int .i64 0] 25)) 9 ktS encN
    rw [show ((w.alloc (.cells #[.map none] 76)).alloc (.cells #[.int .i64 0] 25)).heap.size = n0 + 2 by simp; omega] at hm
    rw [← hW0]
    exact ⟨heap_keep (heap_keep (heap_keep (heap_keep (heap_at hn0.symm _) _) _) _) _, heap_keep (heap_keep (heap_keep (heap_at (by simp; omega) _) _) _) _, heap_keep (heap_at (by simp; omega) _) _, (hm.alloc _).alloc _, (((((Fr.refl _ w).alloc _).alloc _).alloc _).alloc _).alloc _⟩
  have hB0 : Boxed W0 (n0 + 4) 23 (.slice a N c) := by rw [← hW0]; exact heap_at (by simp; omega) _
  have hs0 : W0.heap.size = n0 + 5 := by rw [← hW0]; simp; omega
  rw [hW0]
  have hL0 := HL.out.fr hI0.fr (fun b hb => by omega)
  have HI0 := Lib.hid hI0; have HS0 := Lib.hid hs0
  clear hW0 hI0
  refine rangeX (w0 := W0) (X := L) (S := fun b => b = n0 ∨ b = n0 + 1) rfl (enters_of Tryz.func101 (by kernel_rfl) rfl)
    (iAll1 _ W0 (n0 + 4) _ L hB0 hL0 (by omega) (fun hl b hb e => by have := HOB.out hl b e; omega)) (Below.refl _ _) (fun b hb => by omega) (fun _ => rfl)
    (Si1 w n0 L) (Sx1 w n0 L)
    (fun k C W W' hs hf => ⟨hs.1.fa hf (by omega), hs.2⟩) (fun c k C W W' hs hf => ⟨hs.1, hs.2.1, hs.2.2.fa hf (by omega)⟩)
    ⟨HI0.out, fun i p hi => by omega⟩ ?round ?done ?stop
  case round =>
    rintro lp j x C W hx hlp hi hr
    dsimp only [encIt]
    gi_wp2
    refine Took.mk (Fr.refl _ _) hi ?_
    rintro Wb ⟨hQ, hkn⟩ hrb hf hsz hsw hCC _
    have hok := hokl.out j x hx
    have hbad : Hid (badIt x = true → (sumsF L).1 = 60) := Lib.hid (fun e => sums_bad hx e)
    have hgood : Hid (badIt x = false → ∀ (i : Nat) (p : Str × Int), i < j + 1 → L[i]? = some p → badIt p = false) := Lib.hid (fun e i p hi hp => by
      by_cases e2 : i = j
      · subst e2
        rw [hx] at hp
        cases hp
        exact e
      · exact hkn i p (by omega) hp)
    obtain ⟨gd, n⟩ := x
    dsimp only at hok ⊢
    unfold badIt at hbad hgood
    dsimp only at hbad hgood
    have HQ := Lib.hid hQ; have HOK := Lib.hid hok
    clear hi hr hf hrb hx hQ hkn hok
    cases hg : goodB gd with
    | false =>
      rw [hg] at hbad
      have h60 := Lib.hid (hbad.out rfl)
      gi_wp2_with (first
        | (gi_at_call 77; refine (callsIn_wide.2 (iGood _ gd HOK.out.1)).mono ?_; rw [hg]; rintro e w2 ⟨rfl, hf2⟩; have hM2 := HQ.out.keep hf2; have HM2 := Lib.hid hM2; have HF2 := Lib.hid hf2; have c0 := cell_obj hM2.res 0 (.map none) rfl; have f0 := obj_frozen hM2.res 0; have c1 := cell_obj hM2.err 0 (.int .i64 0) rfl; have f1 := obj_frozen hM2.err 0; clear hM2 hf2))
      exact ⟨((HF2.out.mono (fun _ _ e => e.elim)).setCell (p := ⟨n0, 0, none⟩) (fun _ => .inl (.inl rfl)) _).setCell (p := ⟨n0 + 1, 0, none⟩) (fun _ => .inl (.inr rfl)) _, rfl, h60.out, HM2.out.set _ _⟩
    | true =>
      rw [hg] at hbad hgood
      cases hm : mayI n with
      | false =>
        rw [hm] at hbad
        have h60 := Lib.hid (hbad.out rfl)
        gi_wp2_with (first
          | (gi_at_call 77; refine (callsIn_wide.2 (iGood _ gd HOK.out.1)).mono ?_; rw [hg]; rintro e w2 ⟨rfl, hf2⟩; have hM2 := HQ.out.keep hf2; have HM2 := Lib.hid hM2; have HF2 := Lib.hid hf2; have c0 := cell_obj hM2.res 0 (.map none) rfl; have f0 := obj_frozen hM2.res 0; have c1 := cell_obj hM2.err 0 (.int .i64 0) rfl; have f1 := obj_frozen hM2.err 0; clear hM2 hf2)
          | (gi_at_call 78; refine (callsIn_wide.2 (kMay _ n)).mono ?_; rw [hm]; rintro e w3 ⟨rfl, rfl⟩))
        exact ⟨((HF2.out.mono (fun _ _ e => e.elim)).setCell (p := ⟨n0, 0, none⟩) (fun _ => .inl (.inl rfl)) _).setCell (p := ⟨n0 + 1, 0, none⟩) (fun _ => .inl (.inr rfl)) _, rfl, h60.out, HM2.out.set _ _⟩
      | true =>
        rw [hm] at hgood
        have hok := Lib.hid (hgood.out rfl)
        gi_wp2_with (first
          | (gi_at_call 77; refine (callsIn_wide.2 (iGood _ gd HOK.out.1)).mono ?_; rw [hg]; rintro e w2 ⟨rfl, hf2⟩; have hM2 := HQ.out.keep hf2; have HM2 := Lib.hid hM2; have HF2 := Lib.hid hf2; clear hM2 hf2)
          | (gi_at_call 78; refine (callsIn_wide.2 (kMay _ n)).mono ?_; rw [hm]; rintro e w3 ⟨rfl, rfl⟩))
        exact ⟨HF2.out.mono (fun _ _ e => e.elim), HM2.out, hok.out⟩
  case stop =>
    rintro D c j C W hD hk ⟨rfl, h60, hQ⟩ hr hK
    have HQ := Lib.hid hQ; have H60 := Lib.hid h60
    have c0 := cell_obj (Fa.cells (frPut (B := n0) (.deferred none) (by omega) hK rfl) hQ.res) 0 (.map none) rfl
    have c1 := cell_obj (Fa.cells (frPut (B := n0) (.deferred none) (by omega) hK rfl) hQ.err) 0 (.int .i64 60) rfl
    clear hQ h60 hr
    gi_wp2_with fail
    refine ⟨by simp, .inl ⟨_, _, rfl, run_takeDeferred hK, ?_⟩⟩
    refine ⟨.tuple #[.map none, .int .i64 60], by simp [results, Tryz.results107, go_sem, c0, c1], ?_⟩
    rw [H60.out]
    exact ⟨_, rfl, fun _ => rfl, fun e => absurd e (by omega), (HQ.out.fr.putObj (l := D) (fun _ => by omega) _).mono (fun b hb e => by omega)⟩
  case done =>
    rintro D C W hD ⟨hQ, hkn⟩ hr hK
    have hsg := sums_good (L := L) (fun i p hi hp => hkn i p hi hp)
    have HSG := Lib.hid hsg; have HKN := Lib.hid hkn; have HQ := Lib.hid hQ
    have hDl := (Array.getElem?_eq_some_iff.1 hK).1
    clear hsg hkn hQ hr hB0 hL0
    gi_wp2_with (gi_at_call 69; refine (callsIn_wide.2 (iAll _ _ _ _)).mono ?_; rintro e w2 ⟨rfl, rfl⟩)
    have hQ2 := HQ.out.keep ((Fr.refl (fun _ => False) W).alloc (.cells #[.slice a N c] 23))
    have hB2 := Boxed.new W 23 (.slice a N c)
    have hK2 := heap_keep hK (.cells #[.slice a N c] 23)
    obtain ⟨W2, hW2⟩ : ∃ W2, W.alloc (.cells #[.slice a N c] 23) = W2 := ⟨_, rfl⟩
    have hs2 : W2.heap.size = W.heap.size + 1 := by rw [← hW2]; simp
    rw [hW2] at hQ2 hB2 hK2 ⊢
    have hL2 := HL.out.fr hQ2.fr (fun b hb => by omega)
    have HQ2 := Lib.hid hQ2; have HK2 := Lib.hid hK2
    have hnD : n0 + 5 ≤ D := by have := HS0.out; omega
    clear hW2 hQ2 hK2 HQ hK
    refine rangeX (w0 := W2) (X := L) (S := fun b => b = n0 ∨ b = n0 + 1 ∨ b = n0 + 2) rfl (enters_of Tryz.func101 (by kernel_rfl) rfl)
      (iAll1 _ W2 _ _ L hB2 hL2 (by omega) (fun hl b hb e => by have := HOB.out hl b e; omega)) (Below.refl _ _) (fun b hb => by omega) (fun _ => rfl)
      (Si2 w n0 D L) (Sx2 w n0 D L)
      (fun k C W W' hs hf => by obtain ⟨m, h1, h2, h3⟩ := hs; exact ⟨m, h1.fa hf (by omega), h2, def_keep h3 hf (by omega)⟩) (fun c k C W W' hs hf => by obtain ⟨e1, e2, m, h1, h3⟩ := hs; exact ⟨e1, e2, m, h1.fa hf (by omega), def_keep h3 hf (by omega)⟩)
      ⟨[], HQ2.out, rfl, HK2.out⟩ ?round2 ?done2 ?stop2
    case round2 =>
      rintro lp j x C3 W3 hx hlp hi hr
      dsimp only [encIt]
      gi_wp2
      refine Took.mk (Fr.refl _ _) hi ?_
      rintro Wb ⟨m, hQ, hm, hKb⟩ hrb hf hsz hsw hCC _
      have hok := hokl.out j x hx
      have hjl := (List.getElem?_eq_some_iff.1 hx).1
      have hb := HKN.out j x hjl hx
      have hsum := sumsM_ok (L.take j) [] [] m SumOk.nil (fun p hp => by
        obtain ⟨i, hi, rfl⟩ := List.getElem_of_mem hp
        rw [List.length_take] at hi
        exact HKN.out i _ (by omega) (by rw [List.getElem_take]; exact List.getElem?_eq_getElem _)) hm
      have hst := sumStep_at hsum hb
      have hat := hsum.at_ x.1
      have hml : m.length < 9223372036854775807 := by
        have h1 := sumsM_len (L.take j) [] m hm
        rw [List.length_take] at h1
        have := HLB.out; have := HN.out
        simp only [List.length_nil] at h1
        omega
      have htk := sumsM_take hx
      rw [hm] at htk
      obtain ⟨gd, n⟩ := x
      dsimp only at hok hst hat ⊢
      obtain ⟨u, hu⟩ : ∃ u, (getS m gd).getD 0 = u := ⟨_, rfl⟩
      rw [hu] at hst hat
      have hlk := lookN hQ.mp hok.1
      rw [hu] at hlk
      obtain ⟨⟨s, e⟩, hR⟩ : ∃ R, addK u n = R := ⟨_, rfl⟩
      rw [hR] at hst
      have hA := fun W => kAdd W u n (by unfold okI; omega) hok.2
      rw [hR] at hA
      have co := cell_obj hQ.out 0 (.map (some (n0 + 2))) rfl
      have HQ := Lib.hid hQ; have HOK := Lib.hid hok; have HKB := Lib.hid hKb; have HST := Lib.hid hst; have HTK := Lib.hid htk; have HA := Lib.hid hA; have HX := Lib.hid hx; have HML := Lib.hid hml
      clear hi hr hf hrb hx hQ hok hKb hst htk hA hsum hb hR hu hat hm hml hjl
      by_cases he : e = 0
      · have hst := HST.out.1
        dsimp only at hst
        rw [if_pos he] at hst
        have HST2 := Lib.hid hst
        have HE := Lib.hid he
        have hsto : Hid (∀ W, Fr (fun _ => False) Wb W → ∃ w', (Instr.mapUpdate 76 (.map (some (n0 + 2))) (vS gd) (.int .i64 s)).run Tryz.prog W = .ok () w' ∧ Mp Tryz.prog w' 9 ktS encN (n0 + 2) (putS ktS.lt m gd s) ∧ W.mapTurned w' (n0 + 2)) := Lib.hid (fun W hf => (hf.mp HQ.out.mp (fun e => e)).store kSN Tryz.underlying76 HML.out HOK.out.1 s)
        subst he
        clear hst
        gi_wp2_with (gi_at_call 128; refine (callsIn_wide.2 (HA.out _)).mono ?_; rintro e w4 ⟨rfl, hf4⟩; have HF4 := Lib.hid hf4; obtain ⟨w5, hst5, hm5, ht5⟩ := hsto.out w4 hf4; have HM5 := Lib.hid hm5; have HT5 := Lib.hid ht5; have co2 := hf4.cell co (fun e => e); clear hf4 hm5 ht5)
        refine ⟨(HF4.out.mono (fun _ _ e => e.elim)).trans (Fr.turned HT5.out (.inl (.inr (.inr rfl)))), _, (HQ.out.keep HF4.out).put HM5.out HT5.out, ?_, ?_⟩
        · rw [HTK.out]; exact HST2.out
        · exact (Fr.turned (S := fun b => b = n0 + 2) HT5.out rfl).at_ (HF4.out.at_ HKB.out (fun e => e)) (by omega)
      · have hst := HST.out
        dsimp only at hst
        rw [if_neg he] at hst
        have he50 : e = 50 := hst.2.elim (fun h => absurd h he) id
        have hno := HTK.out.trans hst.1
        have H50 : Hid ((sumsF L).1 = 50) := Lib.hid (by rw [HSG.out, sumsM_no hno])
        subst he50
        have hns : ((50 : Int) != 0) = true := rfl
        clear hst hno he
        gi_wp2_with (gi_at_call 128; refine (callsIn_wide.2 (HA.out _)).mono ?_; rintro e w4 ⟨rfl, hf4⟩; have HF4 := Lib.hid hf4; have hM2 := HQ.out.keep hf4; have HM2 := Lib.hid hM2; have c0 := cell_obj hM2.res 0 (.map none) rfl; have f0 := obj_frozen hM2.res 0; have c1 := cell_obj hM2.err 0 (.int .i64 0) rfl; have f1 := obj_frozen hM2.err 0; clear hf4 hM2)
        have hF5 : Fr (fun b => b = n0 ∨ b = n0 + 1) Wb ((w4.setCell ⟨n0, 0, none⟩ (.map none)).setCell ⟨n0 + 1, 0, none⟩ (.int .i64 50)) := ((HF4.out.mono (fun _ _ e => e.elim)).setCell (p := ⟨n0, 0, none⟩) (fun _ => .inl rfl) _).setCell (p := ⟨n0 + 1, 0, none⟩) (fun _ => .inr rfl) _
        exact ⟨hF5.mono (fun b _ e => .inl (e.elim .inl (fun e => .inr (.inl e)))), rfl, H50.out, m, HM2.out.set _ _, hF5.at_ HKB.out (by omega)⟩
    case stop2 =>
      rintro D2 c j C3 W3 hD2 hk ⟨rfl, h50, m, hQ, hK1⟩ hr hK
      have HQ := Lib.hid hQ; have H50 := Lib.hid h50
      have hK1' := (World.putObj_heap_other (w := W3) (r := D2) (o := .deferred none) (k := D) (by omega)).trans hK1
      have hFx : Fa n0 W3 ((W3.putObj D2 (.deferred none)).putObj D (.deferred none)) := (frPut (B := n0) (.deferred none) (by omega) hK rfl).trans' (frPut (B := n0) (.deferred none) (by omega) hK1' rfl) (fun b hb e => ⟨e.1, by
        obtain ⟨-, o, ho, hx⟩ := e
        by_cases hbD : b = D2
        · subst hbD; exact ⟨_, hK, rfl⟩
        · exact ⟨o, (World.putObj_heap_other hbD).symm.trans ho, hx⟩⟩)
      have c0 := cell_obj (Fa.cells hFx hQ.res) 0 (.map none) rfl
      have c1 := cell_obj (Fa.cells hFx hQ.err) 0 (.int .i64 50) rfl
      clear hQ h50 hr
      gi_wp2_with fail
      refine ⟨by simp, .inl ⟨_, _, rfl, run_takeDeferred hK, ?_⟩⟩
      refine ⟨by simp, .inl ⟨_, _, rfl, run_takeDeferred hK1', ?_⟩⟩
      refine ⟨.tuple #[.map none, .int .i64 50], by simp [results, Tryz.results107, go_sem, c0, c1], ?_⟩
      rw [H50.out]
      exact ⟨_, rfl, fun _ => rfl, fun e => absurd e (by omega), ((HQ.out.fr.putObj (l := D2) (fun _ => by omega) _).putObj (l := D) (fun _ => by omega) _).mono (fun b hb e => by omega)⟩
    case done2 =>
      rintro D2 C3 W3 hD2 ⟨m, hQ, hm, hK1⟩ hr hK
      have hsm : Hid (sumsF L = (0, m)) := Lib.hid (by rw [List.take_length] at hm; rw [HSG.out, hm])
      have HQ := Lib.hid hQ
      have co := cell_obj hQ.out 0 (.map (some (n0 + 2))) rfl
      have c0 := cell_obj hQ.res 0 (.map none) rfl
      have f0 := obj_frozen hQ.res 0
      have c1 := cell_obj hQ.err 0 (.int .i64 0) rfl
      have f1 := obj_frozen hQ.err 0
      clear hQ hm hr
      have hQs := (HQ.out.set (.map (some (n0 + 2))) 0)
      obtain ⟨W4, hW4⟩ : ∃ W4, (W3.setCell ⟨n0, 0, none⟩ (.map (some (n0 + 2)))).setCell ⟨n0 + 1, 0, none⟩ (.int .i64 0) = W4 := ⟨_, rfl⟩
      have hFs : Fr (fun b => b = n0 ∨ b = n0 + 1) W3 W4 := by rw [← hW4]; exact ((Fr.refl _ _).setCell (p := ⟨n0, 0, none⟩) (fun _ => .inl rfl) _).setCell (p := ⟨n0 + 1, 0, none⟩) (fun _ => .inr rfl) _
      have hKs := hFs.at_ hK (by omega)
      have hK1s := hFs.at_ hK1 (by omega)
      gi_wp2_with fail
      rw [hW4] at hQs
      (try rw [hW4])
      have hK1' := (World.putObj_heap_other (w := W4) (r := D2) (o := .deferred none) (k := D) (by omega)).trans hK1s
      have hFx : Fa n0 W4 ((W4.putObj D2 (.deferred none)).putObj D (.deferred none)) := (frPut (B := n0) (.deferred none) (by omega) hKs rfl).trans' (frPut (B := n0) (.deferred none) (by omega) hK1' rfl) (fun b hb e => ⟨e.1, by
        obtain ⟨-, o, ho, hx⟩ := e
        by_cases hbD : b = D2
        · subst hbD; exact ⟨_, hKs, rfl⟩
        · exact ⟨o, (World.putObj_heap_other hbD).symm.trans ho, hx⟩⟩)
      have d0 := cell_obj (Fa.cells hFx hQs.res) 0 (.map (some (n0 + 2))) rfl
      have d1 := cell_obj (Fa.cells hFx hQs.err) 0 (.int .i64 0) rfl
      refine ⟨by simp, .inl ⟨_, _, rfl, run_takeDeferred hKs, ?_⟩⟩
      refine ⟨by simp, .inl ⟨_, _, rfl, run_takeDeferred hK1', ?_⟩⟩
      refine ⟨.tuple #[.map (some (n0 + 2)), .int .i64 0], by simp [results, Tryz.results107, go_sem, d0, d1], ?_⟩
      rw [hsm.out]
      refine ⟨_, rfl, fun e => absurd rfl e, fun _ => ⟨by rw [HS.out], ?_⟩, ((hQs.fr.putObj (l := D2) (fun _ => by omega) _).putObj (l := D) (fun _ => by omega) _).mono (fun b hb e => by omega)⟩
      rw [HS.out]
      exact Fa.mp hFx hQs.mp
end Go.Proofs.YtmflpeklalgibaaGreat

namespace Go.Proofs.YtmflpeklalgibaaGreat
open Go.RowKit
theorem row_sl {w : World} {base : Nat} {e : TypeId} {size n : Nat} {v : Value} {xs : List Value} (h : w.ownsRow base e size v n xs) : ∃ a c, v = .slice a n c := by
  rcases h.2 with ⟨rfl, rfl⟩ | ⟨g, c, cur, rfl, _⟩
  · exact ⟨_, _, rfl⟩
  · exact ⟨_, _, rfl⟩
theorem own_base {w : World} {base base' : Nat} {e : TypeId} {size n : Nat} {v : Value} {xs : List Value} (h : w.ownsRow base e size v n xs) (hb : base' ≤ base) : w.ownsRow base' e size v n xs := by
  refine ⟨h.1, ?_⟩
  rcases h.2 with h | ⟨g, c, cur, h1, h2, r⟩
  · exact .inl h
  · exact .inr ⟨g, c, cur, h1, Nat.le_trans hb h2, r⟩
/-- A slice's cells: m elements of that size, at A. -/
def Rd (w : World) (size : Nat) (A : Option Addr) (m : Nat) (xs : List Value) : Prop := xs.length = m * size ∧ (0 < m → ∃ ad, A = some ad ∧ ∀ (j : Nat) (u : Value), xs[j]? = some u → w.cell? (ad.add j) = some u)
section
variable {w w' : World} {size m : Nat} {A : Option Addr} {xs : List Value}
theorem Rd.nil (w : World) (size : Nat) (A : Option Addr) : Rd w size A 0 [] := ⟨by simp, fun h => absurd h (by omega)⟩
theorem add_add' (a : Addr) (i j : Nat) : (a.add i).add j = a.add (i + j) := by
  unfold Addr.add
  by_cases hi : i = 0 <;> by_cases hj : j = 0 <;> simp [hi, hj, Nat.add_assoc]
theorem Rd.fr {S : Nat → Prop} (h : Rd w size A m xs) (hf : Fr S w w') (hS : ∀ ad, A = some ad → ¬ S ad.block) : Rd w' size A m xs :=
  ⟨h.1, fun hm => by
    obtain ⟨ad, e, hc⟩ := h.2 hm
    exact ⟨ad, e, fun j u hu => hf.cell (hc j u hu) (by rw [add_block]; exact hS ad e)⟩⟩
theorem Rd.own {base n c : Nat} {e : TypeId} (h : w.ownsRow base e size (.slice A n c) n xs) : Rd w size A n xs := by
  refine ⟨h.1, fun hn => ?_⟩
  obtain ⟨g, cap, hv, _, _⟩ := h.form hn
  have hA : A = some ⟨g, 0, none⟩ := by injection hv
  subst hA
  exact ⟨_, rfl, h.cells (g := g) rfl⟩
theorem Rd.take {k : Nat} (h : Rd w size A m xs) (hk : k ≤ m) : Rd w size A k (xs.take (k * size)) := by
  have hle : k * size ≤ m * size := Nat.mul_le_mul_right _ hk
  refine ⟨by rw [List.length_take, h.1]; omega, fun hp => ?_⟩
  obtain ⟨ad, e, hc⟩ := h.2 (by omega)
  refine ⟨ad, e, fun j u hu => hc j u ?_⟩
  rw [List.getElem?_take] at hu
  split at hu
  · exact hu
  · cases hu
theorem Rd.drop {k : Nat} (h : Rd w size A m xs) (hk : k ≤ m) : Rd w size (A.map fun x => x.add (k * size)) (m - k) (xs.drop (k * size)) := by
  refine ⟨by rw [List.length_drop, h.1, Nat.sub_mul], fun hn => ?_⟩
  obtain ⟨ad, rfl, hc⟩ := h.2 (by omega)
  exact ⟨_, rfl, fun j u hu => by rw [add_add']; exact hc _ u (by rw [← hu, List.getElem?_drop])⟩
theorem Rd.at_ {k : Nat} {u : Value} (h : Rd w size A m xs) (hm : 0 < m) (hk : xs[k]? = some u) : ∃ ad, A = some ad ∧ w.cell? (ad.add k) = some u := by
  obtain ⟨ad, e, hc⟩ := h.2 hm
  exact ⟨ad, e, hc k u hk⟩
variable {P : Program}
theorem run_append_src (base : Nat) (t ty e : TypeId) (i : TypeInfo) (z : Value) (bytes : Nat) (ht : P.underlying t = some (.slice e)) (hi : P.info? e = some i) (hz : i.zero = some z)
    (hsize : i.size = size) (hby : i.bytes = bytes) (hzs : z.cells.size = size) (hsz : 0 < size) (v : Value) (n : Nat) (ys : List Value) (hown : w.ownsRow base e size v n ys)
    (c : Nat) (hr : Rd w size A m xs) (h1 : ∀ u ∈ xs, u.oneCell' = true) (h63 : n + m ≤ maxLen) (hbytes : (n + m) * bytes ≤ 140737488355328) (hbase : base ≤ w.heap.size) :
    ∃ v' w', (Builtin.append_ #[t, t] ty #[v, .slice A m c]).run P w = .ok v' w' ∧ w'.ownsRow base e size v' (n + m) (ys ++ xs) ∧ w.grownBy w' v.ownBlock ∧ (v'.ownBlock = v.ownBlock ∨ v'.ownBlock = some w.heap.size) := by
  cases A with
  | none =>
    obtain rfl : m = 0 := by
      rcases Nat.eq_zero_or_pos m with h | h
      · exact h
      · obtain ⟨_, h, _⟩ := hr.2 h; cases h
    obtain rfl : xs = [] := List.eq_nil_of_length_eq_zero (by simpa using hr.1)
    refine ⟨v, w, ?_, by simpa using hown, World.grownBy.refl w _, .inl rfl⟩
    rcases hown.2 with ⟨rfl, rfl⟩ | ⟨g, cap, cur, rfl, _, _, hnc, _⟩
    · simp [Builtin.append_, run_underlying ht, sizeOf, typeInfo, hi, Builtin.lenOf, Builtin.firstCells]
    · simp [Builtin.append_, run_underlying ht, sizeOf, typeInfo, hi, Builtin.lenOf, Builtin.firstCells, hnc, storeCells]
  | some ad =>
    have hc : ∀ j u, xs[j]? = some u → w.cell? (ad.add j) = some u := by
      intro j u hu
      rcases Nat.eq_zero_or_pos m with h | h
      · subst h
        obtain rfl : xs = [] := List.eq_nil_of_length_eq_zero (by simpa using hr.1)
        cases hu
      · obtain ⟨ad', e, hc⟩ := hr.2 h
        cases e
        exact hc j u hu
    obtain ⟨v', w', a1, a2, a3, _, a5⟩ := run_append_own_at (P := P) w base t ty e i z size bytes ht hi hz hsize hby hzs hsz v n ys hown ad m c xs hr.1 hc h1 h63 hbytes hbase
    exact ⟨v', w', a1, a2, a3, a5⟩
theorem wpList_append_src {ops : Array Oper} {rest : List Oper} {o : Oper} {a : Act} {Q : Exit → Act → World → Prop} (hgd : o.guard = none) (s x : Operand) (t : TypeId)
    (ho : o.op = .call { callee := .builtin .append, args := #[s, x], argTypes := #[t, t] })
    (base : Nat) (e : TypeId) (i : TypeInfo) (z : Value) (bytes : Nat) (ht : P.underlying t = some (.slice e)) (hi : P.info? e = some i) (hz : i.zero = some z)
    (hsize : i.size = size) (hby : i.bytes = bytes) (hzs : z.cells.size = size) (hsz : 0 < size) (v : Value) (n : Nat) (ys : List Value) (hs : a.eval s = v) (hown : w.ownsRow base e size v n ys)
    (c : Nat) (hx : a.eval x = .slice A m c) (hr : Rd w size A m xs) (h1 : ∀ u ∈ xs, u.oneCell' = true) (h63 : n + m ≤ maxLen) (hbytes : (n + m) * bytes ≤ 140737488355328) (hbase : base ≤ w.heap.size)
    (h : ∀ v' w', w'.ownsRow base e size v' (n + m) (ys ++ xs) → w.grownBy w' v.ownBlock → (v'.ownBlock = v.ownBlock ∨ v'.ownBlock = some w.heap.size) → wpList P ops Q rest (a.put o.dst v') w') : wpList P ops Q (o :: rest) a w := by
  refine wpList_plain hgd fun K hK => ?_
  obtain ⟨v', w', hr, h2, h3, h5⟩ := run_append_src (P := P) base t o.type e i z bytes ht hi hz hsize hby hzs hsz v n ys hown c hr h1 h63 hbytes hbase
  unfold Oper.wp execOp
  simp only [ho, resolve, invoke, builtin, Sem.run_bind, Sem.run_pure, Result.andThen_ok, List.map_toArray, List.map_cons, List.map_nil, hs, hx, hr]
  exact hK _ _ (h v' w' h2 h3 h5)
end
end Go.Proofs.YtmflpeklalgibaaGreat

namespace Go.Proofs.YtmflpeklalgibaaGreat
open Go.RowKit Go.Maps
theorem run_append_zeros2 {P : Program} (w : World) (t ty e ti : TypeId) (i : TypeInfo) (z : Value) (ht : P.underlying t = some (.slice e)) (hti : P.underlying ti = some (.int .i64)) (hi : P.info? e = some i) (hz : i.zero = some z) (hby : i.bytes = 24) (hsz : i.size = 2)
    (n : Nat) (h0 : 0 < n) (h63 : n ≤ 1000000) :
    (Builtin.append_ #[t, ti] ty #[.slice none 0 0, .int .i64 n]).run P w =
      .ok (.slice (some ⟨w.heap.size, 0, none⟩) n (grownCap w n 0 e)) (w.drew.alloc (.cells (Builtin.zeroCells z.cells n ++ Builtin.zeroCells z.cells (grownCap w n 0 e - n)) e)) := by
  have hn : n ≠ 0 := by omega
  have h63' : ¬ (9223372036854775807 < (n : Int)) := by omega
  have h48' : ¬ (281474976710656 < Builtin.nextslicecap n 0 * 24) := by rw [nextslicecap_zero h0]; omega
  have hw : IntKind.i64.wrap (n : Int) = n := by rw [IntKind.wrap_i64]; omega
  have hl : ¬ ((n : Int) < 0) := by omega
  have hl2 : ¬ (281474976710656 < (n : Int) * 24) := by omega
  simp [Builtin.append_, run_underlying ht, run_underlying hti, sizeOf, typeInfo, zeroValue, hi, hz, hby, hsz, asInt, asIntOf, hw, hl, hl2, hn, h63', h48', Question.forced, run_firstCells_none, newRow, grownCap]
  intro h; omega
theorem wpList_append_zeros2 {P : Program} (w : World) {ops : Array Oper} {rest : List Oper} {o : Oper} {a : Act} {Q : Exit → Act → World → Prop} (hgd : o.guard = none) (s x : Operand) (t e ti : TypeId)
    (ho : o.op = .call { callee := .builtin .append, args := #[s, x], argTypes := #[t, ti] }) (i : TypeInfo) (z : Value) (ht : P.underlying t = some (.slice e)) (hti : P.underlying ti = some (.int .i64)) (hi : P.info? e = some i) (hz : i.zero = some z) (hby : i.bytes = 24) (hsz : i.size = 2)
    (n : Nat) (h0 : 0 < n) (h63 : n ≤ 1000000) (hs : a.eval s = .slice none 0 0) (hx : a.eval x = .int .i64 n)
    (h : wpList P ops Q rest (a.put o.dst (.slice (some ⟨w.heap.size, 0, none⟩) n (grownCap w n 0 e))) (w.drew.alloc (.cells (Builtin.zeroCells z.cells n ++ Builtin.zeroCells z.cells (grownCap w n 0 e - n)) e))) :
    wpList P ops Q (o :: rest) a w := by
  refine wpList_plain hgd fun K hK => ?_
  have hr := run_append_zeros2 (P := P) w t o.type e ti i z ht hti hi hz hby hsz n h0 h63
  unfold Oper.wp execOp
  simp only [ho, resolve, invoke, builtin, Sem.run_bind, Sem.run_pure, Result.andThen_ok, List.map_toArray, List.map_cons, List.map_nil, hs, hx, hr]
  exact hK _ _ h
theorem zeroCells_size2 (z : Array Value) (hz : z.size = 2) (n : Nat) : (Builtin.zeroCells z n).size = n * 2 := by simp [Builtin.zeroCells, hz]
set_option maxRecDepth 100000 in
theorem iGrow (w : World) (n : Nat) (hn : (n : Int) ≤ 1000000) : Calls Tryz.prog 109 #[.slice none 0 0, .int .i64 n] w fun e w' =>
    ∃ v, e = .returned v ∧ w'.ownsRow w.heap.size 45 2 v 0 [] ∧ Fr (fun _ => False) w w' := by
  obtain ⟨i0, hi', hz0, hz1, hz2⟩ := info_parts infoItem
  by_cases h0 : n = 0
  · subst h0
    go_enter Tryz.func109, Tryz.ntmps109
    go_wp2
    go_ret
    exact ⟨_, rfl, World.ownsRow_nil _ _ _ _, Fr.refl _ _⟩
  · have hpos : 0 < n := by omega
    have hcap := Lib.hid (grownCap_ge w n 0 45)
    have hcm := Lib.hid (grownCap_le_maxLen w n 0 45 (by unfold maxLen; omega))
    go_enter Tryz.func109, Tryz.ntmps109
    go_wp2_with (at_builtin; refine wpList_append_zeros2 _ rfl _ _ 23 45 3 rfl i0 (.agg #[.string ⟨#[]⟩, .int .i64 0]) Tryz.underlying23 Tryz.underlying3 hi' hz0 hz2 hz1 n hpos (by omega) rfl rfl ?_)
    go_ret
    refine ⟨_, rfl, World.ownsRow_made (w := w.drew) _ _ (Nat.le_refl _) hcm.out ?_, (Fr.refl _ w).drew.alloc _⟩
    rw [Array.size_append, zeroCells_size2 _ rfl, zeroCells_size2 _ rfl]
    have := hcap.out
    omega
/-- Slices of items, side by side. -/
def PartsI (w : World) (v : Value) (L : List (Value × Its)) : Prop := ∃ a c, v = .slice (some a) L.length c ∧ ∀ i p, L[i]? = some p → w.cell? (a.add i) = some p.1 ∧ Il w p.1 p.2
def catI (L : List (Value × Its)) : Its := L.flatMap (·.2)
theorem catI_take {L : List (Value × Its)} {k : Nat} {p : Value × Its} (h : L[k]? = some p) : catI (L.take (k + 1)) = catI (L.take k) ++ p.2 := by
  unfold catI
  rw [List.take_add_one, h]; simp
theorem catI_le (L : List (Value × Its)) (k : Nat) : (catI (L.take k)).length ≤ (catI L).length := by
  have : catI L = catI (L.take k) ++ catI (L.drop k) := by
    unfold catI
    rw [← List.flatMap_append, List.take_append_drop]
  rw [this, List.length_append]; omega
theorem il_rd {w : World} {a : Option Addr} {n c : Nat} {L : Its} (h : Il w (.slice a n c) L) : Rd w 2 a L.length (itCs L) := by
  obtain ⟨_, a', c', e, h1⟩ := h
  injection e with e1 _ _
  refine ⟨itCs_len L, fun hm => ?_⟩
  obtain ⟨p0, hp0⟩ : ∃ p, L[0]? = some p := ⟨L[0], List.getElem?_eq_getElem hm⟩
  obtain ⟨-, -, ad, ha, -, -⟩ := h1 0 p0 hp0
  refine ⟨ad, by rw [e1, ha], fun j u hu => ?_⟩
  have hj := (List.getElem?_eq_some_iff.1 hu).1
  rw [itCs_len] at hj
  obtain ⟨i, hi⟩ : ∃ i, j = i * 2 ∨ j = i * 2 + 1 := ⟨j / 2, by omega⟩
  have hil : i < L.length := by omega
  obtain ⟨p, hp⟩ : ∃ p, L[i]? = some p := ⟨L[i], List.getElem?_eq_getElem hil⟩
  obtain ⟨-, -, ad', ha', k0, k1⟩ := h1 i p hp
  have : ad' = ad := by rw [ha] at ha'; exact (Option.some.inj ha').symm
  subst this
  obtain ⟨c0, c1⟩ := itCs_at hp
  rcases hi with rfl | rfl
  · rw [c0] at hu; cases hu; exact k0
  · rw [c1] at hu; cases hu
    rw [show (ad'.add (i * 2 + 1)) = ⟨(ad'.add (i * 2)).block, (ad'.add (i * 2)).off + 1, none⟩ from add_field ad' (i * 2) 0]
    exact k1
set_option maxRecDepth 100000 in
set_option maxHeartbeats 2000000 in
theorem iConcat (w : World) (v : Value) (L : List (Value × Its)) (h : PartsI w v L) (hl : (L.length : Int) ≤ 1000) (hn : ((catI L).length : Int) ≤ 1000000) : Calls Tryz.prog 86 #[v] w fun e w' =>
    ∃ v', e = .returned v' ∧ w'.ownsRow w.heap.size 45 2 v' (catI L).length (itCs (catI L)) ∧ Fr (fun _ => False) w w' := by
  obtain ⟨i0, hi', hz0, hz1, hz2⟩ := info_parts infoItem
  obtain ⟨a, c, rfl, -⟩ := id h
  have HP := Lib.hid h
  clear h
  obtain ⟨ln, hln⟩ : ∃ ln, L.length = ln := ⟨_, rfl⟩
  have HLN := Lib.hid hln
  rw [hln] at hl HP ⊢
  clear hln
  have hle := fun k => catI_le L k
  obtain ⟨tot, htot⟩ : ∃ t, (catI L).length = t := ⟨_, rfl⟩
  have HTOT := Lib.hid htot
  rw [htot] at hn hle ⊢
  have HLE := Lib.hid hle
  clear htot hle
  go_enter Tryz.func86, Tryz.ntmps86
  go_wp2
  go_loopw [3, 11] (fun z i wr => ∃ k : Nat, (k : Int) ≤ ln ∧ z = .int .i64 ((catI (L.take k)).length : Nat) ∧ i = .int .i64 k ∧ wr = w) (fun _ i _ => ln - (intOf i).toNat)
  case atStart => exact ⟨0, by omega, by simp [catI], rfl, rfl⟩
  case round =>
    obtain ⟨k, hk, rfl, rfl, rfl⟩ := hrel
    by_cases hkl : (k : Int) < ln
    · obtain ⟨p, hp⟩ : ∃ p, L[k]? = some p := ⟨L[k]'(by have := HLN.out; omega), List.getElem?_eq_getElem _⟩
      obtain ⟨a', c', e, h1⟩ := HP.out
      have hc := (h1 k p hp).1
      obtain ⟨ba, bc, hbe⟩ := (h1 k p hp).2.sl
      injection e with e1 e2 e3
      cases e1
      have e3 := e3.symm
      subst e3
      have HT := Lib.hid (congrArg List.length (catI_take hp))
      have HLE1 := HLE.out (k + 1)
      rw [HT.out, List.length_append] at HLE1
      rw [hbe] at hc
      obtain ⟨pl, hpl⟩ : ∃ n, p.2.length = n := ⟨_, rfl⟩
      rw [hpl] at hc HLE1
      obtain ⟨z, hz⟩ : ∃ z, (catI (L.take k)).length = z := ⟨_, rfl⟩
      rw [hz] at HLE1 ⊢
      have HZ := Lib.hid hz; have HPL := Lib.hid hpl
      clear h1 hp hz hpl e2 hbe
      go_wp2
      go_roundw
      case rel => exact ⟨k + 1, by omega, val_int (by rw [HT.out, List.length_append, HZ.out, HPL.out]; omega), by go_num, by trivial⟩
      case measure => simp [intOf]; omega
    · have hke : k = ln := by omega
      have hz : (catI (L.take k)).length = tot := by rw [List.take_of_length_le (by have := HLN.out; omega)]; exact HTOT.out
      rw [hz]
      subst hke
      clear hz
      go_wp2_with fail
      refine (iGrow _ _ hn).mono ?_
      rintro e w1 ⟨v1, rfl, hown, hB⟩
      have HOW := Lib.hid hown; have HBB := Lib.hid hB
      clear hown hB
      go_wp2_with fail
      obtain ⟨W0, rfl⟩ : ∃ W0 : World, W0 = wr := ⟨_, rfl⟩
      go_loopw [6, 27] (fun o i w2 => ∃ j : Nat, (j : Int) ≤ k ∧ i = .int .i64 j ∧ w2.ownsRow W0.heap.size 45 2 o (catI (L.take j)).length (itCs (catI (L.take j))) ∧ Fr (fun _ => False) W0 w2) (fun _ i _ => k - (intOf i).toNat)
      case atStart => exact ⟨0, by omega, rfl, HOW.out, HBB.out⟩
      case round =>
        obtain ⟨j, hj, rfl, hown2, hB2⟩ := hrel
        by_cases hjl : (j : Int) < k
        · obtain ⟨p, hp⟩ : ∃ p, L[j]? = some p := ⟨L[j]'(by have := HLN.out; omega), List.getElem?_eq_getElem _⟩
          obtain ⟨a', c', e, h1⟩ := HP.out
          have hc := (h1 j p hp).1
          have hil := (h1 j p hp).2
          obtain ⟨ba, bc, hbe⟩ := hil.sl
          have hil2 := hil.keep hB2 (fun _ _ _ e => e)
          injection e with e1 e2 e3
          cases e1
          have e3 := e3.symm
          subst e3
          rw [hbe] at hc hil2
          have hc2 := hB2.cell hc (fun e => e)
          have hrd := il_rd hil2
          have hT := catI_take hp
          have hLE1 := HLE.out (j + 1)
          rw [hT, List.length_append] at hLE1
          have hall : ∀ u ∈ itCs p.2, u.oneCell' = true := fun u hu => itCs_one hu
          have HALL := Lib.hid hall; have HT := Lib.hid hT; have HO2 := Lib.hid hown2; have HB2 := Lib.hid hB2
          obtain ⟨pl, hpl⟩ : ∃ n, p.2.length = n := ⟨_, rfl⟩
          obtain ⟨z, hz⟩ : ∃ z, (catI (L.take j)).length = z := ⟨_, rfl⟩
          have hBs := hB2.size
          rw [hpl] at hc2 hLE1 hrd
          rw [hz] at hLE1 HO2
          have HPL := Lib.hid hpl; have HZ := Lib.hid hz; have HRD := Lib.hid hrd
          clear hall hT hown2 hB2 h1 hp hc e2 hpl hz hbe hil hil2 hrd
          go_wp2_with (at_builtin; refine wpList_append_src rfl _ _ 23 rfl W0.heap.size 45 i0 _ 24 Tryz.underlying23 hi' hz0 hz1 hz2 rfl (by decide) _ z _ rfl HO2.out _ rfl HRD.out HALL.out (by unfold maxLen; omega) (by omega) hBs ?_; intro v' w5 hown' hgrow _)
          go_roundw
          case rel =>
            refine ⟨j + 1, by omega, by go_num, ?_, HB2.out.trans' (Fr.grown (S := fun b => W0.heap.size ≤ b) hgrow (fun r hr _ => (HO2.out.lt r hr).1)) (fun b hb e => by have e : W0.heap.size ≤ b := e; omega)⟩
            rw [HT.out, List.length_append, HZ.out, HPL.out, itCs_app]
            exact hown'
          case measure => simp [intOf]; omega
        · have hje : j = k := by omega
          subst hje
          rw [List.take_of_length_le (by have := HLN.out; omega), HTOT.out] at hown2
          go_wp2_with fail
          go_ret
          exact ⟨_, rfl, hown2, hB2⟩
end Go.Proofs.YtmflpeklalgibaaGreat

namespace Go.Proofs.YtmflpeklalgibaaGreat
open Go.RowKit Go.Maps Go.Sort Go.Shelf Go.Proofs
theorem sortsN (m : Nat) : AnyZ.SortsIn Tryz.prog Tryz.laysSortedN_ren Fence.wide m :=
  ⟨fun blk off cap ss W hH hblk hsz => callsIn_wide.2 (AnyM.slices_Sort_string Tryz.laysSortN blk off cap ss W hH hblk hsz),
   fun p cap W => callsIn_wide.2 (AnyM.slices_Sort_string_none Tryz.laysSortN p cap W)⟩
/-- A map's keys as an iterator, and its sorted row: both contracts, at a map of strings. -/
theorem keysSortedN {ν : Type} (w : World) (b : Nat) (enc : ν → Value) (l : List (Str × ν)) (h : Mp Tryz.prog w 9 ktS enc b l) (hl : (l.length : Int) ≤ 1099511627776) :
    CallsIn Fence.wide 5 Tryz.prog 108 #[.map (some b)] w (fun e w' => e = .returned (.func (.func 129) #[] #[.pointer (some ⟨w.heap.size, 0, none⟩)]) ∧ w' = w.alloc (.cells #[.map (some b)] 76)) ∧
    CallsIn Fence.wide 5 Tryz.prog 93 #[.func (.func 129) #[] #[.pointer (some ⟨w.heap.size, 0, none⟩)]] (w.alloc (.cells #[.map (some b)] 76)) (fun e w' => ∃ v, e = .returned v ∧ w'.ownsRow w.heap.size 9 1 v l.length (l.map fun p => vS p.1) ∧ Below w.heap.size w w') := by
  obtain ⟨nn, hown⟩ := id h
  have hord := riseS_of (h.ok (koS Tryz.underlying9)).2
  have hsz : Maps.size (ktS.dat enc l) = l.length := dat_size ktS enc l
  have hk : strKeys (ktS.dat enc l) = l.map (·.1) := strKeys_dat enc l
  have hsort : ∀ ss : List Str, ss.Perm (l.map (·.1)) → ss.mergeSort (fun x y => decide (x ≤ y)) = l.map (·.1) := fun ss hp => strs_sorted hord hp
  have hbl := hown.lt
  have hseq : SeqGives Fence.wide 2 Tryz.prog 129 #[.pointer (some ⟨w.heap.size, 0, none⟩)] encStr (fun ss => ss.Perm (strKeys (ktS.dat enc l))) (Maps.size (ktS.dat enc l)) (w.alloc (.cells #[.map (some b)] 76)) :=
    AnyZ.keys_gives (ρ := Tryz.laysKeysN_ren) { Tryz.laysKeysN with } Fence.wide _ trivial rfl (by omega) w.heap.size b nn _ _ (by simp) (by simp) (by
      obtain ⟨es, clock, hb, Ft, hs, hD⟩ := hown
      exact ⟨es, clock, (Below.heap_alloc _ _ b hbl).trans hb, Ft, hs, hD⟩)
  refine ⟨AnyZ.keys_in Tryz.laysKeysN Fence.wide 5 trivial rfl (some b) w, ?_⟩
  have cS := AnyZ.sorted_in Tryz.laysSortedN Fence.wide 5 trivial trivial trivial trivial rfl (by omega) (sortsN _) (enters_of Tryz.func113 (by kernel_rfl) rfl) 129 #[.pointer (some ⟨w.heap.size, 0, none⟩)] trivial (enters_of Tryz.func129 (by kernel_rfl) rfl) _ _ (by rw [hsz]; unfold maxLen; omega) (by rw [hsz]; omega) _ hseq
  change CallsIn _ _ Tryz.prog 93 _ _ _ at cS
  refine cS.mono ?_
  rintro e w' ⟨v, ss, rfl, hS, hrow, hnil, hb⟩
  rw [hk] at hS
  rw [hsort ss hS] at hrow
  have hlen : ss.length = l.length := by rw [hS.length_eq]; simp
  rw [hlen, List.map_map] at hrow
  exact ⟨v, rfl, ownsRow_base_a hrow (by simp), ((Below.refl _ w).alloc (Nat.le_refl _) _).trans (hb.mono (by simp))⟩
end Go.Proofs.YtmflpeklalgibaaGreat

namespace Go.Proofs.YtmflpeklalgibaaGreat
open Go.RowKit Go.Maps
theorem il_okm' {w : World} {v : Value} {L : Its} (h : Il w v L) {p : Str × Int} (hp : p ∈ L) : okS p.1 ∧ okI p.2 := by
  obtain ⟨i, hi⟩ := List.getElem?_of_mem hp
  obtain ⟨_, _, _, _, hx⟩ := h
  exact ⟨(hx i p hi).1, (hx i p hi).2.1⟩
theorem cell_two' (w : World) (x y : Value) (t : TypeId) : ∀ j u, [x, y][j]? = some u → (w.alloc (.cells #[x, y] t)).cell? ((⟨w.heap.size, 0, none⟩ : Addr).add j) = some u := by
  intro j u h
  have h0 : (w.alloc (.cells #[x, y] t)).heap[w.heap.size]? = some (.cells #[x, y] t) := heap_at rfl _
  match j, h with
  | 0, h => cases h; exact cell_obj h0 0 _ rfl
  | 1, h => cases h; exact cell_obj h0 1 _ rfl
theorem posF_take {m : Its} {k : Nat} {p : Str × Int} (h : m[k]? = some p) : posF (m.take (k + 1)) = posF (m.take k) ++ (if 0 < p.2 then [p] else []) := by
  unfold posF
  rw [List.take_add_one, h, List.filter_append]
  congr 1
  by_cases e : 0 < p.2
  · rw [if_pos e]; simp [e]
  · rw [if_neg e]; simp [e]
theorem posF_le (m : Its) (k : Nat) : (posF (m.take k)).length ≤ k := by
  unfold posF
  refine Nat.le_trans (List.length_filter_le _ _) ?_
  rw [List.length_take]; omega
set_option maxRecDepth 100000 in
set_option maxHeartbeats 8000000 in
theorem iNorm (w : World) (v : Value) (L : Its) (h : Il w v L) (hl : L.length ≤ 100000) : Calls Tryz.prog 85 #[v] w fun e w' => ∃ v', e = .returned (.tuple #[v', .int .i64 (normF L).2]) ∧ w'.ownsRow w.heap.size 45 2 v' (normF L).1.length (itCs (normF L).1) ∧ Fr (fun _ => False) w w' := by
  obtain ⟨i0, hi', hz0, hz1, hz2⟩ := info_parts infoItem
  obtain ⟨n0, hn0⟩ : ∃ n0, w.heap.size = n0 := ⟨_, rfl⟩
  have HN0 := Lib.hid hn0
  have hS := iSums w v L h
  obtain ⟨⟨E, m⟩, hR⟩ : ∃ R, sumsF L = R := ⟨_, rfl⟩
  have hnf : normF L = if E = 0 then (if 16 < (posF m).length then ([], 3) else (posF m, 0)) else ([], E) := by unfold normF; rw [hR]
  obtain ⟨NF, hNF⟩ : ∃ R, normF L = R := ⟨_, rfl⟩
  rw [hNF] at hnf ⊢
  have HNF := Lib.hid hnf
  rw [hR] at hS
  obtain ⟨a, c, rfl⟩ := h.sl
  by_cases hE : E = 0
  · subst hE
    rw [if_pos rfl] at hnf
    have HNF2 := Lib.hid hnf
    have hso := sumsF_ok hR
    have hml : m.length ≤ 100000 := by
      have h1 : sumsM L = some m := by
        unfold sumsF at hR
        split at hR
        · cases hR
        · split at hR
          · rename_i m' hm
            injection hR with _ hR
            rw [hm, hR]
          · cases hR
      have h2 := sumsM_len L [] m h1
      simp only [List.length_nil] at h2
      omega
    have hrow : Hid (∀ p ∈ m, okS p.1 ∧ okI p.2) := Lib.hid (fun p hp => by
      have h1 := hso.row p hp
      have h2 := h1.1
      unfold goodB at h2
      simp only [Bool.and_eq_true, decide_eq_true_eq] at h2
      exact ⟨by unfold okS maxLen; omega, by unfold okI; omega⟩)
    have hnd := Lib.hid hso.nd
    have hS2 : Calls Tryz.prog 107 #[.slice a L.length c] w fun e w' => e = .returned (.tuple #[.map (some (n0 + 2)), .int .i64 0]) ∧ Mp Tryz.prog w' 9 ktS encN (n0 + 2) m ∧ Fr (fun _ => False) w w' := by
      refine hS.mono ?_
      rintro e w' ⟨mv, rfl, -, h2, h3⟩
      obtain ⟨rfl, h4⟩ := h2 rfl
      rw [hn0] at h4 ⊢
      exact ⟨rfl, h4, h3⟩
    have HS2 := Lib.hid hS2
    obtain ⟨N, hN⟩ : ∃ N, m.length = N := ⟨_, rfl⟩
    have HN := Lib.hid hN
    have hkeys : Hid (∀ W, Mp Tryz.prog W 9 ktS encN (n0 + 2) m → _ ∧ _) := Lib.hid (fun W hm => (⟨callsIn_wide.1 (keysSortedN W (n0 + 2) encN m hm (by omega)).1, callsIn_wide.1 (keysSortedN W (n0 + 2) encN m hm (by omega)).2⟩))
    clear h hS hnf hR hso hS2 hNF
    rw [hN] at hml
    clear hN
    go_enter Tryz.func85, Tryz.ntmps85
    go_wp2_with (first
      | (go_at_call 107; refine HS2.out.mono ?_; rintro e w1 ⟨rfl, hm1, hf1⟩; have HM1 := Lib.hid hm1; have HF1 := Lib.hid hf1; have hK := hkeys.out w1 hm1; have HK1 := Lib.hid hK.1; have HK2 := Lib.hid hK.2; clear hm1 hf1 hK)
      | (go_at_call 108; refine HK1.out.mono ?_; rintro e w2 ⟨rfl, rfl⟩)
      | (go_at_call 93; refine HK2.out.mono ?_; rintro e w3 ⟨v3, rfl, ho3, hb3⟩; rw [HN.out] at ho3; obtain ⟨ra, rc, rfl⟩ := row_slice ho3; have HO3 := Lib.hid ho3; have HB3 := Lib.hid hb3; clear ho3 hb3))
    have hf3 : Fr (fun _ => False) w w3 := HF1.out.trans' (Fr.below (S := fun _ => False) HB3.out) (fun _ _ e => e)
    have hm3 := (Fr.below (S := fun _ => False) HB3.out).mp HM1.out (fun e => e)
    have HF3 := Lib.hid hf3; have HM3 := Lib.hid hm3
    clear hf3 hm3
    have hNl : Hid (m.length = N) := HN
    go_loopw [6, 22] (fun o i wr => ∃ k : Nat, k ≤ N ∧ i = .int .i64 k ∧ wr.ownsRow w3.heap.size 45 2 o (posF (m.take k)).length (itCs (posF (m.take k))) ∧ Fr (fun _ => False) w3 wr) (fun _ i _ => N - (intOf i).toNat)
    case atStart => exact ⟨0, Nat.zero_le _, rfl, World.ownsRow_nil _ _ _ _, Fr.refl _ _⟩
    case round =>
      obtain ⟨k, hk, rfl, ho, hfr⟩ := hrel
      have hple := posF_le m k
      obtain ⟨g1, hg1⟩ : ∃ x, posF (m.take k) = x := ⟨_, rfl⟩
      rw [hg1] at ho hple
      have HO := Lib.hid ho; have HFR := Lib.hid hfr; have HG1 := Lib.hid hg1
      obtain ⟨oa, oc, rfl⟩ := row_slice ho
      clear ho hg1
      by_cases hlt : k < N
      · obtain ⟨p, hp⟩ : ∃ p, m[k]? = some p := ⟨m[k]'(by rw [HN.out]; exact hlt), List.getElem?_eq_getElem _⟩
        obtain ⟨g', rfl, hg1, hg2⟩ := row_addr HO3.out (by omega)
        have hcx : wr.cell? ⟨g', k, none⟩ = some (vS p.1) := by
          have := (hfr.row HO3.out (fun b _ e => e)).cellAt (g := g') (j := k) (by omega)
          rw [this]; simp [hp]
        have hok := hrow.out p (List.mem_of_getElem? hp)
        have hlk := lookN (hfr.mp HM3.out (fun e => e)) hok.1
        have hget : getS m p.1 = some p.2 := getK_of hnd.out (x := p.1) (v := p.2) (List.mem_of_getElem? hp)
        rw [hget] at hlk
        have HT := Lib.hid (posF_take hp)
        rw [HG1.out] at HT
        have hlI : (k : Int) < N := by omega
        have HOK := Lib.hid hok
        have hws := hfr.size
        obtain ⟨gd, n⟩ := p
        dsimp only [Option.getD] at hcx hlk HT
        clear hp hok hget hg1 hg2
        by_cases hn : 0 < n
        · go_wp2_with (at_builtin; refine wpList_append_own_at _ rfl _ _ 23 rfl w3.heap.size 45 i0 (.agg #[.string ⟨#[]⟩, .int .i64 0]) 2 24 Tryz.underlying23 hi' hz0 hz1 hz2 rfl (by decide) _ _ _ rfl (((Fr.refl (fun _ => False) _).alloc _).row HO.out (fun _ _ e => e)) ⟨wr.heap.size, 0, none⟩ 1 1 [vS gd, .int .i64 n] rfl rfl (cell_two' _ _ _ _) (by intro u hu; simp only [List.mem_cons, List.not_mem_nil, or_false] at hu; rcases hu with rfl | rfl <;> rfl) (by unfold maxLen; omega) (by omega) (by simp; omega) ?_; intro v' w5 hown' hgrow _ hat; obtain ⟨na, nc, rfl⟩ := row_slice hown'; have HOWN := Lib.hid hown'; have HGR := Lib.hid hgrow; clear hown' hgrow hat)
          go_roundw
          case rel =>
            refine ⟨k + 1, by omega, by go_num, ?_, ?_⟩
            · rw [HT.out, if_pos hn, List.length_append, itCs_app]
              exact HOWN.out
            · exact (HFR.out.alloc _).trans' (Fr.grown (S := fun b => w3.heap.size ≤ b) HGR.out (fun r hr _ => (HO.out.lt r hr).1)) (fun b hb e => by have e : w3.heap.size ≤ b := e; omega)
          case measure => simp [intOf]; omega
        · go_wp2_with fail
          go_roundw
          case rel =>
            refine ⟨k + 1, by omega, by go_num, ?_, HFR.out⟩
            rw [HT.out, if_neg hn, List.append_nil]
            exact HO.out
          case measure => simp [intOf]; omega
      · obtain rfl : k = N := by omega
        have hpm : Hid (g1 = posF m) := Lib.hid (by rw [← HG1.out, List.take_of_length_le (by have := HN.out; omega)])
        have hlI : ¬ (k : Int) < k := by omega
        obtain ⟨M, hM⟩ : ∃ M, List.length g1 = M := ⟨_, rfl⟩
        have HMM := Lib.hid hM
        rw [hM]
        have hfin : Hid (Fr (fun _ => False) w wr) := Lib.hid (HF3.out.trans HFR.out)
        have hsz := HF3.out.size
        have HSZ := Lib.hid hsz
        clear hfr hM hple hsz
        by_cases h16 : 16 < M
        · have hI : (16 : Int) < M := by omega
          go_wp2_with fail
          go_ret2
          have e : NF = ([], 3) := by rw [HNF2.out, ← hpm.out, if_pos (by rw [HMM.out]; exact h16)]
          rw [e]
          exact ⟨_, rfl, World.ownsRow_nil _ _ _ _, hfin.out⟩
        · have hI : ¬ (16 : Int) < M := by omega
          go_wp2_with fail
          go_ret2
          have e : NF = (g1, 0) := by rw [HNF2.out, ← hpm.out, if_neg (by rw [HMM.out]; exact h16)]
          rw [e]
          refine ⟨_, rfl, ?_, hfin.out⟩
          have := HO.out
          have hsz := HSZ.out
          rw [HMM.out] at this ⊢
          have hn := HN0.out
          exact own_base this (by omega)
  · rw [if_neg hE] at hnf
    have hS2 : Calls Tryz.prog 107 #[.slice a L.length c] w fun e w' => e = .returned (.tuple #[.map none, .int .i64 E]) ∧ Fr (fun _ => False) w w' := by
      refine hS.mono ?_
      rintro e w' ⟨mv, rfl, h1, -, h3⟩
      obtain rfl := h1 hE
      exact ⟨rfl, h3⟩
    have HS2 := Lib.hid hS2
    have hE2 : (E != 0) = true := by simpa using hE
    clear h hS hR hS2 hNF hE
    go_enter Tryz.func85, Tryz.ntmps85
    go_wp2_with (go_at_call 107; refine HS2.out.mono ?_; rintro e w1 ⟨rfl, hf1⟩; have HF1 := Lib.hid hf1; clear hf1)
    go_ret2
    rw [hnf]
    exact ⟨_, rfl, World.ownsRow_nil _ _ _ _, HF1.out⟩
end Go.Proofs.YtmflpeklalgibaaGreat

namespace Go.Proofs.YtmflpeklalgibaaGreat
open Go.RowKit Go.Maps
set_option maxRecDepth 100000 in
set_option maxHeartbeats 8000000 in
theorem iPlus (w : World) (va vb : Value) (A B : Its) (hA : Il w va A) (hB : Il w vb B) : Calls Tryz.prog 51 #[va, vb] w fun e w' => ∃ v', e = .returned (.tuple #[v', .int .i64 (plusF A B).2]) ∧ w'.ownsRow w.heap.size 45 2 v' (plusF A B).1.length (itCs (plusF A B).1) ∧ Fr (fun _ => False) w w' := by
  obtain ⟨P, hP⟩ : ∃ P, plusF A B = P := ⟨_, rfl⟩
  have hPd : P = if mayL A = true ∧ mayL B = true then normF (A ++ B) else ([], 60) := by rw [← hP]; rfl
  rw [hP]
  obtain ⟨a1, c1, rfl⟩ := hA.sl
  obtain ⟨a2, c2, rfl⟩ := hB.sl
  have hMA := Lib.hid (fun W (hf : Fr (fun _ => False) w W) => iMay W _ A (hA.keep hf (fun _ _ _ e => e)))
  have hMB := Lib.hid (fun W (hf : Fr (fun _ => False) w W) => iMay W _ B (hB.keep hf (fun _ _ _ e => e)))
  have HA := Lib.hid hA; have HB := Lib.hid hB
  clear hP
  cases hm1 : mayL A with
  | false =>
    rw [hm1, if_neg (by simp)] at hPd
    rw [hm1] at hMA
    have HP := Lib.hid hPd
    clear hA hB hm1 hPd
    go_enter Tryz.func51, Tryz.ntmps51
    go_wp2_with (go_at_call 44; refine (hMA.out _ (Fr.refl _ _)).mono ?_; rintro e w1 ⟨rfl, hf1⟩; have HF1 := Lib.hid hf1; clear hf1)
    go_ret2
    rw [HP.out]
    exact ⟨_, rfl, World.ownsRow_nil _ _ _ _, HF1.out⟩
  | true =>
    rw [hm1] at hMA
    cases hm2 : mayL B with
    | false =>
      rw [hm1, hm2, if_neg (by simp)] at hPd
      rw [hm2] at hMB
      have HP := Lib.hid hPd
      have hnx : True := trivial
      clear hA hB hm1 hm2 hPd
      go_enter Tryz.func51, Tryz.ntmps51
      go_wp2_with (first
        | (go_at_call 44; refine (hMB.out _ HF1.out).mono ?_; rintro e w2 ⟨rfl, hf2⟩; have HF2 := Lib.hid hf2; clear hf2)
        | (go_at_call 44; refine (hMA.out _ (Fr.refl _ _)).mono ?_; rintro e w1 ⟨rfl, hf1⟩; have HF1 := Lib.hid hf1; clear hf1))
      go_ret2
      rw [HP.out]
      exact ⟨_, rfl, World.ownsRow_nil _ _ _ _, HF1.out.trans HF2.out⟩
    | true =>
      rw [hm1, hm2, if_pos ⟨rfl, rfl⟩] at hPd
      rw [hm2] at hMB
      have HP := Lib.hid hPd
      have hl1 := (mayL_all hm1).len; have hl2 := (mayL_all hm2).len
      have hcat : ∀ W : World, Fr (fun _ => False) w W → Calls Tryz.prog 86 #[.slice (some ⟨W.heap.size, 0, none⟩) 2 2] (W.alloc (.cells #[.slice a1 A.length c1, .slice a2 B.length c2] 23)) fun e w' => ∃ v', e = .returned v' ∧ Il w' v' (A ++ B) ∧ Fr (fun _ => False) w w' := fun W hf => by
        have hf2 := hf.alloc (.cells #[.slice a1 A.length c1, .slice a2 B.length c2] 23)
        have hh := heap_at (w := W) rfl (.cells #[.slice a1 A.length c1, .slice a2 B.length c2] 23)
        have := iConcat _ _ [(.slice a1 A.length c1, A), (.slice a2 B.length c2, B)] ⟨⟨W.heap.size, 0, none⟩, 2, rfl, fun i p hp => by
          match i, hp with
          | 0, hp => cases hp; exact ⟨cell_obj hh 0 _ rfl, HA.out.keep hf2 (fun _ _ _ e => e)⟩
          | 1, hp => cases hp; exact ⟨cell_obj hh 1 _ rfl, HB.out.keep hf2 (fun _ _ _ e => e)⟩⟩ (by simp) (by simp [catI]; omega)
        refine this.mono ?_
        rintro e w' ⟨v', rfl, h1, h2⟩
        rw [show catI [(Value.slice a1 A.length c1, A), (.slice a2 B.length c2, B)] = A ++ B by simp [catI]] at h1
        refine ⟨v', rfl, (Il.own h1 (fun p hp => ?_)).1, hf2.trans h2⟩
        rcases List.mem_append.1 hp with hp | hp
        · exact il_okm' HA.out hp
        · exact il_okm' HB.out hp
      have HCAT := Lib.hid hcat
      have hll : (A ++ B).length ≤ 100000 := by rw [List.length_append]; omega
      have HLL := Lib.hid hll
      clear hA hB hm1 hm2 hPd hcat hll hl1 hl2
      obtain ⟨LL, hLL⟩ : ∃ l, A ++ B = l := ⟨_, rfl⟩
      rw [hLL] at HCAT HLL HP
      clear hLL
      obtain ⟨NF, hNF⟩ : ∃ R, normF LL = R := ⟨_, rfl⟩
      rw [hNF] at HP
      have hno := Lib.hid (fun W v h => iNorm W v LL h HLL.out)
      rw [hNF] at hno
      obtain ⟨n1, hn1⟩ : ∃ n, A.length = n := ⟨_, rfl⟩
      obtain ⟨n2, hn2⟩ : ∃ n, B.length = n := ⟨_, rfl⟩
      rw [hn1, hn2] at HCAT
      rw [hn1] at hMA ⊢
      rw [hn2] at hMB ⊢
      clear hNF hn1 hn2 HA HB
      go_enter Tryz.func51, Tryz.ntmps51
      go_wp2_with (first
        | (go_at_call 85; refine (hno.out _ _ HI3.out).mono ?_; rintro e w4 ⟨v4, rfl, ho4, hf4⟩; obtain ⟨ra, rc, rfl⟩ := row_slice ho4; have HO4 := Lib.hid ho4; have HF4 := Lib.hid hf4; clear ho4 hf4)
        | (go_at_call 86; refine (HCAT.out _ (HF1.out.trans HF2.out)).mono ?_; rintro e w3 ⟨v3, rfl, hi3, hf3⟩; have HI3 := Lib.hid hi3; obtain ⟨sa, sc, rfl⟩ := hi3.sl; have HF3 := Lib.hid hf3; clear hi3 hf3)
        | (go_at_call 44; refine (hMB.out _ HF1.out).mono ?_; rintro e w2 ⟨rfl, hf2⟩; have HF2 := Lib.hid hf2; clear hf2)
        | (go_at_call 44; refine (hMA.out _ (Fr.refl _ _)).mono ?_; rintro e w1 ⟨rfl, hf1⟩; have HF1 := Lib.hid hf1; clear hf1))
      go_ret2
      rw [HP.out]
      exact ⟨_, rfl, own_base HO4.out HF3.out.size, HF3.out.trans HF4.out⟩
end Go.Proofs.YtmflpeklalgibaaGreat

namespace Go.Proofs.YtmflpeklalgibaaGreat
open Go.RowKit Go.Maps
theorem sGoods (p : Option Addr) (w : World) : Calls Tryz.prog 59 #[.pointer p] w fun e w' =>
    e = .returned (.func (.func 92) #[] #[.pointer (some ⟨w.heap.size, 0, none⟩)]) ∧ w' = w.alloc (.cells #[.pointer p] 41) := by
  go_enter Tryz.func59, Tryz.ntmps59
  go_wp2
  go_ret
  exact ⟨rfl, rfl⟩
def encS (s : Str) : Array Value := #[vS s]
set_option maxRecDepth 100000 in
set_option maxHeartbeats 4000000 in
theorem sGoods1 (S : Nat → Prop) (w : World) (Bt g : Nat) (TS : Nat → Prop) (A : Stk) (hBt : Boxed w Bt 41 (.pointer (some ⟨g, 0, none⟩))) (h : SA w g TS A) (hl : A.length ≤ 1000) (n1 : ¬ S Bt) (n2 : ∀ b, TS b → ¬ S b) :
    ItX 92 #[.pointer (some ⟨Bt, 0, none⟩)] encS (A.map (·.1)) S w := by
  intro lp S' J Jx W hW hS' hJ hY hJx h0
  have hBW := boxed_below hBt hW hBt.lt
  have hAW := h.fr (Fr.below (S := fun _ => False) hW) (fun _ _ h => h)
  obtain ⟨m, hc, hm, hTm⟩ := hAW.cell
  have hkS := keysSorted W m SR.enc A hm (by omega)
  have HK1 := Lib.hid (callsIn_wide.1 hkS.1); have HK2 := Lib.hid (callsIn_wide.1 hkS.2)
  have hcB := hBW.cell
  obtain ⟨N, hN⟩ : ∃ N, A.length = N := ⟨_, rfl⟩
  have HN := Lib.hid hN
  have HS := Lib.hid hS'
  have HX : Hid ((A.map (·.1)).length = N) := Lib.hid (by rw [List.length_map]; exact hN)
  rw [hN] at HK2 hl
  have hfn : ∀ f, Fence.wide.fn f := fun _ => trivial
  have hdp : Fence.wide.depth.isSome = false := rfl
  clear hBt h n1 n2 hS' hBW hW hm hN hkS hAW hTm
  refine (callsIn_wide (n := 0)).1 ?_
  refine callsIn_of_wp Tryz.func92 rfl trivial ?_ rfl
  simp only [Tryz.ntmps92, List.size_toArray, List.length_cons, List.length_nil, Nat.reduceAdd, Nat.reduceSub, Array.replicate_succ, Array.replicate_zero, List.push_toArray, List.append_toArray, List.nil_append, List.cons_append]
  gi_wp2_with (first
    | (gi_at_call 34; refine (callsIn_wide.2 (smade _ g m hc)).mono ?_; rintro e w1 ⟨rfl, rfl⟩)
    | (gi_at_call 94; refine (callsIn_wide.2 HK1.out).mono ?_; rintro e w1 ⟨rfl, rfl⟩)
    | (gi_at_call 93; refine (callsIn_wide.2 HK2.out).mono ?_; rintro e w1 ⟨v, rfl, hown, hb⟩; obtain ⟨a, c, rfl⟩ := row_slice hown))
  have hJ1 := hJ 0 _ _ _ h0 (Fr.below hb)
  have HW1 : Hid (W.heap.size ≤ w1.heap.size) := Lib.hid hb.size
  have HO := Lib.hid hown; have HJ1 := Lib.hid hJ1
  clear h0 hcB hc hown hb hJ1
  gi_loopw [15] (fun i wr => ∃ (k : Nat) (C : Nat → Prop), k ≤ N ∧ i = .int .i64 k ∧ J k C wr ∧ (∀ b, C b → w1.heap.size ≤ b ∧ b < wr.heap.size) ∧ Fr (fun b => S' b ∨ C b) w1 wr) (fun i _ => N - (intOf i).toNat)
  case atStart => exact ⟨0, _, Nat.zero_le _, rfl, HJ1.out, fun _ h => False.elim h, Fr.refl _ _⟩
  case round =>
    obtain ⟨k, C, hk, rfl, hJr, hC, hkp⟩ := hrel
    by_cases hlt : k < N
    · obtain ⟨p, hp⟩ : ∃ p, A[k]? = some p := ⟨A[k]'(by rw [HN.out]; exact hlt), List.getElem?_eq_getElem _⟩
      obtain ⟨g', rfl, hg1, hg2⟩ := row_addr HO.out (by omega)
      have m5 : ¬ (S' g' ∨ C g') := fun e => e.elim (fun e => by have := (HS.out _ e).1; omega) (fun e => by have := hC _ e; omega)
      have hownr := hkp.row HO.out (fun b e => by obtain rfl : g' = b := (by simpa [Value.ownBlock] using e); exact m5)
      have hcx : wr.cell? ⟨g', k, none⟩ = some (vS p.1) := by
        have := hownr.cellAt (g := g') (j := k) (by omega)
        rw [this]; simp [hp]
      have hxx : (A.map (·.1))[k]? = some p.1 := by rw [List.getElem?_map, hp]; rfl
      obtain ⟨fn, tmps, assign, body, hy, hR⟩ := hY k p.1 C wr hxx hJr
      dsimp only [encS] at hy
      have hlI : (k : Int) < N := by omega
      have HC := Lib.hid hC; have HK := Lib.hid hkp
      clear hC hkp hp hJr hownr hxx
      gi_wp2
      refine hR.mono ?_
      rintro e W3 (⟨rfl, hJ3, hk3⟩ | ⟨rfl, hJx3, _⟩)
      · gi_wp2
        go_roundw
        case rel =>
          refine ⟨k + 1, _, by omega, by go_num, hJ3, ?_, ?_⟩
          · have hs3 := hk3.size
            rintro b (e | e)
            · have := HC.out b e; exact ⟨this.1, by omega⟩
            · have := HK.out.size; exact ⟨by omega, e.2⟩
          · exact (HK.out.mono (fun b _ e => e.elim .inl (fun e => .inr (.inl e)))).trans (hk3.mono (fun b _ e => e.elim .inl (fun e => .inr (.inl e))))
        case measure => simp [intOf]; omega
      · gi_wp2
        refine bodyPost_ret (results_none rfl _ _ _) rfl ?_
        refine ⟨⟨_, rfl⟩, .inr ⟨_, _, ?_, hJx3⟩⟩
        have := HX.out
        omega
    · have : k = N := by omega
      subst this
      gi_wp2
      go_end0
      exact ⟨⟨_, rfl⟩, .inl ⟨C, by rw [HX.out]; exact hJr⟩⟩
end Go.Proofs.YtmflpeklalgibaaGreat

namespace Go.Proofs.YtmflpeklalgibaaGreat
open Go.RowKit Go.Maps
attribute [local go_sem] Oper.semAt_some
theorem offerS_app (A : Stk) (L M : Its) : offerS A (L ++ M) = offerS A L ++ offerS A M := by simp [offerS]
theorem offerS_len (A : Stk) (L : Its) : (offerS A L).length ≤ L.length := List.length_filterMap_le _ _
theorem offerS_ok {A : Stk} {L : Its} (hL : ∀ p ∈ L, okS p.1 ∧ 0 ≤ p.2 ∧ p.2 ≤ 1099511627776) : ∀ p ∈ offerS A L, okS p.1 ∧ okI p.2 := by
  intro p hp
  unfold offerS at hp
  obtain ⟨q, hq, e⟩ := List.mem_filterMap.1 hp
  have := hL q hq
  split at e
  · injection e with e
    subst e
    refine ⟨this.1, ?_⟩
    unfold okI
    dsimp only
    omega
  · cases e
theorem cell_two (w : World) (x y : Value) (t : TypeId) : ∀ j u, [x, y][j]? = some u → (w.alloc (.cells #[x, y] t)).cell? ((⟨w.heap.size, 0, none⟩ : Addr).add j) = some u := by
  intro j u hj
  match j, hj with
  | 0, hj => simp at hj; subst hj; simp [Addr.add]
  | 1, hj => simp at hj; subst hj; simp [Addr.add]
  | (j + 2), hj => simp at hj
theorem Col.congr {W : World} {base B : Nat} {t e : TypeId} {size : Nat} {C : Nat → Prop} {v : Value} {n n' : Nat} {xs xs' : List Value} (h : Col W base B t e size C v n xs) (h1 : n = n') (h2 : xs = xs') : Col W base B t e size C v n' xs' := h1 ▸ h2 ▸ h
def OfJ (w w5 : World) (n0 ob g : Nat) (A : Stk) (L : Its) (k : Nat) (C : Nat → Prop) (W : World) : Prop :=
  W.heap[n0]? = some (.cells #[.pointer (some ⟨g, 0, none⟩)] 41) ∧ (∃ v, Col W (ob + 2) ob 23 45 2 C v (offerS A (L.take k)).length (itCs (offerS A (L.take k)))) ∧ Fr (fun b => n0 ≤ b) w W ∧ Fr (fun b => b = ob) w5 W
theorem OfJ.fa {B : Nat} {w w5 W W' : World} {n0 ob g k : Nat} {C : Nat → Prop} {A : Stk} {L : Its} (h : OfJ w w5 n0 ob g A L k C W) (hf : Fa B W W') (hB : w.heap.size ≤ B ∧ w5.heap.size ≤ B) : OfJ w w5 n0 ob g A L k C W' :=
  ⟨Fa.cells hf h.1, h.2.1.elim fun v hv => ⟨v, hv.fa hf⟩, h.2.2.1.trans' hf (fun b hb e => by have := e.1; omega), h.2.2.2.trans' hf (fun b hb e => by have := e.1; omega)⟩
set_option maxRecDepth 100000 in
set_option maxHeartbeats 8000000 in
theorem sOffer (w : World) (g : Nat) (TS : Nat → Prop) (A : Stk) (v : Value) (L : Its) (h : SA w g TS A) (hA : SOk A) (hv : Il w v L) :
    Calls Tryz.prog 50 #[.pointer (some ⟨g, 0, none⟩), v] w fun e w' => ∃ v', e = .returned v' ∧ Il w' v' (if mayL L = true then offerS A L else []) ∧ (∀ b, v'.ownBlock = some b → w.heap.size ≤ b ∧ b < w'.heap.size) ∧ Fr (fun _ => False) w w' := by
  obtain ⟨i0, hi', hz0, hz1, hz2⟩ := info_parts infoItem
  obtain ⟨n0, hn0⟩ : ∃ n0, w.heap.size = n0 := ⟨_, rfl⟩
  have HS := Lib.hid hn0
  have HL := Lib.hid hv
  have hob := hv.lt
  have HOB := Lib.hid hob
  have hokl : Hid (∀ (j : Nat) (p : Str × Int), L[j]? = some p → okS p.1) := Lib.hid (fun j p hp => by obtain ⟨_, _, _, _, hx⟩ := hv; exact (hx j p hp).1)
  obtain ⟨a, c, rfl⟩ := hv.sl
  obtain ⟨N, hN⟩ : ∃ N, L.length = N := ⟨_, rfl⟩
  have HN := Lib.hid hN
  rw [hN] at HL HOB ⊢
  have HSA := Lib.hid h
  have HAA := Lib.hid hA
  have HGL : Hid (g < w.heap.size) := Lib.hid (h.lt g h.own)
  obtain ⟨m, hc, hm, hTm⟩ := h.cell
  obtain ⟨W0, hW0⟩ : ∃ W0, w.alloc (.cells #[.pointer (some ⟨g, 0, none⟩)] 41) = W0 := ⟨_, rfl⟩
  have hF0 : Fr (fun _ => False) w W0 := by rw [← hW0]; exact (Fr.refl _ w).alloc _
  have hs0 : W0.heap.size = n0 + 1 := by rw [← hW0]; simp; omega
  have hb0 : W0.heap[n0]? = some (.cells #[.pointer (some ⟨g, 0, none⟩)] 41) := by rw [← hW0]; exact heap_at hn0.symm _
  have HF0 := Lib.hid hF0; have HS0 := Lib.hid hs0; have HB0 := Lib.hid hb0
  have hmd := Lib.hid (callsIn_wide (n := 0) |>.2 (smade W0 g m (hF0.cell hc (fun h => h))))
  have hIM := Lib.hid (callsIn_wide (n := 0) |>.2 (iMay W0 (.slice a N c) L (HL.out.fr hF0 (fun b hb => hb.elim))))
  have hcs := cell_obj hb0 0 (.pointer (some ⟨g, 0, none⟩)) rfl
  clear hv hob hN h hm hTm hA hF0 hb0 hc
  refine (callsIn_wide (n := 0)).1 ?_
  refine callsIn_of_wp_marks Tryz.func50 rfl trivial ?_ rfl
  simp only [Tryz.ntmps50, List.size_toArray, List.length_cons, List.length_nil, Nat.reduceAdd, Nat.reduceSub, Array.replicate_succ, Array.replicate_zero, List.push_toArray, List.append_toArray, List.nil_append, List.cons_append]
  have hfn : ∀ f, Fence.wide.fn f := fun _ => trivial
  have hdp : Fence.wide.depth.isSome = false := rfl
  cases hml : mayL L with
  | false =>
    rw [hml] at hIM
    simp only [Bool.false_eq_true, if_false]
    gi_wp2_with (first
      | (gi_at_call 34; refine hmd.out.mono ?_; rintro e w1 ⟨rfl, rfl⟩)
      | (gi_at_call 44; refine hIM.out.mono ?_; rintro e w2 ⟨rfl, hf2⟩; have HF2 := Lib.hid (HF0.out.trans hf2); clear hf2))
    refine ⟨.slice none 0 0, by simp [results, Tryz.results50, go_sem], _, rfl, ⟨by simp, none, 0, rfl, fun i p hp => by simp at hp⟩, (fun b hb => by cases hb), HF2.out⟩
  | true =>
    rw [hml] at hIM
    simp only [if_true]
    have hpos : Hid (∀ p ∈ L, 0 ≤ p.2 ∧ p.2 ≤ 1099511627776) := Lib.hid (mayL_pos hml)
    have h16 : Hid (L.length ≤ 16) := Lib.hid (by unfold mayL at hml; simp at hml; exact hml.2)
    clear hml
    gi_wp2_with (first
      | (gi_at_call 34; refine hmd.out.mono ?_; rintro e w1 ⟨rfl, rfl⟩)
      | (gi_at_call 44; refine hIM.out.mono ?_; rintro e w2 ⟨rfl, hf2⟩; have HF2 := Lib.hid (HF0.out.trans hf2); have HB2 := Lib.hid (hf2.at_ HB0.out (fun h => h)); clear hf2)
      | (gi_at_call 69; refine (callsIn_wide.2 (iAll _ _ _ _)).mono ?_; rintro e w5 ⟨rfl, rfl⟩))
    have hsz2 := HF2.out.size
    obtain ⟨ob, hob⟩ : ∃ ob, w2.heap.size = ob := ⟨_, rfl⟩
    have hcb : Boxed ((w2.alloc (.cells #[.slice none 0 0] 23)).alloc (.cells #[.slice a N c] 23)) ob 23 (.slice none 0 0) := heap_keep (heap_at hob.symm _) _
    have hBx : Boxed ((w2.alloc (.cells #[.slice none 0 0] 23)).alloc (.cells #[.slice a N c] 23)) (ob + 1) 23 (.slice a N c) := heap_at (by simp; omega) _
    have hsb : ((w2.alloc (.cells #[.slice none 0 0] 23)).alloc (.cells #[.slice a N c] 23)).heap[n0]? = some (.cells #[.pointer (some ⟨g, 0, none⟩)] 41) := heap_keep (heap_keep HB2.out _) _
    have hF5 : Fr (fun _ => False) w ((w2.alloc (.cells #[.slice none 0 0] 23)).alloc (.cells #[.slice a N c] 23)) := (HF2.out.alloc _).alloc _
    have hs5 : ((w2.alloc (.cells #[.slice none 0 0] 23)).alloc (.cells #[.slice a N c] 23)).heap.size = ob + 2 := by simp; omega
    have hnob : n0 < ob := by have := (Array.getElem?_eq_some_iff.1 HB2.out).1; omega
    obtain ⟨W5, hW5⟩ : ∃ W5, (w2.alloc (.cells #[.slice none 0 0] 23)).alloc (.cells #[.slice a N c] 23) = W5 := ⟨_, rfl⟩
    rw [hW5] at hcb hBx hsb hF5 hs5 ⊢
    rw [hob]
    have hL5 := HL.out.fr hF5 (fun b hb => hb.elim)
    have HCB := Lib.hid hcb; have HSB := Lib.hid hsb; have HF5 := Lib.hid hF5; have HS5 := Lib.hid hs5
    clear hW5 hob hsz2 hF5 hcb hsb HF2 HB2
    refine rangeX (w0 := W5) (X := L) (S := fun b => b = ob) rfl (enters_of Tryz.func101 (by kernel_rfl) rfl)
      (iAll1 _ W5 _ _ L hBx hL5 (by omega) (fun hl b hb e => by have := HOB.out hl b e; omega)) (Below.refl _ _) (fun b hb => by omega) (fun _ => rfl)
      (OfJ w W5 n0 ob g A L) (fun _ _ _ _ => False)
      (fun k C W W' hs hf => hs.fa hf (by omega)) (fun c k C W W' hs hf => hs)
      ⟨HSB.out, ⟨_, HCB.out, World.ownsRow_nil _ _ _ _, fun b hb => by cases hb⟩, HF5.out.mono (fun _ _ h => h.elim), Fr.refl _ _⟩ ?round ?done ?stop
    case stop => intro D c k C W hD hk hX; exact hX.elim
    case round =>
      rintro lp j x C W hx hlp hi hr
      dsimp only [encIt]
      gi_wp2
      refine Took.mk (Fr.refl _ _) hi ?_
      rintro Wb ⟨hQ, ⟨v, hcol⟩, hFw, hF5w⟩ hrb hf hsz hsw hCC _
      have hok := hokl.out j x hx
      have hpos := hpos.out x (List.mem_of_getElem? hx)
      have hjl := (List.getElem?_eq_some_iff.1 hx).1
      have htk : offerS A (L.take (j + 1)) = offerS A (L.take j) ++ offerS A [x] := by rw [List.take_add_one, hx, offerS_app]; rfl
      have hol : (offerS A (L.take j)).length ≤ 16 := by have h1 := offerS_len A (L.take j); have h2 := h16.out; rw [List.length_take] at h1; omega
      obtain ⟨gd, n⟩ := x
      dsimp only at hok hpos ⊢
      have cs := cell_obj hQ 0 (.pointer (some ⟨g, 0, none⟩)) rfl
      have hSW : SA Wb g TS A := HSA.out.fr hFw (fun b hb e => by have := HSA.out.lt b hb; omega)
      have hLv := Lib.hid (callsIn_wide (n := 0) |>.2 (sLevel Wb g TS A gd hSW hok))
      have hRok := (HAA.out.at_ gd).b.a0
      obtain ⟨R, hRR⟩ : ∃ R, rowAt A gd = R := ⟨_, rfl⟩
      rw [hRR] at hLv hRok
      have hof : Hid (offerS A [(gd, n)] = if 0 < min n R.free then [(gd, min n R.free)] else []) := Lib.hid (by
        unfold offerS
        simp only [List.filterMap_cons, List.filterMap_nil, hRR]
        split <;> split <;> simp_all)
      unfold SR.lev at hLv
      clear hRR
      obtain ⟨f0, f1, f2, f3, f4, f5, f6, f7, f8, f9, f10⟩ := R
      dsimp only at hLv hRok hof
      have hfl : ∀ W, (Instr.field 47 (.agg #[.int .i64 f0, .int .i64 f1, .int .i64 f2, .int .i64 f3]) 0).run Tryz.prog W = .ok (.int .i64 f0) W := fun W => by kernel_rfl
      have HQ := Lib.hid hQ; have HFW := Lib.hid hFw; have HF5W := Lib.hid hF5w; have HCOL := Lib.hid hcol; have HTK := Lib.hid htk; have HCC := Lib.hid hCC; have HX := Lib.hid hx; have HOK := Lib.hid hok
      clear hi hr hf hrb hQ hFw hF5w htk hx hok hSW hCC
      have hIG : okI (min n f0) := by unfold okI; have := hRok; omega
      have hIG := Lib.hid hIG
      by_cases hpm : 0 < min n f0
      · obtain ⟨M, hM⟩ : ∃ M, min n f0 = M := ⟨_, rfl⟩
        have HM := Lib.hid hM
        have hof1 : Hid (offerS A [(gd, n)] = [(gd, M)]) := Lib.hid (by rw [hof.out, if_pos hpm, hM])
        clear hof
        gi_wp2_with (first
          | (gi_at_call 12; refine hLv.out.mono ?_; rintro e w6 ⟨rfl, hf6⟩; have HF6 := Lib.hid hf6; have hcol6 : Col w6 (ob + 2) ob 23 45 2 C v _ _ := ⟨hf6.box HCOL.out.box (fun h => h), hf6.row HCOL.out.row (fun _ _ h => h), HCOL.out.mine⟩; have hco := hcol6.box.cell; clear hf6)
          | (gi_at_builtin; refine wpListIn_append_own_at _ rfl _ _ 23 rfl (ob + 2) 45 i0 (.agg #[.string ⟨#[]⟩, .int .i64 0]) 2 24 Tryz.underlying23 hi' hz0 hz1 hz2 rfl (by decide) _ _ _ rfl (hcol6.row.alloc _) ⟨w6.heap.size, 0, none⟩ 1 1 [vS gd, .int .i64 M] rfl rfl (cell_two _ _ _ _) (by intro u hu; simp only [List.mem_cons, List.not_mem_nil, or_false] at hu; rcases hu with rfl | rfl <;> rfl) (by unfold maxLen; omega) (by omega) (by have := HF6.out.size; simp; omega) ?_; intro v' w1 hown' hgrow _ hat; obtain ⟨g', cap', rfl⟩ := ownsRow_succ hown'; obtain ⟨hv1, hc1, hf1⟩ := hcol6.appended (W0 := W) (S := fun b => b = ob) (by decide) rfl (Nat.le_trans hsz HF6.out.size) hown' hgrow hat; have hcc := hv1.cell; have hcf := hv1.frozen; have HC1 := Lib.hid hc1; have HF1 := Lib.hid hf1; clear hc1 hf1 hat hgrow hown' hcol6))
        have hfA := (HF6.out.mono (fun _ _ e => e.elim)).trans HF1.out
        have hsz0 := HF5W.out.size
        have hcc0 : ∀ b, b < Wb.heap.size → (b = ob ∨ CC C W w6 b) → b = ob ∨ ob + 2 ≤ b := by
          rintro b hb (e | e | e)
          · exact .inl e
          · have := HCC.out b e; omega
          · have := e.1; omega
        have eLn : (offerS A (L.take j)).length + 1 = (offerS A (L.take (j + 1))).length := by rw [HTK.out, hof1.out, List.length_append]; rfl
        have eCs : itCs (offerS A (L.take j)) ++ [vS gd, .int .i64 M] = itCs (offerS A (L.take (j + 1))) := by rw [HTK.out, hof1.out, itCs_app]; rfl
        refine ⟨hfA.mono (fun b hb e => e.imp_right (fun e => e.elim .inl (fun e => .inr ⟨e.1, hb⟩))), hfA.at_ HQ.out (fun e => ?_), ⟨_, HC1.out.congr eLn eCs⟩, HFW.out.trans' hfA (fun b hb e => ?_), HF5W.out.trans' hfA (fun b hb e => ?_)⟩
        · have := hcc0 _ (Array.getElem?_eq_some_iff.1 HQ.out).1 e; omega
        · have := HFW.out.size; have := hcc0 _ (by omega) e; have := HS.out; omega
        · have := hcc0 _ (by omega) e; omega
      · have hof1 : Hid (offerS A [(gd, n)] = []) := Lib.hid (by rw [hof.out, if_neg hpm])
        clear hof
        gi_wp2_with (gi_at_call 12; refine hLv.out.mono ?_; rintro e w6 ⟨rfl, hf6⟩; have HF6 := Lib.hid hf6; clear hf6)
        have h6 := HF6.out
        refine ⟨h6.mono (fun _ _ e => e.elim), h6.at_ HQ.out (fun e => e), ⟨v, ?_⟩, HFW.out.trans (h6.mono fun _ _ e => e.elim), HF5W.out.trans (h6.mono fun _ _ e => e.elim)⟩
        rw [HTK.out, hof1.out, List.append_nil]
        exact ⟨h6.box HCOL.out.box (fun h => h), h6.row HCOL.out.row (fun _ _ h => h), fun b hb => .inl (HCOL.out.mine b hb)⟩
    case done =>
      rintro D C W hD ⟨hQ, ⟨v, hcol⟩, hFw, hF5w⟩ hr hK
      have hco := hcol.box.cell
      rw [show L.take L.length = L from List.take_length] at hcol
      have hown := hcol.row
      have HFW := Lib.hid hFw; have HCOL := Lib.hid hcol; have HKK := Lib.hid hK; have HR := Lib.hid hr; have HD := Lib.hid hD
      clear hcol hFw hK hF5w hQ hr hD hown
      gi_wp2
      refine ⟨by simp, .inl ⟨_, _, rfl, run_takeDeferred HKK.out, ?_⟩⟩
      refine ⟨_, results_tmp rfl _ _ _, v, rfl, ?_, ?_, ?_⟩
      · exact (Il.own (ownsRow_putObj HCOL.out.row _ HKK.out rfl) (offerS_ok fun p hp => ⟨by obtain ⟨i, hi⟩ := List.mem_iff_getElem?.1 hp; exact hokl.out i p hi, hpos.out p hp⟩)).1
      · intro b hb
        have := HCOL.out.row.lt b hb
        have e2 : (W.putObj D (.deferred none)).heap.size = W.heap.size := by simp
        omega
      · have := HS.out; have := HS5.out
        exact (HFW.out.putObj (l := D) (fun h => by have := HD.out; omega) _).mono (fun b hb e => by omega)
end Go.Proofs.YtmflpeklalgibaaGreat

namespace Go.Proofs.YtmflpeklalgibaaGreat
open Go.RowKit Go.Maps
theorem putK_len_known {ν : Type} {A : List (Str × ν)} {g : Str} {v : ν} (hA : RiseS A) (hg : (getS A g).isSome = true) : (putS ktS.lt A g v).length = A.length := by
  unfold putS
  rw [(insK_perm ktS.lt (g, v) _).length_eq, List.length_cons]
  induction A with
  | nil => simp [getS] at hg
  | cons p r ih =>
    obtain ⟨a1, a2⟩ := List.pairwise_cons.1 hA
    by_cases e : p.1 = g
    · have : delS (p :: r) g = r := by
        unfold delS
        rw [List.filter_cons]
        simp only [e, decide_true, Bool.not_true, Bool.false_eq_true, if_false]
        refine List.filter_eq_self.2 (fun y hy => ?_)
        have := a1 y hy
        simp only [Bool.not_eq_true', decide_eq_false_iff_not]
        intro hh; rw [hh, e] at this; exact str_irr _ this
      rw [this]; rfl
    · have h1 : delS (p :: r) g = p :: delS r g := by
        unfold delS
        rw [List.filter_cons]
        simp [e]
      rw [h1, List.length_cons, List.length_cons, ih a2 (by simpa [getS, e] using hg)]
theorem rowAt_put {A : Stk} {x y : Str} {v : SR} (hA : RiseS A) : rowAt (putS ktS.lt A x v) y = if x = y then v else rowAt A y := by
  unfold rowAt
  rw [getK_put (riseS_nd hA)]
  split <;> rfl
/-- What a fold of moves makes of a stock. -/
def MoveOf (k : Int) (A : Stk) (L : Its) (B : Stk) : Prop := RiseS B ∧ ∀ g, getS B g = match getS L g with | some n => some ((rowAt A g).move k n) | none => getS A g
theorem doFold_iff (k : Int) : ∀ {L : Its} {last : Str} {A : Stk}, itsOk last L = true → RiseS A →
    (∀ B, doFold k A L = some B → (∀ p ∈ L, ((rowAt A p.1).move k p.2).right = true) ∧ MoveOf k A L B) ∧ ((∀ p ∈ L, ((rowAt A p.1).move k p.2).right = true) → ∃ B, doFold k A L = some B)
  | [], last, A, h, hA => by
    refine ⟨fun B hB => ?_, fun _ => ⟨A, rfl⟩⟩
    obtain rfl : A = B := Option.some.inj hB
    exact ⟨fun p hp => (by cases hp), hA, fun g => rfl⟩
  | p :: r, last, A, h, hA => by
    obtain ⟨h1, h2, h3, h4, h5⟩ := its_cons h
    obtain ⟨r1, r2⟩ := its_all h5
    have hne : ∀ q ∈ r, ¬ p.1 = q.1 := fun q hq e => by
      have := (r2 q hq).2.2.2
      rw [e] at this; exact str_irr _ this
    have hrow : ∀ q ∈ r, rowAt (putS ktS.lt A p.1 ((rowAt A p.1).move k p.2)) q.1 = rowAt A q.1 := fun q hq => by
      rw [rowAt_put hA, if_neg (hne q hq)]
    obtain ⟨i1, i2⟩ := doFold_iff k h5 (riseS_put (x := p.1) (v := (rowAt A p.1).move k p.2) hA)
    rw [doFold_cons]
    refine ⟨fun B hB => ?_, fun hall => ?_⟩
    · split at hB
      · rename_i hr
        obtain ⟨j1, j2, j3⟩ := i1 B hB
        refine ⟨fun q hq => ?_, j2, fun g => ?_⟩
        · rcases List.mem_cons.1 hq with rfl | hq
          · exact hr
          · have := j1 q hq
            rwa [hrow q hq] at this
        · rw [j3 g]
          by_cases e : p.1 = g
          · subst e
            have hn : getS r p.1 = none := getK_none.2 (fun y hy e => hne y hy e.symm)
            rw [hn]
            simp only [getS, if_pos]
            rw [getK_put (riseS_nd hA), if_pos rfl]
          · simp only [getS, if_neg e]
            cases hg : getS r g with
            | none => simp only; rw [getK_put (riseS_nd hA), if_neg e]
            | some n => simp only; rw [rowAt_put hA, if_neg e]
      · cases hB
    · rw [if_pos (hall p (by simp))]
      exact i2 (fun q hq => by rw [hrow q hq]; exact hall q (by simp [hq]))
/-- What is said of a stock by its rows, from MoveOf. -/
theorem MoveOf.rows {k : Int} {A B : Stk} {L : Its} (h : MoveOf k A L B) (hA : SOk A) (hL : ∀ p ∈ L, goodB p.1 = true) (hr : ∀ p ∈ L, ((rowAt A p.1).move k p.2).right = true) : ∀ p ∈ B, goodB p.1 = true ∧ SRok p.2 := by
  have key : ∀ g n, (g, n) ∈ L → SRok ((rowAt A g).move k n) := fun g n hm => SRok.ofR (hr (g, n) hm) (SR.move_bal (hA.at_ g).bal k n)
  intro p hp
  have hg := getK_of (riseS_nd h.1) (x := p.1) (v := p.2) hp
  rw [h.2 p.1] at hg
  cases hl : getS L p.1 with
  | none =>
    rw [hl] at hg
    have := getK_mem hg
    exact ⟨hA.good _ this, hA.row _ this⟩
  | some n =>
    rw [hl] at hg
    have hm := getK_mem hl
    simp only [Option.some.injEq] at hg
    refine ⟨hL _ hm, ?_⟩
    rw [← hg]
    exact key _ _ hm
theorem doS_yes {A B : Stk} {k : Int} {L : Its} (hA : SOk A) (h : doS A k L = (0, B)) : 1 ≤ k ∧ k ≤ 11 ∧ mayL L = true ∧ doMay A k L = 0 ∧ (∀ p ∈ L, ((rowAt A p.1).move k p.2).right = true) ∧ MoveOf k A L B ∧ B.length ≤ 64 := by
  unfold doS at h
  split at h
  · cases h
  · rename_i h1
    split at h
    · cases h
    · rename_i h2
      split at h
      · rename_i h3
        injection h with h _
        exact absurd h h3
      · rename_i h3
        have hm : mayL L = true := by simpa using h2
        obtain ⟨i1, -⟩ := doFold_iff k (mayL_iff.1 hm).1 hA.rise
        split at h
        · cases h
        · rename_i C hC
          split at h
          · cases h
          · rename_i h4
            injection h with _ h
            subst h
            obtain ⟨j1, j2⟩ := i1 _ hC
            exact ⟨by omega, by omega, hm, by omega, j1, j2, by omega⟩
theorem doS_ok {A : Stk} {k : Int} {L : Its} (hA : SOk A) : SOk (doS A k L).2 := by
  by_cases h0 : (doS A k L).1 = 0
  · obtain ⟨-, -, hm, -, hr, hB, hlen⟩ := doS_yes hA (B := (doS A k L).2) (Prod.ext h0 rfl)
    have := hB.rows hA (fun p hp => ((its_all (mayL_iff.1 hm).1).2 p hp).1) hr
    exact ⟨hB.1, fun p hp => (this p hp).1, fun p hp => (this p hp).2, hlen⟩
  · have : (doS A k L).2 = A := by
      unfold doS at h0 ⊢
      split
      · rfl
      · split
        · rfl
        · split
          · rfl
          · split
            · rfl
            · split
              · rfl
              · rename_i h1 h2 h3 _ _ h4 h5
                rw [if_neg h1, if_neg h2, if_neg h3, h4] at h0
                simp only [if_neg h5] at h0
                first | exact absurd rfl h0 | exact absurd trivial h0
    rw [this]; exact hA
theorem doS_no {A : Stk} {k : Int} {L : Its} (h0 : (doS A k L).1 ≠ 0) : (doS A k L).2 = A := by
  unfold doS at h0 ⊢
  split
  · rfl
  · split
    · rfl
    · split
      · rfl
      · split
        · rfl
        · split
          · rfl
          · rename_i h1 h2 h3 _ _ h4 h5
            rw [if_neg h1, if_neg h2, if_neg h3, h4] at h0
            simp only [if_neg h5] at h0
            first | exact absurd rfl h0 | exact absurd trivial h0
theorem countS_ok {A : Stk} {g : Str} {n : Int} (hA : SOk A) : SOk (countS A g n).2.2 := by
  unfold countS
  split
  · exact hA
  · split
    · exact hA
    · rename_i r hr
      split
      · exact hA
      · simp only
        split
        · rename_i hri
          have hb := (hA.row _ (getK_mem hr))
          have hg := (hA.good _ (getK_mem hr))
          have hl := putK_len_known (g := g) (v := { r with free := r.free + (n - r.held - r.free), counted := r.counted + (n - r.held - r.free) }) hA.rise (by rw [hr]; rfl)
          refine ⟨riseS_put hA.rise, fun p hp => ?_, fun p hp => ?_, by rw [hl]; exact hA.len⟩
          · rcases mem_putK.1 hp with rfl | ⟨hp, -⟩
            · exact hg
            · exact hA.good _ hp
          · rcases mem_putK.1 hp with rfl | ⟨hp, -⟩
            · refine SRok.ofR hri ?_
              have := hb.bal
              unfold SR.sum SR.flow at this ⊢
              simp only at this ⊢
              omega
            · exact hA.row _ hp
        · exact hA
end Go.Proofs.YtmflpeklalgibaaGreat

