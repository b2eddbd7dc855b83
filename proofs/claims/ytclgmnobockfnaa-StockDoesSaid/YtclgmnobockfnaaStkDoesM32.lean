/- entrepotlaw07.Looks: the walk. -/
import Derived.Test.YtclgmnobockfnaaStkDoesM21
import Derived.Test.YtclgmnobockfnaaStkDoesM2
import Derived.Test.YtclgmnobockfnaaStkDoesM15
import Derived.Test.YtclgmnobockfnaaStkDoesM31
namespace Go.Proofs.Ytclgmnobockfnaa
open Go.RowKit Go.Maps
attribute [local go_sem] Oper.semAt_some
theorem neq_lev (w : World) (a b c d : Int) : (binOp .neq 42 (.agg #[.int .i64 a, .int .i64 b, .int .i64 c, .int .i64 d]) (.agg #[.int .i64 a, .int .i64 b, .int .i64 c, .int .i64 d])).run Try.prog w = .ok (.bool false) w := by
  simp [go_sem]
theorem neq_flo (w : World) (a b c d e f g : Int) : (binOp .neq 44 (.agg #[.int .i64 a, .int .i64 b, .int .i64 c, .int .i64 d, .int .i64 e, .int .i64 f, .int .i64 g]) (.agg #[.int .i64 a, .int .i64 b, .int .i64 c, .int .i64 d, .int .i64 e, .int .i64 f, .int .i64 g])).run Try.prog w = .ok (.bool false) w := by
  simp [go_sem]
structure LoI (w0 W : World) (n0 g gx : Nat) : Prop where
  bx : W.heap[n0]? = some (.cells #[.pointer (some ⟨gx, 0, none⟩)] 36)
  res : W.heap[n0 + 1]? = some (.cells #[.bool false] 4)
  bt : W.heap[n0 + 2]? = some (.cells #[.pointer (some ⟨g, 0, none⟩)] 24)
  fr : Fr (fun b => n0 ≤ b) w0 W
theorem LoI.keep {w0 W W' : World} {n0 g gx : Nat} {S : Nat → Prop} (h : LoI w0 W n0 g gx) (hf : Fr S W W') (hS : ∀ b, S b → n0 + 3 ≤ b) : LoI w0 W' n0 g gx :=
  ⟨hf.at_ h.bx (fun e => by have := hS _ e; omega), hf.at_ h.res (fun e => by have := hS _ e; omega), hf.at_ h.bt (fun e => by have := hS _ e; omega), h.fr.trans' hf (fun b _ e => by have := hS _ e; omega)⟩
def LoJ (w0 : World) (n0 g gx nb : Nat) (k : Nat) (_ : Nat → Prop) (W : World) : Prop := LoI w0 W n0 g gx ∧ W.heap[nb]? = some (.cells #[.int .i64 (k : Int)] 3)
def LoX (_ : Code) (_ : Nat) (_ : Nat → Prop) (_ : World) : Prop := False
set_option maxRecDepth 100000 in
set_option maxHeartbeats 8000000 in
theorem tLooks (w : World) (g gx : Nat) (TS TX : Nat → Prop) (A : Stk) (h : SA w g TS A) (hx : RS w gx TX A) (hG : SOk A) :
    Calls Try.prog 16 #[.pointer (some ⟨g, 0, none⟩), .pointer (some ⟨gx, 0, none⟩)] w fun e w' => e = .returned (.bool true) ∧ Fr (fun _ => False) w w' := by
  obtain ⟨n0, hn0⟩ : ∃ n0, w.heap.size = n0 := ⟨_, rfl⟩
  have HS := Lib.hid hn0
  have HTA : Hid (∀ w', Fr (fun b => n0 ≤ b) w w' → SA w' g TS A) := Lib.hid (fun w' hf => h.fr hf (fun b hb e => by have := h.lt b hb; omega))
  have HTX : Hid (∀ w', Fr (fun b => n0 ≤ b) w w' → RS w' gx TX A) := Lib.hid (fun w' hf => hx.fr hf (fun b hb e => by have := hx.lt b hb; omega))
  have HG := Lib.hid hG
  have HGX : Hid (gx < n0) := Lib.hid (by have := hx.lt gx hx.own; omega)
  have HTL : Hid (∀ b, TS b → b < n0) := Lib.hid (fun b hb => by have := h.lt b hb; omega)
  have hnil := fun (w : World) (f : Fn) (x y : Array Value) => run_eql_func_nil (P := Try.prog) w 57 _ _ _ f x y Try.underlying57
  clear h hx hG
  refine (callsIn_wide (n := 0)).1 ?_
  refine callsIn_of_wp_marks Try.func16 rfl trivial ?_ rfl
  simp only [Try.ntmps16, List.size_toArray, List.length_cons, List.length_nil, Nat.reduceAdd, Nat.reduceSub, Array.replicate_succ, Array.replicate_zero, List.push_toArray, List.append_toArray, List.nil_append, List.cons_append]
  refine wpIn_wide.2 ?_
  go_wp2_with (go_at_call 28; refine (sGoods _ _).mono ?_; rintro e w1 ⟨rfl, rfl⟩)
  obtain ⟨W1, hW1⟩ : ∃ W1, ((((w.alloc (.cells #[.pointer (some ⟨gx, 0, none⟩)] 36)).alloc (.cells #[.bool false] 4)).alloc (.cells #[.pointer (some ⟨g, 0, none⟩)] 24)).alloc (.cells #[.int .i64 0] 3)) = W1 := ⟨_, rfl⟩
  have hI1 : LoI w W1 n0 g gx := by
    rw [← hW1]
    exact ⟨heap_keep (heap_keep (heap_keep (heap_at hn0.symm _) _) _) _, heap_keep (heap_keep (heap_at (by simp; omega) _) _) _, heap_keep (heap_at (by simp; omega) _) _, ((((Fr.refl _ w).alloc _).alloc _).alloc _).alloc _⟩
  have hN1 : W1.heap[n0 + 3]? = some (.cells #[.int .i64 0] 3) := by rw [← hW1]; exact heap_at (by simp; omega) _
  have hsz1 : W1.heap.size = n0 + 4 := by rw [← hW1]; simp; omega
  rw [hW1]
  have HSZ := Lib.hid hsz1
  have hGA := Lib.hid (sGoods1 (fun b => b = n0 + 3) W1 (n0 + 2) g TS A hI1.bt (HTA.out W1 hI1.fr) (by have := HG.out.len; omega) (by omega) (fun b hb e => by have := HTL.out b hb; omega))
  have HI1 := Lib.hid hI1; have HN1 := Lib.hid hN1
  clear hnil hI1 hN1 hsz1 hW1
  refine (wpIn_wide (n := 0)).1 ?_
  refine rangeX (w0 := W1) (X := A.map (·.1)) (S := fun b => b = n0 + 3) rfl (enters_of Try.func64 (by kernel_rfl) rfl) hGA.out (Below.refl _ _) (fun b hb => by have := HSZ.out; omega) (fun _ => rfl)
    (LoJ w n0 g gx (n0 + 3)) LoX
    (fun k C W W' hs hf => ⟨hs.1.keep hf (fun b e => by have := e.1; have := HSZ.out; omega), Fa.cells hf hs.2⟩) (fun c k C W W' hs hf => hs) ⟨HI1.out, HN1.out⟩ ?round ?done ?stop
  have hfn : ∀ f, Fence.wide.fn f := fun _ => trivial
  have hdp : Fence.wide.depth.isSome = false := rfl
  case round =>
    rintro lp k x C W hx hlp hi hr
    dsimp only [encS]
    gi_wp2
    refine Took.mk (Fr.refl _ _) hi ?_
    rintro Wb ⟨hbI, hbn⟩ hrb hf hsz hsw hCC _
    have hx2 : ∃ p, A[k]? = some p ∧ p.1 = x := by
      rw [List.getElem?_map] at hx
      cases e : A[k]? with
      | none => rw [e] at hx; cases hx
      | some p => rw [e] at hx; exact ⟨p, rfl, by simpa using hx⟩
    obtain ⟨p, hp, rfl⟩ := hx2
    have hkl : k < A.length := (List.getElem?_eq_some_iff.1 hp).1
    obtain ⟨sa, sc, sc0, srow, -⟩ := (HTX.out Wb hbI.fr).cell
    obtain ⟨gp, rfl, hrc⟩ := row12 srow rfl hp
    have y0 := hrc 0 (vS p.1) rfl
    rw [Nat.add_zero] at y0
    obtain ⟨ln, hln⟩ : ∃ ln, A.length = ln := ⟨_, rfl⟩
    have hl64 : ln ≤ 64 := by have := HG.out.len; omega
    rw [hln] at hkl sc0
    have hkI : (k : Int) < ln := by omega
    have sc0 := FrW.cell sc0
    have y0 := FrW.cell y0
    have e0 := FrW.cell (cell_obj hbI.bx 0 (.pointer (some ⟨gx, 0, none⟩)) rfl)
    have e1 := FrW.cell (cell_obj hbn 0 (.int .i64 k) rfl)
    have f1 := obj_frozen hbn 0
    have hg1 : decide (ln ≤ k) = false := by simp; omega
    have hg2 : decide ((ln : Int) ≤ (k : Int)) = false := by simp; omega
    have q3 : ∀ W, (binOp .neq 9 (vS p.1) (vS p.1)).run Try.prog W = .ok (.bool false) W := fun W => by simp [go_sem]
    have HB := Lib.hid hbI; have HBN := Lib.hid hbn
    clear hi hr hf hrc srow hx hbI hbn hrb hp hln
    gi_wp2
    refine wpIn_region_fr_round (by kernel_rfl) (by kernel_rfl) (by kernel_rfl) ?_
    repeat (gi_big_quiet_step (fail))
    refine wpQuietIn_nil ?_
    rintro _ ⟨⟨W2, hF2⟩, rfl⟩
    have HB2 := Lib.hid (HB.out.keep hF2 (fun _ e => e.elim)); have HBN2 := Lib.hid (hF2.at_ HBN.out (fun e => e))
    have HF2 := Lib.hid hF2
    clear e0 e1 f1 sc0 y0 q3 hF2 hg1 hg2
    have e1 := cell_obj HBN2.out 0 (.int .i64 k) rfl
    have f1 := obj_frozen HBN2.out 0
    gi_wp2
    refine ⟨(HF2.out.mono (fun _ _ e => e.elim)).trans ((Fr.refl _ _).setCell (p := ⟨n0 + 3, 0, none⟩) (fun _ => .inl rfl) _), HB2.out.keep ((Fr.refl (fun b => b = n0 + 3) _).setCell (p := ⟨n0 + 3, 0, none⟩) (fun _ => rfl) _) (fun b e => by omega), ?_⟩
    have := obj_set HBN2.out 0 (.int .i64 ((k : Int) + 1))
    simpa using this
  case stop => intro D c k C W hD hk hX; exact hX.elim
  case done =>
    rintro D C W hD ⟨hbI, hbn⟩ hr hK
    obtain ⟨ln, hln⟩ : ∃ ln, A.length = ln := ⟨_, rfl⟩
    have hlen : (A.map (·.1)).length = ln := by rw [List.length_map, hln]
    rw [hlen] at hbn
    have hl64 : ln ≤ 64 := by have := HG.out.len; omega
    have HLN := Lib.hid hln
    have HI := Lib.hid hbI; have HN := Lib.hid hbn; have HK := Lib.hid hK; have HD := Lib.hid hD
    have HD0 : Hid (n0 + 4 ≤ D) := Lib.hid (by have := HSZ.out; omega)
    have HDL : Hid (D < W.heap.size) := Lib.hid (Array.getElem?_eq_some_iff.1 hK).1
    clear hbI hbn hr hK hlen hln hD HI1 HN1 hGA
    go_wp2_with fail
    go_loopw [8] (fun i wr => ∃ k : Nat, k ≤ ln ∧ i = .int .i64 k ∧ Fr (fun _ => False) W wr) (fun i _ => ln - (intOf i).toNat)
    case atStart => exact ⟨0, Nat.zero_le _, rfl, Fr.refl _ _⟩
    case round =>
      obtain ⟨k, hk, rfl, hF⟩ := hrel
      have HF := Lib.hid hF
      have hI := HI.out.keep hF (fun _ e => e.elim)
      obtain ⟨sa, sc, sc0, srow, -⟩ := (HTX.out wr hI.fr).cell
      have e0 := cell_obj hI.bx 0 (.pointer (some ⟨gx, 0, none⟩)) rfl
      rw [HLN.out] at sc0
      by_cases hlt : k < ln
      · obtain ⟨p, hp⟩ : ∃ p, A[k]? = some p := ⟨A[k]'(by rw [HLN.out]; exact hlt), List.getElem?_eq_getElem _⟩
        have hrA : rowAt A p.1 = p.2 := by
          unfold rowAt
          rw [getS_find HG.out.rise hp]; rfl
        have hok : okS p.1 := by
          have := goodB_len (HG.out.good p (List.mem_of_getElem? hp))
          unfold okS maxLen; omega
        have hbal : p.2.bal = true := (HG.out.row p (List.mem_of_getElem? hp)).balB
        obtain ⟨gp, rfl, hrc⟩ := row12 srow rfl hp
        obtain ⟨gd, ⟨f0, f1, f2, f3, f4, f5, f6, f7, f8, f9, f10⟩⟩ := p
        dsimp only at hrA hok hbal hrc
        have hLv : Hid (∀ W', Fr (fun b => n0 ≤ b) w W' → Calls Try.prog 29 #[.pointer (some ⟨g, 0, none⟩), vS gd] W' fun e w' => e = .returned (.agg #[.int .i64 f0, .int .i64 f1, .int .i64 f2, .int .i64 f3]) ∧ Fr (fun _ => False) W' w') := Lib.hid (fun W' hf => by
          have := sLevel W' g TS A gd (HTA.out W' hf) hok
          rw [hrA] at this
          exact this)
        have hFl : Hid (∀ W', Fr (fun b => n0 ≤ b) w W' → Calls Try.prog 30 #[.pointer (some ⟨g, 0, none⟩), vS gd] W' fun e w' => e = .returned (.agg #[.int .i64 f4, .int .i64 f5, .int .i64 f6, .int .i64 f7, .int .i64 f8, .int .i64 f9, .int .i64 f10]) ∧ Fr (fun _ => False) W' w') := Lib.hid (fun W' hf => by
          have := sFlow W' g TS A gd (HTA.out W' hf) hok
          rw [hrA] at this
          exact this)
        have hBl : Hid (∀ W', Calls Try.prog 17 #[.agg #[.int .i64 f0, .int .i64 f1, .int .i64 f2, .int .i64 f3], .agg #[.int .i64 f4, .int .i64 f5, .int .i64 f6, .int .i64 f7, .int .i64 f8, .int .i64 f9, .int .i64 f10]] W' fun e w' => e = .returned (.bool true) ∧ Fr (fun _ => False) W' w') := Lib.hid (fun W' => by
          have := sBalanced W' ⟨f0, f1, f2, f3, f4, f5, f6, f7, f8, f9, f10⟩
          rw [hbal] at this
          exact this)
        have hnl := fun W' => neq_lev W' f0 f1 f2 f3
        have hnf := fun W' => neq_flo W' f4 f5 f6 f7 f8 f9 f10
        have y0 := hrc 0 (vS gd) rfl
        have y1 := hrc 1 (.int .i64 f0) rfl
        have y2 := hrc 2 (.int .i64 f1) rfl
        have y3 := hrc 3 (.int .i64 f2) rfl
        have y4 := hrc 4 (.int .i64 f3) rfl
        have y5 := hrc 5 (.int .i64 f4) rfl
        have y6 := hrc 6 (.int .i64 f5) rfl
        have y7 := hrc 7 (.int .i64 f6) rfl
        have y8 := hrc 8 (.int .i64 f7) rfl
        have y9 := hrc 9 (.int .i64 f8) rfl
        have y10 := hrc 10 (.int .i64 f9) rfl
        have y11 := hrc 11 (.int .i64 f10) rfl
        rw [Nat.add_zero] at y0
        have hkI : (k : Int) < ln := by omega
        have HI2 := Lib.hid hI
        clear hrc hrA hok hbal hp srow hF hI hk
        obtain ⟨nr, hnr⟩ : ∃ nr, wr.heap.size = nr := ⟨_, rfl⟩
        have HNR := Lib.hid hnr
        clear hnr
        go_wp2_with fail
        obtain ⟨W2, hW2⟩ : ∃ W2, wr.alloc (.cells #[vS gd, .int .i64 f0, .int .i64 f1, .int .i64 f2, .int .i64 f3, .int .i64 f4, .int .i64 f5, .int .i64 f6, .int .i64 f7, .int .i64 f8, .int .i64 f9, .int .i64 f10] 96) = W2 := ⟨_, rfl⟩
        have hR2 : W2.heap[wr.heap.size]? = some (.cells #[vS gd, .int .i64 f0, .int .i64 f1, .int .i64 f2, .int .i64 f3, .int .i64 f4, .int .i64 f5, .int .i64 f6, .int .i64 f7, .int .i64 f8, .int .i64 f9, .int .i64 f10] 96) := by rw [← hW2]; exact heap_new _ _
        have hF2 : Fr (fun _ => False) wr W2 := by rw [← hW2]; exact (Fr.refl _ _).alloc _
        rw [HNR.out] at hR2 ⊢
        rw [hW2]
        have HF2 := Lib.hid hF2
        have HL2 : Hid (∀ X : FrW W2, Fr (fun b => n0 ≤ b) w X.val) := Lib.hid (fun X => (HI2.out.fr.trans' HF2.out (fun _ _ e => e.elim)).trans' X.fr (fun _ _ e => e.elim))
        clear hW2 hF2 y0 y1 y2 y3 y4 y5 y6 y7 y8 y9 y10 y11 sc0 e0
        have x0 := FrW.cell (cell_obj hR2 0 (vS gd) rfl)
        have x1 := FrW.cell (cell_obj hR2 1 (.int .i64 f0) rfl)
        have x2 := FrW.cell (cell_obj hR2 2 (.int .i64 f1) rfl)
        have x3 := FrW.cell (cell_obj hR2 3 (.int .i64 f2) rfl)
        have x4 := FrW.cell (cell_obj hR2 4 (.int .i64 f3) rfl)
        have x5 := FrW.cell (cell_obj hR2 5 (.int .i64 f4) rfl)
        have x6 := FrW.cell (cell_obj hR2 6 (.int .i64 f5) rfl)
        have x7 := FrW.cell (cell_obj hR2 7 (.int .i64 f6) rfl)
        have x8 := FrW.cell (cell_obj hR2 8 (.int .i64 f7) rfl)
        have x9 := FrW.cell (cell_obj hR2 9 (.int .i64 f8) rfl)
        have x10 := FrW.cell (cell_obj hR2 10 (.int .i64 f9) rfl)
        have x11 := FrW.cell (cell_obj hR2 11 (.int .i64 f10) rfl)
        clear hR2
        refine wp_region_fr (by kernel_rfl) (by kernel_rfl) ?_
        repeat (go_big_quiet_step ((first | (go_at_call 29; rename_i X; refine (hLv.out _ (HL2.out X)).mono ?_; rintro e w2 ⟨rfl, hF⟩; exact ⟨rfl, ⟨w2, X.fr.trans hF⟩, rfl⟩) | (go_at_call 30; rename_i X; refine (hFl.out _ (HL2.out X)).mono ?_; rintro e w2 ⟨rfl, hF⟩; exact ⟨rfl, ⟨w2, X.fr.trans hF⟩, rfl⟩) | (go_at_call 17; rename_i X; refine (hBl.out _).mono ?_; rintro e w2 ⟨rfl, hF⟩; exact ⟨rfl, ⟨w2, X.fr.trans hF⟩, rfl⟩))))
        refine wpQuiet_nil ?_
        rintro _ ⟨⟨V, hV⟩, rfl⟩
        clear x0 x1 x2 x3 x4 x5 x6 x7 x8 x9 x10 x11
        have HV := Lib.hid (HF2.out.trans hV)
        clear hV
        go_wp2_with fail
        go_roundw
        case rel => exact ⟨k + 1, by omega, by go_num, HF.out.trans HV.out⟩
        case measure => simp [intOf]; omega
      · obtain rfl : k = ln := by omega
        have e1 := cell_obj (hF.at_ HN.out (fun h => h)) 0 (.int .i64 (k : Int)) rfl
        have r0 := cell_obj hI.res 0 (.bool false) rfl
        have f0 := obj_frozen hI.res 0
        have hdm : (((k : Int)) == (k : Int)) = true := by simp
        have hKr := hF.at_ HK.out (fun h => h)
        have HI2 := Lib.hid hI; have HKr := Lib.hid hKr
        clear hF hI srow hKr
        go_wp2_with fail
        refine wp_region_noPanic ?_
        go_region
        all_goals
          refine NoPanic.normal ?_
          obtain ⟨V, hV⟩ : ∃ V, (wr.setCell ⟨n0 + 1, 0, none⟩ (.bool true)).drew = V := ⟨_, rfl⟩
          have hR5 : V.heap[n0 + 1]? = some (.cells #[.bool true] 4) := by rw [← hV]; exact obj_set (w := wr) HI2.out.res 0 (.bool true)
          have hK5 : V.heap[D]? = some (.deferred (some [])) := by rw [← hV]; exact ((Fr.refl (fun b => b = n0 + 1) wr).setCell (p := ⟨n0 + 1, 0, none⟩) (fun _ => rfl) (.bool true)).at_ (o := .deferred (some [])) HKr.out (by have := HD0.out; omega)
          have hF5 : Fr (fun b => n0 ≤ b) w V := by rw [← hV]; exact (HI2.out.fr.trans ((Fr.refl (fun b => n0 ≤ b) wr).setCell (p := ⟨n0 + 1, 0, none⟩) (fun _ => by show n0 ≤ n0 + 1; omega) (.bool true))).drew
          have hc5 := cell_obj (Fa.cells (frPut (B := n0) (.deferred none) (by have := HD0.out; omega) hK5 rfl) hR5) 0 (.bool true) rfl
          have HV := Lib.hid hV
          have HF5 := Lib.hid hF5; have HK5 := Lib.hid hK5; have HC5 := Lib.hid hc5
          clear hR5 hK5 hF5 hc5 r0 f0 e0 e1 sc0 hV
          go_wp2_with fail
          rw [HV.out]
          refine ⟨by simp, .inl ⟨_, _, rfl, run_takeDeferred HK5.out, ?_⟩⟩
          refine ⟨.bool true, by simp [results, Try.results16, go_sem, HC5.out], rfl, ?_⟩
          exact (HF5.out.putObj (l := D) (fun _ => by have := HD0.out; omega) _).mono (fun b hb e => by have := HS.out; omega)
end Go.Proofs.Ytclgmnobockfnaa
