/- stock: for every input StockNobody returns true and leaves its input as it was. -/
import Derived.Test.YtclgmnobockfnaaRows
import Derived.Test.YtclgmnobockfnaaStkNobodyM15
import Derived.Test.YtclgmnobockfnaaStkNobodyM22
import Derived.Test.YtclgmnobockfnaaStkNobodyM26
import Derived.Test.YtclgmnobockfnaaStkNobodyM23
namespace Go.Proofs.Ytclgmnobockfnaa.stockNobody
open Go.ChangeShapes Go.WideShapes Go.ChangeAt Go.RowKit Go.Maps
attribute [local go_sem] Oper.semAt_some
/-- What the statement keeps: the call, its answer's box. -/
structure NbI (w : World) (n0 : Nat) (cs : Array Value) (W : World) : Prop where
  op : W.heap[n0]? = some (.cells cs 28)
  res : W.heap[n0 + 1]? = some (.cells #[.bool false] 4)
  fr : Fr (fun b => n0 ≤ b) w W
theorem NbI.keep {w W W' : World} {n0 : Nat} {cs : Array Value} (h : NbI w n0 cs W) (hf : Fr (fun _ => False) W W') : NbI w n0 cs W' := ⟨hf.at_ h.op (fun e => e), hf.at_ h.res (fun e => e), h.fr.trans' hf (fun _ _ e => e.elim)⟩
theorem NbI.cells {w W : World} {n0 : Nat} {kd n : Int} {l g : Value} (h : NbI w n0 #[.int .i64 kd, l, g, .int .i64 n] W) : (W.cell? ⟨n0, 0, none⟩ = some (.int .i64 kd) ∧ W.cell? ⟨n0, 1, none⟩ = some l ∧ W.cell? ⟨n0, 2, none⟩ = some g ∧ W.cell? ⟨n0, 3, none⟩ = some (.int .i64 n)) ∧ W.cell? ⟨n0 + 1, 0, none⟩ = some (.bool false) :=
  ⟨⟨cell_obj h.op 0 _ rfl, cell_obj h.op 1 _ rfl, cell_obj h.op 2 _ rfl, cell_obj h.op 3 _ rfl⟩, cell_obj h.res 0 _ rfl⟩
set_option maxRecDepth 100000 in
set_option maxHeartbeats 4000000 in
theorem walk (kd n : Int) (a : Option Addr) (ln c : Nat) (gd : Str) (w : World) : Calls Try.prog 8 #[.agg #[.int .i64 kd, .slice a ln c, vS gd, .int .i64 n]] w fun e w' => e = .returned (.bool true) ∧ Below w.heap.size w w' := by
  have hnil := fun (w : World) (f : Fn) (x y : Array Value) => run_eql_func_nil (P := Try.prog) w 57 _ _ _ f x y Try.underlying57
  refine (callsIn_wide (n := 0)).1 ?_
  refine callsIn_of_wp_marks Try.func8 rfl trivial ?_ rfl
  simp only [Try.ntmps8, List.size_toArray, List.length_cons, List.length_nil, Nat.reduceAdd, Nat.reduceSub, Array.replicate_succ, Array.replicate_zero, List.push_toArray, List.append_toArray, List.nil_append, List.cons_append]
  have hfn : ∀ f, Fence.wide.fn f := fun _ => trivial
  have hdp : Fence.wide.depth.isSome = false := rfl
  obtain ⟨n0, hn0⟩ : ∃ n0, w.heap.size = n0 := ⟨_, rfl⟩
  have HS := Lib.hid hn0
  gi_wp2_with (first
    | (gi_at_call 28; refine (callsIn_wide.2 (sGoods _ _)).mono ?_; rintro e w1 ⟨rfl, rfl⟩)
    | (gi_at_call 11; refine (callsIn_wide.2 (stkLives _)).mono ?_; rintro e w2 ⟨rfl, hf2⟩; have HF2 := Lib.hid hf2; clear hf2))
  have hI2 : NbI w n0 #[.int .i64 kd, .slice a ln c, vS gd, .int .i64 n] w2 := by
    refine NbI.keep ⟨heap_keep (heap_keep (heap_at hn0.symm _) _) _, heap_keep (heap_at (by simp; omega) _) _, (((Fr.refl _ w).alloc _).alloc _).alloc _⟩ HF2.out
  have cT : Boxed w2 (n0 + 1 + 1) 24 (.pointer none) := HF2.out.at_ (heap_at (by simp; omega) _) (fun e => e)
  have HI2 := Lib.hid hI2; have hTT := Lib.hid cT
  clear hI2 HF2
  refine rangeX (w0 := w2) (X := ([] : List Str)) (S := fun b => False) rfl (enters_of Try.func64 (by kernel_rfl) rfl)
    (sGoods1_no _ w2 _ cT) (Below.refl _ _) (fun b hb => hb.elim) (fun _ => rfl)
    ZI ZX (fun k C W W' hs hf => hs) (fun c k C W W' hs hf => hs) trivial ?round ?done ?stop
  case round => intro lp k x C W hx; simp at hx
  case stop => intro D c k C W hD hk hX; exact hX.elim
  case done =>
    rintro D C W hD _ hr hK
    have HN := Lib.hid (HI2.out.keep hr)
    have HF : Hid (Fr (fun _ => False) W W) := Lib.hid (Fr.refl _ _)
    have HK := Lib.hid hK; have HD := Lib.hid hD
    obtain ⟨⟨c0, c1, c2, c3⟩, c4⟩ := HN.out.cells
    have f4 := obj_frozen HN.out.res 0
    clear hr hK hD
    gi_wp2_with (first
      | (gi_at_call 19; refine (callsIn_wide.2 (sCount_no _ _ _)).mono ?_; rintro e w3 ⟨rfl, hf3⟩; have HN := Lib.hid (HN.out.keep hf3); have HF := Lib.hid (HF.out.trans hf3); obtain ⟨⟨c0, c1, c2, c3⟩, c4⟩ := HN.out.cells; have f4 := obj_frozen HN.out.res 0; clear hf3)
      | (gi_at_call 12; refine (callsIn_wide.2 (sDo_no _ _ _)).mono ?_; rintro e w3 ⟨rfl, hf3⟩; have HN := Lib.hid (HN.out.keep hf3); have HF := Lib.hid (HF.out.trans hf3); obtain ⟨⟨c0, c1, c2, c3⟩, c4⟩ := HN.out.cells; have f4 := obj_frozen HN.out.res 0; clear hf3)
      | (gi_at_call 29; refine (callsIn_wide.2 (sLevel_no _ _)).mono ?_; unfold SR.lev SR.zero; dsimp only; rintro e w3 ⟨rfl, hf3⟩; have HN := Lib.hid (HN.out.keep hf3); have HF := Lib.hid (HF.out.trans hf3); obtain ⟨⟨c0, c1, c2, c3⟩, c4⟩ := HN.out.cells; have f4 := obj_frozen HN.out.res 0; clear hf3)
      | (gi_at_call 30; refine (callsIn_wide.2 (sFlow_no _ _)).mono ?_; unfold SR.flo SR.zero; dsimp only; rintro e w3 ⟨rfl, hf3⟩; have HN := Lib.hid (HN.out.keep hf3); have HF := Lib.hid (HF.out.trans hf3); obtain ⟨⟨c0, c1, c2, c3⟩, c4⟩ := HN.out.cells; have f4 := obj_frozen HN.out.res 0; clear hf3)
      | (gi_at_call 23; refine (callsIn_wide.2 (sOffer_no _ _)).mono ?_; rintro e w3 ⟨rfl, hf3⟩; have HN := Lib.hid (HN.out.keep hf3); have HF := Lib.hid (HF.out.trans hf3); obtain ⟨⟨c0, c1, c2, c3⟩, c4⟩ := HN.out.cells; have f4 := obj_frozen HN.out.res 0; clear hf3)
      | (gi_at_call 13; refine (callsIn_wide.2 (sPack_no _)).mono ?_; rintro e w3 ⟨rfl, hf3⟩; have HN := Lib.hid (HN.out.keep hf3); have HF := Lib.hid (HF.out.trans hf3); obtain ⟨⟨c0, c1, c2, c3⟩, c4⟩ := HN.out.cells; have f4 := obj_frozen HN.out.res 0; clear hf3)
      | (gi_at_call 21; refine (callsIn_wide.2 (sFork_no _)).mono ?_; rintro e w3 ⟨rfl, hf3⟩; have HN := Lib.hid (HN.out.keep hf3); have HF := Lib.hid (HF.out.trans hf3); obtain ⟨⟨c0, c1, c2, c3⟩, c4⟩ := HN.out.cells; have f4 := obj_frozen HN.out.res 0; clear hf3))
    have hK3 := HF.out.at_ HK.out (fun e => e)
    have hDn : n0 + 2 < D := by
      have := (Array.getElem?_eq_some_iff.1 hTT.out).1
      have := HD.out
      omega
    have hfs : Fr (fun b => b = n0 + 1) w3 (w3.setCell ⟨n0 + 1, 0, none⟩ (.bool true)) := (Fr.refl (fun b => b = n0 + 1) w3).setCell (p := ⟨n0 + 1, 0, none⟩) (fun _ => rfl) _
    have hK5 := hfs.at_ hK3 (fun e => by omega)
    have hc5 := cell_obj (Fa.cells (frPut (B := n0) (.deferred none) (by omega) hK5 rfl) (obj_set HN.out.res 0 (.bool true))) 0 (.bool true) rfl
    refine ⟨by simp, .inl ⟨_, _, rfl, run_takeDeferred hK5, ?_⟩⟩
    refine ⟨.bool true, by simp [results, Try.results8, go_sem, hc5], rfl, ?_⟩
    have hall : Fr (fun b => n0 ≤ b) w _ := (HN.out.fr.trans (hfs.mono (fun b _ e => by omega))).putObj (l := D) (fun _ => by omega) (.deferred none)
    exact hall.toBelow (fun b hb => by have := HS.out; omega) (Nat.le_refl _)
set_option maxRecDepth 100000 in
theorem lifted (os : Os) (started : os.Started) (H : Type) (enc : TypeId × Value → H) :
    ReturnsInHanded {} Try.checked os 8 .any (Rows.stockNobodySpec.pre6 enc Try.prog Try.f8 Rows.stockNobodyRow.domain false) (Rows.stockNobodySpec.post enc Try.prog Try.f8 false true false false) := by
  refine returnsInHanded_of_change (C := Try.checked) own started (by kernel_rfl) Try.func8
    (ChangeSpec.witness6 (enc := enc) (C := Try.checked) false ⟨#[], #[.agg #[.int .i64 0, .slice none 0 0, .string ⟨#[]⟩, .int .i64 0]], []⟩ 8 (by kernel_rfl) (by kernel_rfl) (by kernel_rfl) (by kernel_rfl)) ?_
  intro W base args ds gs before hval0 hW hcnd _
  have hval : ∀ (j : Nat) t v, Try.f8.params[j]? = some t → args[j]? = some v → Value.okWide Try.prog W .any base t v := hval0
  have hW' := hW
  obtain ⟨p, q, hA0, hV, rfl, hfz, hnd⟩ := hW
  have hA : DataW.TrodAll enc Try.prog W 0 (fun _ => true) true Try.f8.params.toList args.toList ds p := hA0
  rw [Try.params8] at hA hval
  obtain ⟨v0, vs0, d0, ds0, p0, q0, hargs, rfl, rfl, h0, r0⟩ := trodAll_cons hA
  obtain ⟨rfl, rfl, rfl⟩ := trodAll_nil r0
  obtain rfl : args = #[v0] := by cases args; simp_all
  obtain ⟨rfl, rfl⟩ := trodVars_none hV
  obtain ⟨r0, rfl, hr0⟩ := open_sop1 (hval 0 28 v0 rfl rfl) h0
  obtain ⟨kd, lv, its, gd, nn⟩ := r0
  obtain ⟨la, lc, hlv⟩ := hr0.l.sl
  dsimp only at hlv
  subst hlv
  clear hA0 hval0
  simp only [List.append_nil] at hW'
  refine (walk kd nn la _ lc gd W).mono fun e W' ⟨he, hg⟩ => ?_
  subst he
  exact ⟨_, rfl, law_post laidOut (by kernel_rfl) rfl Try.underlying4 hW' rfl rfl hg⟩
theorem over : Rows.stockNobodyRow.holds Try.pinned (OpenSpec.ofChange Rows.stockNobodySpec) :=
  OpenClaim.holds_of_wide 8 Try.f8 rfl rfl rfl rfl rfl rfl rfl ⟨rfl, rfl, rfl, rfl, rfl⟩ rfl rfl rfl rfl rfl (by kernel_rfl) Try.func8 (by kernel_rfl)
    (of_decide_eq_true (by kernel_rfl)) (by unfold Func.isWrapper; first | (rw [if_pos (by decide +kernel)]; kernel_rfl) | (rw [if_neg (by decide +kernel)]; exact ⟨rfl, rfl⟩))
    (fun os started H enc _ => lifted os started H enc)
theorem proved : Rows.StockNobodySaid :=
  over
#print axioms proved
end Go.Proofs.Ytclgmnobockfnaa.stockNobody
