/- hold: for every input HoldNobody returns true and leaves its input as it was. -/
import Derived.Test.YtogphlnakdnchaaGreatRows
import Derived.Test.YtogphlnakdnchaaGreatHoldNobodyM1
import Derived.Test.YtogphlnakdnchaaGreatHoldNobodyM8
import Derived.Test.YtogphlnakdnchaaGreatHoldNobodyM7
namespace Go.Proofs.YtogphlnakdnchaaGreat.holdNobody
open Go.ChangeShapes Go.WideShapes Go.ChangeAt Go.RowKit Go.Maps
attribute [local go_sem] Oper.semAt_some
/-- What the statement keeps: the call, its answer's box. -/
structure NbI (w : World) (n0 : Nat) (cs : Array Value) (W : World) : Prop where
  op : W.heap[n0]? = some (.cells cs 29)
  res : W.heap[n0 + 1]? = some (.cells #[.bool false] 4)
  fr : Fr (fun b => n0 ≤ b) w W
theorem NbI.keep {w W W' : World} {n0 : Nat} {cs : Array Value} (h : NbI w n0 cs W) (hf : Fr (fun _ => False) W W') : NbI w n0 cs W' := ⟨hf.at_ h.op (fun e => e), hf.at_ h.res (fun e => e), h.fr.trans' hf (fun _ _ e => e.elim)⟩
theorem NbI.cells {w W : World} {n0 : Nat} {kd o d n : Int} {l g : Value} (h : NbI w n0 #[.int .i64 kd, .int .i64 o, l, .int .i64 d, g, .int .i64 n] W) : (W.cell? ⟨n0, 1, none⟩ = some (.int .i64 o) ∧ W.cell? ⟨n0, 2, none⟩ = some l ∧ W.cell? ⟨n0, 3, none⟩ = some (.int .i64 d) ∧ W.cell? ⟨n0, 4, none⟩ = some g ∧ W.cell? ⟨n0, 5, none⟩ = some (.int .i64 n)) ∧ W.cell? ⟨n0 + 1, 0, none⟩ = some (.bool false) :=
  ⟨⟨cell_obj h.op 1 _ rfl, cell_obj h.op 2 _ rfl, cell_obj h.op 3 _ rfl, cell_obj h.op 4 _ rfl, cell_obj h.op 5 _ rfl⟩, cell_obj h.res 0 _ rfl⟩
theorem hOrders1_no (S : Nat → Prop) (w : World) (Bt : Nat) (hBt : Boxed w Bt 23 (.pointer none)) :
    ItY 54 #[.pointer (some ⟨Bt, 0, none⟩)] RepH ([] : List (Int × HE)) S w := by
  intro lp S' J Jx W hW hS' hJ hY hJx h0
  have hcB := (boxed_below hBt hW hBt.lt).cell
  have hfn : ∀ f, Fence.wide.fn f := fun _ => trivial
  have hdp : Fence.wide.depth.isSome = false := rfl
  refine (callsIn_wide (n := 0)).1 ?_
  refine callsIn_of_wp Tryz.func54 rfl trivial ?_ rfl
  simp only [Tryz.ntmps54, List.size_toArray, List.length_cons, List.length_nil, Nat.reduceAdd, Nat.reduceSub, Array.replicate_succ, Array.replicate_zero, List.push_toArray, List.append_toArray, List.nil_append, List.cons_append]
  gi_wp2_with (gi_at_call 39; refine (callsIn_wide.2 (hmade_no _)).mono ?_; rintro e w1 ⟨rfl, rfl⟩)
  refine bodyPost_ret (results_none rfl _ _ _) rfl ?_
  exact ⟨⟨_, rfl⟩, .inl ⟨_, h0⟩⟩
set_option maxRecDepth 100000 in
theorem hSame0 (w : World) : Calls Tryz.prog 21 #[.agg #[.int .i64 0, .slice none 0 0, .slice none 0 0, .slice none 0 0], .agg #[.int .i64 0, .slice none 0 0, .slice none 0 0, .slice none 0 0]] w fun e w' => e = .returned (.bool true) ∧ Fr (fun _ => False) w w' := by
  have hcs : ∀ W, Fr (fun _ => False) ((w.alloc (.cells #[.int .i64 0, .slice none 0 0, .slice none 0 0, .slice none 0 0] 37)).alloc (.cells #[.int .i64 0, .slice none 0 0, .slice none 0 0, .slice none 0 0] 37)) W →
      (W.cell? ⟨w.heap.size, 1, none⟩ = some (.slice none 0 0) ∧ W.cell? ⟨w.heap.size, 2, none⟩ = some (.slice none 0 0) ∧ W.cell? ⟨w.heap.size, 3, none⟩ = some (.slice none 0 0)) ∧ W.cell? ⟨w.heap.size + 1, 1, none⟩ = some (.slice none 0 0) ∧ W.cell? ⟨w.heap.size + 1, 2, none⟩ = some (.slice none 0 0) ∧ W.cell? ⟨w.heap.size + 1, 3, none⟩ = some (.slice none 0 0) := fun W hf => by
    have h1 := hf.at_ (heap_keep (heap_at rfl _) _) (fun e => e)
    have h2 : W.heap[w.heap.size + 1]? = some (.cells #[.int .i64 0, .slice none 0 0, .slice none 0 0, .slice none 0 0] 37) := hf.at_ (heap_at (by simp) _) (fun e => e)
    exact ⟨⟨cell_obj h1 1 _ rfl, cell_obj h1 2 _ rfl, cell_obj h1 3 _ rfl⟩, cell_obj h2 1 _ rfl, cell_obj h2 2 _ rfl, cell_obj h2 3 _ rfl⟩
  have HCS := Lib.hid hcs
  clear hcs
  go_enter Tryz.func21, Tryz.ntmps21
  have HF : Hid (Fr (fun _ => False) ((w.alloc (.cells #[.int .i64 0, .slice none 0 0, .slice none 0 0, .slice none 0 0] 37)).alloc (.cells #[.int .i64 0, .slice none 0 0, .slice none 0 0, .slice none 0 0] 37)) ((w.alloc (.cells #[.int .i64 0, .slice none 0 0, .slice none 0 0, .slice none 0 0] 37)).alloc (.cells #[.int .i64 0, .slice none 0 0, .slice none 0 0, .slice none 0 0] 37))) := Lib.hid (Fr.refl _ _)
  go_wp2_with (go_at_call 18; refine (r6Same _ _ _ [] [] (il_nil _) (il_nil _)).mono ?_; rw [decide_eq_true rfl]; rintro e w2 ⟨rfl, n2, hw2⟩; have HF := Lib.hid (HF.out.trans (show Fr (fun _ => False) _ w2 by rw [hw2]; exact (Fr.refl _ _).drewN n2)); obtain ⟨⟨x1, x2, x3⟩, y1, y2, y3⟩ := HCS.out _ HF.out; clear hw2)
  go_ret
  exact ⟨rfl, (((Fr.refl _ w).alloc _).alloc _).trans HF.out⟩
set_option maxRecDepth 100000 in
set_option maxHeartbeats 8000000 in
theorem walk (kd o d n : Int) (a : Option Addr) (ln c : Nat) (gd : Str) (w : World) : Calls Tryz.prog 5 #[.agg #[.int .i64 kd, .int .i64 o, .slice a ln c, .int .i64 d, vS gd, .int .i64 n]] w fun e w' => e = .returned (.bool true) ∧ Below w.heap.size w w' := by
  have hnil := fun (w : World) (f : Fn) (x y : Array Value) => run_eql_func_nil (P := Tryz.prog) w 53 _ _ _ f x y Tryz.underlying53
  refine (callsIn_wide (n := 0)).1 ?_
  refine callsIn_of_wp_marks Tryz.func5 rfl trivial ?_ rfl
  simp only [Tryz.ntmps5, List.size_toArray, List.length_cons, List.length_nil, Nat.reduceAdd, Nat.reduceSub, Array.replicate_succ, Array.replicate_zero, List.push_toArray, List.append_toArray, List.nil_append, List.cons_append]
  have hfn : ∀ f, Fence.wide.fn f := fun _ => trivial
  have hdp : Fence.wide.depth.isSome = false := rfl
  obtain ⟨n0, hn0⟩ : ∃ n0, w.heap.size = n0 := ⟨_, rfl⟩
  have HS := Lib.hid hn0
  gi_wp2_with (first
    | (gi_at_call 19; refine (callsIn_wide.2 (hOrders _ _)).mono ?_; rintro e w1 ⟨rfl, rfl⟩)
    | (gi_at_call 7; refine (callsIn_wide.2 (hLives _)).mono ?_; rintro e w2 ⟨rfl, hf2⟩; have HF2 := Lib.hid hf2; clear hf2))
  have hI2 : NbI w n0 #[.int .i64 kd, .int .i64 o, .slice a ln c, .int .i64 d, vS gd, .int .i64 n] w2 := by
    refine NbI.keep ⟨heap_keep (heap_keep (heap_at hn0.symm _) _) _, heap_keep (heap_at (by simp; omega) _) _, (((Fr.refl _ w).alloc _).alloc _).alloc _⟩ HF2.out
  have cT : Boxed w2 (n0 + 1 + 1) 23 (.pointer none) := HF2.out.at_ (heap_at (by simp; omega) _) (fun e => e)
  have HI2 := Lib.hid hI2; have hTT := Lib.hid cT
  clear hI2 HF2
  refine rangeY (w0 := w2) (X := ([] : List (Int × HE))) (Rep := RepH) (S := fun b => False) rfl (enters_of Tryz.func54 (by kernel_rfl) rfl)
    (hOrders1_no _ w2 _ cT) (Below.refl _ _) (fun b hb => hb.elim) (fun W0 W vs x hr => by obtain ⟨y, rfl, -⟩ := hr; rfl)
    ZI ZX (fun k C W W' hs hf => hs) (fun c k C W W' hs hf => hs) trivial ?round ?done ?stop
  case round => intro lp k x C W0 W vs hx; simp at hx
  case stop => intro D c k C W hD hk hX; exact hX.elim
  case done =>
    rintro D C W hD _ hr hK
    have HN := Lib.hid (HI2.out.keep hr)
    have HF : Hid (Fr (fun _ => False) W W) := Lib.hid (Fr.refl _ _)
    have HK := Lib.hid hK; have HD := Lib.hid hD
    obtain ⟨⟨c1, c2, c3, c4, c5⟩, c6⟩ := HN.out.cells
    have f6 := obj_frozen HN.out.res 0
    clear hr hK hD
    gi_wp2_with (first
      | (gi_at_call 8; refine (callsIn_wide.2 (hTake_no _ _ _)).mono ?_; rintro e w3 ⟨rfl, hf3⟩; have HN := Lib.hid (HN.out.keep hf3); have HF := Lib.hid (HF.out.trans hf3); obtain ⟨⟨c1, c2, c3, c4, c5⟩, c6⟩ := HN.out.cells; have f6 := obj_frozen HN.out.res 0; clear hf3)
      | (gi_at_call 10; refine (callsIn_wide.2 (hFree_no _ _)).mono ?_; rintro e w3 ⟨rfl, hf3⟩; have HN := Lib.hid (HN.out.keep hf3); have HF := Lib.hid (HF.out.trans hf3); obtain ⟨⟨c1, c2, c3, c4, c5⟩, c6⟩ := HN.out.cells; have f6 := obj_frozen HN.out.res 0; clear hf3)
      | (gi_at_call 11; refine (callsIn_wide.2 (hPick_no _ _)).mono ?_; rintro e w3 ⟨rfl, hf3⟩; have HN := Lib.hid (HN.out.keep hf3); have HF := Lib.hid (HF.out.trans hf3); obtain ⟨⟨c1, c2, c3, c4, c5⟩, c6⟩ := HN.out.cells; have f6 := obj_frozen HN.out.res 0; clear hf3)
      | (gi_at_call 12; refine (callsIn_wide.2 (hUnpick_no _ _)).mono ?_; rintro e w3 ⟨rfl, hf3⟩; have HN := Lib.hid (HN.out.keep hf3); have HF := Lib.hid (HF.out.trans hf3); obtain ⟨⟨c1, c2, c3, c4, c5⟩, c6⟩ := HN.out.cells; have f6 := obj_frozen HN.out.res 0; clear hf3)
      | (gi_at_call 13; refine (callsIn_wide.2 (hShip_no _ _)).mono ?_; rintro e w3 ⟨rfl, hf3⟩; have HN := Lib.hid (HN.out.keep hf3); have HF := Lib.hid (HF.out.trans hf3); obtain ⟨⟨c1, c2, c3, c4, c5⟩, c6⟩ := HN.out.cells; have f6 := obj_frozen HN.out.res 0; clear hf3)
      | (gi_at_call 20; refine (callsIn_wide.2 (hCount_no _ _ _)).mono ?_; rintro e w3 ⟨rfl, hf3⟩; have HN := Lib.hid (HN.out.keep hf3); have HF := Lib.hid (HF.out.trans hf3); obtain ⟨⟨c1, c2, c3, c4, c5⟩, c6⟩ := HN.out.cells; have f6 := obj_frozen HN.out.res 0; clear hf3)
      | (gi_at_call 14; refine (callsIn_wide.2 (hDo_no _ _ _)).mono ?_; rintro e w3 ⟨rfl, hf3⟩; have HN := Lib.hid (HN.out.keep hf3); have HF := Lib.hid (HF.out.trans hf3); obtain ⟨⟨c1, c2, c3, c4, c5⟩, c6⟩ := HN.out.cells; have f6 := obj_frozen HN.out.res 0; clear hf3)
      | (gi_at_call 15; refine (callsIn_wide.2 (hHold_no _ _)).mono ?_; rintro e w3 ⟨rfl, hf3⟩; have HN := Lib.hid (HN.out.keep hf3); have HF := Lib.hid (HF.out.trans hf3); obtain ⟨⟨c1, c2, c3, c4, c5⟩, c6⟩ := HN.out.cells; have f6 := obj_frozen HN.out.res 0; clear hf3)
      | (gi_at_call 21; refine (callsIn_wide.2 (hSame0 _)).mono ?_; rintro e w3 ⟨rfl, hf3⟩; have HN := Lib.hid (HN.out.keep hf3); have HF := Lib.hid (HF.out.trans hf3); obtain ⟨⟨c1, c2, c3, c4, c5⟩, c6⟩ := HN.out.cells; have f6 := obj_frozen HN.out.res 0; clear hf3)
      | (gi_at_call 22; refine (callsIn_wide.2 (hStock_no _)).mono ?_; rintro e w3 ⟨rfl, hf3⟩; have HN := Lib.hid (HN.out.keep hf3); have HF := Lib.hid (HF.out.trans hf3); obtain ⟨⟨c1, c2, c3, c4, c5⟩, c6⟩ := HN.out.cells; have f6 := obj_frozen HN.out.res 0; clear hf3)
      | (gi_at_call 23; refine (callsIn_wide.2 (hSound_no _)).mono ?_; rintro e w3 ⟨rfl, hf3⟩; have HN := Lib.hid (HN.out.keep hf3); have HF := Lib.hid (HF.out.trans hf3); obtain ⟨⟨c1, c2, c3, c4, c5⟩, c6⟩ := HN.out.cells; have f6 := obj_frozen HN.out.res 0; clear hf3)
      | (gi_at_call 17; refine (callsIn_wide.2 (hPack_no _)).mono ?_; rintro e w3 ⟨rfl, hf3⟩; have HN := Lib.hid (HN.out.keep hf3); have HF := Lib.hid (HF.out.trans hf3); obtain ⟨⟨c1, c2, c3, c4, c5⟩, c6⟩ := HN.out.cells; have f6 := obj_frozen HN.out.res 0; clear hf3))
    have hK3 := HF.out.at_ HK.out (fun e => e)
    have hDn : n0 + 2 < D := by
      have := (Array.getElem?_eq_some_iff.1 hTT.out).1
      have := HD.out
      omega
    have hfs : Fr (fun b => b = n0 + 1) w3 (w3.setCell ⟨n0 + 1, 0, none⟩ (.bool true)) := (Fr.refl (fun b => b = n0 + 1) w3).setCell (p := ⟨n0 + 1, 0, none⟩) (fun _ => rfl) _
    have hK5 := hfs.at_ hK3 (fun e => by omega)
    have hc5 := cell_obj (Fa.cells (frPut (B := n0) (.deferred none) (by omega) hK5 rfl) (obj_set HN.out.res 0 (.bool true))) 0 (.bool true) rfl
    refine ⟨by simp, .inl ⟨_, _, rfl, run_takeDeferred hK5, ?_⟩⟩
    refine ⟨.bool true, by simp [results, Tryz.results5, go_sem, hc5], rfl, ?_⟩
    have hall : Fr (fun b => n0 ≤ b) w _ := (HN.out.fr.trans (hfs.mono (fun b _ e => by omega))).putObj (l := D) (fun _ => by omega) (.deferred none)
    exact hall.toBelow (fun b hb => by have := HS.out; omega) (Nat.le_refl _)
set_option maxRecDepth 100000 in
theorem lifted (os : Os) (started : os.Started) (H : Type) (enc : TypeId × Value → H) :
    ReturnsInHanded {} Tryz.checked os 5 .any (Rows.holdNobodySpec.pre6 enc Tryz.prog Tryz.f5 Rows.holdNobodyRow.domain false) (Rows.holdNobodySpec.post enc Tryz.prog Tryz.f5 false true false false) := by
  refine returnsInHanded_of_change (C := Tryz.checked) own started (by kernel_rfl) Tryz.func5
    (ChangeSpec.witness6 (enc := enc) (C := Tryz.checked) false ⟨#[], #[.agg #[.int .i64 0, .int .i64 0, .slice none 0 0, .int .i64 0, .string ⟨#[]⟩, .int .i64 0]], []⟩ 8 (by kernel_rfl) (by kernel_rfl) (by kernel_rfl) (by kernel_rfl)) ?_
  intro W base args ds gs before hval0 hW hcnd _
  have hval : ∀ (j : Nat) t v, Tryz.f5.params[j]? = some t → args[j]? = some v → Value.okWide Tryz.prog W .any base t v := hval0
  have hW' := hW
  obtain ⟨p, q, hA0, hV, rfl, hfz, hnd⟩ := hW
  have hA : DataW.TrodAll enc Tryz.prog W 0 (fun _ => true) true Tryz.f5.params.toList args.toList ds p := hA0
  rw [Tryz.params5] at hA hval
  obtain ⟨v0, vs0, d0, ds0, p0, q0, hargs, rfl, rfl, h0, r0⟩ := trodAll_cons hA
  obtain ⟨rfl, rfl, rfl⟩ := trodAll_nil r0
  obtain rfl : args = #[v0] := by cases args; simp_all
  obtain ⟨rfl, rfl⟩ := trodVars_none hV
  obtain ⟨r0, rfl, hr0⟩ := open_hop1 (hval 0 29 v0 rfl rfl) h0
  obtain ⟨kd, o, lv, its, d, gd, nn⟩ := r0
  obtain ⟨la, lc, hlv⟩ := hr0.2.2.1.sl
  dsimp only at hlv
  subst hlv
  clear hA0 hval0
  simp only [List.append_nil] at hW'
  refine (walk kd o d nn la _ lc gd W).mono fun e W' ⟨he, hg⟩ => ?_
  subst he
  exact ⟨_, rfl, law_post laidOut (by kernel_rfl) rfl Tryz.underlying4 hW' rfl rfl hg⟩
theorem over : Rows.holdNobodyRow.holds Tryz.pinned (OpenSpec.ofChange Rows.holdNobodySpec) :=
  OpenClaim.holds_of_wide 5 Tryz.f5 rfl rfl rfl rfl rfl rfl rfl ⟨rfl, rfl, rfl, rfl, rfl⟩ rfl rfl rfl rfl rfl (by kernel_rfl) Tryz.func5 (by kernel_rfl)
    (of_decide_eq_true (by kernel_rfl)) (by unfold Func.isWrapper; first | (rw [if_pos (by decide +kernel)]; kernel_rfl) | (rw [if_neg (by decide +kernel)]; exact ⟨rfl, rfl⟩))
    (fun os started H enc _ => lifted os started H enc)
theorem proved : Rows.HoldNobodySaid :=
  over
#print axioms proved
end Go.Proofs.YtogphlnakdnchaaGreat.holdNobody

