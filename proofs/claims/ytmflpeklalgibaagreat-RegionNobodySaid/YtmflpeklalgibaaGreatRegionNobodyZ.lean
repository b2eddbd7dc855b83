/- region: for every input RegionNobody returns true and leaves its input as it was (written by wip/tools/let22.py). -/
import Derived.Test.YtmflpeklalgibaaGreatRows
import Derived.Test.YtmflpeklalgibaaGreatRegionNobodyM7
import Derived.Test.YtmflpeklalgibaaGreatRegionNobodyM11
import Derived.Test.YtmflpeklalgibaaGreatRegionNobodyM1
import Derived.Test.YtmflpeklalgibaaGreatRegionNobodyM5
namespace Go.Proofs.YtmflpeklalgibaaGreat.regionNobody
open Go.ChangeShapes Go.WideShapes Go.ChangeAt Go.RowKit Go.Maps
attribute [local go_sem] Oper.semAt_some
/-- What the statement keeps: the letter, its answer's box. -/
structure NbI (w : World) (n0 : Nat) (cs : Array Value) (W : World) : Prop where
  op : W.heap[n0]? = some (.cells cs 38)
  res : W.heap[n0 + 1]? = some (.cells #[.bool false] 4)
  fr : Fr (fun b => n0 ≤ b) w W
theorem NbI.keep {w W W' : World} {n0 : Nat} {cs : Array Value} (h : NbI w n0 cs W) (hf : Fr (fun _ => False) W W') : NbI w n0 cs W' := ⟨hf.at_ h.op (fun e => e), hf.at_ h.res (fun e => e), h.fr.trans' hf (fun _ _ e => e.elim)⟩
/-- The iterator of no region. -/
theorem gOrders1_no (S : Nat → Prop) (w : World) (Bt : Nat) (hBt : Boxed w Bt 24 (.pointer none)) :
    ItY 35 #[.pointer (some ⟨Bt, 0, none⟩)] RepH ([] : List (Int × HE)) S w := by
  intro lp S' J Jx W hW hS' hJ hY hJx h0
  have hcB := (boxed_below hBt hW hBt.lt).cell
  have hfn : ∀ f, Fence.wide.fn f := fun _ => trivial
  have hdp : Fence.wide.depth.isSome = false := rfl
  refine (callsIn_wide (n := 0)).1 ?_
  refine callsIn_of_wp_marks Tryz.func35 rfl trivial ?_ rfl
  simp only [Tryz.ntmps35, List.size_toArray, List.length_cons, List.length_nil, Nat.reduceAdd, Nat.reduceSub, Array.replicate_succ, Array.replicate_zero, List.push_toArray, List.append_toArray, List.nil_append, List.cons_append]
  have hb9 := boxed_below hBt hW hBt.lt
  have hbl := hb9.lt
  gi_wp2_with fail
  exact ⟨.tuple #[], results_none rfl _ _ _, ⟨_, rfl⟩, .inl ⟨_, hJ 0 _ _ _ h0 ((Fr.refl _ W).alloc _)⟩⟩
set_option maxRecDepth 100000 in
set_option maxHeartbeats 8000000 in
theorem walk (od0 fr kd od : Int) (pl : Option Addr) (N cl : Nat) (its : Its) (c nn k o rr t mm : Int) (g : Str) (pa : Option Addr) (M ca : Nat) (ai : Its) (yc yn ycd ym : Int) (w : World) (hN : its.length = N) (hM : ai.length = M)
    (hm : MOk w ⟨kd, od, .slice pl N cl, its, ⟨c, nn, k, o, rr, t, mm, g, .slice pa M ca, ai⟩, ⟨yc, yn, ycd, ym⟩⟩) : Calls Tryz.prog 4 #[.agg #[.int .i64 fr, .int .i64 kd, .int .i64 od, .slice pl N cl, .int .i64 c, .int .i64 nn, .int .i64 k, .int .i64 o, .int .i64 rr, .int .i64 t, .int .i64 mm, vS g, .slice pa M ca, .int .i64 yc, .int .i64 yn, .int .i64 ycd, .int .i64 ym], .int .i64 od0] w fun e w' => e = .returned (.bool true) ∧ Below w.heap.size w w' := by
  have hnil := fun (w : World) (f : Fn) (x y : Array Value) => run_eql_func_nil (P := Tryz.prog) w 51 _ _ _ f x y Tryz.underlying51
  obtain ⟨n0, hn0⟩ : ∃ n0, w.heap.size = n0 := ⟨_, rfl⟩
  have HS := Lib.hid hn0
  have HMA : Hid (∀ W, Fr (fun b => n0 ≤ b) w W → Calls Tryz.prog 9 #[.pointer none, .agg #[.int .i64 kd, .int .i64 od, .slice pl N cl, .int .i64 c, .int .i64 nn, .int .i64 k, .int .i64 o, .int .i64 rr, .int .i64 t, .int .i64 mm, vS g, .slice pa M ca, .int .i64 yc, .int .i64 yn, .int .i64 ycd, .int .i64 ym], .int .i64 fr] W fun e w' => e = .returned (.slice none 0 0) ∧ Fr (fun _ => False) W w') := Lib.hid (fun W hf => gMail_nil W ⟨kd, od, .slice pl N cl, its, ⟨c, nn, k, o, rr, t, mm, g, .slice pa M ca, ai⟩, ⟨yc, yn, ycd, ym⟩⟩ fr (hm.keep hf (fun b hb e => by have := hm.lt hb; omega)))
  clear hm hN hM
  refine (callsIn_wide (n := 0)).1 ?_
  refine callsIn_of_wp_marks Tryz.func4 rfl trivial ?_ rfl
  simp only [Tryz.ntmps4, List.size_toArray, List.length_cons, List.length_nil, Nat.reduceAdd, Nat.reduceSub, Array.replicate_succ, Array.replicate_zero, List.push_toArray, List.append_toArray, List.nil_append, List.cons_append]
  have hfn : ∀ f, Fence.wide.fn f := fun _ => trivial
  have hdp : Fence.wide.depth.isSome = false := rfl
  gi_wp2_with (first
    | (gi_at_call 13; refine (callsIn_wide.2 (gOrders _ _)).mono ?_; rintro e w1 ⟨rfl, rfl⟩)
    | (gi_at_call 6; refine (callsIn_wide.2 (gLives _)).mono ?_; rintro e w2 ⟨rfl, hf2⟩; have HF2 := Lib.hid hf2; clear hf2))
  have hI2 : NbI w n0 #[.int .i64 fr, .int .i64 kd, .int .i64 od, .slice pl N cl, .int .i64 c, .int .i64 nn, .int .i64 k, .int .i64 o, .int .i64 rr, .int .i64 t, .int .i64 mm, vS g, .slice pa M ca, .int .i64 yc, .int .i64 yn, .int .i64 ycd, .int .i64 ym] w2 := by
    refine NbI.keep ⟨heap_keep (heap_keep (heap_at hn0.symm _) _) _, heap_keep (heap_at (by simp; omega) _) _, (((Fr.refl _ w).alloc _).alloc _).alloc _⟩ HF2.out
  have cT : Boxed w2 (n0 + 1 + 1) 24 (.pointer none) := HF2.out.at_ (heap_at (by simp; omega) _) (fun e => e)
  have HI2 := Lib.hid hI2; have hTT := Lib.hid cT
  clear hI2 HF2
  refine rangeY (w0 := w2) (X := ([] : List (Int × HE))) (Rep := RepH) (S := fun b => False) rfl (enters_of Tryz.func35 (by kernel_rfl) rfl)
    (gOrders1_no _ w2 _ cT) (Below.refl _ _) (fun b hb => hb.elim) (fun W0 W vs x hr => by obtain ⟨y, rfl, -⟩ := hr; rfl)
    ZI ZX (fun k C W W' hs hf => hs) (fun c k C W W' hs hf => hs) trivial ?round ?done ?stop
  case round => intro lp k x C W0 W vs hx; simp at hx
  case stop => intro D c k C W hD hk hX; exact hX.elim
  case done =>
    rintro D C W hD _ hr hK
    have HN := Lib.hid (HI2.out.keep hr)
    have HF : Hid (Fr (fun _ => False) W W) := Lib.hid (Fr.refl _ _)
    have HK := Lib.hid hK; have HD := Lib.hid hD
    have x0 := cell_obj HN.out.op 0 (.int .i64 fr) rfl
    have x1 := cell_obj HN.out.op 1 (.int .i64 kd) rfl
    have x2 := cell_obj HN.out.op 2 (.int .i64 od) rfl
    have x3 := cell_obj HN.out.op 3 (.slice pl N cl) rfl
    have x4 := cell_obj HN.out.op 4 (.int .i64 c) rfl
    have x5 := cell_obj HN.out.op 5 (.int .i64 nn) rfl
    have x6 := cell_obj HN.out.op 6 (.int .i64 k) rfl
    have x7 := cell_obj HN.out.op 7 (.int .i64 o) rfl
    have x8 := cell_obj HN.out.op 8 (.int .i64 rr) rfl
    have x9 := cell_obj HN.out.op 9 (.int .i64 t) rfl
    have x10 := cell_obj HN.out.op 10 (.int .i64 mm) rfl
    have x11 := cell_obj HN.out.op 11 (vS g) rfl
    have x12 := cell_obj HN.out.op 12 (.slice pa M ca) rfl
    have x13 := cell_obj HN.out.op 13 (.int .i64 yc) rfl
    have x14 := cell_obj HN.out.op 14 (.int .i64 yn) rfl
    have x15 := cell_obj HN.out.op 15 (.int .i64 ycd) rfl
    have x16 := cell_obj HN.out.op 16 (.int .i64 ym) rfl
    have c6 := cell_obj HN.out.res 0 _ rfl
    have f6 := obj_frozen HN.out.res 0
    clear hr hK hD
    have HXS : Hid (∀ W', Fr (fun _ => False) W W' → W'.cell? ⟨n0, 0, none⟩ = some (.int .i64 fr) ∧ W'.cell? ⟨n0, 1, none⟩ = some (.int .i64 kd) ∧ W'.cell? ⟨n0, 2, none⟩ = some (.int .i64 od) ∧ W'.cell? ⟨n0, 3, none⟩ = some (.slice pl N cl) ∧ W'.cell? ⟨n0, 4, none⟩ = some (.int .i64 c) ∧ W'.cell? ⟨n0, 5, none⟩ = some (.int .i64 nn) ∧ W'.cell? ⟨n0, 6, none⟩ = some (.int .i64 k) ∧ W'.cell? ⟨n0, 7, none⟩ = some (.int .i64 o) ∧ W'.cell? ⟨n0, 8, none⟩ = some (.int .i64 rr) ∧ W'.cell? ⟨n0, 9, none⟩ = some (.int .i64 t) ∧ W'.cell? ⟨n0, 10, none⟩ = some (.int .i64 mm) ∧ W'.cell? ⟨n0, 11, none⟩ = some (vS g) ∧ W'.cell? ⟨n0, 12, none⟩ = some (.slice pa M ca) ∧ W'.cell? ⟨n0, 13, none⟩ = some (.int .i64 yc) ∧ W'.cell? ⟨n0, 14, none⟩ = some (.int .i64 yn) ∧ W'.cell? ⟨n0, 15, none⟩ = some (.int .i64 ycd) ∧ W'.cell? ⟨n0, 16, none⟩ = some (.int .i64 ym) ∧ W'.cell? ⟨n0 + 1, 0, none⟩ = some (.bool false) ∧ W'.frozen? ⟨n0 + 1, 0, none⟩ = false) := Lib.hid (fun W' hf => by
      have h := HN.out.keep hf
      exact ⟨cell_obj h.op 0 (.int .i64 fr) rfl, cell_obj h.op 1 (.int .i64 kd) rfl, cell_obj h.op 2 (.int .i64 od) rfl, cell_obj h.op 3 (.slice pl N cl) rfl, cell_obj h.op 4 (.int .i64 c) rfl, cell_obj h.op 5 (.int .i64 nn) rfl, cell_obj h.op 6 (.int .i64 k) rfl, cell_obj h.op 7 (.int .i64 o) rfl, cell_obj h.op 8 (.int .i64 rr) rfl, cell_obj h.op 9 (.int .i64 t) rfl, cell_obj h.op 10 (.int .i64 mm) rfl, cell_obj h.op 11 (vS g) rfl, cell_obj h.op 12 (.slice pa M ca) rfl, cell_obj h.op 13 (.int .i64 yc) rfl, cell_obj h.op 14 (.int .i64 yn) rfl, cell_obj h.op 15 (.int .i64 ycd) rfl, cell_obj h.op 16 (.int .i64 ym) rfl, cell_obj h.res 0 _ rfl, obj_frozen h.res 0⟩)
    clear x0 x1 x2 x3 x4 x5 x6 x7 x8 x9 x10 x11 x12 x13 x14 x15 x16 c6 f6
    gi_wp2_with (first
      | (gi_at_call 14; refine (callsIn_wide.2 (gHold_no _ _)).mono ?_; rintro e w3 ⟨rfl, hf3⟩; have HF3 := Lib.hid hf3; obtain ⟨x0, x1, x2, x3, x4, x5, x6, x7, x8, x9, x10, x11, x12, x13, x14, x15, x16, c6, f6⟩ := HXS.out _ (hf3.alloc (.cells #[.int .i64 0, .slice none 0 0, .slice none 0 0, .slice none 0 0] 54)); clear hf3)
      | (gi_at_call 9; refine (callsIn_wide.2 (HMA.out _ (HN.out.fr.trans' (HF3.out.alloc (.cells #[.int .i64 0, .slice none 0 0, .slice none 0 0, .slice none 0 0] 54)) (fun _ _ e => e.elim)))).mono ?_; rintro e w5 ⟨rfl, hf5⟩; have hb5 := hf5.at_ (heap_new w3 (.cells #[.int .i64 0, .slice none 0 0, .slice none 0 0, .slice none 0 0] 54)) (fun e => e); have y1 := cell_obj hb5 1 (.slice none 0 0) rfl; have y2 := cell_obj hb5 2 (.slice none 0 0) rfl; have y3 := cell_obj hb5 3 (.slice none 0 0) rfl; have hf6 : Fr (fun _ => False) W w5 := (HF3.out.alloc (.cells #[.int .i64 0, .slice none 0 0, .slice none 0 0, .slice none 0 0] 54)).trans hf5; clear x0 x1 x2 x3 x4 x5 x6 x7 x8 x9 x10 x11 x12 x13 x14 x15 x16 c6 f6; obtain ⟨x0, x1, x2, x3, x4, x5, x6, x7, x8, x9, x10, x11, x12, x13, x14, x15, x16, c6, f6⟩ := HXS.out _ hf6; have HF6 := Lib.hid hf6; clear hb5 hf5 hf6)
      | (gi_at_call 10; refine (callsIn_wide.2 (gShelf_no _)).mono ?_; rintro e w7 ⟨rfl, rfl⟩)
      | (gi_at_call 15; refine (callsIn_wide.2 (gSound_no _)).mono ?_; rintro e w7 ⟨rfl, rfl⟩)
      | (gi_at_call 11; refine (callsIn_wide.2 (gStuck_no _)).mono ?_; rintro e w7 ⟨rfl, rfl⟩)
      | (gi_at_call 16; refine (callsIn_wide.2 (gPack_no _)).mono ?_; rintro e w7 ⟨rfl, rfl⟩))
    have hK3 := HF6.out.at_ HK.out (fun e => e)
    have hDn : n0 + 2 < D := by
      have := (Array.getElem?_eq_some_iff.1 hTT.out).1
      have := HD.out
      omega
    have HN6 := HN.out.keep HF6.out
    have hfs : Fr (fun b => b = n0 + 1) w5 (w5.setCell ⟨n0 + 1, 0, none⟩ (.bool true)) := (Fr.refl (fun b => b = n0 + 1) w5).setCell (p := ⟨n0 + 1, 0, none⟩) (fun _ => rfl) _
    have hK5 := hfs.at_ hK3 (fun e => by omega)
    have hc5 := cell_obj (Fa.cells (frPut (B := n0) (.deferred none) (by omega) hK5 rfl) (obj_set HN6.res 0 (.bool true))) 0 (.bool true) rfl
    refine ⟨by simp, .inl ⟨_, _, rfl, run_takeDeferred hK5, ?_⟩⟩
    refine ⟨.bool true, by simp [results, Tryz.results4, go_sem, hc5], rfl, ?_⟩
    have hall : Fr (fun b => n0 ≤ b) w _ := (HN6.fr.trans (hfs.mono (fun b _ e => by omega))).putObj (l := D) (fun _ => by omega) (.deferred none)
    exact hall.toBelow (fun b hb => by have := HS.out; omega) (Nat.le_refl _)
set_option maxRecDepth 100000 in
theorem lifted (os : Os) (started : os.Started) (H : Type) (enc : TypeId × Value → H) :
    ReturnsInHanded {} Tryz.checked os 4 .any (Rows.regionNobodySpec.pre6 enc Tryz.prog Tryz.f4 Rows.regionNobodyRow.domain false) (Rows.regionNobodySpec.post enc Tryz.prog Tryz.f4 false true false false) := by
  refine returnsInHanded_of_change (C := Tryz.checked) own started (by kernel_rfl) Tryz.func4
    (ChangeSpec.witness6 (enc := enc) (C := Tryz.checked) false ⟨#[], #[.agg #[.int .i64 0, .int .i64 0, .int .i64 0, .slice none 0 0, .int .i64 0, .int .i64 0, .int .i64 0, .int .i64 0, .int .i64 0, .int .i64 0, .int .i64 0, .string ⟨#[]⟩, .slice none 0 0, .int .i64 0, .int .i64 0, .int .i64 0, .int .i64 0], .int .i64 0], []⟩ 8 (by kernel_rfl) (by kernel_rfl) (by kernel_rfl) (by kernel_rfl)) ?_
  intro W base args ds gs before hval0 hW hcnd _
  have hval : ∀ (j : Nat) t v, Tryz.f4.params[j]? = some t → args[j]? = some v → Value.okWide Tryz.prog W .any base t v := hval0
  have hW' := hW
  obtain ⟨p, q, hA0, hV, rfl, hfz, hnd⟩ := hW
  have hA : DataW.TrodAll enc Tryz.prog W 0 (fun _ => true) true Tryz.f4.params.toList args.toList ds p := hA0
  rw [Tryz.params4] at hA hval
  obtain ⟨v0, vs0, d0, ds0, p0, q0, hargs, rfl, rfl, h0, r0⟩ := trodAll_cons hA
  obtain ⟨v1, vs1, d1, ds1, p1, q1, rfl, rfl, rfl, h1, r1⟩ := trodAll_cons r0
  obtain ⟨rfl, rfl, rfl⟩ := trodAll_nil r1
  obtain rfl : args = #[v0, v1] := by cases args; simp_all
  obtain ⟨rfl, rfl⟩ := trodVars_none hV
  obtain ⟨lt, rfl, hr0⟩ := open_letter1 (hval 0 38 v0 rfl rfl) h0
  obtain ⟨x1, rfl, rfl, rfl, -⟩ := open_int Tryz.underlying3 (hval 1 3 v1 rfl rfl) h1
  obtain ⟨fr, ⟨kd, od, l, its, ⟨c, nn, k, o, rr, t, mm, g, al, ai⟩, ⟨yc, yn, ycd, ym⟩⟩⟩ := lt
  obtain ⟨pl, cl, hsl⟩ : ∃ a c, l = .slice a its.length c := hr0.2.l.sl
  obtain ⟨pa, ca, hsa⟩ : ∃ a c, al = .slice a ai.length c := hr0.2.a.l.sl
  subst hsl
  subst hsa
  clear hA0 hval0
  simp only [List.append_nil] at hW'
  refine (walk x1 fr kd od pl _ cl its c nn k o rr t mm g pa _ ca ai yc yn ycd ym W rfl rfl hr0.2).mono fun e W' ⟨he, hg⟩ => ?_
  subst he
  exact ⟨_, rfl, law_post laidOut (by kernel_rfl) rfl Tryz.underlying4 hW' rfl rfl hg⟩
theorem over : Rows.regionNobodyRow.holds Tryz.pinned (OpenSpec.ofChange Rows.regionNobodySpec) :=
  OpenClaim.holds_of_wide 4 Tryz.f4 rfl rfl rfl rfl rfl rfl rfl ⟨rfl, rfl, rfl, rfl, rfl⟩ rfl rfl rfl rfl rfl (by kernel_rfl) Tryz.func4 (by kernel_rfl)
    (of_decide_eq_true (by kernel_rfl)) (by unfold Func.isWrapper; first | (rw [if_pos (by decide +kernel)]; kernel_rfl) | (rw [if_neg (by decide +kernel)]; exact ⟨rfl, rfl⟩))
    (fun os started H enc _ => lifted os started H enc)
theorem proved : Rows.RegionNobodySaid :=
  over
#print axioms proved
end Go.Proofs.YtmflpeklalgibaaGreat.regionNobody

