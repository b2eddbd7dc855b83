/- bins: for every input BinsNobody returns true and leaves its input as it was. -/
import Derived.Test.YtlniekobijcanaaGreatRows
import Derived.Test.YtlniekobijcanaaGreatBinsNobodyM46
import Derived.Test.YtlniekobijcanaaGreatBinsNobodyM2
import Derived.Test.YtlniekobijcanaaGreatBinsNobodyM47
namespace Go.Proofs.YtlniekobijcanaaGreat.binsNobody
open Go.ChangeShapes Go.WideShapes Go.ChangeAt Go.RowKit Go.Maps
attribute [local go_sem] Oper.semAt_some
theorem bBins1_no (S : Nat → Prop) (w : World) (Bt : Nat) (hBt : Boxed w Bt 25 (.pointer none)) :
    ItX 83 #[.pointer (some ⟨Bt, 0, none⟩)] encB ([] : List BV) S w := by
  intro lp S' J Jx W hW hS' hJ hY hJx h0
  have hcB := (boxed_below hBt hW hBt.lt).cell
  have hfn : ∀ f, Fence.wide.fn f := fun _ => trivial
  have hdp : Fence.wide.depth.isSome = false := rfl
  refine (callsIn_wide (n := 0)).1 ?_
  refine callsIn_of_wp Tryz.func83 rfl trivial ?_ rfl
  simp only [Tryz.ntmps83, List.size_toArray, List.length_cons, List.length_nil, Nat.reduceAdd, Nat.reduceSub, Array.replicate_succ, Array.replicate_zero, List.push_toArray, List.append_toArray, List.nil_append, List.cons_append]
  gi_wp2_with (gi_at_call 57; refine (callsIn_wide.2 (bMade_no _)).mono ?_; rintro e w1 ⟨rfl, rfl⟩)
  refine bodyPost_ret (results_none rfl _ _ _) rfl ?_
  exact ⟨⟨_, rfl⟩, .inl ⟨_, h0⟩⟩
/-- What the statement keeps: the call, its answer's box. -/
structure NbI (w : World) (n0 : Nat) (cs : Array Value) (v : Value) (L : List PV) (W : World) : Prop where
  op : W.heap[n0]? = some (.cells cs 53)
  res : W.heap[n0 + 1]? = some (.cells #[.bool false] 4)
  pl : Pl W v L
  fr : Fr (fun b => n0 ≤ b) w W
theorem NbI.keep {w W W' : World} {n0 : Nat} {cs : Array Value} {v : Value} {L : List PV} (h : NbI w n0 cs v L W) (hf : Fr (fun _ => False) W W') : NbI w n0 cs v L W' := ⟨hf.at_ h.op (fun e => e), hf.at_ h.res (fun e => e), h.pl.fr0 okPvKeeps hf, h.fr.trans' hf (fun _ _ e => e.elim)⟩
theorem NbI.cells {w W : World} {n0 : Nat} {kd n b t : Int} {g : Value} {v : Value} {L : List PV} (h : NbI w n0 #[.int .i64 kd, g, .int .i64 n, .int .i64 b, .int .i64 t] v L W) : (W.cell? ⟨n0, 1, none⟩ = some g ∧ W.cell? ⟨n0, 2, none⟩ = some (.int .i64 n) ∧ W.cell? ⟨n0, 3, none⟩ = some (.int .i64 b) ∧ W.cell? ⟨n0, 4, none⟩ = some (.int .i64 t)) ∧ W.cell? ⟨n0 + 1, 0, none⟩ = some (.bool false) :=
  ⟨⟨cell_obj h.op 1 _ rfl, cell_obj h.op 2 _ rfl, cell_obj h.op 3 _ rfl, cell_obj h.op 4 _ rfl⟩, cell_obj h.res 0 _ rfl⟩
theorem len_zero {n : Nat} (h : n = 0) : Value.int .i64 (n : Int) = .int .i64 0 := by rw [h]; rfl
set_option maxRecDepth 100000 in
set_option maxHeartbeats 16000000 in
theorem walk (r : BOp) (v : Value) (L : List PV) (w : World) (hp : Pl w v L) (hl : L.length ≤ 4398046510976) : Calls Tryz.prog 9 #[.agg (bopC r), v] w fun e w' => e = .returned (.bool true) ∧ Below w.heap.size w w' := by
  obtain ⟨kd, gd, n, b, t⟩ := r
  unfold bopC
  dsimp only
  have hnil := fun (w : World) (f : Fn) (x y : Array Value) => run_eql_func_nil (P := Tryz.prog) w 60 _ _ _ f x y Tryz.underlying60
  obtain ⟨va, vl, vc, rfl⟩ : ∃ a n c, v = .slice a n c := by obtain ⟨a, c, e⟩ := hp.sl; exact ⟨a, _, c, e⟩
  have HP := Lib.hid hp; have HL := Lib.hid hl
  clear hp hl
  refine (callsIn_wide (n := 0)).1 ?_
  refine callsIn_of_wp_marks Tryz.func9 rfl trivial ?_ rfl
  simp only [Tryz.ntmps9, List.size_toArray, List.length_cons, List.length_nil, Nat.reduceAdd, Nat.reduceSub, Array.replicate_succ, Array.replicate_zero, List.push_toArray, List.append_toArray, List.nil_append, List.cons_append]
  have hfn : ∀ f, Fence.wide.fn f := fun _ => trivial
  have hdp : Fence.wide.depth.isSome = false := rfl
  obtain ⟨n0, hn0⟩ : ∃ n0, w.heap.size = n0 := ⟨_, rfl⟩
  have HS := Lib.hid hn0
  gi_wp2_with (first
    | (gi_at_call 30; refine (callsIn_wide.2 (bBins _ _)).mono ?_; rintro e w1 ⟨rfl, rfl⟩)
    | (gi_at_call 10; refine (callsIn_wide.2 (lLives _)).mono ?_; rintro e w2 ⟨rfl, hf2⟩; have HF2 := Lib.hid hf2; clear hf2))
  have hI2 : NbI w n0 #[.int .i64 kd, vS gd, .int .i64 n, .int .i64 b, .int .i64 t] (.slice va vl vc) L w2 := by
    refine NbI.keep ⟨heap_keep (heap_keep (heap_at hn0.symm _) _) _, heap_keep (heap_at (by simp; omega) _) _, HP.out.fr0 okPvKeeps ((((Fr.refl _ w).alloc _).alloc _).alloc _), (((Fr.refl _ w).alloc _).alloc _).alloc _⟩ HF2.out
  have cT : Boxed w2 (n0 + 1 + 1) 25 (.pointer none) := HF2.out.at_ (heap_at (by simp; omega) _) (fun e => e)
  have HI2 := Lib.hid hI2; have hTT := Lib.hid cT
  clear hI2 HF2
  refine rangeX (w0 := w2) (X := ([] : List BV)) (S := fun b => False) rfl (enters_of Tryz.func83 (by kernel_rfl) rfl)
    (bBins1_no _ w2 _ cT) (Below.refl _ _) (fun b hb => hb.elim) (fun _ => rfl)
    ZI ZX (fun k C W W' hs hf => hs) (fun c k C W W' hs hf => hs) trivial ?round ?done ?stop
  case round => intro lp k x C W hx; simp at hx
  case stop => intro D c k C W hD hk hX; exact hX.elim
  case done =>
    rintro D C W hD _ hr hK
    have HN := Lib.hid (HI2.out.keep hr)
    have HF : Hid (Fr (fun _ => False) W W) := Lib.hid (Fr.refl _ _)
    have HK := Lib.hid hK; have HD := Lib.hid hD
    obtain ⟨⟨c1, c2, c3, c4⟩, c5⟩ := HN.out.cells
    have f5 := obj_frozen HN.out.res 0
    clear hr hK hD
    gi_wp2_with (first
      | (gi_at_call 19; refine (callsIn_wide.2 (nPut _ _ _)).mono ?_; rintro e w3 ⟨rfl, hf3⟩; have HN := Lib.hid (HN.out.keep hf3); have HF := Lib.hid (HF.out.trans hf3); obtain ⟨⟨c1, c2, c3, c4⟩, c5⟩ := HN.out.cells; have f5 := obj_frozen HN.out.res 0; clear hf3)
      | (gi_at_call 21; refine (callsIn_wide.2 (nTake _ _ _)).mono ?_; rintro e w3 ⟨rfl, hf3⟩; have HN := Lib.hid (HN.out.keep hf3); have HF := Lib.hid (HF.out.trans hf3); obtain ⟨⟨c1, c2, c3, c4⟩, c5⟩ := HN.out.cells; have f5 := obj_frozen HN.out.res 0; clear hf3)
      | (gi_at_call 31; refine (callsIn_wide.2 (nCount _ _ _ _)).mono ?_; rintro e w3 ⟨rfl, hf3⟩; have HN := Lib.hid (HN.out.keep hf3); have HF := Lib.hid (HF.out.trans hf3); obtain ⟨⟨c1, c2, c3, c4⟩, c5⟩ := HN.out.cells; have f5 := obj_frozen HN.out.res 0; clear hf3)
      | (gi_at_call 32; refine (callsIn_wide.2 (nMove _ _ _ _ _)).mono ?_; rintro e w3 ⟨rfl, hf3⟩; have HN := Lib.hid (HN.out.keep hf3); have HF := Lib.hid (HF.out.trans hf3); obtain ⟨⟨c1, c2, c3, c4⟩, c5⟩ := HN.out.cells; have f5 := obj_frozen HN.out.res 0; clear hf3)
      | (gi_at_call 20; refine (callsIn_wide.2 (nOf _ _)).mono ?_; rintro e w3 ⟨rfl, hf3⟩; have HN := Lib.hid (HN.out.keep hf3); have HF := Lib.hid (HF.out.trans hf3); obtain ⟨⟨c1, c2, c3, c4⟩, c5⟩ := HN.out.cells; have f5 := obj_frozen HN.out.res 0; clear hf3)
      | (gi_at_call 33; refine (callsIn_wide.2 (nIn _ _)).mono ?_; rintro e w3 ⟨rfl, hf3⟩; have HN := Lib.hid (HN.out.keep hf3); have HF := Lib.hid (HF.out.trans hf3); obtain ⟨⟨c1, c2, c3, c4⟩, c5⟩ := HN.out.cells; have f5 := obj_frozen HN.out.res 0; clear hf3)
      | (gi_at_call 34; refine (callsIn_wide.2 (nLeft _ _)).mono ?_; rintro e w3 ⟨rfl, hf3⟩; have HN := Lib.hid (HN.out.keep hf3); have HF := Lib.hid (HF.out.trans hf3); obtain ⟨⟨c1, c2, c3, c4⟩, c5⟩ := HN.out.cells; have f5 := obj_frozen HN.out.res 0; clear hf3)
      | (gi_at_call 25; refine (callsIn_wide.2 (nPack _)).mono ?_; rintro e w3 ⟨rfl, hf3⟩; have HN := Lib.hid (HN.out.keep hf3); have HF := Lib.hid (HF.out.trans hf3); obtain ⟨⟨c1, c2, c3, c4⟩, c5⟩ := HN.out.cells; have f5 := obj_frozen HN.out.res 0; clear hf3)
      | (gi_at_call 13; refine (callsIn_wide.2 (bRouteN _ _ L HN.out.pl HL.out nFind)).mono ?_; rintro e w3 ⟨v3, rfl, hp3, -, hf3⟩; obtain ⟨a3, c3', rfl⟩ := hp3.sl; dsimp only [List.length_nil]; clear hp3; have HN := Lib.hid (HN.out.keep hf3); have HF := Lib.hid (HF.out.trans hf3); obtain ⟨⟨c1, c2, c3, c4⟩, c5⟩ := HN.out.cells; have f5 := obj_frozen HN.out.res 0; clear hf3)
      | (gi_at_call 16; refine (callsIn_wide.2 (bWayN _ _ L HN.out.pl HL.out nFind)).mono ?_; rintro e w3 ⟨rfl, hf3⟩; have HN := Lib.hid (HN.out.keep hf3); have HF := Lib.hid (HF.out.trans hf3); obtain ⟨⟨c1, c2, c3, c4⟩, c5⟩ := HN.out.cells; have f5 := obj_frozen HN.out.res 0; clear hf3))
    have hK3 := HF.out.at_ HK.out (fun e => e)
    have hDn : n0 + 2 < D := by
      have := (Array.getElem?_eq_some_iff.1 hTT.out).1
      have := HD.out
      omega
    have hfs : Fr (fun b => b = n0 + 1) w3 (w3.setCell ⟨n0 + 1, 0, none⟩ (.bool true)) := (Fr.refl (fun b => b = n0 + 1) w3).setCell (p := ⟨n0 + 1, 0, none⟩) (fun _ => rfl) _
    have hK5 := hfs.at_ hK3 (fun e => by omega)
    have hc5 := cell_obj (Fa.cells (frPut (B := n0) (.deferred none) (by omega) hK5 rfl) (obj_set HN.out.res 0 (.bool true))) 0 (.bool true) rfl
    refine ⟨by simp, .inl ⟨_, _, rfl, run_takeDeferred hK5, ?_⟩⟩
    refine ⟨.bool true, by simp [results, Tryz.results9, go_sem, hc5], rfl, ?_⟩
    have hall : Fr (fun b => n0 ≤ b) w _ := (HN.out.fr.trans (hfs.mono (fun b _ e => by omega))).putObj (l := D) (fun _ => by omega) (.deferred none)
    exact hall.toBelow (fun b hb => by have := HS.out; omega) (Nat.le_refl _)
section
variable {H : Type} {enc : TypeId × Value → H} {w : World} {base : Nat} {spare : Nat → Bool} {held : Bool}
set_option maxRecDepth 100000 in
theorem open_placesZ {r : Reach} {b0 : Nat} {v : Value} {d : DataW H} {p : List MemPlace} (hv : Value.okWide Tryz.prog w r b0 23 v) (h : DataW.Trod enc Tryz.prog w base spare held 23 v d p)
    (hz : ∀ m ∈ d.weights Tryz.prog 23, m ≤ 140737488351232) : ∃ L, Pl w v L ∧ L.length ≤ 4398046510976 := by
  obtain ⟨L, hL⟩ := open_places hv h
  refine ⟨L, hL, ?_⟩
  obtain ⟨fuel, h⟩ := h
  obtain ⟨a0, l0, c0, rfl⟩ := okWide_slice Tryz.underlying23 hv
  obtain ⟨len, hmax, hs⟩ := leaf_sliceZ (Z := fun m => m ≤ 140737488351232) (d := 2) (n := fuel) Tryz.underlying23 (by kernel_rfl) (by kernel_rfl) (by simpa only [Value.cells] using h) hz
  obtain ⟨_, a, c, e, _⟩ := hL
  rcases hs with ⟨e2, h0⟩ | ⟨a2, cap, e2, hl, hb2, ⟨m, hm, hzm⟩, -⟩
  · rw [e2] at e
    injection e with _ e3 _
    omega
  · rw [e2] at e
    injection e with _ e3 _
    have eb : Tryz.prog.bytesOf 55 = 32 := by kernel_rfl
    rw [eb] at hzm
    omega
end
set_option maxRecDepth 100000 in
theorem lifted (os : Os) (started : os.Started) (H : Type) (enc : TypeId × Value → H) :
    ReturnsInHanded {} Tryz.checked os 9 .any (Rows.binsNobodySpec.pre6 enc Tryz.prog Tryz.f9 Rows.binsNobodyRow.domain false) (Rows.binsNobodySpec.post enc Tryz.prog Tryz.f9 false true false false) := by
  refine returnsInHanded_of_change_sized (C := Tryz.checked) own started (by kernel_rfl) Tryz.func9
    (ChangeSpec.witness6 (enc := enc) (C := Tryz.checked) false ⟨#[], #[.agg #[.int .i64 0, .string ⟨#[]⟩, .int .i64 0, .int .i64 0, .int .i64 0], .slice none 0 0], []⟩ 8 (by kernel_rfl) (by kernel_rfl) (by kernel_rfl) (by kernel_rfl)) ?_
  intro W base args ds gs before hval0 hW hcnd hsz _
  have hval : ∀ (j : Nat) t v, Tryz.f9.params[j]? = some t → args[j]? = some v → Value.okWide Tryz.prog W .any base t v := hval0
  have hW' := hW
  obtain ⟨p, q, hA0, hV, rfl, hfz, hnd⟩ := hW
  have hA : DataW.TrodAll enc Tryz.prog W 0 (fun _ => true) true Tryz.f9.params.toList args.toList ds p := hA0
  rw [Tryz.params9] at hA hval hsz
  obtain ⟨v0, vs0, d0, ds0, p0, q0, hargs, rfl, rfl, h0, r0⟩ := trodAll_cons hA
  obtain ⟨v1, vs1, d1, ds1, p1, q1, rfl, rfl, rfl, h1, r1⟩ := trodAll_cons r0
  obtain ⟨rfl, rfl, rfl⟩ := trodAll_nil r1
  obtain rfl : args = #[v0, v1] := by cases args; simp_all
  obtain ⟨rfl, rfl⟩ := trodVars_none hV
  obtain ⟨r0, rfl, hr0⟩ := open_bop1 (hval 0 53 v0 rfl rfl) h0
  obtain ⟨L1, hL1, hl1⟩ := open_placesZ (hval 1 23 v1 rfl rfl) h1 (arg_Z (j := 1) hsz rfl rfl)
  clear hA0 hval0
  simp only [List.append_nil] at hW'
  refine (walk r0 v1 L1 W hL1 hl1).mono fun e W' ⟨he, hg⟩ => ?_
  subst he
  exact ⟨_, rfl, law_post laidOut (by kernel_rfl) rfl Tryz.underlying4 hW' rfl rfl hg⟩
theorem over : Rows.binsNobodyRow.holds Tryz.pinned (OpenSpec.ofChange Rows.binsNobodySpec) :=
  OpenClaim.holds_of_wide 9 Tryz.f9 rfl rfl rfl rfl rfl rfl rfl ⟨rfl, rfl, rfl, rfl, rfl⟩ rfl rfl rfl rfl rfl (by kernel_rfl) Tryz.func9 (by kernel_rfl)
    (of_decide_eq_true (by kernel_rfl)) (by unfold Func.isWrapper; first | (rw [if_pos (by decide +kernel)]; kernel_rfl) | (rw [if_neg (by decide +kernel)]; exact ⟨rfl, rfl⟩))
    (fun os started H enc _ => lifted os started H enc)
theorem proved : Rows.BinsNobodySaid :=
  over
#print axioms proved
end Go.Proofs.YtlniekobijcanaaGreat.binsNobody
