/- ident: for every input IdentNobody returns true and leaves its input as it was; no condition. -/
import Derived.Test.YtakjiicnbocjeaaRows
import Derived.Test.YtakjiicnbocjeaaIdM
import Derived.Test.YtakjiicnbocjeaaIdN
namespace Go.Proofs.Ytakjiicnbocjeaa.identNobody
open Go.ChangeShapes Go.WideShapes Go.ChangeAt Go.RowKit
attribute [local go_sem] Oper.semAt_some
set_option maxRecDepth 100000 in
set_option maxHeartbeats 4000000 in
theorem walk (r : OpV) (w : World) (hok : OpOk w r) : Calls Try.prog 6 #[.agg r.cs] w fun e w' => e = .returned (.bool true) ∧ Below w.heap.size w w' := by
  obtain ⟨kd, c, n, body, bs, ⟨ac, an, acode, ak⟩⟩ := r
  obtain ⟨-, ba, bc, hbe, -⟩ := id hok.bs
  obtain ⟨bn, hbn⟩ : ∃ bn, bs.length = bn := ⟨_, rfl⟩
  dsimp only at hbe
  rw [hbn] at hbe
  subst hbe
  clear hok hbn
  unfold OpV.cs
  dsimp only
  have hnil := fun (w : World) (f : Fn) (x y : Array Value) => run_eql_func_nil (P := Try.prog) w 44 _ _ _ f x y Try.underlying44
  refine (callsIn_wide (n := 0)).1 ?_
  refine callsIn_of_wp_marks Try.func6 rfl trivial ?_ rfl
  simp only [Try.ntmps6, List.size_toArray, List.length_cons, List.length_nil, Nat.reduceAdd, Nat.reduceSub, Array.replicate_succ, Array.replicate_zero, List.push_toArray, List.append_toArray, List.nil_append, List.cons_append]
  have hfn : ∀ f, Fence.wide.fn f := fun _ => trivial
  have hdp : Fence.wide.depth.isSome = false := rfl
  gi_wp2_with (gi_at_call 16; refine (callsIn_wide.2 (iOpen _ _)).mono ?_; rintro e w1 ⟨rfl, rfl⟩)
  obtain ⟨n0, hn0⟩ : ∃ n0, w.heap.size = n0 := ⟨_, rfl⟩
  have HS := Lib.hid hn0
  obtain ⟨W0, hW0⟩ : ∃ W0, ((w.alloc (.cells #[.int .i64 kd, .int .i64 c, .int .i64 n, .slice ba bn bc, .int .i64 ac, .int .i64 an, .int .i64 acode, .int .i64 ak] 33)).alloc (.cells #[.bool false] 4)).alloc (.cells #[.pointer none] 23) = W0 := ⟨_, rfl⟩
  have hs0 : W0.heap.size = n0 + 3 := by rw [← hW0]; simp; omega
  have hb0 : Below w.heap.size w W0 := by rw [← hW0]; exact (((Below.refl _ w).alloc (Nat.le_refl _) _).alloc (by simp) _).alloc (by simp; omega) _
  have bN : W0.heap[n0]? = some (.cells #[.int .i64 kd, .int .i64 c, .int .i64 n, .slice ba bn bc, .int .i64 ac, .int .i64 an, .int .i64 acode, .int .i64 ak] 33) := by rw [← hW0, ← hn0]; exact heap_keep (heap_keep (heap_new _ _) _) _
  have bO : Boxed W0 (n0 + 1) 4 (.bool false) := by
    rw [← hW0, ← hn0]; have := (Boxed.new (w.alloc (.cells #[.int .i64 kd, .int .i64 c, .int .i64 n, .slice ba bn bc, .int .i64 ac, .int .i64 an, .int .i64 acode, .int .i64 ak] 33)) 4 (.bool false)).alloc (.cells #[.pointer none] 23); rwa [World.size_alloc] at this
  have bT : Boxed W0 (n0 + 2) 23 (.pointer none) := by
    rw [← hW0, ← hn0]; have := Boxed.new ((w.alloc (.cells #[.int .i64 kd, .int .i64 c, .int .i64 n, .slice ba bn bc, .int .i64 ac, .int .i64 an, .int .i64 acode, .int .i64 ak] 33)).alloc (.cells #[.bool false] 4)) 23 (.pointer none); rwa [World.size_alloc, World.size_alloc] at this
  rw [hW0]
  rw [hn0] at hb0
  clear hW0
  refine (callsIn_wide.2 (iLives _)).mono ?_
  rintro e w1 ⟨rfl, hb⟩
  rw [hs0] at hb
  have hsz := hb.size
  have cN := (hb.block _ (by omega)).trans bN
  have cO := boxed_below bO hb (by omega)
  have cT := boxed_below bT hb (by omega)
  have hB := hb0.trans (hb.mono (by omega))
  clear bN bO bT hb0 hb
  gi_wp2_with fail
  refine rangeX (w0 := w1) (X := ([] : List (Int × Int))) (S := fun b => False) rfl (enters_of Try.func31 (by kernel_rfl) rfl)
    (iOpen1_no _ w1 _ cT) (Below.refl _ _) (fun b hb => hb.elim) (fun _ => rfl)
    ZI ZX (fun k C W W' hs hf => hs) (fun c k C W W' hs hf => hs) trivial ?round ?done ?stop
  case round => intro lp k x C W hx; simp at hx
  case stop => intro D c k C W hD hk hX; exact hX.elim
  case done =>
    rintro D C W hD _ hr hK
    have bN := hr.at_ cN id
    have dO := hr.box cO id
    have hB2 := hB.trans ((hr.toBelow (B := w1.heap.size) (fun b hb => hb.elim) (by omega)).mono (by omega))
    have hlt : n0 + 3 ≤ W.heap.size := by have := hr.size; omega
    have c1 := cell_obj bN 1 (.int .i64 c) rfl
    have c2 := cell_obj bN 2 (.int .i64 n) rfl
    have c3 := cell_obj bN 3 (.slice ba bn bc) rfl
    have hD2 : n0 + 3 ≤ D := by omega
    clear hB cN cO cT hr hsz hs0
    gi_wp2_with fail
    refine (callsIn_wide.2 (iAsk_no _ _ _ _)).mono ?_
    rintro e w2 ⟨rfl, hf2⟩
    unfold Ans.zero Ans.enc
    dsimp only
    have bN := hf2.at_ bN id
    have dO := hf2.box dO id
    have hK := hf2.at_ hK id
    have hB3 := hB2.trans ((hf2.toBelow (B := W.heap.size) (fun b hb => hb.elim) (by omega)).mono (by omega))
    have hlt2 : n0 + 3 ≤ w2.heap.size := by have := hf2.size; omega
    clear c1 c2 c3 hB2 hf2
    have c4 := cell_obj (heap_keep bN (.cells #[.int .i64 0, .int .i64 0, .int .i64 0, .int .i64 0] 31)) 4 (.int .i64 ac) rfl
    have c5 := cell_obj (heap_keep bN (.cells #[.int .i64 0, .int .i64 0, .int .i64 0, .int .i64 0] 31)) 5 (.int .i64 an) rfl
    have c6 := cell_obj (heap_keep bN (.cells #[.int .i64 0, .int .i64 0, .int .i64 0, .int .i64 0] 31)) 6 (.int .i64 acode) rfl
    have c7 := cell_obj (heap_keep bN (.cells #[.int .i64 0, .int .i64 0, .int .i64 0, .int .i64 0] 31)) 7 (.int .i64 ak) rfl
    gi_wp2_with fail
    clear c4 c5 c6 c7
    have bN := heap_keep bN (.cells #[.int .i64 0, .int .i64 0, .int .i64 0, .int .i64 0] 31)
    have dO : Boxed _ (n0 + 1) 4 (.bool false) := dO.alloc (.cells #[.int .i64 0, .int .i64 0, .int .i64 0, .int .i64 0] 31)
    have hK := heap_keep hK (.cells #[.int .i64 0, .int .i64 0, .int .i64 0, .int .i64 0] 31)
    have hB3 := hB3.alloc (by omega) (.cells #[.int .i64 0, .int .i64 0, .int .i64 0, .int .i64 0] 31)
    have hl3 : n0 + 3 ≤ (w2.alloc (.cells #[.int .i64 0, .int .i64 0, .int .i64 0, .int .i64 0] 31)).heap.size := by simp; omega
    generalize w2.alloc (.cells #[.int .i64 0, .int .i64 0, .int .i64 0, .int .i64 0] 31) = w3 at *
    refine (callsIn_wide.2 (iTell_no _ ⟨ac, an, acode, ak⟩)).mono ?_
    rintro e w4 ⟨rfl, hf4⟩
    have bN := hf4.at_ bN id
    have dO := hf4.box dO id
    have hK := hf4.at_ hK id
    have hB4 := hB3.trans ((hf4.toBelow (B := w3.heap.size) (fun b hb => hb.elim) (by omega)).mono (by omega))
    have hl4 : n0 + 3 ≤ w4.heap.size := by have := hf4.size; omega
    clear hB3 hf4
    have c1 := cell_obj bN 1 (.int .i64 c) rfl
    have c2 := cell_obj bN 2 (.int .i64 n) rfl
    gi_wp2_with fail
    clear c1 c2
    refine (callsIn_wide.2 (iLow_no _ _ _)).mono ?_
    rintro e w5 ⟨rfl, hf5⟩
    have bN := hf5.at_ bN id
    have dO := hf5.box dO id
    have hK := hf5.at_ hK id
    have hB5 := hB4.trans ((hf5.toBelow (B := w4.heap.size) (fun b hb => hb.elim) (by omega)).mono (by omega))
    have hl5 : n0 + 3 ≤ w5.heap.size := by have := hf5.size; omega
    clear hB4 hf5
    have c1 := cell_obj bN 1 (.int .i64 c) rfl
    have hdef := dO.cell
    have hfr := dO.frozen
    gi_wp2_with (first
      | (gi_at_call 15; refine (callsIn_wide.2 (iMark_no _ _)).mono ?_; rintro e w6 ⟨rfl, rfl⟩)
      | (gi_at_call 14; refine (callsIn_wide.2 (iLen_no _ _)).mono ?_; rintro e w6 ⟨rfl, rfl⟩)
      | (gi_at_call 17; refine (callsIn_wide.2 (iPack_no _)).mono ?_; rintro e w6 ⟨rfl, rfl⟩))
    have hK5 := (Below.heap_setCell w5 ⟨n0 + 1, 0, none⟩ (.bool true) D (by simp; omega)).trans hK
    have hc5 := (Fa.box (frPut (B := n0) (.deferred none) (by omega) hK5 rfl) (dO.set (.bool true))).cell
    refine ⟨by simp, .inl ⟨_, _, rfl, run_takeDeferred hK5, ?_⟩⟩
    refine ⟨.bool true, by simp [results, Try.results6, go_sem, hc5], rfl, ?_⟩
    rw [hn0]
    exact hB5.trans ((((Fr.refl (fun b => n0 ≤ b) w5).setCell (p := ⟨n0 + 1, 0, none⟩) (fun _ => by simp) _).putObj (l := D) (fun _ => by omega) _).toBelow (fun b hb => hb) (by omega))
set_option maxRecDepth 100000 in
theorem lifted (os : Os) (started : os.Started) (H : Type) (enc : TypeId × Value → H) :
    ReturnsInHanded {} Try.checked os 6 .any (Rows.identNobodySpec.pre6 enc Try.prog Try.f6 Rows.identNobodyRow.domain false) (Rows.identNobodySpec.post enc Try.prog Try.f6 false true false false) := by
  refine returnsInHanded_of_change (C := Try.checked) own started (by kernel_rfl) Try.func6
    (ChangeSpec.witness6 (enc := enc) (C := Try.checked) false ⟨#[], #[.agg #[.int .i64 0, .int .i64 0, .int .i64 0, .slice none 0 0, .int .i64 0, .int .i64 0, .int .i64 0, .int .i64 0]], []⟩ 8 (by kernel_rfl) (by kernel_rfl) (by kernel_rfl) (by kernel_rfl)) ?_
  intro W base args ds gs before hval0 hW hcnd _
  have hval : ∀ (j : Nat) t v, Try.f6.params[j]? = some t → args[j]? = some v → Value.okWide Try.prog W .any base t v := hval0
  have hW' := hW
  obtain ⟨p, q, hA0, hV, rfl, hfz, hnd⟩ := hW
  have hA : DataW.TrodAll enc Try.prog W 0 (fun _ => true) true Try.f6.params.toList args.toList ds p := hA0
  rw [Try.params6] at hA hval
  obtain ⟨v0, vs0, d0, ds0, p0, q0, hargs, rfl, rfl, h0, r0⟩ := trodAll_cons hA
  obtain ⟨rfl, rfl, rfl⟩ := trodAll_nil r0
  obtain rfl : args = #[v0] := by cases args; simp_all
  obtain ⟨rfl, rfl⟩ := trodVars_none hV
  obtain ⟨r0, rfl, hr0⟩ := open_op1 (hval 0 33 v0 rfl rfl) h0
  clear hA0 hval0
  simp only [List.append_nil] at hW'
  refine (walk r0 W hr0).mono fun e W' ⟨he, hg⟩ => ?_
  subst he
  exact ⟨_, rfl, law_post laidOut (by kernel_rfl) rfl Try.underlying4 hW' rfl rfl hg⟩
theorem over : Rows.identNobodyRow.holds Try.pinned (OpenSpec.ofChange Rows.identNobodySpec) :=
  OpenClaim.holds_of_wide 6 Try.f6 rfl rfl rfl rfl rfl rfl rfl ⟨rfl, rfl, rfl, rfl, rfl⟩ rfl rfl rfl rfl rfl (by kernel_rfl) Try.func6 (by kernel_rfl)
    (of_decide_eq_true (by kernel_rfl)) (by unfold Func.isWrapper; first | (rw [if_pos (by decide +kernel)]; kernel_rfl) | (rw [if_neg (by decide +kernel)]; exact ⟨rfl, rfl⟩))
    (fun os started H enc _ => lifted os started H enc)
theorem proved : Rows.IdentNobodySaid :=
  over
#print axioms proved
end Go.Proofs.Ytakjiicnbocjeaa.identNobody
