/- backoff: for every input BackoffNobody returns true and leaves its input as it was; no condition. -/
import Derived.Test.YtjkhheolklnmaaaRows
import Derived.Test.YtjkhheolklnmaaaBackI
import Derived.Test.YtjkhheolklnmaaaLawKit
import Derived.Test.YtjkhheolklnmaaaOpen
namespace Go.Proofs.Ytjkhheolklnmaaa.backoffNobody
open Go.ChangeShapes Go.WideShapes Go.ChangeAt Go.RowKit
attribute [local go_sem] Oper.semAt_some
def NoI (_ : Nat) (_ : Nat → Prop) (_ : World) : Prop := True
def NoX (_ : Code) (_ : Nat) (_ : Nat → Prop) (_ : World) : Prop := False
set_option maxHeartbeats 1000000 in
theorem walk (a b c : Int) (w : World) (_ : okI a) (_ : okI b) (_ : okI c) :
    Calls Try.prog 7 #[.agg #[.int .i64 a, .int .i64 b, .int .i64 c]] w fun e w' => e = .returned (.bool true) ∧ Below w.heap.size w w' := by
  have hnil := fun (w : World) (f : Fn) (x y : Array Value) => run_eql_func_nil (P := Try.prog) w 48 _ _ _ f x y Try.underlying48
  refine (callsIn_wide (n := 0)).1 ?_
  refine callsIn_of_wp_marks Try.func7 rfl trivial ?_ rfl
  simp only [Try.ntmps7, List.size_toArray, List.length_cons, List.length_nil, Nat.reduceAdd, Nat.reduceSub, Array.replicate_succ, Array.replicate_zero, List.push_toArray, List.append_toArray, List.nil_append, List.cons_append]
  have hfn : ∀ f, Fence.wide.fn f := fun _ => trivial
  have hdp : Fence.wide.depth.isSome = false := rfl
  gi_wp2_with (first
    | (gi_at_call 23; refine (callsIn_wide.2 (bAll _ _)).mono ?_; rintro e w1 ⟨rfl, rfl⟩)
    | (gi_at_call 9; refine (callsIn_wide.2 (bLives _)).mono ?_; rintro e w1 ⟨rfl, hb⟩))
  obtain ⟨W0, hW0⟩ : ∃ W0, ((w.alloc (.cells #[.int .i64 a, .int .i64 b, .int .i64 c] 32)).alloc (.cells #[.bool false] 4)).alloc (.cells #[.pointer none] 28) = W0 := ⟨_, rfl⟩
  have hs0 : W0.heap.size = w.heap.size + 3 := by rw [← hW0]; simp
  have hb0 : Below w.heap.size w W0 := by rw [← hW0]; exact (((Below.refl _ w).alloc (Nat.le_refl _) _).alloc (by simp) _).alloc (by simp; omega) _
  have bN : W0.heap[w.heap.size]? = some (.cells #[.int .i64 a, .int .i64 b, .int .i64 c] 32) := by rw [← hW0]; exact heap_keep (heap_keep (heap_new _ _) _) _
  have bO : Boxed W0 (w.heap.size + 1) 4 (.bool false) := by
    rw [← hW0]; have := (Boxed.new (w.alloc (.cells #[.int .i64 a, .int .i64 b, .int .i64 c] 32)) 4 (.bool false)).alloc (.cells #[.pointer none] 28); rwa [World.size_alloc] at this
  have bT : Boxed W0 (w.heap.size + 2) 28 (.pointer none) := by
    rw [← hW0]; have := Boxed.new ((w.alloc (.cells #[.int .i64 a, .int .i64 b, .int .i64 c] 32)).alloc (.cells #[.bool false] 4)) 28 (.pointer none); rwa [World.size_alloc, World.size_alloc] at this
  rw [hW0] at hb
  have hsz := hb.size
  have cN := (hb.block _ (by omega)).trans bN
  have cO := boxed_below bO hb (by omega)
  have cT := boxed_below bT hb (by omega)
  have hB := hb0.trans (hb.mono (by omega))
  clear hW0 bN bO bT hb0 hb
  refine rangeX (w0 := w1) (X := ([] : List KV)) (S := fun b => False) rfl (enters_of Try.func25 (by kernel_rfl) rfl)
    (bAll1_no _ w1 _ cT) (Below.refl _ _) (fun b hb => hb.elim) (fun _ => rfl)
    NoI NoX (fun k C W W' hs hf => hs) (fun c k C W W' hs hf => hs) trivial ?round ?done ?stop
  case round => intro lp k x C W hx; simp at hx
  case stop => intro D c k C W hD hk hX; exact hX.elim
  case done =>
    rintro D C W hD _ hr hK
    have bN := hr.at_ cN id
    have c0 := cell_obj bN 1 (.int .i64 b) rfl
    have c1 := cell_obj bN 2 (.int .i64 c) rfl
    have dO := hr.box cO id
    have hdef := dO.cell
    have hB2 := hB.trans (hr.toBelow (B := w.heap.size) (fun b hb => hb.elim) (by omega))
    have hlt : w.heap.size < W.heap.size := by have := hr.size; omega
    have hlt2 : w.heap.size + 1 < W.heap.size := by have := hr.size; omega
    clear hB cN cO cT hr
    gi_wp2_with (first
      | (gi_at_call 13; refine (callsIn_wide.2 (bSet_no _ _ _)).mono ?_; rintro e w2 ⟨rfl, rfl⟩)
      | (gi_at_call 17; refine (callsIn_wide.2 (bAt_no _ _)).mono ?_; rintro e w2 ⟨rfl, rfl⟩))
    refine (callsIn_wide.2 (bPop_no _ _)).mono ?_
    rintro e w2 ⟨rfl, hb2⟩
    have hK2 := (hb2.block D (Array.getElem?_eq_some_iff.1 hK).1).trans hK
    have d1 := cell_obj ((hb2.block _ hlt).trans bN) 2 (.int .i64 c) rfl
    have dO2 := boxed_below dO hb2 hlt2
    have hdf2 := dO2.cell
    have dN2 := (hb2.block _ hlt).trans bN
    have hB3 := hB2.trans (hb2.mono (by omega))
    have hs2 := hb2.size
    clear hB2 hb2 bN c0 c1 dO hdef hK
    gi_wp2_with fail
    refine (callsIn_wide.2 (bFirst_no _)).mono ?_
    rintro e w3 ⟨rfl, hb3⟩
    have hK3 := (hb3.block D (Array.getElem?_eq_some_iff.1 hK2).1).trans hK2
    have d1' := cell_obj ((hb3.block _ (by omega)).trans dN2) 1 (.int .i64 b) rfl
    have d1 := cell_obj ((hb3.block _ (by omega)).trans dN2) 2 (.int .i64 c) rfl
    have dO3 := boxed_below dO2 hb3 (by omega)
    have hdf3 := dO3.cell
    have hB4 := hB3.trans (hb3.mono (by omega))
    have hs3 := hb3.size
    clear hB3 hb3 dN2 dO2 hdf2 hK2
    gi_wp2_with (gi_at_call 19; refine (callsIn_wide.2 (bDrop_no _ _)).mono ?_; rintro e w4 ⟨rfl, rfl⟩)
    refine (callsIn_wide.2 (bDue_no _ _)).mono ?_
    rintro e w4 ⟨v, rfl, hown, hb4⟩
    obtain ⟨a', c', rfl⟩ := own_zero hown
    have hK4 := (hb4.block D (Array.getElem?_eq_some_iff.1 hK3).1).trans hK3
    have dO4 := boxed_below dO3 hb4 (by omega)
    have hdf4 := dO4.cell
    have hB5 := hB4.trans (hb4.mono (by omega))
    have hs4 := hb4.size
    have hfr := dO4.frozen
    clear hB4 hb4 dO3 hdf3 hK3 hown d1 d1'
    gi_wp2_with (gi_at_call 15; refine (callsIn_wide.2 (bLen_no _)).mono ?_; rintro e w4 ⟨rfl, rfl⟩)
    have hK5 := (Below.heap_setCell w4 ⟨w.heap.size + 1, 0, none⟩ (.bool true) D (by simp; omega)).trans hK4
    have hc5 := (Fa.box (frPut (B := w.heap.size) (.deferred none) (by omega) hK5 rfl) (dO4.set (.bool true))).cell
    refine ⟨by simp, .inl ⟨_, _, rfl, run_takeDeferred hK5, ?_⟩⟩
    refine ⟨.bool true, by simp [results, Try.results7, go_sem, hc5], rfl, ?_⟩
    exact hB5.trans ((((Fr.refl (fun b => w.heap.size ≤ b) w4).setCell (p := ⟨w.heap.size + 1, 0, none⟩) (fun _ => by simp) _).putObj (l := D) (fun _ => by omega) _).toBelow (fun b hb => hb) (by omega))
set_option maxRecDepth 100000 in
theorem lifted (os : Os) (started : os.Started) (H : Type) (enc : TypeId × Value → H) :
    ReturnsInHanded {} Try.checked os 7 .any (Rows.backoffNobodySpec.pre6 enc Try.prog Try.f7 Rows.backoffNobodyRow.domain false) (Rows.backoffNobodySpec.post enc Try.prog Try.f7 false true false false) := by
  refine returnsInHanded_of_change (C := Try.checked) own started (by kernel_rfl) Try.func7
    (ChangeSpec.witness6 (enc := enc) (C := Try.checked) false ⟨#[], #[.agg #[.int .i64 0, .int .i64 0, .int .i64 0]], []⟩ 8 (by kernel_rfl) (by kernel_rfl) (by kernel_rfl) (by kernel_rfl)) ?_
  intro W base args ds gs before hval0 hW hcnd _
  have hval : ∀ (j : Nat) t v, Try.f7.params[j]? = some t → args[j]? = some v → Value.okWide Try.prog W .any base t v := hval0
  have hW' := hW
  obtain ⟨p, q, hA0, hV, rfl, hfz, hnd⟩ := hW
  have hA : DataW.TrodAll enc Try.prog W 0 (fun _ => true) true Try.f7.params.toList args.toList ds p := hA0
  rw [Try.params7] at hA hval
  obtain ⟨v0, vs0, d0, ds0, p0, q0, hargs, rfl, rfl, h0, r0⟩ := trodAll_cons hA
  obtain ⟨rfl, rfl, rfl⟩ := trodAll_nil r0
  obtain rfl : args = #[v0] := by cases args; simp_all
  obtain ⟨rfl, rfl⟩ := trodVars_none hV
  obtain ⟨a0, b0, c0, rfl, wa0, wb0, wc0⟩ := open_ops3 Try.underlying32 Try.underlying3 ⟨rfl, rfl, rfl⟩ (by kernel_rfl) (by kernel_rfl) (hval 0 32 v0 rfl rfl) h0
  clear hA0 hval0
  simp only [List.append_nil] at hW'
  refine (walk a0 b0 c0 W wa0 wb0 wc0).mono fun e W' ⟨he, hg⟩ => ?_
  subst he
  exact ⟨_, rfl, law_post laidOut (by kernel_rfl) rfl Try.underlying4 hW' rfl rfl hg⟩
theorem over : Rows.backoffNobodyRow.holds Try.pinned (OpenSpec.ofChange Rows.backoffNobodySpec) :=
  OpenClaim.holds_of_wide 7 Try.f7 rfl rfl rfl rfl rfl rfl rfl ⟨rfl, rfl, rfl, rfl, rfl⟩ rfl rfl rfl rfl rfl (by kernel_rfl) Try.func7 (by kernel_rfl)
    (of_decide_eq_true (by kernel_rfl)) (by unfold Func.isWrapper; first | (rw [if_pos (by decide +kernel)]; kernel_rfl) | (rw [if_neg (by decide +kernel)]; exact ⟨rfl, rfl⟩))
    (fun os started H enc _ => lifted os started H enc)
theorem proved : Rows.BackoffNobodySaid :=
  over
#print axioms proved
end Go.Proofs.Ytjkhheolklnmaaa.backoffNobody
