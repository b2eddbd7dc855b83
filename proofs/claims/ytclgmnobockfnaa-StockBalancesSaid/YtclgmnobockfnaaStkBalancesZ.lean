/- stock: for every input StockBalances returns true and leaves its input as it was; no condition. -/
import Derived.Test.YtclgmnobockfnaaRows
import Derived.Test.YtclgmnobockfnaaStkBalancesM21
import Derived.Test.YtclgmnobockfnaaStkBalancesM23
import Derived.Test.YtclgmnobockfnaaStkBalancesM27
import Derived.Test.YtclgmnobockfnaaStkBalancesM24
import Derived.Deep.RegionWith
namespace Go.Proofs.Ytclgmnobockfnaa.stockBalances
open Go.ChangeShapes Go.WideShapes Go.ChangeAt Go.RowKit Go.Maps
attribute [local go_sem] Oper.semAt_some
set_option maxRecDepth 100000 in
set_option maxHeartbeats 4000000 in
theorem walk (f0 f1 f2 f3 f4 f5 f6 f7 f8 f9 f10 : Int) (w : World) : Calls Try.prog 5 #[.agg #[.int .i64 f0, .int .i64 f1, .int .i64 f2, .int .i64 f3], .agg #[.int .i64 f4, .int .i64 f5, .int .i64 f6, .int .i64 f7, .int .i64 f8, .int .i64 f9, .int .i64 f10]] w fun e w' => e = .returned (.bool true) ∧ Below w.heap.size w w' := by
  obtain ⟨r, hr⟩ : ∃ r : SR, r = ⟨f0, f1, f2, f3, f4, f5, f6, f7, f8, f9, f10⟩ := ⟨_, rfl⟩
  have HA := Lib.hid (fun W => sBalanced W r)
  have HB := Lib.hid (fun W => r7Balanced W r)
  obtain ⟨G, hG⟩ : ∃ G, r.bal = G := ⟨_, rfl⟩
  rw [hG] at HA HB
  clear hG
  obtain ⟨n0, hn0⟩ : ∃ n0, w.heap.size = n0 := ⟨_, rfl⟩
  have HS := Lib.hid hn0
  subst hr
  unfold SR.lev SR.flo at HA HB
  dsimp only at HA HB
  have hF : Fr (fun b => n0 ≤ b) w ((w.alloc (.cells #[.int .i64 f0, .int .i64 f1, .int .i64 f2, .int .i64 f3] 42)).alloc (.cells #[.int .i64 f4, .int .i64 f5, .int .i64 f6, .int .i64 f7, .int .i64 f8, .int .i64 f9, .int .i64 f10] 44)) := ((Fr.refl _ w).alloc _).alloc _
  have hB0 : ((w.alloc (.cells #[.int .i64 f0, .int .i64 f1, .int .i64 f2, .int .i64 f3] 42)).alloc (.cells #[.int .i64 f4, .int .i64 f5, .int .i64 f6, .int .i64 f7, .int .i64 f8, .int .i64 f9, .int .i64 f10] 44)).heap[n0]? = some (.cells #[.int .i64 f0, .int .i64 f1, .int .i64 f2, .int .i64 f3] 42) := by rw [← hn0]; exact heap_keep (heap_new _ _) _
  have hB1 : ((w.alloc (.cells #[.int .i64 f0, .int .i64 f1, .int .i64 f2, .int .i64 f3] 42)).alloc (.cells #[.int .i64 f4, .int .i64 f5, .int .i64 f6, .int .i64 f7, .int .i64 f8, .int .i64 f9, .int .i64 f10] 44)).heap[n0 + 1]? = some (.cells #[.int .i64 f4, .int .i64 f5, .int .i64 f6, .int .i64 f7, .int .i64 f8, .int .i64 f9, .int .i64 f10] 44) := by rw [← hn0]; exact heap_at (by simp) _
  have HF0 := Lib.hid hF; have HB0 := Lib.hid hB0; have HB1 := Lib.hid hB1
  clear hF hB0 hB1
  go_enter Try.func5, Try.ntmps5
  go_wp2_with fail
  have p0 := FrW.cell (cell_obj HB0.out 0 (.int .i64 f0) rfl)
  have p1 := FrW.cell (cell_obj HB0.out 1 (.int .i64 f1) rfl)
  have p2 := FrW.cell (cell_obj HB0.out 2 (.int .i64 f2) rfl)
  have p3 := FrW.cell (cell_obj HB0.out 3 (.int .i64 f3) rfl)
  have q0 := FrW.cell (cell_obj HB1.out 0 (.int .i64 f4) rfl)
  have q1 := FrW.cell (cell_obj HB1.out 1 (.int .i64 f5) rfl)
  have q2 := FrW.cell (cell_obj HB1.out 2 (.int .i64 f6) rfl)
  have q3 := FrW.cell (cell_obj HB1.out 3 (.int .i64 f7) rfl)
  have q4 := FrW.cell (cell_obj HB1.out 4 (.int .i64 f8) rfl)
  have q5 := FrW.cell (cell_obj HB1.out 5 (.int .i64 f9) rfl)
  have q6 := FrW.cell (cell_obj HB1.out 6 (.int .i64 f10) rfl)
  refine wp_region_fr (by kernel_rfl) (by kernel_rfl) ?_
  repeat (go_big_quiet_step (first | (go_at_call 11; rename_i X; refine (stkLives _).mono ?_; rintro e w2 ⟨rfl, hF⟩; exact ⟨rfl, ⟨w2, X.fr.trans hF⟩, rfl⟩) | (go_at_call 17; rename_i X; refine (HA.out _).mono ?_; rintro e w2 ⟨rfl, hF⟩; exact ⟨rfl, ⟨w2, X.fr.trans hF⟩, rfl⟩) | (go_at_call 18; rename_i X; refine (HB.out _).mono ?_; rintro e w2 ⟨rfl, hF⟩; exact ⟨rfl, ⟨w2, X.fr.trans hF⟩, rfl⟩)))
  refine wpQuiet_nil ?_
  rintro _ ⟨⟨V, hV⟩, rfl⟩
  go_wp2_with fail
  go_ret
  refine ⟨?_, ((HF0.out).trans (hV.mono (fun _ _ e => e.elim))).toBelow (fun b hb => by have := HS.out; omega) (Nat.le_refl _)⟩
  cases G <;> rfl
theorem list4 {L : List Int} (h : L.length = 4) : ∃ a b c d, L = [a, b, c, d] := by
  match L, h with
  | [a, b, c, d], _ => exact ⟨a, b, c, d, rfl⟩
theorem list7 {L : List Int} (h : L.length = 7) : ∃ a b c d e f g, L = [a, b, c, d, e, f, g] := by
  match L, h with
  | [a, b, c, d, e, f, g], _ => exact ⟨a, b, c, d, e, f, g, rfl⟩
section
variable {H : Type} {enc : TypeId × Value → H} {w : World} {base : Nat} {spare : Nat → Bool} {held : Bool}
set_option maxRecDepth 100000 in
theorem open_lev {r : Reach} {b0 : Nat} {v : Value} {d : DataW H} {p : List MemPlace} (hv : Value.okWide Try.prog w r b0 42 v) (h : DataW.Trod enc Try.prog w base spare held 42 v d p) : ∃ x0 x1 x2 x3, v = .agg #[.int .i64 x0, .int .i64 x1, .int .i64 x2, .int .i64 x3] := by
  obtain ⟨L, hl, rfl, -⟩ := open_ints (k := 4) (n := 2) Try.underlying42 Try.underlying3 (by kernel_rfl) (by kernel_rfl) (by kernel_rfl) hv h
  obtain ⟨a, b, c, d, rfl⟩ := list4 hl
  exact ⟨a, b, c, d, rfl⟩
set_option maxRecDepth 100000 in
theorem open_flo {r : Reach} {b0 : Nat} {v : Value} {d : DataW H} {p : List MemPlace} (hv : Value.okWide Try.prog w r b0 44 v) (h : DataW.Trod enc Try.prog w base spare held 44 v d p) : ∃ x0 x1 x2 x3 x4 x5 x6, v = .agg #[.int .i64 x0, .int .i64 x1, .int .i64 x2, .int .i64 x3, .int .i64 x4, .int .i64 x5, .int .i64 x6] := by
  obtain ⟨L, hl, rfl, -⟩ := open_ints (k := 7) (n := 2) Try.underlying44 Try.underlying3 (by kernel_rfl) (by kernel_rfl) (by kernel_rfl) hv h
  obtain ⟨a, b, c, d, e, f, g, rfl⟩ := list7 hl
  exact ⟨a, b, c, d, e, f, g, rfl⟩
end
set_option maxRecDepth 100000 in
set_option maxHeartbeats 4000000 in
theorem lifted (os : Os) (started : os.Started) (H : Type) (enc : TypeId × Value → H) :
    ReturnsInHanded {} Try.checked os 5 .any (Rows.stockBalancesSpec.pre6 enc Try.prog Try.f5 Rows.stockBalancesRow.domain false) (Rows.stockBalancesSpec.post enc Try.prog Try.f5 false true false false) := by
  refine returnsInHanded_of_change (C := Try.checked) own started (by kernel_rfl) Try.func5
    (ChangeSpec.witness6 (enc := enc) (C := Try.checked) false ⟨#[], #[.agg #[.int .i64 0, .int .i64 0, .int .i64 0, .int .i64 0], .agg #[.int .i64 0, .int .i64 0, .int .i64 0, .int .i64 0, .int .i64 0, .int .i64 0, .int .i64 0]], []⟩ 8 (by kernel_rfl) (by kernel_rfl) (by kernel_rfl) (by kernel_rfl)) ?_
  intro W base args ds gs before hval0 hW hcnd _
  have hval : ∀ (j : Nat) t v, Try.f5.params[j]? = some t → args[j]? = some v → Value.okWide Try.prog W .any base t v := hval0
  have hW' := hW
  obtain ⟨p, q, hA0, hV, rfl, hfz, hnd⟩ := hW
  have hA : DataW.TrodAll enc Try.prog W 0 (fun _ => true) true Try.f5.params.toList args.toList ds p := hA0
  rw [Try.params5] at hA hval
  obtain ⟨v0, vs0, d0, ds0, p0, q0, hargs, rfl, rfl, h0, r0⟩ := trodAll_cons hA
  obtain ⟨v1, vs1, d1, ds1, p1, q1, rfl, rfl, rfl, h1, r1⟩ := trodAll_cons r0
  obtain ⟨rfl, rfl, rfl⟩ := trodAll_nil r1
  obtain rfl : args = #[v0, v1] := by cases args; simp_all
  obtain ⟨rfl, rfl⟩ := trodVars_none hV
  obtain ⟨x0, x1, x2, x3, rfl⟩ := open_lev (hval 0 42 v0 rfl rfl) h0
  obtain ⟨y0, y1, y2, y3, y4, y5, y6, rfl⟩ := open_flo (hval 1 44 v1 rfl rfl) h1
  clear hA0 hval0
  simp only [List.append_nil] at hW'
  refine (walk x0 x1 x2 x3 y0 y1 y2 y3 y4 y5 y6 W).mono fun e W' ⟨he, hg⟩ => ?_
  subst he
  exact ⟨_, rfl, law_post laidOut (by kernel_rfl) rfl Try.underlying4 hW' rfl rfl hg⟩
theorem over : Rows.stockBalancesRow.holds Try.pinned (OpenSpec.ofChange Rows.stockBalancesSpec) :=
  OpenClaim.holds_of_wide 5 Try.f5 rfl rfl rfl rfl rfl rfl rfl ⟨rfl, rfl, rfl, rfl, rfl⟩ rfl rfl rfl rfl rfl (by kernel_rfl) Try.func5 (by kernel_rfl)
    (of_decide_eq_true (by kernel_rfl)) (by unfold Func.isWrapper; first | (rw [if_pos (by decide +kernel)]; kernel_rfl) | (rw [if_neg (by decide +kernel)]; exact ⟨rfl, rfl⟩))
    (fun os started H enc _ => lifted os started H enc)
theorem proved : Rows.StockBalancesSaid :=
  over
#print axioms proved
end Go.Proofs.Ytclgmnobockfnaa.stockBalances
