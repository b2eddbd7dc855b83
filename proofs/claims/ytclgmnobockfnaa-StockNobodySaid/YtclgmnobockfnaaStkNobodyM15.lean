/- stock: a nil stock. -/
import Derived.Test.YtclgmnobockfnaaStkNobodyM11
import Derived.Test.YtclgmnobockfnaaStkNobodyM14
namespace Go.Proofs.Ytclgmnobockfnaa
open Go.RowKit Go.Maps
set_option maxRecDepth 100000 in
theorem sLevel_no (w : World) (s : Str) : Calls Try.prog 29 #[.pointer none, vS s] w fun e w' => e = .returned SR.zero.lev ∧ Fr (fun _ => False) w w' := by
  go_enter Try.func29, Try.ntmps29
  go_wp2_with (go_at_call 31; refine (smade_no _).mono ?_; rintro e w' ⟨rfl, rfl⟩)
  go_returns
  exact ⟨rfl, (Fr.refl _ _).alloc _⟩
set_option maxRecDepth 100000 in
theorem sFlow_no (w : World) (s : Str) : Calls Try.prog 30 #[.pointer none, vS s] w fun e w' => e = .returned SR.zero.flo ∧ Fr (fun _ => False) w w' := by
  go_enter Try.func30, Try.ntmps30
  go_wp2_with (go_at_call 31; refine (smade_no _).mono ?_; rintro e w' ⟨rfl, rfl⟩)
  go_returns
  exact ⟨rfl, (Fr.refl _ _).alloc _⟩
set_option maxRecDepth 100000 in
theorem sFork_no (w : World) : Calls Try.prog 21 #[.pointer none] w fun e w' => e = .returned (.pointer none) ∧ Fr (fun _ => False) w w' := by
  go_enter Try.func21, Try.ntmps21
  go_wp2_with (go_at_call 31; refine (smade_no _).mono ?_; rintro e w' ⟨rfl, rfl⟩)
  go_ret
  exact ⟨rfl, Fr.refl _ _⟩
set_option maxRecDepth 100000 in
theorem sCount_no (w : World) (s : Str) (n : Int) : Calls Try.prog 19 #[.pointer none, vS s, .int .i64 n] w fun e w' => e = .returned (.tuple #[.int .i64 0, .int .i64 6]) ∧ Fr (fun _ => False) w w' := by
  go_enter Try.func19, Try.ntmps19
  go_wp2_with (go_at_call 31; refine (smade_no _).mono ?_; rintro e w' ⟨rfl, rfl⟩)
  go_ret2
  exact ⟨rfl, Fr.refl _ _⟩
set_option maxRecDepth 100000 in
theorem sDo_no (w : World) (k : Int) (v : Value) : Calls Try.prog 12 #[.pointer none, .int .i64 k, v] w fun e w' => e = .returned (.int .i64 6) ∧ Fr (fun _ => False) w w' := by
  refine (callsIn_wide (n := 0)).1 ?_
  refine callsIn_of_wp_marks Try.func12 rfl trivial ?_ rfl
  simp only [Try.ntmps12, List.size_toArray, List.length_cons, List.length_nil, Nat.reduceAdd, Nat.reduceSub, Array.replicate_succ, Array.replicate_zero, List.push_toArray, List.append_toArray, List.nil_append, List.cons_append]
  have hfn : ∀ f, Fence.wide.fn f := fun _ => trivial
  have hdp : Fence.wide.depth.isSome = false := rfl
  gi_wp2_with (gi_at_call 31; refine (callsIn_wide.2 (smade_no _)).mono ?_; rintro e w1 ⟨rfl, rfl⟩)
  have hc := cell_obj (heap_new (w.alloc (.cells #[.int .i64 k] 3)) (.cells #[.int .i64 6] 29)) 0 (.int .i64 6) rfl
  rw [World.size_alloc] at hc
  exact ⟨.int .i64 6, by simp [results, Try.results12, go_sem, hc], rfl, ((Fr.refl _ _).alloc _).alloc _⟩
set_option maxRecDepth 100000 in
theorem sOffer_no (w : World) (v : Value) : Calls Try.prog 23 #[.pointer none, v] w fun e w' => e = .returned (.slice none 0 0) ∧ Fr (fun _ => False) w w' := by
  refine (callsIn_wide (n := 0)).1 ?_
  refine callsIn_of_wp_marks Try.func23 rfl trivial ?_ rfl
  simp only [Try.ntmps23, List.size_toArray, List.length_cons, List.length_nil, Nat.reduceAdd, Nat.reduceSub, Array.replicate_succ, Array.replicate_zero, List.push_toArray, List.append_toArray, List.nil_append, List.cons_append]
  have hfn : ∀ f, Fence.wide.fn f := fun _ => trivial
  have hdp : Fence.wide.depth.isSome = false := rfl
  gi_wp2_with (gi_at_call 31; refine (callsIn_wide.2 (smade_no _)).mono ?_; rintro e w1 ⟨rfl, rfl⟩)
  exact ⟨.slice none 0 0, by simp [results, Try.results23, go_sem], rfl, (Fr.refl _ _).alloc _⟩
set_option maxRecDepth 100000 in
theorem sPack_no (w : World) : Calls Try.prog 13 #[.pointer none] w fun e w' => e = .returned (.slice none 0 0) ∧ Fr (fun _ => False) w w' := by
  refine (callsIn_wide (n := 0)).1 ?_
  refine callsIn_of_wp_marks Try.func13 rfl trivial ?_ rfl
  simp only [Try.ntmps13, List.size_toArray, List.length_cons, List.length_nil, Nat.reduceAdd, Nat.reduceSub, Array.replicate_succ, Array.replicate_zero, List.push_toArray, List.append_toArray, List.nil_append, List.cons_append]
  have hfn : ∀ f, Fence.wide.fn f := fun _ => trivial
  have hdp : Fence.wide.depth.isSome = false := rfl
  gi_wp2_with (gi_at_call 31; refine (callsIn_wide.2 (smade_no _)).mono ?_; rintro e w1 ⟨rfl, rfl⟩)
  exact ⟨.slice none 0 0, by simp [results, Try.results13, go_sem], rfl, (Fr.refl _ _).alloc _⟩
/-- The iterator of a nil stock. -/
theorem sGoods1_no (S : Nat → Prop) (w : World) (Bt : Nat) (hBt : Boxed w Bt 24 (.pointer none)) :
    ItX 64 #[.pointer (some ⟨Bt, 0, none⟩)] encS ([] : List Str) S w := by
  intro lp S' J Jx W hW hS' hJ hY hJx h0
  have hcB := (boxed_below hBt hW hBt.lt).cell
  have hfn : ∀ f, Fence.wide.fn f := fun _ => trivial
  have hdp : Fence.wide.depth.isSome = false := rfl
  refine (callsIn_wide (n := 0)).1 ?_
  refine callsIn_of_wp Try.func64 rfl trivial ?_ rfl
  simp only [Try.ntmps64, List.size_toArray, List.length_cons, List.length_nil, Nat.reduceAdd, Nat.reduceSub, Array.replicate_succ, Array.replicate_zero, List.push_toArray, List.append_toArray, List.nil_append, List.cons_append]
  gi_wp2_with (gi_at_call 31; refine (callsIn_wide.2 (smade_no _)).mono ?_; rintro e w1 ⟨rfl, rfl⟩)
  refine bodyPost_ret (results_none rfl _ _ _) rfl ?_
  exact ⟨⟨_, rfl⟩, .inl ⟨_, h0⟩⟩
end Go.Proofs.Ytclgmnobockfnaa
