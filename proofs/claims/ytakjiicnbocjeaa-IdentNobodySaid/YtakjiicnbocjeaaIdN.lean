/- ident.Table at nil: numbers, Open, as iterators over nothing; Pack. -/
import Derived.Test.YtakjiicnbocjeaaIdH
import Derived.Test.YtakjiicnbocjeaaRange
import Derived.Shelf.Abstract
namespace Go.Proofs.Ytakjiicnbocjeaa
open Go.RowKit Go.Maps
def ZI (_ : Nat) (_ : Nat → Prop) (_ : World) : Prop := True
def ZX (_ : Code) (_ : Nat) (_ : Nat → Prop) (_ : World) : Prop := False
theorem boxed_below {B : Nat} {w w' : World} {b : Nat} {t : TypeId} {v : Value} (h : Boxed w b t v) (hb : Below B w w') (h1 : b < B) : Boxed w' b t v := (hb.block b h1).trans h
def encP (p : Int × Int) : Array Value := #[.int .i64 p.1, .int .i64 p.2]
theorem iNumbers (p : Option Addr) (w : World) : Calls Try.prog 32 #[.pointer p] w fun e w' =>
    e = .returned (.func (.func 51) #[] #[.pointer (some ⟨w.heap.size, 0, none⟩)]) ∧ w' = w.alloc (.cells #[.pointer p] 23) := by
  go_enter Try.func32, Try.ntmps32
  go_wp2
  go_ret
  exact ⟨rfl, rfl⟩
attribute [local go_sem] Oper.semAt_some
theorem iNumbers1_no (S : Nat → Prop) (w : World) (Bt : Nat) (hBt : Boxed w Bt 23 (.pointer none)) :
    ItX 51 #[.pointer (some ⟨Bt, 0, none⟩)] encP [] S w := by
  intro lp S' J Jx W hW hS' hJ hY hJx h0
  have hcB := (boxed_below hBt hW hBt.lt).cell
  have hfn : ∀ f, Fence.wide.fn f := fun _ => trivial
  have hdp : Fence.wide.depth.isSome = false := rfl
  clear hY hS'
  refine (callsIn_wide (n := 0)).1 ?_
  refine callsIn_of_wp Try.func51 rfl trivial ?_ rfl
  simp only [Try.ntmps51, List.size_toArray, List.length_cons, List.length_nil, Nat.reduceAdd, Nat.reduceSub, Array.replicate_succ, Array.replicate_zero, List.push_toArray, List.append_toArray, List.nil_append, List.cons_append]
  gi_wp2_with (gi_at_call 24; refine (callsIn_wide.2 (imade_no _)).mono ?_; rintro e w1 ⟨rfl, rfl⟩)
  refine bodyPost_ret (results_none rfl _ _ _) rfl ?_
  exact ⟨⟨_, rfl⟩, .inl ⟨_, h0⟩⟩
set_option maxHeartbeats 1000000 in
theorem iOpen1_no (S : Nat → Prop) (w : World) (Bt : Nat) (hBt : Boxed w Bt 23 (.pointer none)) :
    ItX 31 #[.pointer (some ⟨Bt, 0, none⟩)] encP [] S w := by
  intro lp S' J Jx W hW hS' hJ hY hJx h0
  have hcB := ((boxed_below hBt hW hBt.lt).alloc (.cells #[.func (.yield lp) #[] #[]] 42)).cell
  have hfn : ∀ f, Fence.wide.fn f := fun _ => trivial
  have hdp : Fence.wide.depth.isSome = false := rfl
  clear hY hS'
  refine (callsIn_wide (n := 0)).1 ?_
  refine callsIn_of_wp_marks Try.func31 rfl trivial ?_ rfl
  simp only [Try.ntmps31, List.size_toArray, List.length_cons, List.length_nil, Nat.reduceAdd, Nat.reduceSub, Array.replicate_succ, Array.replicate_zero, List.push_toArray, List.append_toArray, List.nil_append, List.cons_append]
  gi_wp2_with (gi_at_call 32; refine (callsIn_wide.2 (iNumbers _ _)).mono ?_; rintro e w1 ⟨rfl, rfl⟩)
  obtain ⟨W1, hW1⟩ : ∃ W1, W.alloc (.cells #[.func (.yield lp) #[] #[]] 42) = W1 := ⟨_, rfl⟩
  have hs1 : W1.heap.size = W.heap.size + 1 := by rw [← hW1]; simp
  have hb1 : Below W.heap.size W W1 := by rw [← hW1]; exact (Below.refl _ _).alloc (Nat.le_refl _) _
  rw [hW1]
  have hT := Boxed.new W1 23 (.pointer none)
  rw [hs1] at hT
  obtain ⟨W2, hW2⟩ : ∃ W2, W1.alloc (.cells #[.pointer none] 23) = W2 := ⟨_, rfl⟩
  have hs2 : W2.heap.size = W.heap.size + 2 := by rw [← hW2]; simp; omega
  have hb2 : Below W.heap.size W W2 := by rw [← hW2]; exact hb1.alloc (by omega) _
  rw [hW2] at hT ⊢
  have h02 := hJ 0 _ _ _ h0 (Fr.below hb2)
  clear hW1 hW2 hb1 hs1 hcB
  refine rangeX (w0 := W2) (X := ([] : List (Int × Int))) (S := fun _ => False) rfl (enters_of Try.func51 (by kernel_rfl) rfl)
    (iNumbers1_no _ _ _ hT) (Below.refl _ _) (fun b hb => hb.elim) (fun _ => rfl)
    (fun _ _ W' => J 0 (fun _ => False) W') ZX (fun k C W' W'' h hf => hJ 0 _ _ _ h (Fa.up hf (by omega))) (fun c k C W W' hs hf => hs) h02 ?round ?done ?stop
  case round => intro lp k x C W hx; simp at hx
  case stop => intro D c k C W hD hk hX; exact hX.elim
  case done =>
    rintro D C W3 hD hj hr hK
    gi_wp2_with fail
    have hj2 := hJ 0 _ _ _ hj (frPut (B := W.heap.size) (.deferred none) (by omega) hK rfl)
    refine ⟨by simp, .inl ⟨_, _, rfl, run_takeDeferred hK, ?_⟩⟩
    exact ⟨_, results_none rfl _ _ _, ⟨_, rfl⟩, .inl ⟨_, hj2⟩⟩
theorem iPack_no (w : World) : Calls Try.prog 17 #[.pointer none] w fun e w' => e = .returned (.slice none 0 0) ∧ w = w' := by
  go_enter Try.func17, Try.ntmps17
  go_wp2_with (go_at_call 24; refine (imade_no _).mono ?_; rintro e w' ⟨rfl, rfl⟩)
  go_ret
  exact ⟨rfl, rfl⟩
end Go.Proofs.Ytakjiicnbocjeaa
