/- cmp.isNaN, Compare, Or at int; backoff.Timers.order's comparison -/
import Derived.Test.YtjkhheolklnmaaaBackB
import Derived.StillTailTactics
import Derived.Deep.QuietTactic
import Derived.BigQuiet
import Derived.Shelf.SlSortCmp.Kit1
namespace Go.Proofs.Ytjkhheolklnmaaa
open Go.RowKit Go.Maps
def cmpI (a b : Int) : Int := if a < b then -1 else if b < a then 1 else 0
theorem cNaN (x : Int) (w : World) : Calls Try.prog 35 #[.int .i64 x] w fun e w' => e = .returned (.bool false) ∧ w = w' := by
  go_enter Try.func35, Try.ntmps35
  go_wp2
  go_ret
  exact ⟨rfl, rfl⟩
theorem cCompare (a b : Int) (w : World) : Calls Try.prog 31 #[.int .i64 a, .int .i64 b] w fun e w' => e = .returned (.int .i64 (cmpI a b)) ∧ w = w' := by
  have h0 : a < b → cmpI a b = -1 := fun h => if_pos h
  have h1 : ¬ a < b → b < a → cmpI a b = 1 := fun h g => by rw [cmpI, if_neg h, if_pos g]
  have h2 : ¬ a < b → ¬ b < a → cmpI a b = 0 := fun h g => by rw [cmpI, if_neg h, if_neg g]
  have H0 := Lib.hid h0; have H1 := Lib.hid h1; have H2 := Lib.hid h2
  clear h0 h1 h2
  by_cases ha : a < b
  · go_enter Try.func31, Try.ntmps31
    go_wp2_with (go_at_call 35; refine (cNaN _ _).mono ?_; rintro e w' ⟨rfl, rfl⟩)
    go_ret
    exact ⟨ret_int (H0.out ha).symm, rfl⟩
  by_cases hb : b < a
  · go_enter Try.func31, Try.ntmps31
    go_wp2_with (go_at_call 35; refine (cNaN _ _).mono ?_; rintro e w' ⟨rfl, rfl⟩)
    go_ret
    exact ⟨ret_int (H1.out ha hb).symm, rfl⟩
  · go_enter Try.func31, Try.ntmps31
    go_wp2_with (go_at_call 35; refine (cNaN _ _).mono ?_; rintro e w' ⟨rfl, rfl⟩)
    go_ret
    exact ⟨ret_int (H2.out ha hb).symm, rfl⟩
/-- cmp.Or at two numbers, in a block of their own. -/
def or2 (x y : Int) : Int := if x = 0 then y else x
theorem cOr (x y : Int) (b c : Nat) (w : World) (h0 : w.cell? ⟨b, 0, none⟩ = some (.int .i64 x)) (h1 : w.cell? ⟨b, 1, none⟩ = some (.int .i64 y)) :
    Calls Try.prog 30 #[.slice (some ⟨b, 0, none⟩) 2 c] w fun e w' => e = .returned (.int .i64 (or2 x y)) ∧ w = w' := by
  by_cases hx : x = 0
  · subst hx
    by_cases hy : y = 0
    · subst hy
      go_enter Try.func30, Try.ntmps30
      go_wp2
      refine wp_loop_rounds 3 ?_
      repeat (rw [rounds_succ]; go_wp2)
      go_ret
      exact ⟨rfl, rfl⟩
    · have hy' : (y != 0) = true := by simpa using hy
      have H : or2 0 y = y := rfl
      clear hy
      go_enter Try.func30, Try.ntmps30
      go_wp2
      refine wp_loop_rounds 3 ?_
      repeat (rw [rounds_succ]; go_wp2)
      go_ret
      exact ⟨rfl, rfl⟩
  · have hx' : (x != 0) = true := by simpa using hx
    have H : or2 x y = x := if_neg hx
    have HH := Lib.hid H
    clear hx H
    go_enter Try.func30, Try.ntmps30
    go_wp2
    refine wp_loop_rounds 3 ?_
    repeat (rw [rounds_succ]; go_wp2)
    go_ret
    exact ⟨ret_int HH.out.symm, rfl⟩
def tmAt (l : List (Int × Int)) (x : Int) : Int := (getS l x).getD 0
def cmpT (l : List (Int × Int)) (x y : Int) : Int := or2 (cmpI (tmAt l x) (tmAt l y)) (cmpI x y)
set_option maxHeartbeats 1000000 in
theorem bOrder1 (w : World) (B g m : Nat) (l : List (Int × Int)) (x y : Int) (hB : w.cell? ⟨B, 0, none⟩ = some (.pointer (some ⟨g, 0, none⟩))) (h : Tm w g m l) (hx : okI x) (hy : okI y) :
    Calls Try.prog 29 #[.int .i64 x, .int .i64 y, .pointer (some ⟨B, 0, none⟩)] w fun e w' => e = .returned (.int .i64 (cmpT l x y)) ∧
      ∃ q os, w' = Sort.grow (w.drewN q) os := by
  have hc : w.drew.cell? ⟨g, 0, none⟩ = some (.map (some m)) := h.cell
  have hB' : w.drew.cell? ⟨B, 0, none⟩ = some (.pointer (some ⟨g, 0, none⟩)) := hB
  have hl : ∀ z, okI z → (Instr.lookup 51 (.map (some m)) (.int .i64 z) false).run Try.prog w.drew = .ok (.int .i64 (tmAt l z)) w.drew := fun z hz => by
    have := h.map.drew.look tmK Try.underlying51 (zeroInt _) hz
    unfold tmAt
    cases hg : getS l z <;> rw [hg] at this <;> exact this
  have hlx := hl x hx
  have hly := hl y hy
  clear hl h
  unfold cmpT
  generalize tmAt l x = a at *
  generalize tmAt l y = b at *
  go_enter Try.func29, Try.ntmps29
  go_wp2_with fail
  refine wp_region_still_tail 16 (by kernel_rfl) (by kernel_rfl) ?_
  simp only [List.take_succ_cons, List.take_zero, List.drop_succ_cons, List.drop_zero]
  change wpStill _ _ w.drew (fun a' => wpList _ _ _ _ a' w.drew) _ _
  generalize hW : w.drew = W at *
  clear hB hx hy
  have HW := Lib.hid hW
  clear hW
  repeat (first | still_step | still_call ((cCompare _ _ _).mono fun _ _ h => ⟨h.1, h.2.symm⟩))
  refine wpStill_nil ?_
  go_wp2_with (go_at_call 30; refine (cOr (cmpI a b) (cmpI x y) W.heap.size _ _ (by simp) (by simp)).mono ?_; rintro e w' ⟨rfl, rfl⟩)
  go_ret
  exact ⟨rfl, 1, #[_], by rw [Sort.alloc_eq_grow, ← HW.out]; rfl⟩
end Go.Proofs.Ytjkhheolklnmaaa
