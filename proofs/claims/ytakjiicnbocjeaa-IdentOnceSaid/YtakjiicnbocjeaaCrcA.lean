/- crc: bits.RotateLeft64, round, word (written by crc_gen.py). -/
import Derived.Test.YtakjiicnbocjeaaFrame
import Derived.Handy
import Derived.StillTailTactics
namespace Go.Proofs.Ytakjiicnbocjeaa
open Go.RowKit
theorem and63 : ∀ n : Fin 64, bits BinOp.and IntKind.u64 (n.val : Int) 63 = (n.val : Int) := by decide +kernel
theorem and63_of {k : Int} (h0 : 0 ≤ k) (h1 : k < 64) : bits BinOp.and IntKind.u64 k 63 = k := by
  have := and63 ⟨k.toNat, by omega⟩
  simpa [Int.toNat_of_nonneg h0] using this
def rotU (x k : Int) : Int := bits .or .u64 (IntKind.u64.wrap (x * 2 ^ k.toNat)) (x / 2 ^ (64 - k).toNat)
theorem cRot (x k : Int) (w : World) (h0 : 0 ≤ k) (h1 : k < 64) : Calls Try.prog 67 #[.int .u64 x, .int .i64 k] w fun e w' => e = .returned (.int .u64 (rotU x k)) ∧ w = w' := by
  have hb := and63_of h0 h1
  unfold rotU
  go_enter Try.func67, Try.ntmps67
  go_wp2
  go_ret
  exact ⟨rfl, rfl⟩
/-- The four words. -/
structure S4 where
  a : Int
  b : Int
  c : Int
  d : Int
def S4.cs (s : S4) : Array Value := #[.int .u64 s.a, .int .u64 s.b, .int .u64 s.c, .int .u64 s.d]
def rnd (s : S4) : S4 :=
  let a1 := IntKind.u64.wrap (s.a + s.b)
  let c1 := IntKind.u64.wrap (s.c + s.d)
  let b1 := bits .xor .u64 (rotU s.b 13) a1
  let d1 := bits .xor .u64 (rotU s.d 16) c1
  let a2 := rotU a1 32
  let c2 := IntKind.u64.wrap (c1 + b1)
  let a3 := IntKind.u64.wrap (a2 + d1)
  let b2 := bits .xor .u64 (rotU b1 17) c2
  let d2 := bits .xor .u64 (rotU d1 21) a3
  let c3 := rotU c2 32
  ⟨a3, b2, c3, d2⟩
set_option maxRecDepth 100000 in
set_option maxHeartbeats 4000000 in
theorem cRound (w : World) (g : Nat) (s : S4) (hS : w.heap[g]? = some (.cells s.cs 101)) :
    Calls Try.prog 50 #[.pointer (some ⟨g, 0, none⟩)] w fun e w' => e = .returned (.tuple #[]) ∧ w'.heap[g]? = some (.cells (rnd s).cs 101) ∧ Fr (fun b => b = g) w w' := by
  obtain ⟨a, b, c, d⟩ := s
  unfold S4.cs at hS
  dsimp only at hS
  have F0 := Lib.hid (Fr.refl (fun b => b = g) w)
  go_enter Try.func50, Try.ntmps50
  go_wp2_with fail
  refine wp_region_still_tail 11 (by kernel_rfl) (by kernel_rfl) ?_
  simp only [List.take_succ_cons, List.take_zero, List.drop_succ_cons, List.drop_zero]
  change wpStill _ _ w.drew (fun a' => wpList _ _ _ _ a' w.drew) _ _
  have hT : w.drew.heap[g]? = some (.cells #[.int .u64 a, .int .u64 b, .int .u64 c, .int .u64 d] 101) := hS
  have F0' := Lib.hid F0.out.drew
  generalize w.drew = V0 at *
  clear hS F0
  have q0 := cell_obj hT 0 (.int .u64 a) rfl
  have q1 := cell_obj hT 1 (.int .u64 b) rfl
  have q2 := cell_obj hT 2 (.int .u64 c) rfl
  have q3 := cell_obj hT 3 (.int .u64 d) rfl
  have fz := obj_frozen hT 0
  repeat still_step
  refine wpStill_nil ?_
  go_wp2_with fail
  obtain ⟨a1, ha1⟩ : ∃ v : Int, v = IntKind.u64.wrap (a + b) := ⟨_, rfl⟩
  rw [← ha1]
  have Ha1 := Lib.hid ha1
  have h0n : (V0.setCell ⟨g, 0, none⟩ (.int .u64 a1)).heap[g]? = some (.cells #[.int .u64 a1, .int .u64 b, .int .u64 c, .int .u64 d] 101) := obj_set hT 0 _
  have F1 := Lib.hid (F0'.out.setCell (p := ⟨g, 0, none⟩) (fun _ => rfl) (.int .u64 a1))
  generalize V0.setCell ⟨g, 0, none⟩ (.int .u64 a1) = U0 at *
  clear ha1 q0 q1 q2 q3 fz hT F0'
  refine wp_region_still_tail 11 (by kernel_rfl) (by kernel_rfl) ?_
  simp only [List.take_succ_cons, List.take_zero, List.drop_succ_cons, List.drop_zero]
  change wpStill _ _ U0.drew (fun a' => wpList _ _ _ _ a' U0.drew) _ _
  have hT : U0.drew.heap[g]? = some (.cells #[.int .u64 a1, .int .u64 b, .int .u64 c, .int .u64 d] 101) := h0n
  have F1' := Lib.hid F1.out.drew
  generalize U0.drew = V1 at *
  clear h0n F1
  have q0 := cell_obj hT 0 (.int .u64 a1) rfl
  have q1 := cell_obj hT 1 (.int .u64 b) rfl
  have q2 := cell_obj hT 2 (.int .u64 c) rfl
  have q3 := cell_obj hT 3 (.int .u64 d) rfl
  have fz := obj_frozen hT 2
  repeat still_step
  refine wpStill_nil ?_
  go_wp2_with fail
  obtain ⟨c1, hc1⟩ : ∃ v : Int, v = IntKind.u64.wrap (c + d) := ⟨_, rfl⟩
  rw [← hc1]
  have Hc1 := Lib.hid hc1
  have h1n : (V1.setCell ⟨g, 2, none⟩ (.int .u64 c1)).heap[g]? = some (.cells #[.int .u64 a1, .int .u64 b, .int .u64 c1, .int .u64 d] 101) := obj_set hT 2 _
  have F2 := Lib.hid (F1'.out.setCell (p := ⟨g, 2, none⟩) (fun _ => rfl) (.int .u64 c1))
  generalize V1.setCell ⟨g, 2, none⟩ (.int .u64 c1) = U1 at *
  clear hc1 q0 q1 q2 q3 fz hT F1'
  refine wp_region_still_tail 13 (by kernel_rfl) (by kernel_rfl) ?_
  simp only [List.take_succ_cons, List.take_zero, List.drop_succ_cons, List.drop_zero]
  change wpStill _ _ U1.drew (fun a' => wpList _ _ _ _ a' U1.drew) _ _
  have hT : U1.drew.heap[g]? = some (.cells #[.int .u64 a1, .int .u64 b, .int .u64 c1, .int .u64 d] 101) := h1n
  have F2' := Lib.hid F2.out.drew
  generalize U1.drew = V2 at *
  clear h1n F2
  have q0 := cell_obj hT 0 (.int .u64 a1) rfl
  have q1 := cell_obj hT 1 (.int .u64 b) rfl
  have q2 := cell_obj hT 2 (.int .u64 c1) rfl
  have q3 := cell_obj hT 3 (.int .u64 d) rfl
  have fz := obj_frozen hT 1
  repeat (first | still_step | still_call ((cRot _ 13 _ (by omega) (by omega)).mono fun _ _ h => ⟨h.1, h.2.symm⟩))
  refine wpStill_nil ?_
  go_wp2_with fail
  obtain ⟨b1, hb1⟩ : ∃ v : Int, v = bits .xor .u64 (rotU b 13) a1 := ⟨_, rfl⟩
  rw [← hb1]
  have Hb1 := Lib.hid hb1
  have h2n : (V2.setCell ⟨g, 1, none⟩ (.int .u64 b1)).heap[g]? = some (.cells #[.int .u64 a1, .int .u64 b1, .int .u64 c1, .int .u64 d] 101) := obj_set hT 1 _
  have F3 := Lib.hid (F2'.out.setCell (p := ⟨g, 1, none⟩) (fun _ => rfl) (.int .u64 b1))
  generalize V2.setCell ⟨g, 1, none⟩ (.int .u64 b1) = U2 at *
  clear hb1 q0 q1 q2 q3 fz hT F2'
  refine wp_region_still_tail 13 (by kernel_rfl) (by kernel_rfl) ?_
  simp only [List.take_succ_cons, List.take_zero, List.drop_succ_cons, List.drop_zero]
  change wpStill _ _ U2.drew (fun a' => wpList _ _ _ _ a' U2.drew) _ _
  have hT : U2.drew.heap[g]? = some (.cells #[.int .u64 a1, .int .u64 b1, .int .u64 c1, .int .u64 d] 101) := h2n
  have F3' := Lib.hid F3.out.drew
  generalize U2.drew = V3 at *
  clear h2n F3
  have q0 := cell_obj hT 0 (.int .u64 a1) rfl
  have q1 := cell_obj hT 1 (.int .u64 b1) rfl
  have q2 := cell_obj hT 2 (.int .u64 c1) rfl
  have q3 := cell_obj hT 3 (.int .u64 d) rfl
  have fz := obj_frozen hT 3
  repeat (first | still_step | still_call ((cRot _ 16 _ (by omega) (by omega)).mono fun _ _ h => ⟨h.1, h.2.symm⟩))
  refine wpStill_nil ?_
  go_wp2_with fail
  obtain ⟨d1, hd1⟩ : ∃ v : Int, v = bits .xor .u64 (rotU d 16) c1 := ⟨_, rfl⟩
  rw [← hd1]
  have Hd1 := Lib.hid hd1
  have h3n : (V3.setCell ⟨g, 3, none⟩ (.int .u64 d1)).heap[g]? = some (.cells #[.int .u64 a1, .int .u64 b1, .int .u64 c1, .int .u64 d1] 101) := obj_set hT 3 _
  have F4 := Lib.hid (F3'.out.setCell (p := ⟨g, 3, none⟩) (fun _ => rfl) (.int .u64 d1))
  generalize V3.setCell ⟨g, 3, none⟩ (.int .u64 d1) = U3 at *
  clear hd1 q0 q1 q2 q3 fz hT F3'
  have q0 := cell_obj h3n 0 (.int .u64 a1) rfl
  have q1 := cell_obj h3n 1 (.int .u64 b1) rfl
  have q2 := cell_obj h3n 2 (.int .u64 c1) rfl
  have q3 := cell_obj h3n 3 (.int .u64 d1) rfl
  have fz := obj_frozen h3n 0
  go_wp2_with (go_at_call 67; refine (cRot _ 32 _ (by omega) (by omega)).mono ?_; rintro e w' ⟨rfl, rfl⟩)
  obtain ⟨a2, ha2⟩ : ∃ v : Int, v = rotU a1 32 := ⟨_, rfl⟩
  rw [← ha2]
  have Ha2 := Lib.hid ha2
  have h4n : (U3.setCell ⟨g, 0, none⟩ (.int .u64 a2)).heap[g]? = some (.cells #[.int .u64 a2, .int .u64 b1, .int .u64 c1, .int .u64 d1] 101) := obj_set h3n 0 _
  have F5 := Lib.hid (F4.out.setCell (p := ⟨g, 0, none⟩) (fun _ => rfl) (.int .u64 a2))
  generalize U3.setCell ⟨g, 0, none⟩ (.int .u64 a2) = U4 at *
  clear ha2 q0 q1 q2 q3 fz h3n F4
  refine wp_region_still_tail 11 (by kernel_rfl) (by kernel_rfl) ?_
  simp only [List.take_succ_cons, List.take_zero, List.drop_succ_cons, List.drop_zero]
  change wpStill _ _ U4.drew (fun a' => wpList _ _ _ _ a' U4.drew) _ _
  have hT : U4.drew.heap[g]? = some (.cells #[.int .u64 a2, .int .u64 b1, .int .u64 c1, .int .u64 d1] 101) := h4n
  have F5' := Lib.hid F5.out.drew
  generalize U4.drew = V5 at *
  clear h4n F5
  have q0 := cell_obj hT 0 (.int .u64 a2) rfl
  have q1 := cell_obj hT 1 (.int .u64 b1) rfl
  have q2 := cell_obj hT 2 (.int .u64 c1) rfl
  have q3 := cell_obj hT 3 (.int .u64 d1) rfl
  have fz := obj_frozen hT 2
  repeat still_step
  refine wpStill_nil ?_
  go_wp2_with fail
  obtain ⟨c2, hc2⟩ : ∃ v : Int, v = IntKind.u64.wrap (c1 + b1) := ⟨_, rfl⟩
  rw [← hc2]
  have Hc2 := Lib.hid hc2
  have h5n : (V5.setCell ⟨g, 2, none⟩ (.int .u64 c2)).heap[g]? = some (.cells #[.int .u64 a2, .int .u64 b1, .int .u64 c2, .int .u64 d1] 101) := obj_set hT 2 _
  have F6 := Lib.hid (F5'.out.setCell (p := ⟨g, 2, none⟩) (fun _ => rfl) (.int .u64 c2))
  generalize V5.setCell ⟨g, 2, none⟩ (.int .u64 c2) = U5 at *
  clear hc2 q0 q1 q2 q3 fz hT F5'
  refine wp_region_still_tail 11 (by kernel_rfl) (by kernel_rfl) ?_
  simp only [List.take_succ_cons, List.take_zero, List.drop_succ_cons, List.drop_zero]
  change wpStill _ _ U5.drew (fun a' => wpList _ _ _ _ a' U5.drew) _ _
  have hT : U5.drew.heap[g]? = some (.cells #[.int .u64 a2, .int .u64 b1, .int .u64 c2, .int .u64 d1] 101) := h5n
  have F6' := Lib.hid F6.out.drew
  generalize U5.drew = V6 at *
  clear h5n F6
  have q0 := cell_obj hT 0 (.int .u64 a2) rfl
  have q1 := cell_obj hT 1 (.int .u64 b1) rfl
  have q2 := cell_obj hT 2 (.int .u64 c2) rfl
  have q3 := cell_obj hT 3 (.int .u64 d1) rfl
  have fz := obj_frozen hT 0
  repeat still_step
  refine wpStill_nil ?_
  go_wp2_with fail
  obtain ⟨a3, ha3⟩ : ∃ v : Int, v = IntKind.u64.wrap (a2 + d1) := ⟨_, rfl⟩
  rw [← ha3]
  have Ha3 := Lib.hid ha3
  have h6n : (V6.setCell ⟨g, 0, none⟩ (.int .u64 a3)).heap[g]? = some (.cells #[.int .u64 a3, .int .u64 b1, .int .u64 c2, .int .u64 d1] 101) := obj_set hT 0 _
  have F7 := Lib.hid (F6'.out.setCell (p := ⟨g, 0, none⟩) (fun _ => rfl) (.int .u64 a3))
  generalize V6.setCell ⟨g, 0, none⟩ (.int .u64 a3) = U6 at *
  clear ha3 q0 q1 q2 q3 fz hT F6'
  refine wp_region_still_tail 13 (by kernel_rfl) (by kernel_rfl) ?_
  simp only [List.take_succ_cons, List.take_zero, List.drop_succ_cons, List.drop_zero]
  change wpStill _ _ U6.drew (fun a' => wpList _ _ _ _ a' U6.drew) _ _
  have hT : U6.drew.heap[g]? = some (.cells #[.int .u64 a3, .int .u64 b1, .int .u64 c2, .int .u64 d1] 101) := h6n
  have F7' := Lib.hid F7.out.drew
  generalize U6.drew = V7 at *
  clear h6n F7
  have q0 := cell_obj hT 0 (.int .u64 a3) rfl
  have q1 := cell_obj hT 1 (.int .u64 b1) rfl
  have q2 := cell_obj hT 2 (.int .u64 c2) rfl
  have q3 := cell_obj hT 3 (.int .u64 d1) rfl
  have fz := obj_frozen hT 1
  repeat (first | still_step | still_call ((cRot _ 17 _ (by omega) (by omega)).mono fun _ _ h => ⟨h.1, h.2.symm⟩))
  refine wpStill_nil ?_
  go_wp2_with fail
  obtain ⟨b2, hb2⟩ : ∃ v : Int, v = bits .xor .u64 (rotU b1 17) c2 := ⟨_, rfl⟩
  rw [← hb2]
  have Hb2 := Lib.hid hb2
  have h7n : (V7.setCell ⟨g, 1, none⟩ (.int .u64 b2)).heap[g]? = some (.cells #[.int .u64 a3, .int .u64 b2, .int .u64 c2, .int .u64 d1] 101) := obj_set hT 1 _
  have F8 := Lib.hid (F7'.out.setCell (p := ⟨g, 1, none⟩) (fun _ => rfl) (.int .u64 b2))
  generalize V7.setCell ⟨g, 1, none⟩ (.int .u64 b2) = U7 at *
  clear hb2 q0 q1 q2 q3 fz hT F7'
  refine wp_region_still_tail 13 (by kernel_rfl) (by kernel_rfl) ?_
  simp only [List.take_succ_cons, List.take_zero, List.drop_succ_cons, List.drop_zero]
  change wpStill _ _ U7.drew (fun a' => wpList _ _ _ _ a' U7.drew) _ _
  have hT : U7.drew.heap[g]? = some (.cells #[.int .u64 a3, .int .u64 b2, .int .u64 c2, .int .u64 d1] 101) := h7n
  have F8' := Lib.hid F8.out.drew
  generalize U7.drew = V8 at *
  clear h7n F8
  have q0 := cell_obj hT 0 (.int .u64 a3) rfl
  have q1 := cell_obj hT 1 (.int .u64 b2) rfl
  have q2 := cell_obj hT 2 (.int .u64 c2) rfl
  have q3 := cell_obj hT 3 (.int .u64 d1) rfl
  have fz := obj_frozen hT 3
  repeat (first | still_step | still_call ((cRot _ 21 _ (by omega) (by omega)).mono fun _ _ h => ⟨h.1, h.2.symm⟩))
  refine wpStill_nil ?_
  go_wp2_with fail
  obtain ⟨d2, hd2⟩ : ∃ v : Int, v = bits .xor .u64 (rotU d1 21) a3 := ⟨_, rfl⟩
  rw [← hd2]
  have Hd2 := Lib.hid hd2
  have h8n : (V8.setCell ⟨g, 3, none⟩ (.int .u64 d2)).heap[g]? = some (.cells #[.int .u64 a3, .int .u64 b2, .int .u64 c2, .int .u64 d2] 101) := obj_set hT 3 _
  have F9 := Lib.hid (F8'.out.setCell (p := ⟨g, 3, none⟩) (fun _ => rfl) (.int .u64 d2))
  generalize V8.setCell ⟨g, 3, none⟩ (.int .u64 d2) = U8 at *
  clear hd2 q0 q1 q2 q3 fz hT F8'
  have q0 := cell_obj h8n 0 (.int .u64 a3) rfl
  have q1 := cell_obj h8n 1 (.int .u64 b2) rfl
  have q2 := cell_obj h8n 2 (.int .u64 c2) rfl
  have q3 := cell_obj h8n 3 (.int .u64 d2) rfl
  have fz := obj_frozen h8n 2
  go_wp2_with (go_at_call 67; refine (cRot _ 32 _ (by omega) (by omega)).mono ?_; rintro e w' ⟨rfl, rfl⟩)
  obtain ⟨c3, hc3⟩ : ∃ v : Int, v = rotU c2 32 := ⟨_, rfl⟩
  rw [← hc3]
  have Hc3 := Lib.hid hc3
  have h9n : (U8.setCell ⟨g, 2, none⟩ (.int .u64 c3)).heap[g]? = some (.cells #[.int .u64 a3, .int .u64 b2, .int .u64 c3, .int .u64 d2] 101) := obj_set h8n 2 _
  have F10 := Lib.hid (F9.out.setCell (p := ⟨g, 2, none⟩) (fun _ => rfl) (.int .u64 c3))
  generalize U8.setCell ⟨g, 2, none⟩ (.int .u64 c3) = U9 at *
  clear hc3 q0 q1 q2 q3 fz h8n F9
  go_end0
  refine ⟨rfl, ?_, F10.out⟩
  rw [h9n]
  unfold rnd S4.cs
  simp only [← Ha1.out, ← Hc1.out, ← Hb1.out, ← Hd1.out, ← Ha2.out, ← Hc2.out, ← Ha3.out, ← Hb2.out, ← Hd2.out, ← Hc3.out]
end Go.Proofs.Ytakjiicnbocjeaa
