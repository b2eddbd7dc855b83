/- The document's mix (entrepotref02): turn, round (written by ref2_gen.py). -/
import Derived.Test.YtakjiicnbocjeaaIdDoesM1
import Derived.Test.YtakjiicnbocjeaaIdDoesM17
namespace Go.Proofs.Ytakjiicnbocjeaa
open Go.RowKit
set_option maxRecDepth 100000 in
theorem rTurn (x k : Int) (w : World) (h0 : 0 ≤ k) (h1 : k < 64) : Calls Try.prog 75 #[.int .u64 x, .int .i64 k] w fun e w' => e = .returned (.int .u64 (rotU x k)) ∧ ∃ m, w' = w.drewN m := by
  unfold rotU
  go_enter Try.func75, Try.ntmps75
  go_wp2_with fail
  go_quiet (fail)
  go_wp2
  go_ret
  exact ⟨rfl, _, rfl⟩
theorem rTurn2 (x k : Int) (w : World) (h0 : 0 ≤ k) (h1 : k < 64) (n : Nat) : Calls Try.prog 75 #[.int .u64 x, .int .i64 k] (w.drewN n) fun e w' => e = .returned (.int .u64 (rotU x k)) ∧ ∃ m, w' = w.drewN m := by
  refine (rTurn x k _ h0 h1).mono ?_
  rintro e w' ⟨h, m, rfl⟩
  exact ⟨h, _, World.drewN_drewN _ _ _⟩
theorem set_other {w : World} {g h j : Nat} {o : Obj} (hh : w.heap[h]? = some o) (hne : h ≠ g) (v : Value) : (w.setCell ⟨g, j, none⟩ v).heap[h]? = some o := by
  show (w.heap.modify g _)[h]? = _
  rw [Array.getElem?_modify, if_neg (by omega)]; exact hh
set_option maxRecDepth 100000 in
set_option maxHeartbeats 4000000 in
theorem rRound (w : World) (s : S4) : Calls Try.prog 59 #[.agg s.cs] w fun e w' => e = .returned (.agg (rnd s).cs) ∧ Below w.heap.size w w' := by
  obtain ⟨a, b, c, d⟩ := s
  have hz := heap_new w (.cells #[.int .u64 a, .int .u64 b, .int .u64 c, .int .u64 d] 114)
  have hS : ((w.alloc (.cells #[.int .u64 a, .int .u64 b, .int .u64 c, .int .u64 d] 114)).alloc (.cells #[.int .u64 0, .int .u64 0, .int .u64 0, .int .u64 0] 114)).heap[w.heap.size]? = some (.cells #[.int .u64 a, .int .u64 b, .int .u64 c, .int .u64 d] 114) := heap_keep hz _
  have hR : ((w.alloc (.cells #[.int .u64 a, .int .u64 b, .int .u64 c, .int .u64 d] 114)).alloc (.cells #[.int .u64 0, .int .u64 0, .int .u64 0, .int .u64 0] 114)).heap[w.heap.size + 1]? = some (.cells #[.int .u64 0, .int .u64 0, .int .u64 0, .int .u64 0] 114) := heap_at (by simp) _
  have F0 : Hid (Fr (fun b => w.heap.size ≤ b) w ((w.alloc (.cells #[.int .u64 a, .int .u64 b, .int .u64 c, .int .u64 d] 114)).alloc (.cells #[.int .u64 0, .int .u64 0, .int .u64 0, .int .u64 0] 114))) := Lib.hid (((Fr.refl _ _).alloc _).alloc _)
  have HS := Lib.hid hS; have HR := Lib.hid hR
  clear hz hR
  unfold S4.cs
  dsimp only
  go_enter Try.func59, Try.ntmps59
  have q0 := cell_obj hS 0 (.int .u64 a) rfl
  have q1 := cell_obj hS 1 (.int .u64 b) rfl
  have fz := obj_frozen hS 0
  go_wp2_with fail
  obtain ⟨a1, ha1⟩ : ∃ v : Int, v = IntKind.u64.wrap (a + b) := ⟨_, rfl⟩
  rw [← ha1]
  have Ha1 := Lib.hid ha1
  have h1 : ((w.alloc (.cells #[.int .u64 a1, .int .u64 b, .int .u64 c, .int .u64 d] 114)).alloc (.cells #[.int .u64 0, .int .u64 0, .int .u64 0, .int .u64 0] 114)).heap[w.heap.size]? = some (.cells #[.int .u64 a1, .int .u64 b, .int .u64 c, .int .u64 d] 114) := heap_keep (heap_new w _) _
  have HR1 : Hid (((w.alloc (.cells #[.int .u64 a1, .int .u64 b, .int .u64 c, .int .u64 d] 114)).alloc (.cells #[.int .u64 0, .int .u64 0, .int .u64 0, .int .u64 0] 114)).heap[w.heap.size + 1]? = some (.cells #[.int .u64 0, .int .u64 0, .int .u64 0, .int .u64 0] 114)) := Lib.hid (heap_at (by simp) _)
  have F1 : Hid (Fr (fun b => w.heap.size ≤ b) w ((w.alloc (.cells #[.int .u64 a1, .int .u64 b, .int .u64 c, .int .u64 d] 114)).alloc (.cells #[.int .u64 0, .int .u64 0, .int .u64 0, .int .u64 0] 114))) := Lib.hid (((Fr.refl _ _).alloc _).alloc _)
  obtain ⟨B, hB⟩ : ∃ B, w.heap.size = B := ⟨_, rfl⟩
  rw [hB] at h1 HR1 F1 ⊢
  have HBB : Hid (w.heap.size = B) := Lib.hid hB
  generalize (w.alloc (.cells #[.int .u64 a1, .int .u64 b, .int .u64 c, .int .u64 d] 114)).alloc (.cells #[.int .u64 0, .int .u64 0, .int .u64 0, .int .u64 0] 114) = U1 at *
  clear ha1 q0 q1 fz hS F0 HS HR hB
  have q0 := cell_obj h1 0 (.int .u64 a1) rfl
  have fz0 := obj_frozen h1 0
  have q1 := cell_obj h1 1 (.int .u64 b) rfl
  have fz1 := obj_frozen h1 1
  have q2 := cell_obj h1 2 (.int .u64 c) rfl
  have fz2 := obj_frozen h1 2
  have q3 := cell_obj h1 3 (.int .u64 d) rfl
  have fz3 := obj_frozen h1 3
  refine wp_region_quiet_tail 7 (by kernel_rfl) (by kernel_rfl) ?_
  simp only [List.take_succ_cons, List.take_zero, List.drop_succ_cons, List.drop_zero, List.map_cons, List.map_nil, List.cons_append, List.nil_append, idle]
  repeat (go_big_quiet_step ((go_at_call 75; exact rTurn2 _ 13 _ (by omega) (by omega) _)))
  refine wpQuiet_nil ?_
  intro nq
  go_wp2_with fail
  obtain ⟨b1, hb1⟩ : ∃ v : Int, v = bits .xor .u64 (rotU b 13) a1 := ⟨_, rfl⟩
  rw [← hb1]
  have Hb1 := Lib.hid hb1
  have h2 : ((U1.drewN nq).setCell ⟨B, 1, none⟩ (.int .u64 b1)).heap[B]? = some (.cells #[.int .u64 a1, .int .u64 b1, .int .u64 c, .int .u64 d] 114) := obj_set h1 1 _
  have F2 := Lib.hid ((F1.out.drewN nq).setCell (p := ⟨B, 1, none⟩) (fun _ => Nat.le_refl _) (.int .u64 b1))
  have HR2 : Hid (((U1.drewN nq).setCell ⟨B, 1, none⟩ (.int .u64 b1)).heap[B + 1]? = some (.cells #[.int .u64 0, .int .u64 0, .int .u64 0, .int .u64 0] 114)) := Lib.hid (set_other HR1.out (by omega) _)
  generalize (U1.drewN nq).setCell ⟨B, 1, none⟩ (.int .u64 b1) = U2 at *
  clear hb1 h1 F1 HR1
  clear q0 q1 q2 q3 fz0 fz1 fz2 fz3
  have q0 := cell_obj h2 0 (.int .u64 a1) rfl
  have fz0 := obj_frozen h2 0
  have q1 := cell_obj h2 1 (.int .u64 b1) rfl
  have fz1 := obj_frozen h2 1
  have q2 := cell_obj h2 2 (.int .u64 c) rfl
  have fz2 := obj_frozen h2 2
  have q3 := cell_obj h2 3 (.int .u64 d) rfl
  have fz3 := obj_frozen h2 3
  go_wp2_with (go_at_call 75; refine (rTurn _ 32 _ (by omega) (by omega)).mono ?_; rintro e w' ⟨rfl, mq, rfl⟩)
  obtain ⟨a2, ha2⟩ : ∃ v : Int, v = rotU a1 32 := ⟨_, rfl⟩
  rw [← ha2]
  have Ha2 := Lib.hid ha2
  have h3 : ((U2.drewN mq).setCell ⟨B, 0, none⟩ (.int .u64 a2)).heap[B]? = some (.cells #[.int .u64 a2, .int .u64 b1, .int .u64 c, .int .u64 d] 114) := obj_set h2 0 _
  have F3 := Lib.hid ((F2.out.drewN mq).setCell (p := ⟨B, 0, none⟩) (fun _ => Nat.le_refl _) (.int .u64 a2))
  have HR3 : Hid (((U2.drewN mq).setCell ⟨B, 0, none⟩ (.int .u64 a2)).heap[B + 1]? = some (.cells #[.int .u64 0, .int .u64 0, .int .u64 0, .int .u64 0] 114)) := Lib.hid (set_other HR2.out (by omega) _)
  generalize (U2.drewN mq).setCell ⟨B, 0, none⟩ (.int .u64 a2) = U3 at *
  clear ha2 h2 F2 HR2
  obtain ⟨c1, hc1⟩ : ∃ v : Int, v = IntKind.u64.wrap (c + d) := ⟨_, rfl⟩
  rw [← hc1]
  have Hc1 := Lib.hid hc1
  have h4 : ((U3).setCell ⟨B, 2, none⟩ (.int .u64 c1)).heap[B]? = some (.cells #[.int .u64 a2, .int .u64 b1, .int .u64 c1, .int .u64 d] 114) := obj_set h3 2 _
  have F4 := Lib.hid ((F3.out).setCell (p := ⟨B, 2, none⟩) (fun _ => Nat.le_refl _) (.int .u64 c1))
  have HR4 : Hid (((U3).setCell ⟨B, 2, none⟩ (.int .u64 c1)).heap[B + 1]? = some (.cells #[.int .u64 0, .int .u64 0, .int .u64 0, .int .u64 0] 114)) := Lib.hid (set_other HR3.out (by omega) _)
  generalize (U3).setCell ⟨B, 2, none⟩ (.int .u64 c1) = U4 at *
  clear hc1 h3 F3 HR3
  clear q0 q1 q2 q3 fz0 fz1 fz2 fz3
  have q0 := cell_obj h4 0 (.int .u64 a2) rfl
  have fz0 := obj_frozen h4 0
  have q1 := cell_obj h4 1 (.int .u64 b1) rfl
  have fz1 := obj_frozen h4 1
  have q2 := cell_obj h4 2 (.int .u64 c1) rfl
  have fz2 := obj_frozen h4 2
  have q3 := cell_obj h4 3 (.int .u64 d) rfl
  have fz3 := obj_frozen h4 3
  refine wp_region_quiet_tail 7 (by kernel_rfl) (by kernel_rfl) ?_
  simp only [List.take_succ_cons, List.take_zero, List.drop_succ_cons, List.drop_zero, List.map_cons, List.map_nil, List.cons_append, List.nil_append, idle]
  repeat (go_big_quiet_step ((go_at_call 75; exact rTurn2 _ 16 _ (by omega) (by omega) _)))
  refine wpQuiet_nil ?_
  intro nq
  go_wp2_with fail
  obtain ⟨d1, hd1⟩ : ∃ v : Int, v = bits .xor .u64 (rotU d 16) c1 := ⟨_, rfl⟩
  rw [← hd1]
  have Hd1 := Lib.hid hd1
  have h5 : ((U4.drewN nq).setCell ⟨B, 3, none⟩ (.int .u64 d1)).heap[B]? = some (.cells #[.int .u64 a2, .int .u64 b1, .int .u64 c1, .int .u64 d1] 114) := obj_set h4 3 _
  have F5 := Lib.hid ((F4.out.drewN nq).setCell (p := ⟨B, 3, none⟩) (fun _ => Nat.le_refl _) (.int .u64 d1))
  have HR5 : Hid (((U4.drewN nq).setCell ⟨B, 3, none⟩ (.int .u64 d1)).heap[B + 1]? = some (.cells #[.int .u64 0, .int .u64 0, .int .u64 0, .int .u64 0] 114)) := Lib.hid (set_other HR4.out (by omega) _)
  generalize (U4.drewN nq).setCell ⟨B, 3, none⟩ (.int .u64 d1) = U5 at *
  clear hd1 h4 F4 HR4
  clear q0 q1 q2 q3 fz0 fz1 fz2 fz3
  have q0 := cell_obj h5 0 (.int .u64 a2) rfl
  have fz0 := obj_frozen h5 0
  have q1 := cell_obj h5 1 (.int .u64 b1) rfl
  have fz1 := obj_frozen h5 1
  have q2 := cell_obj h5 2 (.int .u64 c1) rfl
  have fz2 := obj_frozen h5 2
  have q3 := cell_obj h5 3 (.int .u64 d1) rfl
  have fz3 := obj_frozen h5 3
  go_wp2_with fail
  obtain ⟨a3, ha3⟩ : ∃ v : Int, v = IntKind.u64.wrap (a2 + d1) := ⟨_, rfl⟩
  rw [← ha3]
  have Ha3 := Lib.hid ha3
  have h6 : ((U5).setCell ⟨B, 0, none⟩ (.int .u64 a3)).heap[B]? = some (.cells #[.int .u64 a3, .int .u64 b1, .int .u64 c1, .int .u64 d1] 114) := obj_set h5 0 _
  have F6 := Lib.hid ((F5.out).setCell (p := ⟨B, 0, none⟩) (fun _ => Nat.le_refl _) (.int .u64 a3))
  have HR6 : Hid (((U5).setCell ⟨B, 0, none⟩ (.int .u64 a3)).heap[B + 1]? = some (.cells #[.int .u64 0, .int .u64 0, .int .u64 0, .int .u64 0] 114)) := Lib.hid (set_other HR5.out (by omega) _)
  generalize (U5).setCell ⟨B, 0, none⟩ (.int .u64 a3) = U6 at *
  clear ha3 h5 F5 HR5
  clear q0 q1 q2 q3 fz0 fz1 fz2 fz3
  have q0 := cell_obj h6 0 (.int .u64 a3) rfl
  have fz0 := obj_frozen h6 0
  have q1 := cell_obj h6 1 (.int .u64 b1) rfl
  have fz1 := obj_frozen h6 1
  have q2 := cell_obj h6 2 (.int .u64 c1) rfl
  have fz2 := obj_frozen h6 2
  have q3 := cell_obj h6 3 (.int .u64 d1) rfl
  have fz3 := obj_frozen h6 3
  refine wp_region_quiet_tail 7 (by kernel_rfl) (by kernel_rfl) ?_
  simp only [List.take_succ_cons, List.take_zero, List.drop_succ_cons, List.drop_zero, List.map_cons, List.map_nil, List.cons_append, List.nil_append, idle]
  repeat (go_big_quiet_step ((go_at_call 75; exact rTurn2 _ 21 _ (by omega) (by omega) _)))
  refine wpQuiet_nil ?_
  intro nq
  go_wp2_with fail
  obtain ⟨d2, hd2⟩ : ∃ v : Int, v = bits .xor .u64 (rotU d1 21) a3 := ⟨_, rfl⟩
  rw [← hd2]
  have Hd2 := Lib.hid hd2
  have h7 : ((U6.drewN nq).setCell ⟨B, 3, none⟩ (.int .u64 d2)).heap[B]? = some (.cells #[.int .u64 a3, .int .u64 b1, .int .u64 c1, .int .u64 d2] 114) := obj_set h6 3 _
  have F7 := Lib.hid ((F6.out.drewN nq).setCell (p := ⟨B, 3, none⟩) (fun _ => Nat.le_refl _) (.int .u64 d2))
  have HR7 : Hid (((U6.drewN nq).setCell ⟨B, 3, none⟩ (.int .u64 d2)).heap[B + 1]? = some (.cells #[.int .u64 0, .int .u64 0, .int .u64 0, .int .u64 0] 114)) := Lib.hid (set_other HR6.out (by omega) _)
  generalize (U6.drewN nq).setCell ⟨B, 3, none⟩ (.int .u64 d2) = U7 at *
  clear hd2 h6 F6 HR6
  clear q0 q1 q2 q3 fz0 fz1 fz2 fz3
  have q0 := cell_obj h7 0 (.int .u64 a3) rfl
  have fz0 := obj_frozen h7 0
  have q1 := cell_obj h7 1 (.int .u64 b1) rfl
  have fz1 := obj_frozen h7 1
  have q2 := cell_obj h7 2 (.int .u64 c1) rfl
  have fz2 := obj_frozen h7 2
  have q3 := cell_obj h7 3 (.int .u64 d2) rfl
  have fz3 := obj_frozen h7 3
  go_wp2_with fail
  obtain ⟨c2, hc2⟩ : ∃ v : Int, v = IntKind.u64.wrap (c1 + b1) := ⟨_, rfl⟩
  rw [← hc2]
  have Hc2 := Lib.hid hc2
  have h8 : ((U7).setCell ⟨B, 2, none⟩ (.int .u64 c2)).heap[B]? = some (.cells #[.int .u64 a3, .int .u64 b1, .int .u64 c2, .int .u64 d2] 114) := obj_set h7 2 _
  have F8 := Lib.hid ((F7.out).setCell (p := ⟨B, 2, none⟩) (fun _ => Nat.le_refl _) (.int .u64 c2))
  have HR8 : Hid (((U7).setCell ⟨B, 2, none⟩ (.int .u64 c2)).heap[B + 1]? = some (.cells #[.int .u64 0, .int .u64 0, .int .u64 0, .int .u64 0] 114)) := Lib.hid (set_other HR7.out (by omega) _)
  generalize (U7).setCell ⟨B, 2, none⟩ (.int .u64 c2) = U8 at *
  clear hc2 h7 F7 HR7
  clear q0 q1 q2 q3 fz0 fz1 fz2 fz3
  have q0 := cell_obj h8 0 (.int .u64 a3) rfl
  have fz0 := obj_frozen h8 0
  have q1 := cell_obj h8 1 (.int .u64 b1) rfl
  have fz1 := obj_frozen h8 1
  have q2 := cell_obj h8 2 (.int .u64 c2) rfl
  have fz2 := obj_frozen h8 2
  have q3 := cell_obj h8 3 (.int .u64 d2) rfl
  have fz3 := obj_frozen h8 3
  refine wp_region_quiet_tail 7 (by kernel_rfl) (by kernel_rfl) ?_
  simp only [List.take_succ_cons, List.take_zero, List.drop_succ_cons, List.drop_zero, List.map_cons, List.map_nil, List.cons_append, List.nil_append, idle]
  repeat (go_big_quiet_step ((go_at_call 75; exact rTurn2 _ 17 _ (by omega) (by omega) _)))
  refine wpQuiet_nil ?_
  intro nq
  go_wp2_with fail
  obtain ⟨b2, hb2⟩ : ∃ v : Int, v = bits .xor .u64 (rotU b1 17) c2 := ⟨_, rfl⟩
  rw [← hb2]
  have Hb2 := Lib.hid hb2
  have h9 : ((U8.drewN nq).setCell ⟨B, 1, none⟩ (.int .u64 b2)).heap[B]? = some (.cells #[.int .u64 a3, .int .u64 b2, .int .u64 c2, .int .u64 d2] 114) := obj_set h8 1 _
  have F9 := Lib.hid ((F8.out.drewN nq).setCell (p := ⟨B, 1, none⟩) (fun _ => Nat.le_refl _) (.int .u64 b2))
  have HR9 : Hid (((U8.drewN nq).setCell ⟨B, 1, none⟩ (.int .u64 b2)).heap[B + 1]? = some (.cells #[.int .u64 0, .int .u64 0, .int .u64 0, .int .u64 0] 114)) := Lib.hid (set_other HR8.out (by omega) _)
  generalize (U8.drewN nq).setCell ⟨B, 1, none⟩ (.int .u64 b2) = U9 at *
  clear hb2 h8 F8 HR8
  clear q0 q1 q2 q3 fz0 fz1 fz2 fz3
  have q0 := cell_obj h9 0 (.int .u64 a3) rfl
  have fz0 := obj_frozen h9 0
  have q1 := cell_obj h9 1 (.int .u64 b2) rfl
  have fz1 := obj_frozen h9 1
  have q2 := cell_obj h9 2 (.int .u64 c2) rfl
  have fz2 := obj_frozen h9 2
  have q3 := cell_obj h9 3 (.int .u64 d2) rfl
  have fz3 := obj_frozen h9 3
  have hRR := HR9.out
  have p0 := cell_obj hRR 0 (.int .u64 0) rfl
  have fp0 := obj_frozen hRR 0
  have p1 := cell_obj hRR 1 (.int .u64 0) rfl
  have fp1 := obj_frozen hRR 1
  have p2 := cell_obj hRR 2 (.int .u64 0) rfl
  have fp2 := obj_frozen hRR 2
  have p3 := cell_obj hRR 3 (.int .u64 0) rfl
  have fp3 := obj_frozen hRR 3
  clear hRR
  go_wp2_with (go_at_call 75; refine (rTurn _ 32 _ (by omega) (by omega)).mono ?_; rintro e w' ⟨rfl, mq, rfl⟩)
  obtain ⟨c3, hc3⟩ : ∃ v : Int, v = rotU c2 32 := ⟨_, rfl⟩
  rw [← hc3]
  have Hc3 := Lib.hid hc3
  have hE0 := obj_set (obj_set (obj_set (obj_set (set_other (HR9.out : (U9.drewN mq).heap[B + 1]? = _) (g := B) (by omega) (j := 2) (.int .u64 c3)) 0 (.int .u64 a3)) 1 (.int .u64 b2)) 2 (.int .u64 c3)) 3 (.int .u64 d2)
  simp only [List.setIfInBounds_toArray, List.set_cons_zero, List.set_cons_succ] at hE0
  have hE : ((((((U9.drewN mq).setCell ⟨B, 2, none⟩ (.int .u64 c3)).setCell ⟨B + 1, 0, none⟩ (.int .u64 a3)).setCell ⟨B + 1, 1, none⟩ (.int .u64 b2)).setCell ⟨B + 1, 2, none⟩ (.int .u64 c3)).setCell ⟨B + 1, 3, none⟩ (.int .u64 d2)).heap[B + 1]? = some (.cells #[.int .u64 a3, .int .u64 b2, .int .u64 c3, .int .u64 d2] 114) := hE0
  clear hE0
  have FE : Fr (fun b => B ≤ b) w (((((((U9.drewN mq).setCell ⟨B, 2, none⟩ (.int .u64 c3)).setCell ⟨B + 1, 0, none⟩ (.int .u64 a3)).setCell ⟨B + 1, 1, none⟩ (.int .u64 b2)).setCell ⟨B + 1, 2, none⟩ (.int .u64 c3)).setCell ⟨B + 1, 3, none⟩ (.int .u64 d2))) :=
    (((((F9.out.drewN mq).setCell (p := ⟨B, 2, none⟩) (fun _ => Nat.le_refl _) _).setCell (p := ⟨B + 1, 0, none⟩) (fun _ => Nat.le_succ _) _).setCell (p := ⟨B + 1, 1, none⟩) (fun _ => Nat.le_succ _) _).setCell (p := ⟨B + 1, 2, none⟩) (fun _ => Nat.le_succ _) _).setCell (p := ⟨B + 1, 3, none⟩) (fun _ => Nat.le_succ _) _
  clear p0 p1 p2 p3 fp0 fp1 fp2 fp3 q0 q1 q2 q3 fz0 fz1 fz2 fz3 hc3 h9 F9 HR9
  have HFE := Lib.hid FE
  generalize ((((((U9.drewN mq).setCell ⟨B, 2, none⟩ (.int .u64 c3)).setCell ⟨B + 1, 0, none⟩ (.int .u64 a3)).setCell ⟨B + 1, 1, none⟩ (.int .u64 b2)).setCell ⟨B + 1, 2, none⟩ (.int .u64 c3)).setCell ⟨B + 1, 3, none⟩ (.int .u64 d2)) = E at *
  clear FE
  try simp only [Exit.inBlock, Exit.then]
  refine bodyPost_ret (v := .agg #[.int .u64 a3, .int .u64 b2, .int .u64 c3, .int .u64 d2]) ?_ rfl ?_
  · have p0 := cell_obj hE 0 (.int .u64 a3) rfl
    have p1 := cell_obj hE 1 (.int .u64 b2) rfl
    have p2 := cell_obj hE 2 (.int .u64 c3) rfl
    have p3 := cell_obj hE 3 (.int .u64 d2) rfl
    simp [results, Try.results59, go_sem, p0, p1, p2, p3]
  refine ⟨ret_val ?_, HFE.out.toBelow (fun b e => by rw [HBB.out]; exact e) (Nat.le_refl _)⟩
  unfold rnd
  simp only [← Ha1.out, ← Hb1.out, ← Ha2.out, ← Hc1.out, ← Hd1.out, ← Ha3.out, ← Hd2.out, ← Hc2.out, ← Hb2.out, ← Hc3.out]
end Go.Proofs.Ytakjiicnbocjeaa
