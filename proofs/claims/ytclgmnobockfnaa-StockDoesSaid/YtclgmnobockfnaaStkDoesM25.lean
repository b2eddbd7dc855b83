/- entrepotref07: move. -/
import Derived.Test.YtclgmnobockfnaaStkDoesM18
namespace Go.Proofs.Ytclgmnobockfnaa
open Go.RowKit Go.Maps
/-- How many there are of what a kind takes (-1: it takes from none). -/
def haveF (k : Int) (r : SR) : Int := match (roadF k).1 with | none => -1 | some i => r.get i
set_option maxRecDepth 100000 in
set_option maxHeartbeats 4000000 in
theorem r7Move0 (w : World) (g : Str) (f0 f1 f2 f3 f4 f5 f6 f7 f8 f9 f10 n : Int) (k : Int) (hk : ¬ (1 ≤ k ∧ k ≤ 11)) :
    Calls Try.prog 61 #[.int .i64 k, .agg #[vS g, .int .i64 f0, .int .i64 f1, .int .i64 f2, .int .i64 f3, .int .i64 f4, .int .i64 f5, .int .i64 f6, .int .i64 f7, .int .i64 f8, .int .i64 f9, .int .i64 f10], .int .i64 n] w fun e w' => e = .returned (.tuple #[.agg (rowV g (SR.move ⟨f0, f1, f2, f3, f4, f5, f6, f7, f8, f9, f10⟩ k n)), .int .i64 (haveF k ⟨f0, f1, f2, f3, f4, f5, f6, f7, f8, f9, f10⟩)]) ∧ Fr (fun _ => False) w w' := by
  obtain ⟨R, hR⟩ : ∃ R, Ending.returned (.tuple #[.agg (rowV g (SR.move ⟨f0, f1, f2, f3, f4, f5, f6, f7, f8, f9, f10⟩ k n)), .int .i64 (haveF k ⟨f0, f1, f2, f3, f4, f5, f6, f7, f8, f9, f10⟩)]) = R := ⟨_, rfl⟩
  rw [hR]
  have HR := Lib.hid hR
  clear hR
  have b1 : (k == 1) = false := by simp; omega
  have b2 : (k == 2) = false := by simp; omega
  have b3 : (k == 3) = false := by simp; omega
  have b4 : (k == 4) = false := by simp; omega
  have b5 : (k == 5) = false := by simp; omega
  have b6 : (k == 6) = false := by simp; omega
  have b7 : (k == 7) = false := by simp; omega
  have b8 : (k == 8) = false := by simp; omega
  have b9 : (k == 9) = false := by simp; omega
  have b10 : (k == 10) = false := by simp; omega
  have b11 : (k == 11) = false := by simp; omega
  have e0 : Hid (roadF k = (none, none, none)) := Lib.hid (by unfold roadF; rw [if_neg (by omega), if_neg (by omega), if_neg (by omega), if_neg (by omega), if_neg (by omega), if_neg (by omega), if_neg (by omega), if_neg (by omega), if_neg (by omega), if_neg (by omega), if_neg (by omega)])
  clear hk
  go_enter Try.func61, Try.ntmps61
  go_wp2_with fail
  refine bodyPost_ret (v := .tuple #[.agg #[vS g, .int .i64 f0, .int .i64 f1, .int .i64 f2, .int .i64 f3, .int .i64 f4, .int .i64 f5, .int .i64 f6, .int .i64 f7, .int .i64 f8, .int .i64 f9, .int .i64 f10], .int .i64 (-1)]) (by simp [results, Try.results61, go_sem]) rfl ⟨?_, ((Fr.refl _ w).alloc _).alloc _⟩
  rw [← HR.out]
  unfold haveF SR.move
  rw [e0.out]
  rfl
set_option maxRecDepth 100000 in
set_option maxHeartbeats 4000000 in
theorem r7Move1 (w : World) (g : Str) (f0 f1 f2 f3 f4 f5 f6 f7 f8 f9 f10 n : Int) (u0 : IntKind.i64.wrap (f0 + n) = f0 + n) (u4 : IntKind.i64.wrap (f4 + n) = f4 + n) :
    Calls Try.prog 61 #[.int .i64 (1), .agg #[vS g, .int .i64 f0, .int .i64 f1, .int .i64 f2, .int .i64 f3, .int .i64 f4, .int .i64 f5, .int .i64 f6, .int .i64 f7, .int .i64 f8, .int .i64 f9, .int .i64 f10], .int .i64 n] w fun e w' => e = .returned (.tuple #[.agg (rowV g (SR.move ⟨f0, f1, f2, f3, f4, f5, f6, f7, f8, f9, f10⟩ 1 n)), .int .i64 (haveF 1 ⟨f0, f1, f2, f3, f4, f5, f6, f7, f8, f9, f10⟩)]) ∧ Fr (fun _ => False) w w' := by
  obtain ⟨R, hR⟩ : ∃ R, Ending.returned (.tuple #[.agg (rowV g (SR.move ⟨f0, f1, f2, f3, f4, f5, f6, f7, f8, f9, f10⟩ 1 n)), .int .i64 (haveF 1 ⟨f0, f1, f2, f3, f4, f5, f6, f7, f8, f9, f10⟩)]) = R := ⟨_, rfl⟩
  rw [hR]
  have HR := Lib.hid hR
  clear hR
  go_enter Try.func61, Try.ntmps61
  go_wp2_with fail
  refine bodyPost_ret (v := .tuple #[.agg #[vS g, .int .i64 (f0 + n), .int .i64 f1, .int .i64 f2, .int .i64 f3, .int .i64 (f4 + n), .int .i64 f5, .int .i64 f6, .int .i64 f7, .int .i64 f8, .int .i64 f9, .int .i64 f10], .int .i64 (-1)]) (by simp [results, Try.results61, go_sem]) rfl ⟨?_, ((Fr.refl _ w).alloc _).alloc _⟩
  rw [← HR.out]
  rfl
set_option maxRecDepth 100000 in
set_option maxHeartbeats 4000000 in
theorem r7Move2 (w : World) (g : Str) (f0 f1 f2 f3 f4 f5 f6 f7 f8 f9 f10 n : Int) (u1 : IntKind.i64.wrap (f1 + n) = f1 + n) (v0 : IntKind.i64.wrap (f0 - n) = f0 - n) :
    Calls Try.prog 61 #[.int .i64 (2), .agg #[vS g, .int .i64 f0, .int .i64 f1, .int .i64 f2, .int .i64 f3, .int .i64 f4, .int .i64 f5, .int .i64 f6, .int .i64 f7, .int .i64 f8, .int .i64 f9, .int .i64 f10], .int .i64 n] w fun e w' => e = .returned (.tuple #[.agg (rowV g (SR.move ⟨f0, f1, f2, f3, f4, f5, f6, f7, f8, f9, f10⟩ 2 n)), .int .i64 (haveF 2 ⟨f0, f1, f2, f3, f4, f5, f6, f7, f8, f9, f10⟩)]) ∧ Fr (fun _ => False) w w' := by
  obtain ⟨R, hR⟩ : ∃ R, Ending.returned (.tuple #[.agg (rowV g (SR.move ⟨f0, f1, f2, f3, f4, f5, f6, f7, f8, f9, f10⟩ 2 n)), .int .i64 (haveF 2 ⟨f0, f1, f2, f3, f4, f5, f6, f7, f8, f9, f10⟩)]) = R := ⟨_, rfl⟩
  rw [hR]
  have HR := Lib.hid hR
  clear hR
  go_enter Try.func61, Try.ntmps61
  go_wp2_with fail
  refine bodyPost_ret (v := .tuple #[.agg #[vS g, .int .i64 (f0 - n), .int .i64 (f1 + n), .int .i64 f2, .int .i64 f3, .int .i64 f4, .int .i64 f5, .int .i64 f6, .int .i64 f7, .int .i64 f8, .int .i64 f9, .int .i64 f10], .int .i64 f0]) (by simp [results, Try.results61, go_sem]) rfl ⟨?_, ((Fr.refl _ w).alloc _).alloc _⟩
  rw [← HR.out]
  rfl
set_option maxRecDepth 100000 in
set_option maxHeartbeats 4000000 in
theorem r7Move3 (w : World) (g : Str) (f0 f1 f2 f3 f4 f5 f6 f7 f8 f9 f10 n : Int) (u0 : IntKind.i64.wrap (f0 + n) = f0 + n) (v1 : IntKind.i64.wrap (f1 - n) = f1 - n) :
    Calls Try.prog 61 #[.int .i64 (3), .agg #[vS g, .int .i64 f0, .int .i64 f1, .int .i64 f2, .int .i64 f3, .int .i64 f4, .int .i64 f5, .int .i64 f6, .int .i64 f7, .int .i64 f8, .int .i64 f9, .int .i64 f10], .int .i64 n] w fun e w' => e = .returned (.tuple #[.agg (rowV g (SR.move ⟨f0, f1, f2, f3, f4, f5, f6, f7, f8, f9, f10⟩ 3 n)), .int .i64 (haveF 3 ⟨f0, f1, f2, f3, f4, f5, f6, f7, f8, f9, f10⟩)]) ∧ Fr (fun _ => False) w w' := by
  obtain ⟨R, hR⟩ : ∃ R, Ending.returned (.tuple #[.agg (rowV g (SR.move ⟨f0, f1, f2, f3, f4, f5, f6, f7, f8, f9, f10⟩ 3 n)), .int .i64 (haveF 3 ⟨f0, f1, f2, f3, f4, f5, f6, f7, f8, f9, f10⟩)]) = R := ⟨_, rfl⟩
  rw [hR]
  have HR := Lib.hid hR
  clear hR
  go_enter Try.func61, Try.ntmps61
  go_wp2_with fail
  refine bodyPost_ret (v := .tuple #[.agg #[vS g, .int .i64 (f0 + n), .int .i64 (f1 - n), .int .i64 f2, .int .i64 f3, .int .i64 f4, .int .i64 f5, .int .i64 f6, .int .i64 f7, .int .i64 f8, .int .i64 f9, .int .i64 f10], .int .i64 f1]) (by simp [results, Try.results61, go_sem]) rfl ⟨?_, ((Fr.refl _ w).alloc _).alloc _⟩
  rw [← HR.out]
  rfl
set_option maxRecDepth 100000 in
set_option maxHeartbeats 4000000 in
theorem r7Move4 (w : World) (g : Str) (f0 f1 f2 f3 f4 f5 f6 f7 f8 f9 f10 n : Int) (u2 : IntKind.i64.wrap (f2 + n) = f2 + n) (v1 : IntKind.i64.wrap (f1 - n) = f1 - n) :
    Calls Try.prog 61 #[.int .i64 (4), .agg #[vS g, .int .i64 f0, .int .i64 f1, .int .i64 f2, .int .i64 f3, .int .i64 f4, .int .i64 f5, .int .i64 f6, .int .i64 f7, .int .i64 f8, .int .i64 f9, .int .i64 f10], .int .i64 n] w fun e w' => e = .returned (.tuple #[.agg (rowV g (SR.move ⟨f0, f1, f2, f3, f4, f5, f6, f7, f8, f9, f10⟩ 4 n)), .int .i64 (haveF 4 ⟨f0, f1, f2, f3, f4, f5, f6, f7, f8, f9, f10⟩)]) ∧ Fr (fun _ => False) w w' := by
  obtain ⟨R, hR⟩ : ∃ R, Ending.returned (.tuple #[.agg (rowV g (SR.move ⟨f0, f1, f2, f3, f4, f5, f6, f7, f8, f9, f10⟩ 4 n)), .int .i64 (haveF 4 ⟨f0, f1, f2, f3, f4, f5, f6, f7, f8, f9, f10⟩)]) = R := ⟨_, rfl⟩
  rw [hR]
  have HR := Lib.hid hR
  clear hR
  go_enter Try.func61, Try.ntmps61
  go_wp2_with fail
  refine bodyPost_ret (v := .tuple #[.agg #[vS g, .int .i64 f0, .int .i64 (f1 - n), .int .i64 (f2 + n), .int .i64 f3, .int .i64 f4, .int .i64 f5, .int .i64 f6, .int .i64 f7, .int .i64 f8, .int .i64 f9, .int .i64 f10], .int .i64 f1]) (by simp [results, Try.results61, go_sem]) rfl ⟨?_, ((Fr.refl _ w).alloc _).alloc _⟩
  rw [← HR.out]
  rfl
set_option maxRecDepth 100000 in
set_option maxHeartbeats 4000000 in
theorem r7Move5 (w : World) (g : Str) (f0 f1 f2 f3 f4 f5 f6 f7 f8 f9 f10 n : Int) (u1 : IntKind.i64.wrap (f1 + n) = f1 + n) (v2 : IntKind.i64.wrap (f2 - n) = f2 - n) :
    Calls Try.prog 61 #[.int .i64 (5), .agg #[vS g, .int .i64 f0, .int .i64 f1, .int .i64 f2, .int .i64 f3, .int .i64 f4, .int .i64 f5, .int .i64 f6, .int .i64 f7, .int .i64 f8, .int .i64 f9, .int .i64 f10], .int .i64 n] w fun e w' => e = .returned (.tuple #[.agg (rowV g (SR.move ⟨f0, f1, f2, f3, f4, f5, f6, f7, f8, f9, f10⟩ 5 n)), .int .i64 (haveF 5 ⟨f0, f1, f2, f3, f4, f5, f6, f7, f8, f9, f10⟩)]) ∧ Fr (fun _ => False) w w' := by
  obtain ⟨R, hR⟩ : ∃ R, Ending.returned (.tuple #[.agg (rowV g (SR.move ⟨f0, f1, f2, f3, f4, f5, f6, f7, f8, f9, f10⟩ 5 n)), .int .i64 (haveF 5 ⟨f0, f1, f2, f3, f4, f5, f6, f7, f8, f9, f10⟩)]) = R := ⟨_, rfl⟩
  rw [hR]
  have HR := Lib.hid hR
  clear hR
  go_enter Try.func61, Try.ntmps61
  go_wp2_with fail
  refine bodyPost_ret (v := .tuple #[.agg #[vS g, .int .i64 f0, .int .i64 (f1 + n), .int .i64 (f2 - n), .int .i64 f3, .int .i64 f4, .int .i64 f5, .int .i64 f6, .int .i64 f7, .int .i64 f8, .int .i64 f9, .int .i64 f10], .int .i64 f2]) (by simp [results, Try.results61, go_sem]) rfl ⟨?_, ((Fr.refl _ w).alloc _).alloc _⟩
  rw [← HR.out]
  rfl
set_option maxRecDepth 100000 in
set_option maxHeartbeats 4000000 in
theorem r7Move6 (w : World) (g : Str) (f0 f1 f2 f3 f4 f5 f6 f7 f8 f9 f10 n : Int) (u8 : IntKind.i64.wrap (f8 + n) = f8 + n) (v2 : IntKind.i64.wrap (f2 - n) = f2 - n) :
    Calls Try.prog 61 #[.int .i64 (6), .agg #[vS g, .int .i64 f0, .int .i64 f1, .int .i64 f2, .int .i64 f3, .int .i64 f4, .int .i64 f5, .int .i64 f6, .int .i64 f7, .int .i64 f8, .int .i64 f9, .int .i64 f10], .int .i64 n] w fun e w' => e = .returned (.tuple #[.agg (rowV g (SR.move ⟨f0, f1, f2, f3, f4, f5, f6, f7, f8, f9, f10⟩ 6 n)), .int .i64 (haveF 6 ⟨f0, f1, f2, f3, f4, f5, f6, f7, f8, f9, f10⟩)]) ∧ Fr (fun _ => False) w w' := by
  obtain ⟨R, hR⟩ : ∃ R, Ending.returned (.tuple #[.agg (rowV g (SR.move ⟨f0, f1, f2, f3, f4, f5, f6, f7, f8, f9, f10⟩ 6 n)), .int .i64 (haveF 6 ⟨f0, f1, f2, f3, f4, f5, f6, f7, f8, f9, f10⟩)]) = R := ⟨_, rfl⟩
  rw [hR]
  have HR := Lib.hid hR
  clear hR
  go_enter Try.func61, Try.ntmps61
  go_wp2_with fail
  refine bodyPost_ret (v := .tuple #[.agg #[vS g, .int .i64 f0, .int .i64 f1, .int .i64 (f2 - n), .int .i64 f3, .int .i64 f4, .int .i64 f5, .int .i64 f6, .int .i64 f7, .int .i64 (f8 + n), .int .i64 f9, .int .i64 f10], .int .i64 f2]) (by simp [results, Try.results61, go_sem]) rfl ⟨?_, ((Fr.refl _ w).alloc _).alloc _⟩
  rw [← HR.out]
  rfl
set_option maxRecDepth 100000 in
set_option maxHeartbeats 4000000 in
theorem r7Move7 (w : World) (g : Str) (f0 f1 f2 f3 f4 f5 f6 f7 f8 f9 f10 n : Int) (u3 : IntKind.i64.wrap (f3 + n) = f3 + n) (u5 : IntKind.i64.wrap (f5 + n) = f5 + n) :
    Calls Try.prog 61 #[.int .i64 (7), .agg #[vS g, .int .i64 f0, .int .i64 f1, .int .i64 f2, .int .i64 f3, .int .i64 f4, .int .i64 f5, .int .i64 f6, .int .i64 f7, .int .i64 f8, .int .i64 f9, .int .i64 f10], .int .i64 n] w fun e w' => e = .returned (.tuple #[.agg (rowV g (SR.move ⟨f0, f1, f2, f3, f4, f5, f6, f7, f8, f9, f10⟩ 7 n)), .int .i64 (haveF 7 ⟨f0, f1, f2, f3, f4, f5, f6, f7, f8, f9, f10⟩)]) ∧ Fr (fun _ => False) w w' := by
  obtain ⟨R, hR⟩ : ∃ R, Ending.returned (.tuple #[.agg (rowV g (SR.move ⟨f0, f1, f2, f3, f4, f5, f6, f7, f8, f9, f10⟩ 7 n)), .int .i64 (haveF 7 ⟨f0, f1, f2, f3, f4, f5, f6, f7, f8, f9, f10⟩)]) = R := ⟨_, rfl⟩
  rw [hR]
  have HR := Lib.hid hR
  clear hR
  go_enter Try.func61, Try.ntmps61
  go_wp2_with fail
  refine bodyPost_ret (v := .tuple #[.agg #[vS g, .int .i64 f0, .int .i64 f1, .int .i64 f2, .int .i64 (f3 + n), .int .i64 f4, .int .i64 (f5 + n), .int .i64 f6, .int .i64 f7, .int .i64 f8, .int .i64 f9, .int .i64 f10], .int .i64 (-1)]) (by simp [results, Try.results61, go_sem]) rfl ⟨?_, ((Fr.refl _ w).alloc _).alloc _⟩
  rw [← HR.out]
  rfl
set_option maxRecDepth 100000 in
set_option maxHeartbeats 4000000 in
theorem r7Move8 (w : World) (g : Str) (f0 f1 f2 f3 f4 f5 f6 f7 f8 f9 f10 n : Int) (u0 : IntKind.i64.wrap (f0 + n) = f0 + n) (v3 : IntKind.i64.wrap (f3 - n) = f3 - n) :
    Calls Try.prog 61 #[.int .i64 (8), .agg #[vS g, .int .i64 f0, .int .i64 f1, .int .i64 f2, .int .i64 f3, .int .i64 f4, .int .i64 f5, .int .i64 f6, .int .i64 f7, .int .i64 f8, .int .i64 f9, .int .i64 f10], .int .i64 n] w fun e w' => e = .returned (.tuple #[.agg (rowV g (SR.move ⟨f0, f1, f2, f3, f4, f5, f6, f7, f8, f9, f10⟩ 8 n)), .int .i64 (haveF 8 ⟨f0, f1, f2, f3, f4, f5, f6, f7, f8, f9, f10⟩)]) ∧ Fr (fun _ => False) w w' := by
  obtain ⟨R, hR⟩ : ∃ R, Ending.returned (.tuple #[.agg (rowV g (SR.move ⟨f0, f1, f2, f3, f4, f5, f6, f7, f8, f9, f10⟩ 8 n)), .int .i64 (haveF 8 ⟨f0, f1, f2, f3, f4, f5, f6, f7, f8, f9, f10⟩)]) = R := ⟨_, rfl⟩
  rw [hR]
  have HR := Lib.hid hR
  clear hR
  go_enter Try.func61, Try.ntmps61
  go_wp2_with fail
  refine bodyPost_ret (v := .tuple #[.agg #[vS g, .int .i64 (f0 + n), .int .i64 f1, .int .i64 f2, .int .i64 (f3 - n), .int .i64 f4, .int .i64 f5, .int .i64 f6, .int .i64 f7, .int .i64 f8, .int .i64 f9, .int .i64 f10], .int .i64 f3]) (by simp [results, Try.results61, go_sem]) rfl ⟨?_, ((Fr.refl _ w).alloc _).alloc _⟩
  rw [← HR.out]
  rfl
set_option maxRecDepth 100000 in
set_option maxHeartbeats 4000000 in
theorem r7Move9 (w : World) (g : Str) (f0 f1 f2 f3 f4 f5 f6 f7 f8 f9 f10 n : Int) (u9 : IntKind.i64.wrap (f9 + n) = f9 + n) (v3 : IntKind.i64.wrap (f3 - n) = f3 - n) :
    Calls Try.prog 61 #[.int .i64 (9), .agg #[vS g, .int .i64 f0, .int .i64 f1, .int .i64 f2, .int .i64 f3, .int .i64 f4, .int .i64 f5, .int .i64 f6, .int .i64 f7, .int .i64 f8, .int .i64 f9, .int .i64 f10], .int .i64 n] w fun e w' => e = .returned (.tuple #[.agg (rowV g (SR.move ⟨f0, f1, f2, f3, f4, f5, f6, f7, f8, f9, f10⟩ 9 n)), .int .i64 (haveF 9 ⟨f0, f1, f2, f3, f4, f5, f6, f7, f8, f9, f10⟩)]) ∧ Fr (fun _ => False) w w' := by
  obtain ⟨R, hR⟩ : ∃ R, Ending.returned (.tuple #[.agg (rowV g (SR.move ⟨f0, f1, f2, f3, f4, f5, f6, f7, f8, f9, f10⟩ 9 n)), .int .i64 (haveF 9 ⟨f0, f1, f2, f3, f4, f5, f6, f7, f8, f9, f10⟩)]) = R := ⟨_, rfl⟩
  rw [hR]
  have HR := Lib.hid hR
  clear hR
  go_enter Try.func61, Try.ntmps61
  go_wp2_with fail
  refine bodyPost_ret (v := .tuple #[.agg #[vS g, .int .i64 f0, .int .i64 f1, .int .i64 f2, .int .i64 (f3 - n), .int .i64 f4, .int .i64 f5, .int .i64 f6, .int .i64 f7, .int .i64 f8, .int .i64 (f9 + n), .int .i64 f10], .int .i64 f3]) (by simp [results, Try.results61, go_sem]) rfl ⟨?_, ((Fr.refl _ w).alloc _).alloc _⟩
  rw [← HR.out]
  rfl
set_option maxRecDepth 100000 in
set_option maxHeartbeats 4000000 in
theorem r7Move10 (w : World) (g : Str) (f0 f1 f2 f3 f4 f5 f6 f7 f8 f9 f10 n : Int) (u10 : IntKind.i64.wrap (f10 + n) = f10 + n) (v0 : IntKind.i64.wrap (f0 - n) = f0 - n) :
    Calls Try.prog 61 #[.int .i64 (10), .agg #[vS g, .int .i64 f0, .int .i64 f1, .int .i64 f2, .int .i64 f3, .int .i64 f4, .int .i64 f5, .int .i64 f6, .int .i64 f7, .int .i64 f8, .int .i64 f9, .int .i64 f10], .int .i64 n] w fun e w' => e = .returned (.tuple #[.agg (rowV g (SR.move ⟨f0, f1, f2, f3, f4, f5, f6, f7, f8, f9, f10⟩ 10 n)), .int .i64 (haveF 10 ⟨f0, f1, f2, f3, f4, f5, f6, f7, f8, f9, f10⟩)]) ∧ Fr (fun _ => False) w w' := by
  obtain ⟨R, hR⟩ : ∃ R, Ending.returned (.tuple #[.agg (rowV g (SR.move ⟨f0, f1, f2, f3, f4, f5, f6, f7, f8, f9, f10⟩ 10 n)), .int .i64 (haveF 10 ⟨f0, f1, f2, f3, f4, f5, f6, f7, f8, f9, f10⟩)]) = R := ⟨_, rfl⟩
  rw [hR]
  have HR := Lib.hid hR
  clear hR
  go_enter Try.func61, Try.ntmps61
  go_wp2_with fail
  refine bodyPost_ret (v := .tuple #[.agg #[vS g, .int .i64 (f0 - n), .int .i64 f1, .int .i64 f2, .int .i64 f3, .int .i64 f4, .int .i64 f5, .int .i64 f6, .int .i64 f7, .int .i64 f8, .int .i64 f9, .int .i64 (f10 + n)], .int .i64 f0]) (by simp [results, Try.results61, go_sem]) rfl ⟨?_, ((Fr.refl _ w).alloc _).alloc _⟩
  rw [← HR.out]
  rfl
set_option maxRecDepth 100000 in
set_option maxHeartbeats 4000000 in
theorem r7Move11 (w : World) (g : Str) (f0 f1 f2 f3 f4 f5 f6 f7 f8 f9 f10 n : Int) (u0 : IntKind.i64.wrap (f0 + n) = f0 + n) (u7 : IntKind.i64.wrap (f7 + n) = f7 + n) :
    Calls Try.prog 61 #[.int .i64 (11), .agg #[vS g, .int .i64 f0, .int .i64 f1, .int .i64 f2, .int .i64 f3, .int .i64 f4, .int .i64 f5, .int .i64 f6, .int .i64 f7, .int .i64 f8, .int .i64 f9, .int .i64 f10], .int .i64 n] w fun e w' => e = .returned (.tuple #[.agg (rowV g (SR.move ⟨f0, f1, f2, f3, f4, f5, f6, f7, f8, f9, f10⟩ 11 n)), .int .i64 (haveF 11 ⟨f0, f1, f2, f3, f4, f5, f6, f7, f8, f9, f10⟩)]) ∧ Fr (fun _ => False) w w' := by
  obtain ⟨R, hR⟩ : ∃ R, Ending.returned (.tuple #[.agg (rowV g (SR.move ⟨f0, f1, f2, f3, f4, f5, f6, f7, f8, f9, f10⟩ 11 n)), .int .i64 (haveF 11 ⟨f0, f1, f2, f3, f4, f5, f6, f7, f8, f9, f10⟩)]) = R := ⟨_, rfl⟩
  rw [hR]
  have HR := Lib.hid hR
  clear hR
  go_enter Try.func61, Try.ntmps61
  go_wp2_with fail
  refine bodyPost_ret (v := .tuple #[.agg #[vS g, .int .i64 (f0 + n), .int .i64 f1, .int .i64 f2, .int .i64 f3, .int .i64 f4, .int .i64 f5, .int .i64 f6, .int .i64 (f7 + n), .int .i64 f8, .int .i64 f9, .int .i64 f10], .int .i64 (-1)]) (by simp [results, Try.results61, go_sem]) rfl ⟨?_, ((Fr.refl _ w).alloc _).alloc _⟩
  rw [← HR.out]
  rfl
set_option maxHeartbeats 8000000 in
theorem r7Move (w : World) (g : Str) (r : SR) (k n : Int) (hb : SRb r) (hn : 0 ≤ n ∧ n ≤ 1099511627776) :
    Calls Try.prog 61 #[.int .i64 k, .agg (rowV g r), .int .i64 n] w fun e w' => e = .returned (.tuple #[.agg (rowV g (r.move k n)), .int .i64 (haveF k r)]) ∧ Fr (fun _ => False) w w' := by
  obtain ⟨f0, f1, f2, f3, f4, f5, f6, f7, f8, f9, f10⟩ := r
  obtain ⟨a0, a1, a2, a3, c0, c1, c2, c3, c4, c5⟩ := hb
  dsimp only at a0 a1 a2 a3 c0 c1 c2 c3 c4 c5
  have u0 : IntKind.i64.wrap (f0 + n) = f0 + n := by rw [IntKind.wrap_i64]; omega
  have v0 : IntKind.i64.wrap (f0 - n) = f0 - n := by rw [IntKind.wrap_i64]; omega
  have u1 : IntKind.i64.wrap (f1 + n) = f1 + n := by rw [IntKind.wrap_i64]; omega
  have v1 : IntKind.i64.wrap (f1 - n) = f1 - n := by rw [IntKind.wrap_i64]; omega
  have u2 : IntKind.i64.wrap (f2 + n) = f2 + n := by rw [IntKind.wrap_i64]; omega
  have v2 : IntKind.i64.wrap (f2 - n) = f2 - n := by rw [IntKind.wrap_i64]; omega
  have u3 : IntKind.i64.wrap (f3 + n) = f3 + n := by rw [IntKind.wrap_i64]; omega
  have v3 : IntKind.i64.wrap (f3 - n) = f3 - n := by rw [IntKind.wrap_i64]; omega
  have u4 : IntKind.i64.wrap (f4 + n) = f4 + n := by rw [IntKind.wrap_i64]; omega
  have u5 : IntKind.i64.wrap (f5 + n) = f5 + n := by rw [IntKind.wrap_i64]; omega
  have u7 : IntKind.i64.wrap (f7 + n) = f7 + n := by rw [IntKind.wrap_i64]; omega
  have u8 : IntKind.i64.wrap (f8 + n) = f8 + n := by rw [IntKind.wrap_i64]; omega
  have u9 : IntKind.i64.wrap (f9 + n) = f9 + n := by rw [IntKind.wrap_i64]; omega
  have u10 : IntKind.i64.wrap (f10 + n) = f10 + n := by rw [IntKind.wrap_i64]; omega
  by_cases hk : 1 ≤ k ∧ k ≤ 11
  · rcases (by omega : k = 1 ∨ k = 2 ∨ k = 3 ∨ k = 4 ∨ k = 5 ∨ k = 6 ∨ k = 7 ∨ k = 8 ∨ k = 9 ∨ k = 10 ∨ k = 11) with rfl | rfl | rfl | rfl | rfl | rfl | rfl | rfl | rfl | rfl | rfl
    · exact r7Move1 w g f0 f1 f2 f3 f4 f5 f6 f7 f8 f9 f10 n u0 u4
    · exact r7Move2 w g f0 f1 f2 f3 f4 f5 f6 f7 f8 f9 f10 n u1 v0
    · exact r7Move3 w g f0 f1 f2 f3 f4 f5 f6 f7 f8 f9 f10 n u0 v1
    · exact r7Move4 w g f0 f1 f2 f3 f4 f5 f6 f7 f8 f9 f10 n u2 v1
    · exact r7Move5 w g f0 f1 f2 f3 f4 f5 f6 f7 f8 f9 f10 n u1 v2
    · exact r7Move6 w g f0 f1 f2 f3 f4 f5 f6 f7 f8 f9 f10 n u8 v2
    · exact r7Move7 w g f0 f1 f2 f3 f4 f5 f6 f7 f8 f9 f10 n u3 u5
    · exact r7Move8 w g f0 f1 f2 f3 f4 f5 f6 f7 f8 f9 f10 n u0 v3
    · exact r7Move9 w g f0 f1 f2 f3 f4 f5 f6 f7 f8 f9 f10 n u9 v3
    · exact r7Move10 w g f0 f1 f2 f3 f4 f5 f6 f7 f8 f9 f10 n u10 v0
    · exact r7Move11 w g f0 f1 f2 f3 f4 f5 f6 f7 f8 f9 f10 n u0 u7
  · exact r7Move0 w g f0 f1 f2 f3 f4 f5 f6 f7 f8 f9 f10 n k hk
end Go.Proofs.Ytclgmnobockfnaa
