/- bins: no floor. -/
import Derived.Test.YtlniekobijcanaaGreatBinsRoutesM30
import Derived.Test.YtlniekobijcanaaGreatBinsRoutesM32
import Derived.Test.YtlniekobijcanaaGreatBinsRoutesM12
namespace Go.Proofs.YtlniekobijcanaaGreat
open Go.RowKit Go.Maps
theorem nFind (w : World) (n : Int) : Calls Tryz.prog 39 #[.pointer none, .int .i64 n] w fun e w' => e = .returned (.int .i64 (-1)) ∧ Fr (fun _ => False) w w' := by
  go_enter Tryz.func39, Tryz.ntmps39
  go_wp2_with (go_at_call 57; refine (bMade_no _).mono ?_; rintro e w1 ⟨rfl, rfl⟩)
  go_ret
  exact ⟨rfl, (Fr.refl _ _).alloc _⟩
theorem nMay (w : World) (s : Str) (n : Int) : Calls Tryz.prog 46 #[.pointer none, vS s, .int .i64 n] w fun e w' => e = .returned (.int .i64 6) ∧ Fr (fun _ => False) w w' := by
  go_enter Tryz.func46, Tryz.ntmps46
  go_wp2_with (go_at_call 57; refine (bMade_no _).mono ?_; rintro e w1 ⟨rfl, rfl⟩)
  go_ret
  exact ⟨rfl, Fr.refl _ _⟩
theorem nPut (w : World) (s : Str) (n : Int) : Calls Tryz.prog 19 #[.pointer none, vS s, .int .i64 n] w fun e w' => e = .returned (.tuple #[.slice none 0 0, .int .i64 6]) ∧ Fr (fun _ => False) w w' := by
  go_enter Tryz.func19, Tryz.ntmps19
  go_wp2_with (go_at_call 46; refine (nMay _ _ _).mono ?_; rintro e w1 ⟨rfl, hf⟩)
  go_ret2
  exact ⟨rfl, ((Fr.refl _ _).alloc _).trans hf⟩
theorem nTake (w : World) (s : Str) (n : Int) : Calls Tryz.prog 21 #[.pointer none, vS s, .int .i64 n] w fun e w' => e = .returned (.tuple #[.slice none 0 0, .int .i64 6]) ∧ Fr (fun _ => False) w w' := by
  go_enter Tryz.func21, Tryz.ntmps21
  go_wp2_with (go_at_call 46; refine (nMay _ _ _).mono ?_; rintro e w1 ⟨rfl, hf⟩)
  go_ret2
  exact ⟨rfl, ((Fr.refl _ _).alloc _).trans hf⟩
theorem nCount (w : World) (b : Int) (s : Str) (n : Int) : Calls Tryz.prog 31 #[.pointer none, .int .i64 b, vS s, .int .i64 n] w fun e w' => e = .returned (.tuple #[.int .i64 0, .int .i64 6]) ∧ Fr (fun _ => False) w w' := by
  go_enter Tryz.func31, Tryz.ntmps31
  go_wp2_with (go_at_call 57; refine (bMade_no _).mono ?_; rintro e w1 ⟨rfl, rfl⟩)
  go_ret2
  exact ⟨rfl, Fr.refl _ _⟩
theorem nMove (w : World) (s : Str) (a b n : Int) : Calls Tryz.prog 32 #[.pointer none, vS s, .int .i64 a, .int .i64 b, .int .i64 n] w fun e w' => e = .returned (.int .i64 6) ∧ Fr (fun _ => False) w w' := by
  go_enter Tryz.func32, Tryz.ntmps32
  go_wp2_with (first
    | (go_at_call 39; refine (nFind _ _).mono ?_; rintro e w2 ⟨rfl, hf2⟩; first | have HF := Lib.hid (HF.out.trans hf2) | have HF := Lib.hid hf2)
    | (go_at_call 57; refine (bMade_no _).mono ?_; rintro e w1 ⟨rfl, rfl⟩)
    | (go_at_call 46; refine (nMay _ _ _).mono ?_; rintro e w1 ⟨rfl, hf3⟩; have HF := Lib.hid (HF.out.trans hf3)))
  go_ret
  exact ⟨rfl, HF.out⟩
theorem nOf (w : World) (s : Str) : Calls Tryz.prog 20 #[.pointer none, vS s] w fun e w' => e = .returned (.int .i64 0) ∧ Fr (fun _ => False) w w' := by
  go_enter Tryz.func20, Tryz.ntmps20
  go_wp2_with (go_at_call 57; refine (bMade_no _).mono ?_; rintro e w1 ⟨rfl, rfl⟩)
  go_ret
  exact ⟨rfl, Fr.refl _ _⟩
theorem nIn (w : World) (n : Int) : Calls Tryz.prog 33 #[.pointer none, .int .i64 n] w fun e w' => e = .returned (.slice none 0 0) ∧ Fr (fun _ => False) w w' := by
  go_enter Tryz.func33, Tryz.ntmps33
  go_wp2_with (go_at_call 39; refine (nFind _ _).mono ?_; rintro e w2 ⟨rfl, hf2⟩)
  go_ret
  exact ⟨rfl, hf2⟩
theorem nLeft (w : World) (n : Int) : Calls Tryz.prog 34 #[.pointer none, .int .i64 n] w fun e w' => e = .returned (.int .i64 0) ∧ Fr (fun _ => False) w w' := by
  go_enter Tryz.func34, Tryz.ntmps34
  go_wp2_with (go_at_call 39; refine (nFind _ _).mono ?_; rintro e w2 ⟨rfl, hf2⟩)
  go_ret
  exact ⟨rfl, hf2⟩
theorem nPack (w : World) : Calls Tryz.prog 25 #[.pointer none] w fun e w' => e = .returned (.slice none 0 0) ∧ Fr (fun _ => False) w w' := by
  go_enter Tryz.func25, Tryz.ntmps25
  go_wp2_with (go_at_call 57; refine (bMade_no _).mono ?_; rintro e w1 ⟨rfl, rfl⟩)
  go_ret
  exact ⟨rfl, Fr.refl _ _⟩
end Go.Proofs.YtlniekobijcanaaGreat
