/- ident.Table: at nil; Open. -/
import Derived.Test.YtakjiicnbocjeaaIdG
namespace Go.Proofs.Ytakjiicnbocjeaa
open Go.RowKit Go.Maps
theorem iAsk_no (w : World) (c n : Int) (v : Value) : Calls Try.prog 11 #[.pointer none, .int .i64 c, .int .i64 n, v] w fun e w' => e = .returned (.tuple #[.int .i64 0, Ans.zero.enc]) ∧ Fr (fun _ => False) w w' := by
  unfold Ans.zero Ans.enc
  go_enter Try.func11, Try.ntmps11
  go_wp2_with (go_at_call 24; refine (imade_no _).mono ?_; rintro e w' ⟨rfl, rfl⟩)
  go_returns
  exact ⟨rfl, (Fr.refl _ _).alloc _⟩
theorem iOpen (p : Option Addr) (w : World) : Calls Try.prog 16 #[.pointer p] w fun e w' =>
    e = .returned (.func (.func 31) #[] #[.pointer (some ⟨w.heap.size, 0, none⟩)]) ∧ w' = w.alloc (.cells #[.pointer p] 23) := by
  go_enter Try.func16, Try.ntmps16
  go_wp2
  go_ret
  exact ⟨rfl, rfl⟩
end Go.Proofs.Ytakjiicnbocjeaa
