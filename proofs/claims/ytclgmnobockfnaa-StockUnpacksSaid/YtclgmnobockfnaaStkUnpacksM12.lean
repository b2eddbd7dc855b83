/- stock: Unpack: what any bytes are, plainly. -/
import Derived.Test.YtclgmnobockfnaaStkUnpacksM10
import Derived.Test.YtclgmnobockfnaaStkUnpacksM11
namespace Go.Proofs.Ytclgmnobockfnaa
open Go.RowKit Go.Maps
abbrev minI : Int := -9223372036854775808
abbrev maxI : Int := 9223372036854775807
/-- The first k of a row's numbers, taken. -/
def tkNums (t : Tst) : Nat → SR × Tst
  | 0 => (SR.zero, t)
  | k + 1 => ((tkNums t k).1.set k (tk (tkNums t k).2 minI maxI).1, (tk (tkNums t k).2 minI maxI).2)
/-- A row, taken. -/
def tkRow (t : Tst) : Str × SR × Tst := ((tkT t 16).1, tkNums (tkT t 16).2 11)
def rowMay (last : Str) (g : Str) (r : SR) : Bool := goodB g && decide (last < g) && r.bal && r.right
/-- n rows, taken. -/
def unpL : Nat → Tst → Str → Stk → Option (Stk × Tst)
  | 0, t, _, A => some (A, t)
  | n + 1, t, last, A => if rowMay last (tkRow t).1 (tkRow t).2.1 = true then unpL n (tkRow t).2.2 (tkRow t).1 (putS ktS.lt A (tkRow t).1 (tkRow t).2.1) else none
def unpS (bs : List Int) : Option Stk :=
  match unpL (tk (bs, false) 0 64).1.toNat (tk (bs, false) 0 64).2 [] [] with
  | none => none
  | some (A, t) => if doneT t.1 t.2 = 0 then some A else none
end Go.Proofs.Ytclgmnobockfnaa
