/-
  No cell of these rows narrows 'for every input' (looked for: loops, veiled, ifaces, maps, wideKeys, modest, calm, conditions, laid).
  DERIVED. THE GIVEN ROWS OF THIS SEAT. 3 by the template 'for every input the law returns true; each argument reads behind the call as it read before'; 0 by the template 'total and deterministic' (their statements: YtefjdcghdcbojaaGreatTotals.lean).
  GIVEN WITH THE SEED: the statements are not yours to turn. If you find one false, say at which input.
  Laid BY PROGRAM, IN A SANDBOX (cutbox-rows.mjs): the forced cells as the released guide's own fill.sh prints them over the translation 665477e395d429e1… (all of the seat's roots in one cut). By AI agents, Wed Nov 11 2026. No macro, syntax, notation, axiom, sorry.
-/
import Derived.Test.YtefjdcghdcbojaaGreatChecked
import GoSem.Claim
import GoSem.ClaimJoined
import GoSem.ClaimMapViews
import Derived.JoinedTies
import Derived.KernelRfl
namespace Go.Proofs.YtefjdcghdcbojaaGreat
/- THE CELL 'sum', in the pinned program and in every row, IS THE sha256 OF THE DUMP (.gsa) THAT YtefjdcghdcbojaaGreatProg.lean LOADS. Nothing in Lean hashes anything: it is a label: what it is worth is what the hold of that sum in a sandbox is worth. -/
noncomputable def Tryz.pinned : Pinned := { name := "ytefjdcghdcbojaagreat", sum := "665477e395d429e1267f55627290b636c8bfe02a4f44b62e18a6354e2e314af5", checked := Tryz.checked }
namespace Rows
def none {H : Type} : Left H := { results := [], args := [] }

/-- 'entrepotlaw27.BinsUnpacks': WHATEVER THE INPUT: true; the input reads as it did. -/
def binsUnpacksSpec : ChangeSpec := { name := "binsUnpacks", fn := fun _ => fun
  | [d] => { results := [.lit (.bool true)], args := [d] }
  | _ => none }
def binsUnpacksRow : OpenClaim := { program := "ytefjdcghdcbojaagreat", sum := "665477e395d429e1267f55627290b636c8bfe02a4f44b62e18a6354e2e314af5", func := "entrepot/entrepotlaw27.BinsUnpacks", spec := "binsUnpacks", unfollowed := true, recurses := true, apart := false }
def BinsUnpacksSaid : Prop := binsUnpacksRow.holds Tryz.pinned (OpenSpec.ofChange binsUnpacksSpec)

/-- ITS FALSE NEIGHBOUR: 'it returns false'. Refute it at one input. -/
def binsUnpacksWrong : ChangeSpec := { name := "binsUnpacks", fn := fun _ => fun
  | [d] => { results := [.lit (.bool false)], args := [d] }
  | _ => none }
def BinsUnpacksWrongFalsely : Prop := binsUnpacksRow.holds Tryz.pinned (OpenSpec.ofChange binsUnpacksWrong)

/-- 'entrepotlaw27.BinsBack': WHATEVER THE INPUT: true; the input reads as it did. -/
def binsBackSpec : ChangeSpec := { name := "binsBack", fn := fun _ => fun
  | [d1, d2, d3, d4] => { results := [.lit (.bool true)], args := [d1, d2, d3, d4] }
  | _ => none }
def binsBackRow : OpenClaim := { program := "ytefjdcghdcbojaagreat", sum := "665477e395d429e1267f55627290b636c8bfe02a4f44b62e18a6354e2e314af5", func := "entrepot/entrepotlaw27.BinsBack", spec := "binsBack", unfollowed := true, recurses := true, apart := false }
def BinsBackSaid : Prop := binsBackRow.holds Tryz.pinned (OpenSpec.ofChange binsBackSpec)

/-- ITS FALSE NEIGHBOUR: 'it returns false'. Refute it at one input. -/
def binsBackWrong : ChangeSpec := { name := "binsBack", fn := fun _ => fun
  | [d1, d2, d3, d4] => { results := [.lit (.bool false)], args := [d1, d2, d3, d4] }
  | _ => none }
def BinsBackWrongFalsely : Prop := binsBackRow.holds Tryz.pinned (OpenSpec.ofChange binsBackWrong)

/-- 'entrepotlaw27.BinsDoes': WHATEVER THE INPUT: true; the input reads as it did. -/
def binsDoesSpec : ChangeSpec := { name := "binsDoes", fn := fun _ => fun
  | [d1, d2] => { results := [.lit (.bool true)], args := [d1, d2] }
  | _ => none }
def binsDoesRow : OpenClaim := { program := "ytefjdcghdcbojaagreat", sum := "665477e395d429e1267f55627290b636c8bfe02a4f44b62e18a6354e2e314af5", func := "entrepot/entrepotlaw27.BinsDoes", spec := "binsDoes", unfollowed := true, recurses := true, apart := false }
def BinsDoesSaid : Prop := binsDoesRow.holds Tryz.pinned (OpenSpec.ofChange binsDoesSpec)

/-- ITS FALSE NEIGHBOUR: 'it returns false'. Refute it at one input. -/
def binsDoesWrong : ChangeSpec := { name := "binsDoes", fn := fun _ => fun
  | [d1, d2] => { results := [.lit (.bool false)], args := [d1, d2] }
  | _ => none }
def BinsDoesWrongFalsely : Prop := binsDoesRow.holds Tryz.pinned (OpenSpec.ofChange binsDoesWrong)

/- THE SECOND FORM. 'bulk': how many values and letters a reading holds, each counted each time it is reached (what is shared counts as often as it is met; a slice's spare places count too). A statement '..UptoSaid' is the law's where the arguments, and the package variables that the reading takes, are together of bulk at most 1048576: NARROWER than '..Said'. Prove '..Said' where nothing that the law and all that it calls make is longer than what came in: it says more and counts as full. Else prove '..UptoSaid'. A law counts once. -/
mutual
def uptoBulk {H : Type} : DataW H → Nat
  | .lit (.string bytes) => bytes.length + 1
  | .lit _ => 1
  | .nil => 1
  | .ptr d => uptoBulk d + 1
  | .slice elems spare => uptoBulkAll elems + uptoBulkAll spare + 1
  | .agg parts => uptoBulkAll parts + 1
  | .iface _ d => uptoBulk d + 1
  | .map entries => uptoBulkEntries entries + 1
  | .held _ => 1
def uptoBulkAll {H : Type} : List (DataW H) → Nat
  | [] => 0
  | d :: r => uptoBulk d + uptoBulkAll r
def uptoBulkEntries {H : Type} : List (Lit × DataW H) → Nat
  | [] => 0
  | x :: r => uptoBulkEntry x + uptoBulkEntries r
def uptoBulkEntry {H : Type} : Lit × DataW H → Nat
  | (.string bytes, d) => bytes.length + uptoBulk d + 1
  | (_, d) => uptoBulk d + 1
 end
def uptoSmall : (H : Type) → List (DataW H) → Bool := fun _ ds => decide (uptoBulkAll ds ≤ 1048576)
def OpenSpec.upto (s : _root_.Go.ChangeSpec) : _root_.Go.OpenSpec := { _root_.Go.OpenSpec.ofChange s with cond := some uptoSmall }

/-- 'entrepotlaw27.BinsUnpacks', WHERE WHAT IT READS IS OF BULK AT MOST 1048576: true; the input reads as it did. -/
def binsUnpacksUptoRow : OpenClaim := { program := "ytefjdcghdcbojaagreat", sum := "665477e395d429e1267f55627290b636c8bfe02a4f44b62e18a6354e2e314af5", func := "entrepot/entrepotlaw27.BinsUnpacks", spec := "binsUnpacks", unfollowed := true, recurses := true, apart := false, narrowed := true }
def BinsUnpacksUptoSaid : Prop := binsUnpacksUptoRow.holds Tryz.pinned (OpenSpec.upto binsUnpacksSpec)

/-- 'entrepotlaw27.BinsBack', WHERE WHAT IT READS IS OF BULK AT MOST 1048576: true; the input reads as it did. -/
def binsBackUptoRow : OpenClaim := { program := "ytefjdcghdcbojaagreat", sum := "665477e395d429e1267f55627290b636c8bfe02a4f44b62e18a6354e2e314af5", func := "entrepot/entrepotlaw27.BinsBack", spec := "binsBack", unfollowed := true, recurses := true, apart := false, narrowed := true }
def BinsBackUptoSaid : Prop := binsBackUptoRow.holds Tryz.pinned (OpenSpec.upto binsBackSpec)

/-- 'entrepotlaw27.BinsDoes', WHERE WHAT IT READS IS OF BULK AT MOST 1048576: true; the input reads as it did. -/
def binsDoesUptoRow : OpenClaim := { program := "ytefjdcghdcbojaagreat", sum := "665477e395d429e1267f55627290b636c8bfe02a4f44b62e18a6354e2e314af5", func := "entrepot/entrepotlaw27.BinsDoes", spec := "binsDoes", unfollowed := true, recurses := true, apart := false, narrowed := true }
def BinsDoesUptoSaid : Prop := binsDoesUptoRow.holds Tryz.pinned (OpenSpec.upto binsDoesSpec)

end Rows
end Go.Proofs.YtefjdcghdcbojaaGreat
