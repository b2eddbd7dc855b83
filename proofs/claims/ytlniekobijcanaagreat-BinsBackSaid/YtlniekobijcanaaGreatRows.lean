/-
  No cell of these rows narrows 'for every input' (looked for: loops, veiled, ifaces, maps, wideKeys, modest, calm, conditions, laid).
  DERIVED. THE GIVEN ROWS OF THIS SEAT. 7 by the template 'for every input the law returns true; each argument reads behind the call as it read before'; 0 by the template 'total and deterministic' (their statements: YtlniekobijcanaaGreatTotals.lean).
  GIVEN WITH THE SEED: the statements are not yours to turn. If you find one false, say at which input.
  Laid BY PROGRAM, IN A SANDBOX (cutbox-rows.mjs): the forced cells as the released guide's own fill.sh prints them over the translation 972ab90dfbbcf61b… (all of the seat's roots in one cut). By AI agents, Wed Nov 11 2026. No macro, syntax, notation, axiom, sorry.
-/
import Derived.Test.YtlniekobijcanaaGreatChecked
import GoSem.Claim
import GoSem.ClaimJoined
import GoSem.ClaimMapViews
import Derived.JoinedTies
import Derived.KernelRfl
namespace Go.Proofs.YtlniekobijcanaaGreat
/- THE CELL 'sum', in the pinned program and in every row, IS THE sha256 OF THE DUMP (.gsa) THAT YtlniekobijcanaaGreatProg.lean LOADS. Nothing in Lean hashes anything: it is a label: what it is worth is what the hold of that sum in a sandbox is worth. -/
noncomputable def Tryz.pinned : Pinned := { name := "ytlniekobijcanaagreat", sum := "972ab90dfbbcf61b82295db4a41c0dd3df00d2c0e13325271988ae0c5c0e095f", checked := Tryz.checked }
namespace Rows
def none {H : Type} : Left H := { results := [], args := [] }

/-- 'entrepotlaw27.BinsRoutes': WHATEVER THE INPUT: true; the input reads as it did. -/
def binsRoutesSpec : ChangeSpec := { name := "binsRoutes", fn := fun _ => fun
  | [d1, d2] => { results := [.lit (.bool true)], args := [d1, d2] }
  | _ => none }
def binsRoutesRow : OpenClaim := { program := "ytlniekobijcanaagreat", sum := "972ab90dfbbcf61b82295db4a41c0dd3df00d2c0e13325271988ae0c5c0e095f", func := "entrepot/entrepotlaw27.BinsRoutes", spec := "binsRoutes", unfollowed := true, recurses := true, apart := false }
def BinsRoutesSaid : Prop := binsRoutesRow.holds Tryz.pinned (OpenSpec.ofChange binsRoutesSpec)

/-- ITS FALSE NEIGHBOUR: 'it returns false'. Refute it at one input. -/
def binsRoutesWrong : ChangeSpec := { name := "binsRoutes", fn := fun _ => fun
  | [d1, d2] => { results := [.lit (.bool false)], args := [d1, d2] }
  | _ => none }
def BinsRoutesWrongFalsely : Prop := binsRoutesRow.holds Tryz.pinned (OpenSpec.ofChange binsRoutesWrong)

/-- 'entrepotlaw27.BinsShort': WHATEVER THE INPUT: true; the input reads as it did. -/
def binsShortSpec : ChangeSpec := { name := "binsShort", fn := fun _ => fun
  | [d1, d2] => { results := [.lit (.bool true)], args := [d1, d2] }
  | _ => none }
def binsShortRow : OpenClaim := { program := "ytlniekobijcanaagreat", sum := "972ab90dfbbcf61b82295db4a41c0dd3df00d2c0e13325271988ae0c5c0e095f", func := "entrepot/entrepotlaw27.BinsShort", spec := "binsShort", unfollowed := true, recurses := true, apart := false }
def BinsShortSaid : Prop := binsShortRow.holds Tryz.pinned (OpenSpec.ofChange binsShortSpec)

/-- ITS FALSE NEIGHBOUR: 'it returns false'. Refute it at one input. -/
def binsShortWrong : ChangeSpec := { name := "binsShort", fn := fun _ => fun
  | [d1, d2] => { results := [.lit (.bool false)], args := [d1, d2] }
  | _ => none }
def BinsShortWrongFalsely : Prop := binsShortRow.holds Tryz.pinned (OpenSpec.ofChange binsShortWrong)

/-- 'entrepotlaw27.BinsFull': WHATEVER THE INPUT: true; the input reads as it did. -/
def binsFullSpec : ChangeSpec := { name := "binsFull", fn := fun _ => fun
  | [d1, d2, d3] => { results := [.lit (.bool true)], args := [d1, d2, d3] }
  | _ => none }
def binsFullRow : OpenClaim := { program := "ytlniekobijcanaagreat", sum := "972ab90dfbbcf61b82295db4a41c0dd3df00d2c0e13325271988ae0c5c0e095f", func := "entrepot/entrepotlaw27.BinsFull", spec := "binsFull", unfollowed := true, recurses := true, apart := false }
def BinsFullSaid : Prop := binsFullRow.holds Tryz.pinned (OpenSpec.ofChange binsFullSpec)

/-- ITS FALSE NEIGHBOUR: 'it returns false'. Refute it at one input. -/
def binsFullWrong : ChangeSpec := { name := "binsFull", fn := fun _ => fun
  | [d1, d2, d3] => { results := [.lit (.bool false)], args := [d1, d2, d3] }
  | _ => none }
def BinsFullWrongFalsely : Prop := binsFullRow.holds Tryz.pinned (OpenSpec.ofChange binsFullWrong)

/-- 'entrepotlaw27.BinsUnpacks': WHATEVER THE INPUT: true; the input reads as it did. -/
def binsUnpacksSpec : ChangeSpec := { name := "binsUnpacks", fn := fun _ => fun
  | [d] => { results := [.lit (.bool true)], args := [d] }
  | _ => none }
def binsUnpacksRow : OpenClaim := { program := "ytlniekobijcanaagreat", sum := "972ab90dfbbcf61b82295db4a41c0dd3df00d2c0e13325271988ae0c5c0e095f", func := "entrepot/entrepotlaw27.BinsUnpacks", spec := "binsUnpacks", unfollowed := true, recurses := true, apart := false }
def BinsUnpacksSaid : Prop := binsUnpacksRow.holds Tryz.pinned (OpenSpec.ofChange binsUnpacksSpec)

/-- ITS FALSE NEIGHBOUR: 'it returns false'. Refute it at one input. -/
def binsUnpacksWrong : ChangeSpec := { name := "binsUnpacks", fn := fun _ => fun
  | [d] => { results := [.lit (.bool false)], args := [d] }
  | _ => none }
def BinsUnpacksWrongFalsely : Prop := binsUnpacksRow.holds Tryz.pinned (OpenSpec.ofChange binsUnpacksWrong)

/-- 'entrepotlaw27.BinsBack': WHATEVER THE INPUT: true; the input reads as it did. -/
def binsBackSpec : ChangeSpec := { name := "binsBack", fn := fun _ => fun
  | [d1, d2, d3, d4] => { results := [.lit (.bool true)], args := [d1, d2, d3, d4] }
  | _ => none }
def binsBackRow : OpenClaim := { program := "ytlniekobijcanaagreat", sum := "972ab90dfbbcf61b82295db4a41c0dd3df00d2c0e13325271988ae0c5c0e095f", func := "entrepot/entrepotlaw27.BinsBack", spec := "binsBack", unfollowed := true, recurses := true, apart := false }
def BinsBackSaid : Prop := binsBackRow.holds Tryz.pinned (OpenSpec.ofChange binsBackSpec)

/-- ITS FALSE NEIGHBOUR: 'it returns false'. Refute it at one input. -/
def binsBackWrong : ChangeSpec := { name := "binsBack", fn := fun _ => fun
  | [d1, d2, d3, d4] => { results := [.lit (.bool false)], args := [d1, d2, d3, d4] }
  | _ => none }
def BinsBackWrongFalsely : Prop := binsBackRow.holds Tryz.pinned (OpenSpec.ofChange binsBackWrong)

/-- 'entrepotlaw27.BinsDoes': WHATEVER THE INPUT: true; the input reads as it did. -/
def binsDoesSpec : ChangeSpec := { name := "binsDoes", fn := fun _ => fun
  | [d1, d2] => { results := [.lit (.bool true)], args := [d1, d2] }
  | _ => none }
def binsDoesRow : OpenClaim := { program := "ytlniekobijcanaagreat", sum := "972ab90dfbbcf61b82295db4a41c0dd3df00d2c0e13325271988ae0c5c0e095f", func := "entrepot/entrepotlaw27.BinsDoes", spec := "binsDoes", unfollowed := true, recurses := true, apart := false }
def BinsDoesSaid : Prop := binsDoesRow.holds Tryz.pinned (OpenSpec.ofChange binsDoesSpec)

/-- ITS FALSE NEIGHBOUR: 'it returns false'. Refute it at one input. -/
def binsDoesWrong : ChangeSpec := { name := "binsDoes", fn := fun _ => fun
  | [d1, d2] => { results := [.lit (.bool false)], args := [d1, d2] }
  | _ => none }
def BinsDoesWrongFalsely : Prop := binsDoesRow.holds Tryz.pinned (OpenSpec.ofChange binsDoesWrong)

/-- 'entrepotlaw27.BinsNobody': WHATEVER THE INPUT: true; the input reads as it did. -/
def binsNobodySpec : ChangeSpec := { name := "binsNobody", fn := fun _ => fun
  | [d1, d2] => { results := [.lit (.bool true)], args := [d1, d2] }
  | _ => none }
def binsNobodyRow : OpenClaim := { program := "ytlniekobijcanaagreat", sum := "972ab90dfbbcf61b82295db4a41c0dd3df00d2c0e13325271988ae0c5c0e095f", func := "entrepot/entrepotlaw27.BinsNobody", spec := "binsNobody", unfollowed := true, recurses := true, apart := false }
def BinsNobodySaid : Prop := binsNobodyRow.holds Tryz.pinned (OpenSpec.ofChange binsNobodySpec)

/-- ITS FALSE NEIGHBOUR: 'it returns false'. Refute it at one input. -/
def binsNobodyWrong : ChangeSpec := { name := "binsNobody", fn := fun _ => fun
  | [d1, d2] => { results := [.lit (.bool false)], args := [d1, d2] }
  | _ => none }
def BinsNobodyWrongFalsely : Prop := binsNobodyRow.holds Tryz.pinned (OpenSpec.ofChange binsNobodyWrong)

/- THE SECOND FORM. 'bulk': how many values and letters a reading holds, each counted each time it is reached (what is shared counts as often as it is met; a slice's spare places count too). A statement '..UptoSaid' is the law's where the arguments, and the package variables that the reading takes, are together of bulk at most 1048576: NARROWER than '..Said'. Prove '..Said' where nothing that the law and all that it calls make is longer than what came in: it says more and counts as full. Else prove '..UptoSaid'. A law counts once. -/
mutual
def uptoBulk {H : Type} : DataW H → Nat
  | .lit (.string bytes) => bytes.length + 1
  | .lit _ => 1
  | .nil => 1
  | .ptr d => uptoBulk d + 1
  | .slice elems spare => uptoBulkAll elems + uptoBulkAll spare + 1
  | .agg parts => uptoBulkAll parts + 1
  | .iface _ d => uptoBulk d + 1
  | .map entries => uptoBulkEntries entries + 1
  | .held _ => 1
def uptoBulkAll {H : Type} : List (DataW H) → Nat
  | [] => 0
  | d :: r => uptoBulk d + uptoBulkAll r
def uptoBulkEntries {H : Type} : List (Lit × DataW H) → Nat
  | [] => 0
  | x :: r => uptoBulkEntry x + uptoBulkEntries r
def uptoBulkEntry {H : Type} : Lit × DataW H → Nat
  | (.string bytes, d) => bytes.length + uptoBulk d + 1
  | (_, d) => uptoBulk d + 1
 end
def uptoSmall : (H : Type) → List (DataW H) → Bool := fun _ ds => decide (uptoBulkAll ds ≤ 1048576)
def OpenSpec.upto (s : _root_.Go.ChangeSpec) : _root_.Go.OpenSpec := { _root_.Go.OpenSpec.ofChange s with cond := some uptoSmall }

/-- 'entrepotlaw27.BinsRoutes', WHERE WHAT IT READS IS OF BULK AT MOST 1048576: true; the input reads as it did. -/
def binsRoutesUptoRow : OpenClaim := { program := "ytlniekobijcanaagreat", sum := "972ab90dfbbcf61b82295db4a41c0dd3df00d2c0e13325271988ae0c5c0e095f", func := "entrepot/entrepotlaw27.BinsRoutes", spec := "binsRoutes", unfollowed := true, recurses := true, apart := false, narrowed := true }
def BinsRoutesUptoSaid : Prop := binsRoutesUptoRow.holds Tryz.pinned (OpenSpec.upto binsRoutesSpec)

/-- 'entrepotlaw27.BinsShort', WHERE WHAT IT READS IS OF BULK AT MOST 1048576: true; the input reads as it did. -/
def binsShortUptoRow : OpenClaim := { program := "ytlniekobijcanaagreat", sum := "972ab90dfbbcf61b82295db4a41c0dd3df00d2c0e13325271988ae0c5c0e095f", func := "entrepot/entrepotlaw27.BinsShort", spec := "binsShort", unfollowed := true, recurses := true, apart := false, narrowed := true }
def BinsShortUptoSaid : Prop := binsShortUptoRow.holds Tryz.pinned (OpenSpec.upto binsShortSpec)

/-- 'entrepotlaw27.BinsFull', WHERE WHAT IT READS IS OF BULK AT MOST 1048576: true; the input reads as it did. -/
def binsFullUptoRow : OpenClaim := { program := "ytlniekobijcanaagreat", sum := "972ab90dfbbcf61b82295db4a41c0dd3df00d2c0e13325271988ae0c5c0e095f", func := "entrepot/entrepotlaw27.BinsFull", spec := "binsFull", unfollowed := true, recurses := true, apart := false, narrowed := true }
def BinsFullUptoSaid : Prop := binsFullUptoRow.holds Tryz.pinned (OpenSpec.upto binsFullSpec)

/-- 'entrepotlaw27.BinsUnpacks', WHERE WHAT IT READS IS OF BULK AT MOST 1048576: true; the input reads as it did. -/
def binsUnpacksUptoRow : OpenClaim := { program := "ytlniekobijcanaagreat", sum := "972ab90dfbbcf61b82295db4a41c0dd3df00d2c0e13325271988ae0c5c0e095f", func := "entrepot/entrepotlaw27.BinsUnpacks", spec := "binsUnpacks", unfollowed := true, recurses := true, apart := false, narrowed := true }
def BinsUnpacksUptoSaid : Prop := binsUnpacksUptoRow.holds Tryz.pinned (OpenSpec.upto binsUnpacksSpec)

/-- 'entrepotlaw27.BinsBack', WHERE WHAT IT READS IS OF BULK AT MOST 1048576: true; the input reads as it did. -/
def binsBackUptoRow : OpenClaim := { program := "ytlniekobijcanaagreat", sum := "972ab90dfbbcf61b82295db4a41c0dd3df00d2c0e13325271988ae0c5c0e095f", func := "entrepot/entrepotlaw27.BinsBack", spec := "binsBack", unfollowed := true, recurses := true, apart := false, narrowed := true }
def BinsBackUptoSaid : Prop := binsBackUptoRow.holds Tryz.pinned (OpenSpec.upto binsBackSpec)

/-- 'entrepotlaw27.BinsDoes', WHERE WHAT IT READS IS OF BULK AT MOST 1048576: true; the input reads as it did. -/
def binsDoesUptoRow : OpenClaim := { program := "ytlniekobijcanaagreat", sum := "972ab90dfbbcf61b82295db4a41c0dd3df00d2c0e13325271988ae0c5c0e095f", func := "entrepot/entrepotlaw27.BinsDoes", spec := "binsDoes", unfollowed := true, recurses := true, apart := false, narrowed := true }
def BinsDoesUptoSaid : Prop := binsDoesUptoRow.holds Tryz.pinned (OpenSpec.upto binsDoesSpec)

/-- 'entrepotlaw27.BinsNobody', WHERE WHAT IT READS IS OF BULK AT MOST 1048576: true; the input reads as it did. -/
def binsNobodyUptoRow : OpenClaim := { program := "ytlniekobijcanaagreat", sum := "972ab90dfbbcf61b82295db4a41c0dd3df00d2c0e13325271988ae0c5c0e095f", func := "entrepot/entrepotlaw27.BinsNobody", spec := "binsNobody", unfollowed := true, recurses := true, apart := false, narrowed := true }
def BinsNobodyUptoSaid : Prop := binsNobodyUptoRow.holds Tryz.pinned (OpenSpec.upto binsNobodySpec)

end Rows
end Go.Proofs.YtlniekobijcanaaGreat
