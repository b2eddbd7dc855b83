/-
  No cell of these rows narrows 'for every input' (looked for: loops, veiled, ifaces, maps, wideKeys, modest, calm, conditions, laid).
  DERIVED. THE GIVEN ROWS OF THIS SEAT. 4 by the template 'for every input the law returns true; each argument reads behind the call as it read before'; 0 by the template 'total and deterministic' (their statements: YtbeikkkmobbnkaaGreatTotals.lean).
  GIVEN WITH THE SEED: the statements are not yours to turn. If you find one false, say at which input.
  Laid BY PROGRAM, IN A SANDBOX (cutbox-rows.mjs): the forced cells as the released guide's own fill.sh prints them over the translation b85affb029883ccf… (all of the seat's roots in one cut). By AI agents, Wed Nov 11 2026. No macro, syntax, notation, axiom, sorry.
-/
import Derived.Test.YtbeikkkmobbnkaaGreatChecked
import GoSem.Claim
import GoSem.ClaimJoined
import GoSem.ClaimMapViews
import Derived.JoinedTies
import Derived.KernelRfl
namespace Go.Proofs.YtbeikkkmobbnkaaGreat
/- THE CELL 'sum', in the pinned program and in every row, IS THE sha256 OF THE DUMP (.gsa) THAT YtbeikkkmobbnkaaGreatProg.lean LOADS. Nothing in Lean hashes anything: it is a label: what it is worth is what the hold of that sum in a sandbox is worth. -/
noncomputable def Tryz.pinned : Pinned := { name := "ytbeikkkmobbnkaagreat", sum := "b85affb029883ccfdb5069ffd0b8511a44bbc98eeb7981294c540cebbe732807", checked := Tryz.checked }
namespace Rows
def none {H : Type} : Left H := { results := [], args := [] }

/-- 'entrepotlaw25.ModelSpans': WHATEVER THE INPUT: true; the input reads as it did. -/
def modelSpansSpec : ChangeSpec := { name := "modelSpans", fn := fun _ => fun
  | [d1, d2, d3, d4, d5] => { results := [.lit (.bool true)], args := [d1, d2, d3, d4, d5] }
  | _ => none }
def modelSpansRow : OpenClaim := { program := "ytbeikkkmobbnkaagreat", sum := "b85affb029883ccfdb5069ffd0b8511a44bbc98eeb7981294c540cebbe732807", func := "entrepot/entrepotlaw25.ModelSpans", spec := "modelSpans", inPlace := ["internal/bytealg.IndexByteString", "internal/bytealg.IndexString"], unfollowed := true, recurses := true, named := ["internal/bytealg.MaxLen"], plainKeys := false, apart := false }
def ModelSpansSaid : Prop := modelSpansRow.holds Tryz.pinned (OpenSpec.ofChange modelSpansSpec)

/-- ITS FALSE NEIGHBOUR: 'it returns false'. Refute it at one input. -/
def modelSpansWrong : ChangeSpec := { name := "modelSpans", fn := fun _ => fun
  | [d1, d2, d3, d4, d5] => { results := [.lit (.bool false)], args := [d1, d2, d3, d4, d5] }
  | _ => none }
def ModelSpansWrongFalsely : Prop := modelSpansRow.holds Tryz.pinned (OpenSpec.ofChange modelSpansWrong)

/-- 'entrepotlaw25.ModelGoods': WHATEVER THE INPUT: true; the input reads as it did. -/
def modelGoodsSpec : ChangeSpec := { name := "modelGoods", fn := fun _ => fun
  | [d1, d2] => { results := [.lit (.bool true)], args := [d1, d2] }
  | _ => none }
def modelGoodsRow : OpenClaim := { program := "ytbeikkkmobbnkaagreat", sum := "b85affb029883ccfdb5069ffd0b8511a44bbc98eeb7981294c540cebbe732807", func := "entrepot/entrepotlaw25.ModelGoods", spec := "modelGoods", inPlace := ["internal/bytealg.IndexByteString", "internal/bytealg.IndexString"], unfollowed := true, recurses := true, named := ["internal/bytealg.MaxLen"], plainKeys := false, apart := false }
def ModelGoodsSaid : Prop := modelGoodsRow.holds Tryz.pinned (OpenSpec.ofChange modelGoodsSpec)

/-- ITS FALSE NEIGHBOUR: 'it returns false'. Refute it at one input. -/
def modelGoodsWrong : ChangeSpec := { name := "modelGoods", fn := fun _ => fun
  | [d1, d2] => { results := [.lit (.bool false)], args := [d1, d2] }
  | _ => none }
def ModelGoodsWrongFalsely : Prop := modelGoodsRow.holds Tryz.pinned (OpenSpec.ofChange modelGoodsWrong)

/-- 'entrepotlaw25.ModelMore': WHATEVER THE INPUT: true; the input reads as it did. -/
def modelMoreSpec : ChangeSpec := { name := "modelMore", fn := fun _ => fun
  | [d1, d2, d3, d4, d5] => { results := [.lit (.bool true)], args := [d1, d2, d3, d4, d5] }
  | _ => none }
def modelMoreRow : OpenClaim := { program := "ytbeikkkmobbnkaagreat", sum := "b85affb029883ccfdb5069ffd0b8511a44bbc98eeb7981294c540cebbe732807", func := "entrepot/entrepotlaw25.ModelMore", spec := "modelMore", inPlace := ["internal/bytealg.IndexByteString", "internal/bytealg.IndexString"], unfollowed := true, recurses := true, named := ["internal/bytealg.MaxLen"], plainKeys := false, apart := false }
def ModelMoreSaid : Prop := modelMoreRow.holds Tryz.pinned (OpenSpec.ofChange modelMoreSpec)

/-- ITS FALSE NEIGHBOUR: 'it returns false'. Refute it at one input. -/
def modelMoreWrong : ChangeSpec := { name := "modelMore", fn := fun _ => fun
  | [d1, d2, d3, d4, d5] => { results := [.lit (.bool false)], args := [d1, d2, d3, d4, d5] }
  | _ => none }
def ModelMoreWrongFalsely : Prop := modelMoreRow.holds Tryz.pinned (OpenSpec.ofChange modelMoreWrong)

/-- 'entrepotlaw25.ModelGroups': WHATEVER THE INPUT: true; the input reads as it did. -/
def modelGroupsSpec : ChangeSpec := { name := "modelGroups", fn := fun _ => fun
  | [d1, d2, d3, d4] => { results := [.lit (.bool true)], args := [d1, d2, d3, d4] }
  | _ => none }
def modelGroupsRow : OpenClaim := { program := "ytbeikkkmobbnkaagreat", sum := "b85affb029883ccfdb5069ffd0b8511a44bbc98eeb7981294c540cebbe732807", func := "entrepot/entrepotlaw25.ModelGroups", spec := "modelGroups", inPlace := ["internal/bytealg.IndexByteString", "internal/bytealg.IndexString"], unfollowed := true, recurses := true, named := ["internal/bytealg.MaxLen"], plainKeys := false, apart := false }
def ModelGroupsSaid : Prop := modelGroupsRow.holds Tryz.pinned (OpenSpec.ofChange modelGroupsSpec)

/-- ITS FALSE NEIGHBOUR: 'it returns false'. Refute it at one input. -/
def modelGroupsWrong : ChangeSpec := { name := "modelGroups", fn := fun _ => fun
  | [d1, d2, d3, d4] => { results := [.lit (.bool false)], args := [d1, d2, d3, d4] }
  | _ => none }
def ModelGroupsWrongFalsely : Prop := modelGroupsRow.holds Tryz.pinned (OpenSpec.ofChange modelGroupsWrong)

/- THE SECOND FORM. 'bulk': how many values and letters a reading holds, each counted each time it is reached (what is shared counts as often as it is met; a slice's spare places count too). A statement '..UptoSaid' is the law's where the arguments, and the package variables that the reading takes, are together of bulk at most 1048576: NARROWER than '..Said'. Prove '..Said' where nothing that the law and all that it calls make is longer than what came in: it says more and counts as full. Else prove '..UptoSaid'. A law counts once. -/
mutual
def uptoBulk {H : Type} : DataW H → Nat
  | .lit (.string bytes) => bytes.length + 1
  | .lit _ => 1
  | .nil => 1
  | .ptr d => uptoBulk d + 1
  | .slice elems spare => uptoBulkAll elems + uptoBulkAll spare + 1
  | .agg parts => uptoBulkAll parts + 1
  | .iface _ d => uptoBulk d + 1
  | .map entries => uptoBulkEntries entries + 1
  | .held _ => 1
def uptoBulkAll {H : Type} : List (DataW H) → Nat
  | [] => 0
  | d :: r => uptoBulk d + uptoBulkAll r
def uptoBulkEntries {H : Type} : List (Lit × DataW H) → Nat
  | [] => 0
  | x :: r => uptoBulkEntry x + uptoBulkEntries r
def uptoBulkEntry {H : Type} : Lit × DataW H → Nat
  | (.string bytes, d) => bytes.length + uptoBulk d + 1
  | (_, d) => uptoBulk d + 1
 end
def uptoSmall : (H : Type) → List (DataW H) → Bool := fun _ ds => decide (uptoBulkAll ds ≤ 1048576)
def OpenSpec.upto (s : _root_.Go.ChangeSpec) : _root_.Go.OpenSpec := { _root_.Go.OpenSpec.ofChange s with cond := some uptoSmall }

/-- 'entrepotlaw25.ModelSpans', WHERE WHAT IT READS IS OF BULK AT MOST 1048576: true; the input reads as it did. -/
def modelSpansUptoRow : OpenClaim := { program := "ytbeikkkmobbnkaagreat", sum := "b85affb029883ccfdb5069ffd0b8511a44bbc98eeb7981294c540cebbe732807", func := "entrepot/entrepotlaw25.ModelSpans", spec := "modelSpans", inPlace := ["internal/bytealg.IndexByteString", "internal/bytealg.IndexString"], unfollowed := true, recurses := true, named := ["internal/bytealg.MaxLen"], plainKeys := false, apart := false, narrowed := true }
def ModelSpansUptoSaid : Prop := modelSpansUptoRow.holds Tryz.pinned (OpenSpec.upto modelSpansSpec)

/-- 'entrepotlaw25.ModelGoods', WHERE WHAT IT READS IS OF BULK AT MOST 1048576: true; the input reads as it did. -/
def modelGoodsUptoRow : OpenClaim := { program := "ytbeikkkmobbnkaagreat", sum := "b85affb029883ccfdb5069ffd0b8511a44bbc98eeb7981294c540cebbe732807", func := "entrepot/entrepotlaw25.ModelGoods", spec := "modelGoods", inPlace := ["internal/bytealg.IndexByteString", "internal/bytealg.IndexString"], unfollowed := true, recurses := true, named := ["internal/bytealg.MaxLen"], plainKeys := false, apart := false, narrowed := true }
def ModelGoodsUptoSaid : Prop := modelGoodsUptoRow.holds Tryz.pinned (OpenSpec.upto modelGoodsSpec)

/-- 'entrepotlaw25.ModelMore', WHERE WHAT IT READS IS OF BULK AT MOST 1048576: true; the input reads as it did. -/
def modelMoreUptoRow : OpenClaim := { program := "ytbeikkkmobbnkaagreat", sum := "b85affb029883ccfdb5069ffd0b8511a44bbc98eeb7981294c540cebbe732807", func := "entrepot/entrepotlaw25.ModelMore", spec := "modelMore", inPlace := ["internal/bytealg.IndexByteString", "internal/bytealg.IndexString"], unfollowed := true, recurses := true, named := ["internal/bytealg.MaxLen"], plainKeys := false, apart := false, narrowed := true }
def ModelMoreUptoSaid : Prop := modelMoreUptoRow.holds Tryz.pinned (OpenSpec.upto modelMoreSpec)

/-- 'entrepotlaw25.ModelGroups', WHERE WHAT IT READS IS OF BULK AT MOST 1048576: true; the input reads as it did. -/
def modelGroupsUptoRow : OpenClaim := { program := "ytbeikkkmobbnkaagreat", sum := "b85affb029883ccfdb5069ffd0b8511a44bbc98eeb7981294c540cebbe732807", func := "entrepot/entrepotlaw25.ModelGroups", spec := "modelGroups", inPlace := ["internal/bytealg.IndexByteString", "internal/bytealg.IndexString"], unfollowed := true, recurses := true, named := ["internal/bytealg.MaxLen"], plainKeys := false, apart := false, narrowed := true }
def ModelGroupsUptoSaid : Prop := modelGroupsUptoRow.holds Tryz.pinned (OpenSpec.upto modelGroupsSpec)

end Rows
end Go.Proofs.YtbeikkkmobbnkaaGreat
