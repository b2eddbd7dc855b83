/- Texts of this claim, joined: Small helpers of my own for all walks of this seat; Maps of the call's own, as lists of keys and values, rising by key: my own view over the library's 'ownsMap'; Strings as keys of maps, and their order: plainly; stock: a good's numbers, what is done to them, and stocks as lists: plainly; The frame of a step: which old blocks it may have turned. My own relation for all contracts; A step of a thing that owns blocks: what it owns behind it is what it owned, or new; count.May; Ranges over functions: an iterator's contract over a list that is known, and the loop's law; items: lists of goods: All, Good; Lists of goods that may be, plainly; items: Of, Total: plainly; items: Of, Total; Plain: a list of goods in which there are so many of one (setF); Plain: how the reference sets a good's number (set); A law: it returns true, and leaves all that was there. What is common to all laws of this seat; Arguments opened to cells: structs of ints by value, slices of structs of ints; Arguments of whatever structs, opened to their leaves: structs and arrays laid flat; what a leaf is; Slices of structs, whatever they hold: each element's cells, and what else holds of it; A region that draws its order, whose operations only read, and whose calls may lay blocks, but give what does not hang on the world: one walk in the text's order serves (the library's theorem on quiet regions, at the class of all worlds that hold what was there); bins: a bin, its room, how well it takes a good; Plain: the first place where a test holds; bins: a floor; made, find (slices.IndexFunc by wip/tools/idxf.py); A variable that a loop appends to: what the append leaves; items: rows of the call's own, as slices of items; slices.Clone on items; bins: Left, In; bins: Of. -/
import Derived.Test.YtefjdcghdcbojaaGreatRows
import Derived.WalkKit
import Derived.WalkLawsBesides
import Derived.WalkSpells
import Derived.Lib.Hide
import Derived.Deep.AppendLies
import Derived.Maps.OwnIn
import Derived.Maps.OwnSet
import Derived.Maps.Ext
import Derived.Sort.MapsRangeIn
import Derived.Sort.KeysCollected
import Derived.RangeFuncNested
import Derived.Sort.Walk0
import Derived.RangeFuncCalls
import Derived.RangeFuncLeaves
import Derived.OwnWalkIn
import Derived.TacticsInMore
import Derived.LoopNIn
import Derived.LoopIn
import Derived.RegionIn
import Derived.Laws.RangeAny
import Derived.Laws.Cover1
import Derived.Shelf.Abstract
import Derived.ProofKit
import Derived.OpenShut
import Derived.SizedLaws
import Derived.Below
import Derived.Lib.SmallJoins
import Derived.Deep.Slices
import Derived.Deep.Fields
import Derived.ChangeSame
import Derived.BigQuiet
import Derived.Deep.QuietTactic
import Derived.Maps.AppendAt
import Derived.Handy
import Derived.Lib.SliceRun
namespace Go.Proofs.YtefjdcghdcbojaaGreat
open Go.RowKit
theorem ret_int {k : IntKind} {a b : Int} (h : a = b) : Ending.returned (.int k a) = .returned (.int k b) := by rw [h]
theorem val_int {k : IntKind} {a b : Int} (h : a = b) : Value.int k a = .int k b := by rw [h]
theorem run_equalIn_func_nil {P : Program} (w : World) (d : Nat) (t : TypeId) (ps rs : Array TypeId) (b : Bool) (f : Fn) (x y : Array Value) (h : P.underlying t = some (.func ps rs b)) :
    (Op.equalIn (d + 1) t (.func f x y) .nilFunc).run P w = .ok false w := by
  simp [Op.equalIn, run_underlying h]
/-- 'f == nil', f a function that is there. -/
theorem run_eql_func_nil {P : Program} (w : World) (t : TypeId) (ps rs : Array TypeId) (b : Bool) (f : Fn) (x y : Array Value) (h : P.underlying t = some (.func ps rs b)) :
    (binOp .eql t (.func f x y) .nilFunc).run P w = .ok (.bool false) w := by
  simp only [binOp]
  simp [Op.equal, Op.maxDepth, run_equalIn_func_nil w 9999 t ps rs b f x y h]
theorem cell_obj {w : World} {b : Nat} {cs : Array Value} {t : TypeId} (h : w.heap[b]? = some (.cells cs t)) (j : Nat) (v : Value) (hj : cs[j]? = some v) : w.cell? ⟨b, j, none⟩ = some v := by simp [World.cell?, h, hj]
theorem obj_set {w : World} {g : Nat} {cs : Array Value} {t : TypeId} (h : w.heap[g]? = some (.cells cs t)) (j : Nat) (v : Value) : (w.setCell ⟨g, j, none⟩ v).heap[g]? = some (.cells (cs.setIfInBounds j v) t) := by
  obtain ⟨hlt, hk⟩ := Array.getElem?_eq_some_iff.1 h
  show (w.heap.modify g _)[g]? = _
  rw [Array.getElem?_eq_getElem (by rw [Array.size_modify]; exact hlt), Array.getElem_modify_self, hk]
  rfl
theorem obj_frozen {w : World} {g : Nat} {cs : Array Value} {t : TypeId} (h : w.heap[g]? = some (.cells cs t)) (j : Nat) : w.frozen? ⟨g, j, none⟩ = false := by simp [World.frozen?, h]
theorem heap_new (w : World) (o : Obj) : (w.alloc o).heap[w.heap.size]? = some o := by show (w.heap.push o)[w.heap.size]? = _; simp
theorem heap_at {w : World} {b : Nat} (h : b = w.heap.size) (o : Obj) : (w.alloc o).heap[b]? = some o := h ▸ heap_new w o
theorem heap_keep {w : World} {b : Nat} {x : Obj} (h : w.heap[b]? = some x) (o : Obj) : (w.alloc o).heap[b]? = some x := by
  have hb := (Array.getElem?_eq_some_iff.1 h).1
  show (w.heap.push o)[b]? = _
  rw [Array.getElem?_push, if_neg (by omega)]; exact h
end Go.Proofs.YtefjdcghdcbojaaGreat

namespace Go.Proofs.YtefjdcghdcbojaaGreat
open Go.RowKit Go.Maps

/-- Keys of a kind: how they are encoded, how they are told, which they are. -/
structure KT (κ : Type) where
  enc : κ → Value
  lit : κ → Lit
  ok : κ → Prop
structure KO (P : Program) (k : TypeId) {κ : Type} [DecidableEq κ] (T : KT κ) : Prop where
  keyed : Keyed P k
  key : ∀ {x : κ}, T.ok x → keyOf P k (T.enc x) = some (T.lit x)
  back : ∀ {v : Value} {kl : Lit}, keyOf P k v = some kl → ∃ x : κ, T.ok x ∧ v = T.enc x ∧ kl = T.lit x
  same : ∀ x y : κ, (T.lit x).sameKey (T.lit y) = decide (x = y)

def okI (x : Int) : Prop := -9223372036854775808 ≤ x ∧ x ≤ 9223372036854775807
theorem wf_okI {x : Int} : (Lit.int .i64 x).wf = true ↔ okI x := by
  simp [Lit.wf, okI, IntKind.min, IntKind.max, IntKind.signed, IntKind.bits]
def heldR (v : Value) : Option (DataW Value × List MemPlace) := some (.held v, [])
variable {κ ν : Type} [DecidableEq κ]
def insS (lt : κ → κ → Bool) (x : κ × ν) : List (κ × ν) → List (κ × ν)
  | [] => [x]
  | y :: r => if lt x.1 y.1 then x :: y :: r else y :: insS lt x r
def delS (l : List (κ × ν)) (x : κ) : List (κ × ν) := l.filter fun p => !decide (p.1 = x)
def putS (lt : κ → κ → Bool) (l : List (κ × ν)) (x : κ) (v : ν) : List (κ × ν) := insS lt (x, v) (delS l x)
def getS : List (κ × ν) → κ → Option ν
  | [], _ => none
  | p :: r, x => if p.1 = x then some p.2 else getS r x

variable {P : Program} {k : TypeId}
def KT.lt (T : KT κ) (x y : κ) : Bool := (T.lit x).before (T.lit y)
def KT.dat (T : KT κ) (enc : ν → Value) (l : List (κ × ν)) : DataW Value := .map (l.map fun p => (T.lit p.1, .held (enc p.2)))
/-- Block b is a map of keys of kind T, whose entries are l, rising by key. -/
def Mp (P : Program) (w : World) (k : TypeId) (T : KT κ) (enc : ν → Value) (b : Nat) (l : List (κ × ν)) : Prop := ∃ n, w.ownsMap P k heldR b n (T.dat enc l)
variable {T : KT κ}

omit [DecidableEq κ] in
theorem dat_ins (T : KT κ) (enc : ν → Value) (x : κ × ν) (l : List (κ × ν)) :
    DataW.insert (T.lit x.1, .held (enc x.2)) (l.map fun p => (T.lit p.1, .held (enc p.2))) = (insS T.lt x l).map fun p => (T.lit p.1, .held (enc p.2)) := by
  induction l with
  | nil => rfl
  | cons y r ih =>
    show (if (T.lit x.1).before (T.lit y.1) = true then _ else _) = List.map _ (if (T.lit x.1).before (T.lit y.1) = true then _ else _)
    cases (T.lit x.1).before (T.lit y.1)
    · simp only [Bool.false_eq_true, if_false, List.map_cons, ih]
    · simp
theorem dat_del (K : KO P k T) (enc : ν → Value) (x : κ) (l : List (κ × ν)) :
    (l.map fun p => (T.lit p.1, (.held (enc p.2) : DataW Value))).filter (fun p => !p.1.sameKey (T.lit x)) = (delS l x).map fun p => (T.lit p.1, .held (enc p.2)) := by
  unfold delS
  rw [List.filter_map]
  congr 1
  apply List.filter_congr
  intro p _
  simp [K.same]
theorem dat_put (K : KO P k T) (enc : ν → Value) (l : List (κ × ν)) (x : κ) (v : ν) : (T.dat enc l).put (T.lit x) (.held (enc v)) = T.dat enc (putS T.lt l x v) := by
  show DataW.map (DataW.insert _ _) = _
  rw [dat_del K, dat_ins T enc (x, v)]
  rfl
theorem dat_strike (K : KO P k T) (enc : ν → Value) (l : List (κ × ν)) (x : κ) : (T.dat enc l).del (T.lit x) = T.dat enc (delS l x) := by
  show DataW.map _ = _
  rw [dat_del K]
  rfl
omit [DecidableEq κ] in
theorem dat_size (T : KT κ) (enc : ν → Value) (l : List (κ × ν)) : Maps.size (T.dat enc l) = l.length := by simp [KT.dat, Maps.size]

variable {w w' : World} {enc : ν → Value} {b : Nat} {l : List (κ × ν)} {t e : TypeId}
omit [DecidableEq κ] in
theorem Mp.made (P : Program) (w : World) (k : TypeId) (T : KT κ) (enc : ν → Value) : Mp P (w.alloc (.map #[] 0)) k T enc w.heap.size ([] : List (κ × ν)) := ⟨0, World.ownsMap_made w P k heldR⟩
omit [DecidableEq κ] in
theorem Mp.lt (h : Mp P w k T enc b l) : b < w.heap.size := h.elim fun _ h => h.lt
omit [DecidableEq κ] in
theorem Mp.at_ (h : Mp P w k T enc b l) (hg : w'.heap[b]? = w.heap[b]?) : Mp P w' k T enc b l := by
  obtain ⟨n, es, clock, hb, r⟩ := h
  exact ⟨n, es, clock, hg.trans hb, r⟩
omit [DecidableEq κ] in
theorem Mp.below {B : Nat} (h : Mp P w k T enc b l) (hg : Below B w w') (hb : b < B) : Mp P w' k T enc b l := h.at_ (hg.block b hb)
omit [DecidableEq κ] in
theorem Mp.alloc (h : Mp P w k T enc b l) (o : Obj) : Mp P (w.alloc o) k T enc b l := h.elim fun n h => ⟨n, h.alloc o⟩
omit [DecidableEq κ] in
theorem Mp.drew (h : Mp P w k T enc b l) : Mp P w.drew k T enc b l := h
omit [DecidableEq κ] in
theorem Mp.drewN (h : Mp P w k T enc b l) (n : Nat) : Mp P (w.drewN n) k T enc b l := h
omit [DecidableEq κ] in
theorem Mp.setCell (h : Mp P w k T enc b l) {a : Addr} (ha : b ≠ a.block) (u : Value) : Mp P (w.setCell a u) k T enc b l := h.elim fun n h => ⟨n, h.setCell ha u⟩
/-- The keys are of their kind, and rise. -/
theorem Mp.ok (h : Mp P w k T enc b l) (K : KO P k T) : (∀ p ∈ l, T.ok p.1) ∧ l.Pairwise (fun p q => T.lt p.1 q.1 = true) := by
  obtain ⟨n, h⟩ := h
  constructor
  · obtain ⟨es, hD, hk⟩ := h.keysOf
    have e1 : l.map (fun p => (T.lit p.1, (.held (enc p.2) : DataW Value))) = es := by injection hD
    intro p hp
    have : (T.lit p.1, (.held (enc p.2) : DataW Value)) ∈ es := by rw [← e1]; exact List.mem_map.2 ⟨p, hp, rfl⟩
    obtain ⟨v, hv⟩ := hk _ this
    obtain ⟨x, hx, _, e2⟩ := K.back hv
    have := K.same p.1 x
    rw [← e2] at this
    have h3 : (T.lit p.1).sameKey (T.lit p.1) = true := by rw [K.same]; simp
    rw [h3] at this
    have : p.1 = x := by simpa using this.symm
    rw [this]; exact hx
  · obtain ⟨es, hD, hs, _⟩ := h.canon K.keyed
    have e1 : l.map (fun p => (T.lit p.1, (.held (enc p.2) : DataW Value))) = es := by injection hD
    rw [← e1, List.pairwise_map] at hs
    exact hs
omit [DecidableEq κ] in
theorem Mp.len (h : Mp P w k T enc b l) (ht : P.underlying t = some (.map k e)) (ty : TypeId) : (Builtin.len_ #[t] ty #[.map (some b)]).run P w = .ok (.int .i64 l.length) w := by
  obtain ⟨n, h⟩ := h
  rw [h.len ht ty, dat_size]
omit [DecidableEq κ] in
theorem Mp.owns (h : Mp P w k T enc b l) : w.ownsMap P k heldR b l.length (T.dat enc l) := by
  obtain ⟨n, es, clock, hb, F, hs, hD⟩ := h
  refine ⟨es, clock, hb, F, ?_, hD⟩
  have := congrArg Maps.size hD
  rw [dat_size] at this
  simp [Maps.size, length_sorted] at this
  omega
theorem Mp.store (h : Mp P w k T enc b l) (K : KO P k T) (ht : P.underlying t = some (.map k e)) (hl : l.length < 9223372036854775807) {x : κ} (hx : T.ok x) (v : ν) :
    ∃ w', (Instr.mapUpdate t (.map (some b)) (T.enc x) (enc v)).run P w = .ok () w' ∧ Mp P w' k T enc b (putS T.lt l x v) ∧ w.mapTurned w' b := by
  obtain ⟨w', h1, h2, h3⟩ := h.owns.store K.keyed ht (by unfold maxLen; omega) (K.key hx) (d := .held (enc v)) (ps := []) rfl
  exact ⟨w', h1, ⟨_, by rw [← dat_put K]; exact h2⟩, h3⟩
theorem Mp.drop (h : Mp P w k T enc b l) (K : KO P k T) (ht : P.underlying t = some (.map k e)) {x : κ} (hx : T.ok x) (ty : TypeId) :
    ∃ w', (Builtin.delete_ #[t, k] ty #[.map (some b), T.enc x]).run P w = .ok (.tuple #[]) w' ∧ Mp P w' k T enc b (delS l x) ∧ w.mapTurned w' b := by
  obtain ⟨n, h⟩ := h
  obtain ⟨w', h1, h2, h3⟩ := h.drop K.keyed ht (K.key hx) ty
  exact ⟨w', h1, ⟨_, by rw [← dat_strike K]; exact h2⟩, h3⟩
end Go.Proofs.YtefjdcghdcbojaaGreat

namespace Go.Proofs.YtefjdcghdcbojaaGreat
open Go.RowKit Go.Maps
abbrev Str := List UInt8
abbrev vS (s : Str) : Value := .string ⟨s.toArray⟩
def okS (s : Str) : Prop := s.length ≤ maxLen
theorem str_irr (a : Str) : ¬ a < a := List.lt_irrefl a
theorem str_trans {a b c : Str} (h : a < b) (h' : b < c) : a < c := List.lt_trans h h'
theorem str_tri (a b : Str) : a < b ∨ a = b ∨ b < a := by
  by_cases h : a < b
  · exact .inl h
  · by_cases h' : b < a
    · exact .inr (.inr h')
    · exact .inr (.inl (List.le_antisymm h' h))
theorem str_asym {a b : Str} (h : a < b) : ¬ b < a := fun h' => str_irr _ (str_trans h h')
abbrev RiseS {ν : Type} (l : List (Str × ν)) : Prop := l.Pairwise (fun p q => p.1 < q.1)
theorem eqlS (a b : Str) : ((ByteArray.mk a.toArray).toList == (ByteArray.mk b.toArray).toList) = decide (a = b) := by
  rw [Bool.eq_iff_iff]; simp
section
variable {κ ν : Type} [DecidableEq κ]
end
end Go.Proofs.YtefjdcghdcbojaaGreat

namespace Go.Proofs.YtefjdcghdcbojaaGreat
open Go.RowKit Go.Maps
/-- A good's level and flow. -/
structure SR where
  free : Int
  held : Int
  picked : Int
  aside : Int
  received : Int
  returned : Int
  counted : Int
  came : Int
  shipped : Int
  scrapped : Int
  sent : Int
deriving DecidableEq
def SR.zero : SR := ⟨0, 0, 0, 0, 0, 0, 0, 0, 0, 0, 0⟩
def SR.cs (r : SR) : Array Value := #[.int .i64 r.free, .int .i64 r.held, .int .i64 r.picked, .int .i64 r.aside, .int .i64 r.received, .int .i64 r.returned, .int .i64 r.counted, .int .i64 r.came, .int .i64 r.shipped, .int .i64 r.scrapped, .int .i64 r.sent]
def SR.enc (r : SR) : Value := .agg r.cs
/-- Is it a count? -/
def mayI (n : Int) : Bool := decide (0 ≤ n) && decide (n ≤ 1099511627776)
def flowI (n : Int) : Bool := decide (0 ≤ n) && decide (n ≤ 72057594037927936)
def SR.each (r : SR) : Bool := mayI r.free && mayI r.held && mayI r.picked && mayI r.aside && (flowI r.received && flowI r.returned && flowI r.came && flowI r.shipped && flowI r.scrapped && flowI r.sent)
def SR.sum (r : SR) : Int := r.free + r.held + r.picked + r.aside
def SR.right (r : SR) : Bool := r.each && mayI r.sum
def SR.flow (r : SR) : Int := r.received + r.returned + r.counted + r.came - r.shipped - r.scrapped - r.sent
def SR.bal (r : SR) : Bool := r.each && (decide (-576460752303423488 ≤ r.counted) && decide (r.counted ≤ 576460752303423488) && decide (r.sum = r.flow))
theorem mayI_iff {n : Int} : mayI n = true ↔ 0 ≤ n ∧ n ≤ 1099511627776 := by simp [mayI]
theorem flowI_iff {n : Int} : flowI n = true ↔ 0 ≤ n ∧ n ≤ 72057594037927936 := by simp [flowI]
/-- The numbers' bounds, written out. -/
structure SRb (r : SR) : Prop where
  a0 : 0 ≤ r.free ∧ r.free ≤ 1099511627776
  a1 : 0 ≤ r.held ∧ r.held ≤ 1099511627776
  a2 : 0 ≤ r.picked ∧ r.picked ≤ 1099511627776
  a3 : 0 ≤ r.aside ∧ r.aside ≤ 1099511627776
  b0 : 0 ≤ r.received ∧ r.received ≤ 72057594037927936
  b1 : 0 ≤ r.returned ∧ r.returned ≤ 72057594037927936
  b2 : 0 ≤ r.came ∧ r.came ≤ 72057594037927936
  b3 : 0 ≤ r.shipped ∧ r.shipped ≤ 72057594037927936
  b4 : 0 ≤ r.scrapped ∧ r.scrapped ≤ 72057594037927936
  b5 : 0 ≤ r.sent ∧ r.sent ≤ 72057594037927936
theorem SR.each_iff {r : SR} : r.each = true ↔ SRb r := by
  simp only [SR.each, Bool.and_eq_true, mayI_iff, flowI_iff]
  exact ⟨fun ⟨⟨⟨⟨a, b⟩, c⟩, d⟩, ⟨⟨⟨⟨e, f⟩, g⟩, h⟩, i⟩, j⟩ => ⟨a, b, c, d, e, f, g, h, i, j⟩, fun ⟨a, b, c, d, e, f, g, h, i, j⟩ => ⟨⟨⟨⟨a, b⟩, c⟩, d⟩, ⟨⟨⟨⟨e, f⟩, g⟩, h⟩, i⟩, j⟩⟩
/-- A good that may be in a stock. -/
structure SRok (r : SR) : Prop where
  b : SRb r
  sum : 0 ≤ r.sum ∧ r.sum ≤ 1099511627776
  bal : r.sum = r.flow
theorem SRok.counted {r : SR} (h : SRok r) : -576460752303423488 ≤ r.counted ∧ r.counted ≤ 576460752303423488 := by
  have h0 := h.bal
  unfold SR.sum SR.flow at h0
  obtain ⟨⟨a0, a1, a2, a3, b0, b1, b2, b3, b4, b5⟩, -, -⟩ := h
  omega
theorem SRok.right {r : SR} (h : SRok r) : r.right = true := by
  unfold SR.right
  rw [Bool.and_eq_true, SR.each_iff, mayI_iff]
  exact ⟨h.b, h.sum⟩
theorem SRok.of {r : SR} (h1 : r.right = true) (h2 : r.bal = true) : SRok r := by
  unfold SR.right at h1
  rw [Bool.and_eq_true, SR.each_iff, mayI_iff] at h1
  unfold SR.bal at h2
  simp only [Bool.and_eq_true, decide_eq_true_eq] at h2
  exact ⟨h1.1, h1.2, h2.2.2⟩
theorem SRok.zero : SRok SR.zero := by
  refine ⟨⟨?_, ?_, ?_, ?_, ?_, ?_, ?_, ?_, ?_, ?_⟩, ?_, ?_⟩ <;> simp [SR.zero, SR.sum, SR.flow]
/-- A row's number, by its place. -/
def SR.get (r : SR) : Nat → Int
  | 0 => r.free
  | 1 => r.held
  | 2 => r.picked
  | 3 => r.aside
  | 4 => r.received
  | 5 => r.returned
  | 6 => r.counted
  | 7 => r.came
  | 8 => r.shipped
  | 9 => r.scrapped
  | _ => r.sent
def SR.set (r : SR) (i : Nat) (n : Int) : SR :=
  match i with
  | 0 => { r with free := n }
  | 1 => { r with held := n }
  | 2 => { r with picked := n }
  | 3 => { r with aside := n }
  | 4 => { r with received := n }
  | 5 => { r with returned := n }
  | 6 => { r with counted := n }
  | 7 => { r with came := n }
  | 8 => { r with shipped := n }
  | 9 => { r with scrapped := n }
  | _ => { r with sent := n }
def SR.add (r : SR) (o : Option Nat) (n : Int) : SR := match o with
  | none => r
  | some i => r.set i (r.get i + n)
abbrev Stk := List (Str × SR)
def rowAt (A : Stk) (g : Str) : SR := (getS A g).getD SR.zero
abbrev Its := List (Str × Int)
def goodC (c : UInt8) : Bool := (decide (97 ≤ c.toNat) && decide (c.toNat ≤ 122)) || (decide (48 ≤ c.toNat) && decide (c.toNat ≤ 57)) || decide (c.toNat = 45)
def goodB (s : Str) : Bool := s.all goodC && (decide (0 < s.length) && decide (s.length ≤ 16))
def itsOk : Str → Its → Bool
  | _, [] => true
  | last, p :: r => goodB p.1 && decide (1 ≤ p.2) && mayI p.2 && decide (last < p.1) && itsOk p.1 r
def mayL (l : Its) : Bool := itsOk [] l && decide (l.length ≤ 16)
/-- A stock that may be. -/
structure SOk (A : Stk) : Prop where
  rise : RiseS A
  good : ∀ p ∈ A, goodB p.1 = true
  row : ∀ p ∈ A, SRok p.2
  len : A.length ≤ 64
theorem getS_memS {ν : Type} {A : List (Str × ν)} {g : Str} {v : ν} (h : getS A g = some v) : (g, v) ∈ A := by
  induction A with
  | nil => cases h
  | cons p r ih =>
    simp only [getS] at h
    by_cases e : p.1 = g
    · rw [if_pos e] at h
      cases h
      subst e
      simp
    · rw [if_neg e] at h
      exact List.mem_cons_of_mem _ (ih h)
theorem SOk.at_ {A : Stk} (h : SOk A) (g : Str) : SRok (rowAt A g) := by
  show SRok ((getS A g).getD SR.zero)
  cases e : getS A g with
  | none => exact SRok.zero
  | some v => exact h.row _ (getS_memS e)
end Go.Proofs.YtefjdcghdcbojaaGreat

namespace Go.Proofs.YtefjdcghdcbojaaGreat
open Go.RowKit
/-- w' is w, but for the old blocks of S, and for new blocks. -/
structure Fr (S : Nat → Prop) (w w' : World) : Prop where
  os : w'.os = w.os
  tape : w'.tape = w.tape
  output : w'.output = w.output
  size : w.heap.size ≤ w'.heap.size
  same : ∀ b, b < w.heap.size → ¬ S b → w'.heap[b]? = w.heap[b]?
section
variable {S S' : Nat → Prop} {w w' w'' : World}
theorem Fr.refl (S : Nat → Prop) (w : World) : Fr S w w := ⟨rfl, rfl, rfl, Nat.le_refl _, fun _ _ _ => rfl⟩
theorem Fr.trans (h : Fr S w w') (h' : Fr S w' w'') : Fr S w w'' :=
  ⟨h'.os.trans h.os, h'.tape.trans h.tape, h'.output.trans h.output, Nat.le_trans h.size h'.size, fun b hb hs => (h'.same b (Nat.lt_of_lt_of_le hb h.size) hs).trans (h.same b hb hs)⟩
theorem Fr.mono (h : Fr S w w') (hS : ∀ b, b < w.heap.size → S b → S' b) : Fr S' w w' := ⟨h.os, h.tape, h.output, h.size, fun b hb hs => h.same b hb (fun e => hs (hS b hb e))⟩
/-- As 'trans', where the second step may turn new blocks too. -/
theorem Fr.trans' (h : Fr S w w') (h' : Fr S' w' w'') (hS : ∀ b, b < w.heap.size → S' b → S b) : Fr S w w'' :=
  ⟨h'.os.trans h.os, h'.tape.trans h.tape, h'.output.trans h.output, Nat.le_trans h.size h'.size, fun b hb hs => (h'.same b (Nat.lt_of_lt_of_le hb h.size) (fun e => hs (hS b hb e))).trans (h.same b hb hs)⟩
theorem Fr.drew (h : Fr S w w') : Fr S w w'.drew := ⟨h.os, h.tape, h.output, h.size, h.same⟩
theorem Fr.drewN (h : Fr S w w') (n : Nat) : Fr S w (w'.drewN n) := ⟨h.os, h.tape, h.output, h.size, h.same⟩
theorem Fr.grown {row : Option Nat} (h : w.grownBy w' row) (hr : ∀ r, row = some r → r < w.heap.size → S r) : Fr S w w' :=
  ⟨h.os, h.tape, h.output, h.size, fun b hb hs => h.block b hb (fun e => hs (hr b e.symm hb))⟩
theorem Fr.below (h : Below w.heap.size w w') : Fr S w w' := ⟨h.os, h.tape, h.output, h.size, fun b hb _ => h.block b hb⟩
theorem Fr.toBelow {B : Nat} (h : Fr S w w') (hS : ∀ b, S b → B ≤ b) (hB : B ≤ w.heap.size) : Below B w w' :=
  ⟨h.os, h.tape, h.output, h.size, fun b hb => h.same b (by omega) (fun e => by have := hS b e; omega)⟩
theorem Fr.alloc (h : Fr S w w') (o : Obj) : Fr S w (w'.alloc o) := h.trans (Fr.grown (row := none) (World.grownBy_alloc w' o none) (fun _ e => by cases e))
theorem Fr.setCell (h : Fr S w w') {p : Addr} (hp : p.block < w.heap.size → S p.block) (u : Value) : Fr S w (w'.setCell p u) :=
  ⟨h.os, h.tape, h.output, by simpa [World.setCell] using h.size, fun b hb hs => (Below.heap_setCell w' p u b (fun e => hs (by rw [e]; exact hp (by rw [← e]; exact hb)))).trans (h.same b hb hs)⟩
theorem Fr.putObj (h : Fr S w w') {l : Nat} (hl : l < w.heap.size → S l) (o : Obj) : Fr S w (w'.putObj l o) :=
  ⟨h.os, h.tape, h.output, by simpa using h.size, fun b hb hs => (World.putObj_heap_other (fun e => hs (by rw [e]; exact hl (by rw [← e]; exact hb)))).trans (h.same b hb hs)⟩
theorem Fr.at_ {b : Nat} {o : Obj} (h : Fr S w w') (hb : w.heap[b]? = some o) (hs : ¬ S b) : w'.heap[b]? = some o := (h.same b (Array.getElem?_eq_some_iff.1 hb).1 hs).trans hb
theorem Fr.cell {p : Addr} {v : Value} (h : Fr S w w') (hc : w.cell? p = some v) (hs : ¬ S p.block) : w'.cell? p = some v :=
  (World.cell?_of_block (h.same p.block (World.block_lt_of_cell? w _ hc) hs)).trans hc
theorem Fr.box {b : Nat} {t : TypeId} {v : Value} (h : Fr S w w') (hb : Boxed w b t v) (hs : ¬ S b) : Boxed w' b t v := h.at_ hb hs
theorem Fr.row {base : Nat} {e : TypeId} {size n : Nat} {v : Value} {xs : List Value} (h : Fr S w w') (ho : w.ownsRow base e size v n xs) (hs : ∀ b, v.ownBlock = some b → ¬ S b) : w'.ownsRow base e size v n xs := by
  refine ⟨ho.1, ?_⟩
  rcases ho.2 with h0 | ⟨g, cap, cur, rfl, hbase, hb, r⟩
  · exact .inl h0
  · exact .inr ⟨g, cap, cur, rfl, hbase, h.at_ hb (hs g rfl), r⟩
/-- A block that is none of the program's own data: a loop's record, an iterator over a map or a string .. -/
def auxObj : Obj → Bool
  | .cells .. | .map .. | .pending .. | .view .. | .number .. | .chan .. | .coro .. | .finalizers .. => false
  | _ => true
def AuxAt (B : Nat) (w : World) (b : Nat) : Prop := B ≤ b ∧ ∃ o, w.heap[b]? = some o ∧ auxObj o = true
/-- Behind it cells and maps are as they were, and what lay below B. -/
abbrev Fa (B : Nat) (w w' : World) : Prop := Fr (AuxAt B w) w w'
theorem Fa.cells {B b : Nat} {cs : Array Value} {t : TypeId} {fr : Nat × Nat} (h : Fa B w w') (hb : w.heap[b]? = some (.cells cs t fr)) : w'.heap[b]? = some (.cells cs t fr) :=
  h.at_ hb (fun ⟨_, o, ho, hx⟩ => by rw [hb] at ho; cases ho; cases hx)
theorem Fa.cell {B : Nat} {p : Addr} {v : Value} (h : Fa B w w') (hc : w.cell? p = some v) : w'.cell? p = some v := by
  refine Fr.cell h hc (fun ⟨_, o, ho, hx⟩ => ?_)
  unfold World.cell? at hc
  rw [ho] at hc
  cases o <;> simp at hc
  cases hx
theorem Fa.box {B b : Nat} {t : TypeId} {v : Value} (h : Fa B w w') (hb : Boxed w b t v) : Boxed w' b t v := Fa.cells h hb
theorem Fa.row {base B : Nat} {e : TypeId} {size n : Nat} {v : Value} {xs : List Value} (h : Fa B w w') (ho : w.ownsRow base e size v n xs) : w'.ownsRow base e size v n xs := by
  refine ⟨ho.1, ?_⟩
  rcases ho.2 with h0 | ⟨g, cap, cur, rfl, hbase, hb, r⟩
  · exact .inl h0
  · exact .inr ⟨g, cap, cur, rfl, hbase, Fa.cells h hb, r⟩
theorem Fa.old {B : Nat} (h : Fa B w' w'') (h0 : Fr S w w') (hB : w.heap.size ≤ B) : Fr S w w'' := h0.trans' h (fun b hb hx => by have := hx.1; omega)
end
end Go.Proofs.YtefjdcghdcbojaaGreat

namespace Go.Proofs.YtefjdcghdcbojaaGreat
open Go.RowKit
def Stp (TS : Nat → Prop) (w w' : World) (TS' : Nat → Prop) : Prop := Fr TS w w' ∧ ∀ b, TS' b → TS b ∨ w.heap.size ≤ b
section
variable {w w' : World} {TS : Nat → Prop}
theorem Stp.refl (h : Fr (fun _ => False) w w') : Stp TS w w' TS := ⟨h.mono (fun _ _ e => e.elim), fun _ e => .inl e⟩
theorem Stp.low {TS TS' : Nat → Prop} {w w' : World} {n : Nat} (hs : Stp TS w w' TS') (hT : ∀ b, TS b → n ≤ b) (hn : n ≤ w.heap.size) : ∀ b, TS' b → n ≤ b := fun b hb => by
  rcases hs.2 b hb with h | h
  · exact hT b h
  · omega
theorem Stp.fr {TS TS' : Nat → Prop} {w0 w w' : World} {n : Nat} (hs : Stp TS w w' TS') (hf : Fr (fun b => n ≤ b) w0 w) (hT : ∀ b, TS b → n ≤ b) : Fr (fun b => n ≤ b) w0 w' := hf.trans' hs.1 (fun b _ e => hT b e)
theorem Stp.trans {TS TS' TS'' : Nat → Prop} {w w' w'' : World} (h : Stp TS w w' TS') (h' : Stp TS' w' w'' TS'') : Stp TS w w'' TS'' :=
  ⟨h.1.trans' h'.1 (fun b hb e => (h.2 b e).elim id (fun e => by omega)), fun b hb => by
    rcases h'.2 b hb with e | e
    · exact h.2 b e
    · exact .inr (Nat.le_trans h.1.size e)⟩
end
end Go.Proofs.YtefjdcghdcbojaaGreat

namespace Go.Proofs.YtefjdcghdcbojaaGreat
open Go.RowKit Go.Maps
theorem kMay (w : World) (n : Int) : Calls Tryz.prog 91 #[.int .i64 n] w fun e w' => e = .returned (.bool (mayI n)) ∧ w = w' := by
  unfold mayI
  by_cases h1 : 0 ≤ n <;> by_cases h2 : n ≤ 1099511627776
  all_goals
    simp only [h1, h2, decide_true, decide_false, Bool.and_true, Bool.and_false]
    go_enter Tryz.func91, Tryz.ntmps91
    go_wp2
    go_ret
    exact ⟨rfl, rfl⟩
end Go.Proofs.YtefjdcghdcbojaaGreat

namespace Go.Proofs.YtefjdcghdcbojaaGreat
open Go.RowKit
variable {α : Type}
/-- What a caller keeps between two rounds abides whatever the iterator, and the loop's own record, do. -/
def Ab (B : Nat) (J : World → Prop) : Prop := ∀ W W', J W → Fa B W W' → J W'
/-- A round of loop l: the yield is taken up as a round, which ends in R. -/
abbrev Yd (l : Nat) (args : Array Value) (W : World) (R : Ending → World → Prop) : Prop := YieldAt Fence.wide 0 Tryz.prog l args W R
/-- The blocks that rounds have made: C, and what has been made from W to W'. -/
def CC (C : Nat → Prop) (W W' : World) (b : Nat) : Prop := C b ∨ (W.heap.size ≤ b ∧ b < W'.heap.size)
/-- THE ITERATOR gf (with what it has captured, lb) GIVES X, one by one, or a part of it if a round says no more; between rounds it reads no block that the rounds may turn (S: the old blocks that they may turn; C: those that rounds have made). -/
def ItX (gf : Nat) (lb : Array Value) (encs : α → Array Value) (X : List α) (S : Nat → Prop) (w : World) : Prop :=
  ∀ (l : Nat) (S' : Nat → Prop) (J Jx : Nat → (Nat → Prop) → World → Prop) (W : World), Below w.heap.size w W → (∀ b, S' b → b < W.heap.size ∧ (b < w.heap.size → S b)) → (∀ k C, Ab W.heap.size (J k C)) →
    (∀ k x C W1, X[k]? = some x → J k C W1 → Yd l (encs x) W1 fun e W' =>
      (e = .returned (.bool true) ∧ J (k + 1) (CC C W1 W') W' ∧ Fr (fun b => S' b ∨ C b) W1 W') ∨ (e = .returned (.bool false) ∧ Jx (k + 1) (CC C W1 W') W' ∧ Fr (fun b => S' b ∨ C b) W1 W')) →
    (∀ k C, Ab W.heap.size (Jx k C)) →
    J 0 (fun _ => False) W →
    Calls Tryz.prog gf (#[.func (.yield l) #[] #[]] ++ lb) W fun e W' => (∃ v, e = .returned v) ∧ ((∃ C, J X.length C W') ∨ ∃ k C, k ≤ X.length ∧ Jx k C W')
theorem ItX.mono {gf : Nat} {lb : Array Value} {encs : α → Array Value} {X : List α} {S S0 : Nat → Prop} {w : World} (h : ItX gf lb encs X S w) (hS : ∀ b, S0 b → S b) : ItX gf lb encs X S0 w :=
  fun l S' J Jx W hW hS' => h l S' J Jx W hW (fun b hb => ⟨(hS' b hb).1, fun hl => hS b ((hS' b hb).2 hl)⟩)
/-- How a round's body ends: C0: what the rounds had made when this one began, in W0. -/
def bodyEnd (S C0 : Nat → Prop) (W0 : World) (I : Nat → (Nat → Prop) → World → Prop) (Ix : Code → Nat → (Nat → Prop) → World → Prop) (k : Nat) (W : World) : Exit → Act → World → Prop
  | .normal, _, W' => Fr (fun b => S b ∨ CC C0 W0 W b) W W' ∧ I k (CC C0 W0 W') W'
  | .ret, _, W' => Fr (fun b => S b ∨ CC C0 W0 W b) W W' ∧ Ix .ret k (CC C0 W0 W') W'
  | .exit id, _, W' => Fr (fun b => S b ∨ CC C0 W0 W b) W W' ∧ Ix (.exit id) k (CC C0 W0 W') W'
  | .goto t, _, W' => Fr (fun b => S b ∨ CC C0 W0 W b) W W' ∧ Ix (.goto t) k (CC C0 W0 W') W'
  | .panic _, _, _ => False
  | .outgrown, _, _ => False
/-- Behind the assignment to the loop's variables: what the body owes. -/
def Took (w : World) (S C : Nat → Prop) (I : Nat → (Nat → Prop) → World → Prop) (Ix : Code → Nat → (Nat → Prop) → World → Prop) (k l : Nat) (W : World) (body : Code) (a' : Act) (W' : World) : Prop :=
  Fr (fun b => S b ∨ C b) W W' ∧ I k C W' ∧ ∀ Wb, I k C Wb → Fr S w Wb → Fa w.heap.size W' Wb → W.heap.size ≤ Wb.heap.size → w.heap.size ≤ W.heap.size → (∀ b, C b → w.heap.size ≤ b) → (∃ r, Wb.heap[l]? = some (.loop r)) →
    body.wpIn (Fence.wide.inRound l) 0 Tryz.prog (bodyEnd S C W I Ix (k + 1) Wb) a' Wb
theorem Took.mk {w : World} {S C : Nat → Prop} {I : Nat → (Nat → Prop) → World → Prop} {Ix : Code → Nat → (Nat → Prop) → World → Prop} {k l : Nat} {W : World} {body : Code} {a' : Act} {W' : World}
    (h1 : Fr (fun b => S b ∨ C b) W W') (h2 : I k C W') (h3 : ∀ Wb, I k C Wb → Fr S w Wb → Fa w.heap.size W' Wb → W.heap.size ≤ Wb.heap.size → w.heap.size ≤ W.heap.size → (∀ b, C b → w.heap.size ≤ b) → (∃ r, Wb.heap[l]? = some (.loop r)) →
    body.wpIn (Fence.wide.inRound l) 0 Tryz.prog (bodyEnd S C W I Ix (k + 1) Wb) a' Wb) : Took w S C I Ix k l W body a' W' := ⟨h1, h2, h3⟩
theorem frAlloc {B : Nat} {w : World} (o : Obj) : Fa B w (w.alloc o) := (Fr.refl _ _).alloc o
theorem frPut {B : Nat} {w : World} {l : Nat} {o : Obj} (o' : Obj) (hB : B ≤ l) (hl : w.heap[l]? = some o) (ho : auxObj o = true) : Fa B w (w.putObj l o') := (Fr.refl _ _).putObj (fun _ => ⟨hB, o, hl, ho⟩) o'
theorem Ab.fr {S : Nat → Prop} {w : World} {B : Nat} (hB : w.heap.size ≤ B) : Ab B (fun W => Fr S w W) := fun _ _ h hf => Fa.old hf h hB
theorem Fa.up {B B' : Nat} {W W' : World} (h : Fa B' W W') (hB : B ≤ B') : Fa B W W' := Fr.mono h fun _ _ ⟨a, b⟩ => ⟨Nat.le_trans hB a, b⟩
/-- **A range over an iterator that gives X**, at the outermost level of a function: the loop's variables may be boxed (W': behind the assignment; Wb: where the body begins). C: the blocks that the rounds have made. -/
theorem rangeX {g : Operand} {ps : Array Tmp} {assign body : Code} {Q : Exit → Act → World → Prop} {a : Act} {w w0 : World} {n : Nat}
    {gf : Nat} {lb : Array Value} (hg : a.eval g = .func (.func gf) #[] lb) (eg : ∀ args w, (callFunc gf args).run Tryz.prog w = .ok (.enter gf args) w)
    {encs : α → Array Value} {X : List α} {S : Nat → Prop} (hseq : ItX gf lb encs X S w0) (hb0 : Below w0.heap.size w0 w) (hS : ∀ b, S b → b < w.heap.size) (hps : ∀ x, (encs x).size = ps.size)
    (I : Nat → (Nat → Prop) → World → Prop) (Ix : Code → Nat → (Nat → Prop) → World → Prop) (hI : ∀ k C, Ab w.heap.size (I k C)) (hIx : ∀ c k C, Ab w.heap.size (Ix c k C)) (h0 : I 0 (fun _ => False) w)
    (hround : ∀ (l k : Nat) (x : α) (C : Nat → Prop) (W : World), X[k]? = some x → w.heap.size ≤ l → I k C W → Fr S w W →
      assign.wpIn (Fence.wide.inRound l) 0 Tryz.prog (Exit.then (Took w S C I Ix k l W body) (fun _ _ _ => False)) { tmps := (ps.zip (encs x)).foldl (fun t (p, v) => t.setIfInBounds p v) a.tmps, defers := [] } W)
    (hdone : ∀ (D : Nat) (C : Nat → Prop) (W : World), w.heap.size ≤ D → I X.length C W → Fr S w W → W.heap[D]? = some (.deferred (some [])) → Q .normal { a with defers := { target := .collected D, args := #[] } :: a.defers } W)
    (hstop : ∀ (D : Nat) (c : Code) (k : Nat) (C : Nat → Prop) (W : World), w.heap.size ≤ D → k ≤ X.length → Ix c k C W → Fr S w W → W.heap[D]? = some (.deferred (some [])) →
      c.wpIn Fence.wide n Tryz.prog Q { a with defers := { target := .collected D, args := #[] } :: a.defers } W) :
    (Code.rangeFunc g ps assign body).wpIn Fence.wide n Tryz.prog Q a w := by
  refine wpIn_rangeFunc ?_
  intro fn hfn
  obtain ⟨rec, hrec⟩ : ∃ rec : LoopState → Option Code → Loop, rec = fun st pe => { state := st, pending := pe, fn, tmps := a.tmps, params := ps, assign, body, defers := w.heap.size } := ⟨_, rfl⟩
  obtain ⟨W1, hW1⟩ : ∃ W1, (w.alloc (.deferred (some []))).alloc (.loop (rec .ready none)) = W1 := ⟨_, rfl⟩
  have hs1 : W1.heap.size = w.heap.size + 2 := by rw [← hW1]; simp
  have hL1 : W1.heap[w.heap.size + 1]? = some (.loop (rec .ready none)) := by
    rw [← hW1]; have := World.alloc_heap_new (w.alloc (.deferred (some []))) (.loop (rec .ready none)); rwa [World.size_alloc] at this
  have hD1 : W1.heap[w.heap.size]? = some (.deferred (some [])) := by
    rw [← hW1]; exact (Below.heap_alloc _ _ _ (by simp)).trans (World.alloc_heap_new w _)
  have hf1 : Fa w.heap.size w W1 := by rw [← hW1]; exact ((Fr.refl _ _).alloc _).alloc _
  have hr1 : Fr S w W1 := by rw [← hW1]; exact ((Fr.refl _ _).alloc _).alloc _
  have hb1 : Below w0.heap.size w0 W1 := by
    rw [← hW1]; exact hb0.trans ((((Below.refl _ w).alloc (Nat.le_refl _) _).alloc (by simp) _).mono hb0.size)
  refine ⟨w.heap.size + 1, [{ target := .collected w.heap.size, args := #[] }], W1, { target := .fn (.func gf) lb, args := #[.func (.yield (w.heap.size + 1)) #[] #[]] }, W1, gf,
    #[.func (.yield (w.heap.size + 1)) #[] #[]] ++ lb, W1, ?_, ?_, fun _ _ => trivial, ?_, (fun h => by cases h), ?_⟩
  · rw [← hW1, hrec]; exact run_enterLoop_outer _ _ _ _ _
  · simp only [resolve, hg]
    simp [go_sem]
  · simp [invoke, go_sem, eg]
  have hB : w.heap.size ≤ W1.heap.size := by omega
  have hDL : ∀ {st pe A B}, A.heap[w.heap.size + 1]? = some (.loop (rec st pe)) → A.heap[w.heap.size]? = some (.deferred (some [])) → Fa W1.heap.size A B →
      B.heap[w.heap.size + 1]? = some (.loop (rec st pe)) ∧ B.heap[w.heap.size]? = some (.deferred (some [])) := fun hl hd hf =>
    ⟨hf.at_ hl (fun hx => by have := hx.1; omega), hf.at_ hd (fun hx => by have := hx.1; omega)⟩
  refine callsIn_wide.2 ((hseq (w.heap.size + 1) (fun b => S b ∨ b = w.heap.size + 1)
    (fun k C W => I k C W ∧ Fr S w W ∧ (∀ b, C b → w.heap.size + 2 ≤ b) ∧ W.heap[w.heap.size + 1]? = some (.loop (rec .ready none)) ∧ W.heap[w.heap.size]? = some (.deferred (some [])))
    (fun k C W => ∃ c, Ix c k C W ∧ Fr S w W ∧ W.heap[w.heap.size + 1]? = some (.loop (rec .done (some c))) ∧ W.heap[w.heap.size]? = some (.deferred (some [])))
    W1 hb1 ?_ ?_ ?_ ?_ ⟨hI 0 _ _ _ h0 hf1, hr1, fun _ h => h.elim, hL1, hD1⟩).mono ?_)
  · rintro b (h | rfl)
    · have := hS b h
      exact ⟨by omega, fun _ => h⟩
    · exact ⟨by omega, fun h => by have := hb0.size; omega⟩
  · rintro k C A B ⟨hi, hr, hC, hl, hd⟩ hf
    obtain ⟨hl', hd'⟩ := hDL hl hd hf
    exact ⟨hI k C _ _ hi (Fa.up hf hB), Fa.old hf hr hB, hC, hl', hd'⟩
  · -- a round
    rintro k x C W hx ⟨hi, hr, hC, hl, hd⟩
    have hy := run_yield (P := Tryz.prog) (args := encs x) hl (by rw [hrec]; exact hps x)
    rw [hrec] at hy
    have hltW : w.heap.size + 1 < W.heap.size := (Array.getElem?_eq_some_iff.1 hl).1
    have nS : ∀ (A B : World), W.heap.size ≤ A.heap.size → ¬ (S (w.heap.size + 1) ∨ CC C A B (w.heap.size + 1)) ∧ ¬ (S w.heap.size ∨ CC C A B w.heap.size) := fun A B hA => by
      constructor
      · rintro (e | e | e)
        · have := hS _ e; omega
        · have := hC _ e; omega
        · omega
      · rintro (e | e | e)
        · have := hS _ e; omega
        · have := hC _ e; omega
        · omega
    refine ⟨fn, _, assign, body, hy, roundIn_of_wpIn hfn (wpIn_mono (hround _ k x C W hx (by omega) hi hr) ?_)⟩
    rintro e0 a' Wa h0
    cases e0 with
    | normal => ?_
    | _ => exact h0
    obtain ⟨hra, hia, hbody⟩ := h0
    have hla := hra.at_ hl (fun e => e.elim (fun e => by have := hS _ e; omega) (fun e => by have := hC _ e; omega))
    have hda := hra.at_ hd (fun e => e.elim (fun e => by have := hS _ e; omega) (fun e => by have := hC _ e; omega))
    refine ⟨_, run_beginRound hla (by rw [hrec]), ?_⟩
    obtain ⟨Wb, hWb⟩ : ∃ Wb, Wa.putObj (w.heap.size + 1) (.loop { rec .ready none with state := .busy }) = Wb := ⟨_, rfl⟩
    rw [hWb]
    have hlt : w.heap.size + 1 < Wa.heap.size := (Array.getElem?_eq_some_iff.1 hla).1
    have hszb : Wb.heap.size = Wa.heap.size := by rw [← hWb]; simp
    have hlb : Wb.heap[w.heap.size + 1]? = some (.loop { rec .ready none with state := .busy }) := by rw [← hWb]; exact World.putObj_heap_same hlt
    have hdb : Wb.heap[w.heap.size]? = some (.deferred (some [])) := by rw [← hWb]; exact (World.putObj_heap_other (by omega)).trans hda
    have hfb : Fa w.heap.size Wa Wb := by rw [← hWb]; exact frPut _ (by omega) hla rfl
    have hra' : Fr S w Wa := hr.trans' hra (fun b hb e => e.elim id (fun e => by have := hC _ e; omega))
    have hrb : Fr S w Wb := Fa.old hfb hra' (Nat.le_refl _)
    have hrW : Fr (fun b => (S b ∨ b = w.heap.size + 1) ∨ C b) W Wb := by
      rw [← hWb]; exact (hra.mono (fun b _ h => h.elim (fun h => .inl (.inl h)) .inr)).putObj (fun _ => .inl (.inr rfl)) _
    have hszW : W.heap.size ≤ Wb.heap.size := by rw [hszb]; exact hra.size
    refine wpIn_mono (hbody Wb (hI k C _ _ hia hfb) hrb hfb hszW hr.size (fun b e => by have := hC b e; omega) ⟨_, hlb⟩) ?_
    have fin : ∀ (jump : Option Code) (W3 : World), Fr (fun b => S b ∨ CC C W Wb b) Wb W3 →
        (Instr.endRound (w.heap.size + 1) jump).run Tryz.prog W3 = .ok (.bool jump.isNone) (W3.putObj (w.heap.size + 1) (.loop (rec (if jump.isNone then .ready else .done) jump))) ∧
        Fa w.heap.size W3 (W3.putObj (w.heap.size + 1) (.loop (rec (if jump.isNone then .ready else .done) jump))) ∧
        Fr S w (W3.putObj (w.heap.size + 1) (.loop (rec (if jump.isNone then .ready else .done) jump))) ∧
        Fr (fun b => (S b ∨ b = w.heap.size + 1) ∨ C b) W (W3.putObj (w.heap.size + 1) (.loop (rec (if jump.isNone then .ready else .done) jump))) ∧
        (∀ b, CC C W W3 b → w.heap.size + 2 ≤ b) ∧ CC C W (W3.putObj (w.heap.size + 1) (.loop (rec (if jump.isNone then .ready else .done) jump))) = CC C W W3 ∧
        (W3.putObj (w.heap.size + 1) (.loop (rec (if jump.isNone then .ready else .done) jump))).heap[w.heap.size + 1]? = some (.loop (rec (if jump.isNone then .ready else .done) jump)) ∧
        (W3.putObj (w.heap.size + 1) (.loop (rec (if jump.isNone then .ready else .done) jump))).heap[w.heap.size]? = some (.deferred (some [])) := fun jump W3 h3 => by
      have hn := nS W Wb (Nat.le_refl _)
      have hl3 := h3.at_ hlb hn.1
      have hd3 := h3.at_ hdb hn.2
      have he := run_endRound (P := Tryz.prog) jump hl3
      rw [hrec] at he ⊢
      refine ⟨he, frPut _ (by omega) hl3 rfl, ?_, ?_, ?_, ?_, World.putObj_heap_same (Array.getElem?_eq_some_iff.1 hl3).1, (World.putObj_heap_other (by omega)).trans hd3⟩
      · refine (hrb.trans' h3 ?_).putObj (fun h => by omega) _
        rintro b hb (e | e | e)
        · exact e
        · have := hC _ e; omega
        · omega
      · refine (hrW.trans' h3 ?_).putObj (fun _ => .inl (.inr rfl)) _
        rintro b hb (e | e | e)
        · exact .inl (.inl e)
        · exact .inr e
        · omega
      · rintro b (e | e)
        · exact hC _ e
        · omega
      · funext b; simp [CC]
    rintro e a3 W3 hp
    cases e with
    | normal =>
      obtain ⟨h3, hi3⟩ := hp
      obtain ⟨e1, e2, e3, e4, e7, e8, e5, e6⟩ := fin none W3 h3
      exact ⟨_, _, e1, .inl ⟨rfl, ⟨by rw [e8]; exact hI _ _ _ _ hi3 e2, e3, by rw [e8]; exact e7, e5, e6⟩, e4⟩⟩
    | ret =>
      obtain ⟨h3, hi3⟩ := hp
      obtain ⟨e1, e2, e3, e4, e7, e8, e5, e6⟩ := fin (some .ret) W3 h3
      exact ⟨_, _, e1, .inr ⟨rfl, ⟨.ret, by rw [e8]; exact hIx _ _ _ _ _ hi3 e2, e3, e5, e6⟩, e4⟩⟩
    | exit id =>
      obtain ⟨h3, hi3⟩ := hp
      obtain ⟨e1, e2, e3, e4, e7, e8, e5, e6⟩ := fin (some (.exit id)) W3 h3
      exact ⟨_, _, e1, .inr ⟨rfl, ⟨.exit id, by rw [e8]; exact hIx _ _ _ _ _ hi3 e2, e3, e5, e6⟩, e4⟩⟩
    | goto t =>
      obtain ⟨h3, hi3⟩ := hp
      obtain ⟨e1, e2, e3, e4, e7, e8, e5, e6⟩ := fin (some (.goto t)) W3 h3
      exact ⟨_, _, e1, .inr ⟨rfl, ⟨.goto t, by rw [e8]; exact hIx _ _ _ _ _ hi3 e2, e3, e5, e6⟩, e4⟩⟩
    | panic ch => exact hp.elim
    | outgrown => exact hp.elim
  · rintro k C A B ⟨c, hi, hr, hl, hd⟩ hf
    obtain ⟨hl', hd'⟩ := hDL hl hd hf
    exact ⟨c, hIx c k C _ _ hi (Fa.up hf hB), Fa.old hf hr hB, hl', hd'⟩
  · -- behind the iterator
    rintro e W2 ⟨⟨v, rfl⟩, (⟨C, hi, hr, _, hl, hd⟩ | ⟨k, C, hk, c, hi, hr, hl, hd⟩)⟩
    · have he := run_endLoop (P := Tryz.prog) hl (by rw [hrec]; simp)
      rw [hrec] at he
      exact ⟨none, _, he, hdone _ C _ (Nat.le_refl _) (hI _ _ _ _ hi (frPut _ (by omega) hl rfl)) (hr.putObj (fun h => by omega) _) ((World.putObj_heap_other (by omega)).trans hd)⟩
    · have he := run_endLoop (P := Tryz.prog) hl (by rw [hrec]; simp)
      rw [hrec] at he
      exact ⟨some c, _, he, hstop _ c k C _ (Nat.le_refl _) hk (hIx c k C _ _ hi (frPut _ (by omega) hl rfl)) (hr.putObj (fun h => by omega) _) ((World.putObj_heap_other (by omega)).trans hd)⟩
theorem boxed_below {B : Nat} {w w' : World} {b : Nat} {t : TypeId} {v : Value} (h : Boxed w b t v) (hb : Below B w w') (h1 : b < B) : Boxed w' b t v := (hb.block b h1).trans h
end Go.Proofs.YtefjdcghdcbojaaGreat

namespace Go.Proofs.YtefjdcghdcbojaaGreat
open Go.RowKit Go.Maps
/-- A slice of items. -/
def Il (w : World) (v : Value) (L : Its) : Prop := L.length ≤ 9223372036854775807 ∧ ∃ (a : Option Addr) (c : Nat), v = .slice a L.length c ∧ ∀ (i : Nat) (p : Str × Int), L[i]? = some p → okS p.1 ∧ okI p.2 ∧
  ∃ ad, a = some ad ∧ w.cell? (ad.add (i * 2)) = some (vS p.1) ∧ w.cell? ⟨(ad.add (i * 2)).block, (ad.add (i * 2)).off + 1, none⟩ = some (.int .i64 p.2)
theorem add_block (ad : Addr) (i : Nat) : (ad.add i).block = ad.block := by unfold Addr.add; split <;> rfl
theorem Il.keep {S : Nat → Prop} {w w' : World} {v : Value} {L : Its} (h : Il w v L) (hf : Fr S w w') (hS : L ≠ [] → ∀ b, v.ownBlock = some b → ¬ S b) : Il w' v L := by
  obtain ⟨h0, a, c, rfl, h1⟩ := h
  refine ⟨h0, a, c, rfl, fun i p hp => ?_⟩
  obtain ⟨b1, b2, ad, rfl, c0, c1⟩ := h1 i p hp
  have hb := add_block ad (i * 2)
  have hne : L ≠ [] := fun e => by rw [e] at hp; simp at hp
  exact ⟨b1, b2, ad, rfl, hf.cell c0 (fun e => hS hne ad.block rfl (hb ▸ e)), hf.cell c1 (fun e => hS hne ad.block rfl (hb ▸ e))⟩
theorem Il.fr {S : Nat → Prop} {w w' : World} {v : Value} {L : Its} (h : Il w v L) (hf : Fr S w w') (hS : ∀ b, S b → w.heap.size ≤ b) : Il w' v L := by
  obtain ⟨h0, a, c, rfl, h1⟩ := h
  refine ⟨h0, a, c, rfl, fun i p hp => ?_⟩
  obtain ⟨b1, b2, ad, rfl, c0, c1⟩ := h1 i p hp
  exact ⟨b1, b2, ad, rfl, hf.cell c0 (fun e => by have := hS _ e; have := World.block_lt_of_cell? w _ c0; omega), hf.cell c1 (fun e => by have := hS _ e; have := World.block_lt_of_cell? w _ c1; omega)⟩
theorem Il.sl {w : World} {v : Value} {L : Its} (h : Il w v L) : ∃ a c, v = .slice a L.length c := by
  obtain ⟨_, a, c, e, _⟩ := h
  exact ⟨a, c, e⟩
theorem Il.lt {w : World} {v : Value} {L : Its} (h : Il w v L) (hL : L ≠ []) : ∀ b, v.ownBlock = some b → b < w.heap.size := fun b hb => by
  obtain ⟨_, a, c, rfl, h1⟩ := h
  cases L with
  | nil => exact absurd rfl hL
  | cons p r =>
    obtain ⟨_, _, ad, rfl, c0, _⟩ := h1 0 p rfl
    have := World.block_lt_of_cell? w _ c0
    rw [add_block] at this
    obtain rfl : ad.block = b := (by simpa [Value.ownBlock] using hb)
    exact this
theorem iAll (a : Option Addr) (n c : Nat) (w : World) : Calls Tryz.prog 84 #[.slice a n c] w fun e w' =>
    e = .returned (.func (.func 116) #[] #[.pointer (some ⟨w.heap.size, 0, none⟩)]) ∧ w' = w.alloc (.cells #[.slice a n c] 57) := by
  go_enter Tryz.func84, Tryz.ntmps84
  go_wp2
  go_ret
  exact ⟨rfl, rfl⟩
def encIt (p : Str × Int) : Array Value := #[vS p.1, .int .i64 p.2]
set_option maxRecDepth 100000 in
set_option maxHeartbeats 4000000 in
theorem iAll1 (S : Nat → Prop) (w : World) (Bt : Nat) (v : Value) (L : Its) (hBt : Boxed w Bt 57 v) (h : Il w v L) (n1 : ¬ S Bt) (n2 : L ≠ [] → ∀ b, S b → v.ownBlock ≠ some b) :
    ItX 116 #[.pointer (some ⟨Bt, 0, none⟩)] encIt L S w := by
  intro lp S' J Jx W hW hS' hJ hY hJx h0
  have hBW := boxed_below hBt hW hBt.lt
  have hLW : Il W v L := h.fr (Fr.below (S := fun _ => False) hW) (fun _ h => h.elim)
  have s2 : L ≠ [] → ∀ b, v.ownBlock = some b → ¬ S' b := fun hl b hb e => n2 hl _ ((hS' _ e).2 (h.lt hl b hb)) hb
  have hltW : L ≠ [] → ∀ b, v.ownBlock = some b → b < W.heap.size := fun hl b hb => Nat.lt_of_lt_of_le (h.lt hl b hb) hW.size
  have hcB := hBW.cell
  obtain ⟨a, c, rfl⟩ := h.sl
  obtain ⟨N, hN⟩ : ∃ N, L.length = N := ⟨_, rfl⟩
  have hNb : (N : Int) ≤ 9223372036854775807 := by have := h.1; omega
  have HS := Lib.hid hS'; have HL := Lib.hid hLW; have S2 := Lib.hid s2; have HN := Lib.hid hN; have HLT := Lib.hid hltW
  rw [hN] at hcB S2 HLT HL ⊢
  have hfn : ∀ f, Fence.wide.fn f := fun _ => trivial
  have hdp : Fence.wide.depth.isSome = false := rfl
  clear hBt h n1 n2 hS' hLW hBW s2 hW hN hltW
  refine (callsIn_wide (n := 0)).1 ?_
  refine callsIn_of_wp Tryz.func116 rfl trivial ?_ rfl
  simp only [Tryz.ntmps116, List.size_toArray, List.length_cons, List.length_nil, Nat.reduceAdd, Nat.reduceSub, Array.replicate_succ, Array.replicate_zero, List.push_toArray, List.append_toArray, List.nil_append, List.cons_append]
  gi_wp2_with fail
  gi_loopw [7] (fun i wr => ∃ (k : Nat) (C : Nat → Prop), k ≤ N ∧ i = .int .i64 k ∧ J k C wr ∧ (∀ b, C b → W.heap.size ≤ b ∧ b < wr.heap.size) ∧ Fr (fun b => S' b ∨ C b) W wr) (fun i _ => N - (intOf i).toNat)
  case atStart => exact ⟨0, _, Nat.zero_le _, rfl, h0, fun _ h => False.elim h, Fr.refl _ _⟩
  case round =>
    obtain ⟨k, C, hk, rfl, hJr, hC, hkp⟩ := hrel
    by_cases hlt : k < N
    · obtain ⟨p, hp⟩ : ∃ p, L[k]? = some p := ⟨L[k]'(by rw [HN.out]; exact hlt), List.getElem?_eq_getElem _⟩
      have hne : L ≠ [] := fun e => by rw [e] at hp; simp at hp
      have hLr := HL.out.keep hkp (fun hl b hb e => e.elim (S2.out hl b hb) (fun e => by have := hC _ e; have := HLT.out hl b hb; omega))
      clear hne
      obtain ⟨_, a', c', e, hx⟩ := hLr
      obtain ⟨ok1, ok2, ad, ea, x0, x1⟩ := hx k p hp
      rw [HN.out] at e
      injection e with e1 _ e3
      rw [ea] at e1
      subst e1 e3
      obtain ⟨g, n⟩ := p
      dsimp only at x0 x1 ok1 ok2
      have hJ2 := hJ k C _ _ hJr (frAlloc (B := W.heap.size) (.cells #[vS g, .int .i64 n] 118))
      obtain ⟨fn, tmps, assign, body, hy, hR⟩ := hY k (g, n) C _ hp hJ2
      dsimp only [encIt] at hy
      have hlI : (k : Int) < N := by omega
      have HC := Lib.hid hC; have HK := Lib.hid hkp; have HP := Lib.hid hp
      clear hC hkp hp hJr hJ2 hx ea ok1 ok2
      gi_wp2
      refine hR.mono ?_
      rintro e W3 (⟨rfl, hJ3, hk3⟩ | ⟨rfl, hJx3, _⟩)
      · gi_wp2
        go_roundw
        case rel =>
          refine ⟨k + 1, _, by omega, by go_num, hJ3, ?_, ?_⟩
          · have hs3 := hk3.size
            have hsa : (wr.alloc (.cells #[vS g, .int .i64 n] 118)).heap.size = wr.heap.size + 1 := by simp
            rintro b (e | e)
            · have := HC.out b e; exact ⟨this.1, by omega⟩
            · have := HK.out.size; exact ⟨by omega, e.2⟩
          · exact (((HK.out.alloc _).mono (fun b _ e => e.elim .inl (fun e => .inr (.inl e))))).trans (hk3.mono (fun b _ e => e.elim .inl (fun e => .inr (.inl e))))
        case measure => simp [intOf]; omega
      · gi_wp2
        refine bodyPost_ret (results_none rfl _ _ _) rfl ?_
        refine ⟨⟨_, rfl⟩, .inr ⟨_, _, ?_, hJx3⟩⟩
        have := HN.out
        omega
    · have : k = N := by omega
      subst this
      gi_wp2
      go_end0
      exact ⟨⟨_, rfl⟩, .inl ⟨C, hJr⟩⟩
theorem goodB_bad {s : Str} {k : Nat} (h : k < s.length) (hb : goodC s[k] = false) : goodB s = false := by
  have : s.all goodC = false := by
    refine Bool.eq_false_iff.2 (fun ht => ?_)
    have := List.all_eq_true.1 ht s[k] (List.getElem_mem h)
    rw [hb] at this; cases this
  simp [goodB, this]
set_option maxRecDepth 100000 in
set_option maxHeartbeats 4000000 in
theorem iGood (w : World) (s : Str) (hs : okS s) : Calls Tryz.prog 90 #[vS s] w fun e w' => e = .returned (.bool (goodB s)) ∧ Fr (fun _ => False) w w' := by
  obtain ⟨G, hG⟩ : ∃ G, goodB s = G := ⟨_, rfl⟩
  rw [hG]
  have HG := Lib.hid hG
  obtain ⟨B, hB⟩ : ∃ B, ByteArray.mk s.toArray = B := ⟨_, rfl⟩
  have hsz : B.size = s.length := by rw [← hB]; simp [ByteArray.size]
  have hge : ∀ k (h : k < B.size) (h' : k < s.length), B[k]'h = s[k]'h' := by subst hB; exact fun k h h' => rfl
  have HSZ := Lib.hid hsz; have HGE := Lib.hid hge; have HBB := Lib.hid hB
  have hs : (s.length : Int) ≤ 9223372036854775807 := by unfold okS maxLen at hs; omega
  rw [← hsz] at hs
  unfold vS
  rw [hB]
  clear hG hB hsz hge
  go_enter Tryz.func90, Tryz.ntmps90
  go_wp2_with fail
  go_loopw [4] (fun _ wr => ∃ k : Nat, k ≤ B.size ∧ wr = w.iter B k ∧ ∀ j (h : j < s.length), j < k → goodC s[j] = true) (fun _ wr => B.size - wr.iterPos w.heap.size)
  case atStart => exact ⟨0, Nat.zero_le _, rfl, fun j _ hj => by omega⟩
  case round =>
    obtain ⟨k, hk, rfl, hall⟩ := hrel
    have HA := Lib.hid hall
    clear hall
    by_cases hp : k < B.size
    · have hnx : ∀ ty, (Instr.next (.pointer (some ⟨w.heap.size, 0, none⟩)) true ty).run Tryz.prog (w.iter B k) = _ := fun ty => run_next_any w B k ty hp
      have hkl : k < s.length := by rw [← HSZ.out]; exact hp
      have hc := HGE.out k hp hkl
      obtain ⟨x, hx⟩ : ∃ x : Nat, (B[k]'hp).toNat = x := ⟨_, rfl⟩
      have hno : Hid (goodC s[k] = false → G = false) := Lib.hid (fun h => by rw [← HG.out]; exact goodB_bad hkl h)
      have hgc : Hid (goodC s[k] = ((decide (97 ≤ x) && decide (x ≤ 122)) || (decide (48 ≤ x) && decide (x ≤ 57)) || decide (x = 45))) := Lib.hid (by rw [← hx, hc]; rfl)
      have hF : Hid (∀ p, Fr (fun _ => False) w (w.iter B p)) := Lib.hid (fun p => (Fr.refl _ w).alloc _)
      by_cases ha : x < 128
      · have hd : Utf8.decode B k = (x, 1) := by rw [decode_ascii B k hp (by omega), hx]
        rw [hd] at hnx
        have hstep : Hid (goodC s[k] = true → ∀ j (h : j < s.length), j < k + 1 → goodC s[j] = true) := Lib.hid (fun hg j h hj => by
          by_cases e : j = k
          · subst e; exact hg
          · exact HA.out j h (by omega))
        clear hd hc hx
        rcases (by omega : (97 ≤ x ∧ x ≤ 122) ∨ x < 48 ∧ x ≠ 45 ∨ x = 45 ∨ (48 ≤ x ∧ x ≤ 57) ∨ (57 < x ∧ x < 97) ∨ 122 < x) with h | h | h | h | h | h
        · have hy := Lib.hid (hstep.out (by rw [hgc.out]; simp [h.1, h.2]))
          obtain ⟨h1, h2⟩ := h
          have q1 : ¬ (x : Int) < 97 := by omega
          have q2 : ¬ (122 : Int) < (x : Int) := by omega
          go_wp2_with fail
          go_roundw
          case rel => exact ⟨k + 1, by omega, rfl, hy.out⟩
          case measure => simp; omega
        · have hn := Lib.hid (hno.out (by rw [hgc.out]; simp; omega))
          obtain ⟨h1, h2⟩ := h
          have q1 : (x : Int) < 48 := by omega
          have q2 : ((x : Int) != 45) = true := by simp; omega
          have q3 : (x : Int) < 97 := by omega
          go_wp2_with fail
          go_ret
          exact ⟨by rw [hn.out]; rfl, hF.out _⟩
        · have hy := Lib.hid (hstep.out (by rw [hgc.out]; simp [h]))
          subst h
          go_wp2_with fail
          go_roundw
          case rel => exact ⟨k + 1, by omega, rfl, hy.out⟩
          case measure => simp; omega
        · have hy := Lib.hid (hstep.out (by rw [hgc.out]; simp [h.1, h.2]))
          obtain ⟨h1, h2⟩ := h
          have q1 : ¬ (x : Int) < 48 := by omega
          have q2 : ¬ (57 : Int) < (x : Int) := by omega
          have q3 : (x : Int) < 97 := by omega
          go_wp2_with fail
          go_roundw
          case rel => exact ⟨k + 1, by omega, rfl, hy.out⟩
          case measure => simp; omega
        · have hn := Lib.hid (hno.out (by rw [hgc.out]; simp; omega))
          obtain ⟨h1, h2⟩ := h
          have q1 : ¬ (x : Int) < 48 := by omega
          have q2 : (57 : Int) < (x : Int) := by omega
          have q3 : (x : Int) < 97 := by omega
          have q4 : ((x : Int) != 45) = true := by simp; omega
          go_wp2_with fail
          go_ret
          exact ⟨by rw [hn.out]; rfl, hF.out _⟩
        · have hn := Lib.hid (hno.out (by rw [hgc.out]; simp; omega))
          have q1 : ¬ (x : Int) < 48 := by omega
          have q2 : (57 : Int) < (x : Int) := by omega
          have q3 : ¬ (x : Int) < 97 := by omega
          have q4 : ((x : Int) != 45) = true := by simp; omega
          have q5 : (122 : Int) < (x : Int) := by omega
          go_wp2_with fail
          go_ret
          exact ⟨by rw [hn.out]; rfl, hF.out _⟩
      · obtain ⟨hr1, hr2⟩ := decode_high B k hp (by omega)
        obtain ⟨y, hy⟩ : ∃ y, (Utf8.decode B k).1 = y := ⟨_, rfl⟩
        obtain ⟨z, hz⟩ : ∃ z, (Utf8.decode B k).2 = z := ⟨_, rfl⟩
        have hyl := decode_le B k
        rw [hy, hz] at hnx
        rw [hy] at hr1 hyl
        have hn := Lib.hid (hno.out (by rw [hgc.out]; simp; omega))
        have q1 : ¬ (y : Int) < 48 := by omega
        have q2 : (57 : Int) < (y : Int) := by omega
        have q3 : ¬ (y : Int) < 97 := by omega
        have q4 : ((y : Int) != 45) = true := by simp; omega
        have q5 : (122 : Int) < (y : Int) := by omega
        clear hy hz hc hx hr2 ha
        go_wp2_with fail
        go_ret
        exact ⟨by rw [hn.out]; rfl, hF.out _⟩
    · obtain rfl : k = B.size := by omega
      have hnx : ∀ ty, (Instr.next (.pointer (some ⟨w.heap.size, 0, none⟩)) true ty).run Tryz.prog (w.iter B B.size) = _ := fun ty => run_next_end w B B.size ty hp
      have hF : Hid (∀ p, Fr (fun _ => False) w (w.iter B p)) := Lib.hid (fun p => (Fr.refl _ w).alloc _)
      have hall : Hid (s.all goodC = true) := Lib.hid (List.all_eq_true.2 (fun c hc => by
        obtain ⟨j, hj, rfl⟩ := List.getElem_of_mem hc
        exact HA.out j hj (by rw [HSZ.out]; exact hj)))
      have hGE : Hid (G = (decide (0 < B.size) && decide (B.size ≤ 16))) := Lib.hid (by rw [← HG.out, HSZ.out]; simp [goodB, hall.out])
      have hemp : Hid (B.toList.isEmpty = decide (B.size = 0)) := Lib.hid (by
        rw [← HBB.out]
        cases s <;> simp [ByteArray.size])
      clear hp
      by_cases h0 : B.size = 0
      · have he : B.toList.isEmpty = true := by rw [hemp.out]; simp [h0]
        have hg : Hid (G = false) := Lib.hid (by rw [hGE.out]; simp [h0])
        clear h0
        go_wp2_with fail
        go_ret
        exact ⟨by rw [hg.out]; rfl, hF.out _⟩
      · have he : B.toList.isEmpty = false := by rw [hemp.out]; simp [h0]
        by_cases h16 : B.size ≤ 16
        · have hg : Hid (G = true) := Lib.hid (by rw [hGE.out]; simp; omega)
          have hI : (B.size : Int) ≤ 16 := by omega
          clear h0
          go_wp2_with fail
          go_ret
          exact ⟨by rw [hg.out]; rfl, hF.out _⟩
        · have hg : Hid (G = false) := Lib.hid (by rw [hGE.out]; simp; omega)
          have hI : ¬ (B.size : Int) ≤ 16 := by omega
          clear h0
          go_wp2_with fail
          go_ret
          exact ⟨by rw [hg.out]; rfl, hF.out _⟩
end Go.Proofs.YtefjdcghdcbojaaGreat

namespace Go.Proofs.YtefjdcghdcbojaaGreat
open Go.RowKit Go.Maps
end Go.Proofs.YtefjdcghdcbojaaGreat

namespace Go.Proofs.YtefjdcghdcbojaaGreat
open Go.RowKit Go.Maps
/-- How many of a good. -/
def ofStep (s : Str) (a : Int) (p : Str × Int) : Int := if p.1 = s then wrap64 (a + p.2) else a
def ofF (L : Its) (s : Str) : Int := L.foldl (ofStep s) 0
theorem ofF_take {L : Its} {k : Nat} {p : Str × Int} (s : Str) (h : L[k]? = some p) : ofF (L.take (k + 1)) s = ofStep s (ofF (L.take k) s) p := by
  unfold ofF
  rw [List.take_add_one, h, List.foldl_append]
  rfl
def totF (L : Its) : Int := L.foldl (fun a p => wrap64 (a + p.2)) 0
theorem totF_take {L : Its} {k : Nat} {p : Str × Int} (h : L[k]? = some p) : totF (L.take (k + 1)) = wrap64 (totF (L.take k) + p.2) := by
  unfold totF
  rw [List.take_add_one, h, List.foldl_append]
  rfl
end Go.Proofs.YtefjdcghdcbojaaGreat

namespace Go.Proofs.YtefjdcghdcbojaaGreat
open Go.RowKit Go.Maps
attribute [local go_sem] Oper.semAt_some
/-- Two blocks of cells of the call's own, and all else that was there is as it was. -/
structure Tw (w0 w : World) (n0 : Nat) (c0 : Array Value) (t0 : TypeId) (c1 : Array Value) (t1 : TypeId) : Prop where
  a : w.heap[n0]? = some (.cells c0 t0)
  b : w.heap[n0 + 1]? = some (.cells c1 t1)
  fr : Fr (fun b => n0 ≤ b) w0 w
section
variable {w0 w w' : World} {n0 B : Nat} {c0 c1 : Array Value} {t0 t1 : TypeId}
theorem Tw.fa (h : Tw w0 w n0 c0 t0 c1 t1) (hf : Fa B w w') (hB : w0.heap.size ≤ B) : Tw w0 w' n0 c0 t0 c1 t1 :=
  ⟨Fa.cells hf h.a, Fa.cells hf h.b, h.fr.trans' hf (fun b hb e => by have := e.1; omega)⟩
theorem Tw.keep (h : Tw w0 w n0 c0 t0 c1 t1) (hf : Fr (fun _ => False) w w') : Tw w0 w' n0 c0 t0 c1 t1 :=
  ⟨hf.at_ h.a (fun h => h), hf.at_ h.b (fun h => h), h.fr.trans' hf (fun _ _ e => e.elim)⟩
theorem Tw.put (h : Tw w0 w n0 c0 t0 c1 t1) (j : Nat) (u : Value) : Tw w0 (w.setCell ⟨n0 + 1, j, none⟩ u) n0 c0 t0 (c1.setIfInBounds j u) t1 := by
  have hF : Fr (fun b => b = n0 + 1) w (w.setCell ⟨n0 + 1, j, none⟩ u) := (Fr.refl (fun b => b = n0 + 1) w).setCell (p := ⟨n0 + 1, j, none⟩) (fun _ => rfl) _
  exact ⟨hF.at_ h.a (by omega), obj_set h.b j _, h.fr.trans' hF (fun b _ e => by omega)⟩
end
set_option maxRecDepth 100000 in
set_option maxHeartbeats 8000000 in
theorem iOf (w : World) (v : Value) (L : Its) (s : Str) (h : Il w v L) : Calls Tryz.prog 47 #[v, vS s] w fun e w' => e = .returned (.int .i64 (ofF L s)) ∧ Fr (fun _ => False) w w' := by
  obtain ⟨n0, hn0⟩ : ∃ n0, w.heap.size = n0 := ⟨_, rfl⟩
  have HS := Lib.hid hn0
  have HL := Lib.hid h
  have HOB := Lib.hid h.lt
  obtain ⟨a, c, rfl⟩ := h.sl
  obtain ⟨N, hN⟩ : ∃ N, L.length = N := ⟨_, rfl⟩
  have HN := Lib.hid hN
  rw [hN] at HL HOB ⊢
  clear h hN
  refine (callsIn_wide (n := 0)).1 ?_
  refine callsIn_of_wp_marks Tryz.func47 rfl trivial ?_ rfl
  simp only [Tryz.ntmps47, List.size_toArray, List.length_cons, List.length_nil, Nat.reduceAdd, Nat.reduceSub, Array.replicate_succ, Array.replicate_zero, List.push_toArray, List.append_toArray, List.nil_append, List.cons_append]
  have hfn : ∀ f, Fence.wide.fn f := fun _ => trivial
  have hdp : Fence.wide.depth.isSome = false := rfl
  gi_wp2_with (gi_at_call 84; refine (callsIn_wide.2 (iAll _ _ _ _)).mono ?_; rintro e w1 ⟨rfl, rfl⟩)
  have hI0 : Tw w (((w.alloc (.cells #[vS s] 9)).alloc (.cells #[.int .i64 0] 3)).alloc (.cells #[.slice a N c] 57)) n0 #[vS s] 9 #[.int .i64 0] 3 := by
    refine ⟨heap_keep (heap_keep (heap_at hn0.symm _) _) _, heap_keep (heap_at (by simp; omega) _) _, (((Fr.refl _ w).alloc _).alloc _).alloc _⟩
  have hB0 : Boxed (((w.alloc (.cells #[vS s] 9)).alloc (.cells #[.int .i64 0] 3)).alloc (.cells #[.slice a N c] 57)) (n0 + 2) 57 (.slice a N c) := heap_at (by simp; omega) _
  obtain ⟨W0, hW0⟩ : ∃ W0, (((w.alloc (.cells #[vS s] 9)).alloc (.cells #[.int .i64 0] 3)).alloc (.cells #[.slice a N c] 57)) = W0 := ⟨_, rfl⟩
  have hs0 : W0.heap.size = n0 + 3 := by rw [← hW0]; simp; omega
  rw [hW0] at hI0 hB0 ⊢
  have hL0 := HL.out.fr hI0.fr (fun b hb => by omega)
  have HI0 := Lib.hid hI0; have HS0 := Lib.hid hs0
  clear hW0 hI0
  refine rangeX (w0 := W0) (X := L) (S := fun b => b = n0 + 1) rfl (enters_of Tryz.func116 (by kernel_rfl) rfl)
    (iAll1 _ W0 (n0 + 2) _ L hB0 hL0 (by omega) (fun hl b hb e => by have := HOB.out hl b e; omega)) (Below.refl _ _) (fun b hb => by omega) (fun _ => rfl)
    (fun k _ W => Tw w W n0 #[vS s] 9 #[.int .i64 (ofF (L.take k) s)] 3) (fun _ _ _ _ => False)
    (fun k C W W' hs hf => hs.fa hf (by omega)) (fun c k C W W' hs hf => hs)
    HI0.out ?round ?done ?stop
  case round =>
    rintro lp k x C W hx hlp hi hr
    dsimp only [encIt]
    gi_wp2
    refine Took.mk (Fr.refl _ _) hi ?_
    rintro Wb hM hrb hf hsz hsw hCC _
    have HT := Lib.hid (ofF_take s hx)
    obtain ⟨A, hA⟩ : ∃ A, ofF (L.take k) s = A := ⟨_, rfl⟩
    rw [hA] at hM HT
    obtain ⟨g, n⟩ := x
    have HM := Lib.hid hM
    have c0 := cell_obj hM.a 0 (vS s) rfl
    have c1 := cell_obj hM.b 0 (.int .i64 A) rfl
    have f1 := obj_frozen hM.b 0
    clear hM hi hr hf hrb hx hA
    by_cases hg : g = s
    · have q1 : (g == s) = true := by simpa using hg
      have HG := Lib.hid hg
      clear hg
      gi_wp2_with fail
      refine ⟨(Fr.refl _ _).setCell (p := ⟨n0 + 1, 0, none⟩) (fun _ => .inl rfl) _, ?_⟩
      dsimp only
      rw [HT.out]
      unfold ofStep
      rw [if_pos HG.out]
      exact HM.out.put 0 _
    · have q1 : (g == s) = false := by simpa using hg
      have HG := Lib.hid hg
      clear hg
      gi_wp2_with fail
      refine ⟨Fr.refl _ _, ?_⟩
      dsimp only
      rw [HT.out]
      unfold ofStep
      rw [if_neg HG.out]
      exact HM.out
  case stop =>
    rintro D c k C W hD hk hF hr hK
    exact hF.elim
  case done =>
    rintro D C W hD hM hr hK
    have HE : Hid (ofF (L.take L.length) s = ofF L s) := Lib.hid (by rw [List.take_length])
    rw [HE.out] at hM
    have HM := Lib.hid hM; have HK := Lib.hid hK
    have c1 := cell_obj hM.b 0 (.int .i64 (ofF L s)) rfl
    clear hM hr hK
    gi_wp2_with fail
    refine ⟨by simp, .inl ⟨_, _, rfl, run_takeDeferred HK.out, ?_⟩⟩
    refine ⟨.int .i64 (ofF L s), by simp [results, Tryz.results47, go_sem], rfl, ?_⟩
    exact (HM.out.fr.putObj (l := D) (fun _ => by omega) _).mono (fun b hb e => by omega)
set_option maxRecDepth 100000 in
set_option maxHeartbeats 8000000 in
theorem iTotal (w : World) (v : Value) (L : Its) (h : Il w v L) : Calls Tryz.prog 72 #[v] w fun e w' => e = .returned (.int .i64 (totF L)) ∧ Fr (fun _ => False) w w' := by
  obtain ⟨n0, hn0⟩ : ∃ n0, w.heap.size = n0 := ⟨_, rfl⟩
  have HS := Lib.hid hn0
  have HL := Lib.hid h
  have HOB := Lib.hid h.lt
  obtain ⟨a, c, rfl⟩ := h.sl
  obtain ⟨N, hN⟩ : ∃ N, L.length = N := ⟨_, rfl⟩
  have HN := Lib.hid hN
  rw [hN] at HL HOB ⊢
  clear h hN
  refine (callsIn_wide (n := 0)).1 ?_
  refine callsIn_of_wp_marks Tryz.func72 rfl trivial ?_ rfl
  simp only [Tryz.ntmps72, List.size_toArray, List.length_cons, List.length_nil, Nat.reduceAdd, Nat.reduceSub, Array.replicate_succ, Array.replicate_zero, List.push_toArray, List.append_toArray, List.nil_append, List.cons_append]
  have hfn : ∀ f, Fence.wide.fn f := fun _ => trivial
  have hdp : Fence.wide.depth.isSome = false := rfl
  gi_wp2_with (gi_at_call 84; refine (callsIn_wide.2 (iAll _ _ _ _)).mono ?_; rintro e w1 ⟨rfl, rfl⟩)
  have hI0 : ((w.alloc (.cells #[.int .i64 0] 3)).alloc (.cells #[.slice a N c] 57)).heap[n0]? = some (.cells #[.int .i64 0] 3) := heap_keep (heap_at hn0.symm _) _
  have hF0 : Fr (fun b => n0 ≤ b) w ((w.alloc (.cells #[.int .i64 0] 3)).alloc (.cells #[.slice a N c] 57)) := ((Fr.refl _ w).alloc _).alloc _
  have hB0 : Boxed ((w.alloc (.cells #[.int .i64 0] 3)).alloc (.cells #[.slice a N c] 57)) (n0 + 1) 57 (.slice a N c) := heap_at (by simp; omega) _
  obtain ⟨W0, hW0⟩ : ∃ W0, ((w.alloc (.cells #[.int .i64 0] 3)).alloc (.cells #[.slice a N c] 57)) = W0 := ⟨_, rfl⟩
  have hs0 : W0.heap.size = n0 + 2 := by rw [← hW0]; simp; omega
  rw [hW0] at hI0 hB0 hF0 ⊢
  have hL0 := HL.out.fr hF0 (fun b hb => by omega)
  have HI0 := Lib.hid hI0; have HS0 := Lib.hid hs0; have HF0 := Lib.hid hF0
  clear hW0 hI0 hF0
  refine rangeX (w0 := W0) (X := L) (S := fun b => b = n0) rfl (enters_of Tryz.func116 (by kernel_rfl) rfl)
    (iAll1 _ W0 (n0 + 1) _ L hB0 hL0 (by omega) (fun hl b hb e => by have := HOB.out hl b e; omega)) (Below.refl _ _) (fun b hb => by omega) (fun _ => rfl)
    (fun k _ W => W.heap[n0]? = some (.cells #[.int .i64 (totF (L.take k))] 3) ∧ Fr (fun b => n0 ≤ b) w W) (fun _ _ _ _ => False)
    (fun k C W W' hs hf => ⟨Fa.cells hf hs.1, hs.2.trans' hf (fun b hb e => by have := e.1; omega)⟩) (fun c k C W W' hs hf => hs)
    ⟨HI0.out, HF0.out⟩ ?round ?done ?stop
  case round =>
    rintro lp k x C W hx hlp hi hr
    dsimp only [encIt]
    gi_wp2
    refine Took.mk (Fr.refl _ _) hi ?_
    rintro Wb hM hrb hf hsz hsw hCC _
    have HT := Lib.hid (totF_take hx)
    obtain ⟨A, hA⟩ : ∃ A, totF (L.take k) = A := ⟨_, rfl⟩
    rw [hA] at hM HT
    obtain ⟨g, n⟩ := x
    have HM := Lib.hid hM
    have c1 := cell_obj hM.1 0 (.int .i64 A) rfl
    have f1 := obj_frozen hM.1 0
    clear hM hi hr hf hrb hx hA
    gi_wp2_with fail
    refine ⟨(Fr.refl _ _).setCell (p := ⟨n0, 0, none⟩) (fun _ => .inl rfl) _, ?_⟩
    dsimp only
    rw [HT.out]
    exact ⟨obj_set HM.out.1 0 _, HM.out.2.setCell (p := ⟨n0, 0, none⟩) (fun _ => Nat.le_refl _) _⟩
  case stop =>
    rintro D c k C W hD hk hF hr hK
    exact hF.elim
  case done =>
    rintro D C W hD hM hr hK
    have HE : Hid (totF (L.take L.length) = totF L) := Lib.hid (by rw [List.take_length])
    rw [HE.out] at hM
    have HM := Lib.hid hM; have HK := Lib.hid hK
    have c1 := cell_obj hM.1 0 (.int .i64 (totF L)) rfl
    clear hM hr hK
    gi_wp2_with fail
    refine ⟨by simp, .inl ⟨_, _, rfl, run_takeDeferred HK.out, ?_⟩⟩
    refine ⟨.int .i64 (totF L), by simp [results, Tryz.results72, go_sem], rfl, ?_⟩
    exact (HM.out.2.putObj (l := D) (fun _ => by omega) _).mono (fun b hb e => by omega)
end Go.Proofs.YtefjdcghdcbojaaGreat

namespace Go.Proofs.YtefjdcghdcbojaaGreat
/-- Rising by the good. -/
def RiseI (L : Its) : Prop := L.Pairwise (fun p q => p.1 < q.1)
/-- L, but so many of s. -/
def setF (L : Its) (s : Str) (n : Int) : Its := L.filter (fun p => decide (p.1 < s)) ++ ((if 0 < n then [(s, n)] else []) ++ L.filter (fun p => decide (s < p.1)))
theorem riseI_inj {L : Its} (h : RiseI L) {p q : Str × Int} (hp : p ∈ L) (hq : q ∈ L) (e : p.1 = q.1) : p = q := by
  induction L with
  | nil => cases hp
  | cons x r ih =>
    obtain ⟨h1, h2⟩ := List.pairwise_cons.1 h
    rcases List.mem_cons.1 hp with hp' | hp' <;> rcases List.mem_cons.1 hq with hq' | hq'
    · rw [hp', hq']
    · have := h1 q hq'; rw [← hp', e] at this; exact absurd this (str_irr _)
    · have := h1 p hp'; rw [← hq', e] at this; exact absurd this (str_irr _)
    · exact ih h2 hp' hq'
theorem mem_mid {s : Str} {n : Int} {p : Str × Int} (h : p ∈ (if 0 < n then [(s, n)] else [])) : p = (s, n) ∧ 0 < n := by
  by_cases hn : 0 < n
  · rw [if_pos hn] at h; exact ⟨by simpa using h, hn⟩
  · rw [if_neg hn] at h; cases h
theorem setF_mem {L : Its} {s : Str} {n : Int} {p : Str × Int} (h : p ∈ setF L s n) : (p ∈ L ∧ p.1 ≠ s) ∨ (p = (s, n) ∧ 0 < n) := by
  unfold setF at h
  rcases List.mem_append.1 h with h | h
  · obtain ⟨h1, h2⟩ := List.mem_filter.1 h
    exact .inl ⟨h1, fun e => by simp [e, str_irr] at h2⟩
  · rcases List.mem_append.1 h with h | h
    · exact .inr (mem_mid h)
    · obtain ⟨h1, h2⟩ := List.mem_filter.1 h
      exact .inl ⟨h1, fun e => by simp [e, str_irr] at h2⟩
theorem setF_rise {L : Its} {s : Str} {n : Int} (h : RiseI L) : RiseI (setF L s n) := by
  have hm : RiseI (if 0 < n then [(s, n)] else []) := by
    by_cases hn : 0 < n
    · rw [if_pos hn]; exact List.pairwise_cons.2 ⟨fun _ h => (List.not_mem_nil h).elim, List.Pairwise.nil⟩
    · rw [if_neg hn]; exact List.Pairwise.nil
  refine List.pairwise_append.2 ⟨h.filter _, List.pairwise_append.2 ⟨hm, h.filter _, fun p hp q hq => ?_⟩, fun p hp q hq => ?_⟩
  · rw [(mem_mid hp).1]
    exact of_decide_eq_true (List.mem_filter.1 hq).2
  · have h1 : p.1 < s := of_decide_eq_true (List.mem_filter.1 hp).2
    rcases List.mem_append.1 hq with hq | hq
    · rw [(mem_mid hq).1]; exact h1
    · exact str_trans h1 (of_decide_eq_true (List.mem_filter.1 hq).2)
theorem filt_part (L : Its) (s : Str) : (L.filter (fun p => decide (p.1 < s)) ++ L.filter (fun p => decide (s < p.1))).Perm (L.filter fun p => !decide (p.1 = s)) := by
  have h := List.filter_append_perm (fun p : Str × Int => decide (p.1 < s)) (L.filter fun p => !decide (p.1 = s))
  rw [List.filter_filter, List.filter_filter] at h
  have e1 : (L.filter fun a => decide (a.1 < s) && !decide (a.1 = s)) = L.filter (fun p => decide (p.1 < s)) := List.filter_congr fun p _ => by
    by_cases h : p.1 < s
    · have : p.1 ≠ s := fun e => str_irr s (e ▸ h)
      simp [h, this]
    · simp [h]
  have e2 : (L.filter fun a => !decide (a.1 < s) && !decide (a.1 = s)) = L.filter (fun p => decide (s < p.1)) := List.filter_congr fun p _ => by
    rcases str_tri p.1 s with h | h | h
    · have : ¬ s < p.1 := str_asym h
      simp [h, this]
    · simp [h, str_irr]
    · have h1 : ¬ p.1 < s := str_asym h
      have h2 : p.1 ≠ s := fun e => str_irr s (e ▸ h)
      simp [h, h1, h2]
  rw [e1, e2] at h
  exact h
theorem setF_perm (L : Its) (s : Str) (n : Int) : (setF L s n).Perm ((L.filter fun p => !decide (p.1 = s)) ++ (if 0 < n then [(s, n)] else [])) := by
  unfold setF
  refine (List.Perm.append_left _ List.perm_append_comm).trans ?_
  rw [← List.append_assoc]
  exact List.Perm.append_right _ (filt_part L s)
theorem setF_uniq {L Z : Its} {s : Str} {n : Int} (h : RiseI L) (hp : Z.Perm ((L.filter fun p => !decide (p.1 = s)) ++ (if 0 < n then [(s, n)] else []))) (hs : Z.Pairwise (fun x y => ¬ y.1 < x.1)) : Z = setF L s n := by
  have hr := setF_rise (s := s) (n := n) h
  have hpp := hp.trans (setF_perm L s n).symm
  refine List.Perm.eq_of_pairwise (le := fun x y => ¬ y.1 < x.1) (fun a b ha hb h1 h2 => ?_) hs (hr.imp (fun h => str_asym h)) hpp
  have e : a.1 = b.1 := by
    rcases str_tri a.1 b.1 with h | h | h
    · exact absurd h h2
    · exact h
    · exact absurd h h1
  exact riseI_inj hr (hpp.mem_iff.1 ha) hb e
end Go.Proofs.YtefjdcghdcbojaaGreat

namespace Go.Proofs.YtefjdcghdcbojaaGreat
/-- One item is gone by: whether the good stands already, and what stands. -/
def setSt (s : Str) (n : Int) (st : Bool × Its) (p : Str × Int) : Bool × Its :=
  if st.1 = false ∧ ¬ p.1 < s then (true, if p.1 = s then st.2 ++ [(s, n)] else st.2 ++ [(s, n)] ++ [p]) else (st.1, if p.1 = s then st.2 else st.2 ++ [p])
def setR (L : Its) (s : Str) (n : Int) : Its :=
  let r := L.foldl (setSt s n) (decide (n = 0), [])
  if r.1 = true then r.2 else r.2 ++ [(s, n)]
theorem setSt_true (s : Str) (n : Int) : ∀ (L o : Its), L.foldl (setSt s n) (true, o) = (true, o ++ L.filter fun p => !decide (p.1 = s))
  | [], o => by simp
  | p :: r, o => by
    have e : setSt s n (true, o) p = (true, if p.1 = s then o else o ++ [p]) := by unfold setSt; rw [if_neg (by simp)]
    rw [List.foldl_cons, e, List.filter_cons]
    by_cases h : p.1 = s
    · rw [if_pos h, setSt_true s n r o]; simp [h]
    · rw [if_neg h, setSt_true s n r (o ++ [p])]; simp [h]
theorem filt_above {L : Its} {s : Str} (h : ∀ p ∈ L, s < p.1) : (L.filter fun p => !decide (p.1 = s)) = L ∧ L.filter (fun p => decide (p.1 < s)) = [] ∧ L.filter (fun p => decide (s < p.1)) = L := by
  refine ⟨List.filter_eq_self.2 (fun p hp => ?_), List.filter_eq_nil_iff.2 (fun p hp => ?_), List.filter_eq_self.2 (fun p hp => ?_)⟩
  · have := h p hp
    simp only [Bool.not_eq_true', decide_eq_false_iff_not]
    intro e
    rw [e] at this
    exact str_irr _ this
  · simp only [decide_eq_true_eq]
    exact str_asym (h p hp)
  · exact decide_eq_true (h p hp)
theorem filt_split {s : Str} : ∀ {L : Its}, RiseI L → (L.filter fun p => !decide (p.1 = s)) = L.filter (fun p => decide (p.1 < s)) ++ L.filter (fun p => decide (s < p.1))
  | [], _ => rfl
  | p :: r, h => by
    obtain ⟨h1, h2⟩ := List.pairwise_cons.1 h
    have ih := filt_split (s := s) h2
    rw [List.filter_cons, List.filter_cons, List.filter_cons]
    rcases str_tri p.1 s with e | e | e
    · have e1 : ¬ p.1 = s := fun e2 => by rw [e2] at e; exact str_irr _ e
      have e2 : ¬ s < p.1 := str_asym e
      simp [e, e1, e2, ih]
    · have e1 : ¬ p.1 < s := by rw [e]; exact str_irr _
      have e2 : ¬ s < p.1 := by rw [e]; exact str_irr _
      simp [e, e1, e2, ih, str_irr]
    · have ha : ∀ q ∈ r, s < q.1 := fun q hq => str_trans e (h1 q hq)
      obtain ⟨a1, a2, a3⟩ := filt_above ha
      have e1 : ¬ p.1 < s := str_asym e
      have e2 : ¬ p.1 = s := fun e3 => by rw [e3] at e; exact str_irr _ e
      rw [a1, a2, a3]
      simp [e, e1, e2]
theorem setR_aux {s : Str} {n : Int} (hn : 0 < n) : ∀ (L o : Its), RiseI L → (if (L.foldl (setSt s n) (false, o)).1 = true then (L.foldl (setSt s n) (false, o)).2 else (L.foldl (setSt s n) (false, o)).2 ++ [(s, n)]) = o ++ setF L s n
  | [], o, _ => by simp [setF, hn]
  | p :: r, o, h => by
    obtain ⟨h1, h2⟩ := List.pairwise_cons.1 h
    rw [List.foldl_cons]
    by_cases hlt : p.1 < s
    · have e1 : ¬ p.1 = s := fun e2 => by rw [e2] at hlt; exact str_irr _ hlt
      have e2 : ¬ s < p.1 := str_asym hlt
      have e : setSt s n (false, o) p = (false, o ++ [p]) := by unfold setSt; rw [if_neg (by simp [hlt]), if_neg e1]
      rw [e, setR_aux hn r (o ++ [p]) h2, List.append_assoc]
      unfold setF
      rw [List.filter_cons, List.filter_cons]
      simp [hlt, e2]
    · have ha : ∀ q ∈ r, s < q.1 := fun q hq => by
        have := h1 q hq
        rcases str_tri p.1 s with e | e | e
        · exact absurd e hlt
        · rw [← e]; exact this
        · exact str_trans e this
      obtain ⟨a1, a2, a3⟩ := filt_above ha
      have e : setSt s n (false, o) p = (true, if p.1 = s then o ++ [(s, n)] else o ++ [(s, n)] ++ [p]) := by unfold setSt; rw [if_pos ⟨rfl, hlt⟩]
      rw [e, setSt_true, a1]
      dsimp only
      rw [if_pos rfl]
      unfold setF
      rw [List.filter_cons, List.filter_cons, a2, a3, if_pos hn]
      by_cases hs : p.1 = s
      · have e2 : ¬ s < p.1 := by rw [hs]; exact str_irr _
        rw [if_pos hs]
        simp [hlt, e2]
      · have e2 : s < p.1 := by
          rcases str_tri p.1 s with e | e | e
          · exact absurd e hlt
          · exact absurd e hs
          · exact e
        rw [if_neg hs]
        simp [hlt, e2]
theorem setR_eq {L : Its} {s : Str} {n : Int} (h : RiseI L) (hn : 0 ≤ n) : setR L s n = setF L s n := by
  unfold setR
  dsimp only
  by_cases h0 : n = 0
  · have e : decide (n = 0) = true := decide_eq_true h0
    rw [e, setSt_true]
    dsimp only
    rw [if_pos rfl, List.nil_append, filt_split h]
    unfold setF
    rw [if_neg (by omega), List.nil_append]
  · have e : decide (n = 0) = false := decide_eq_false h0
    rw [e, setR_aux (by omega) L [] h, List.nil_append]
theorem setSt_len (s : Str) (n : Int) : ∀ (L : Its) (st : Bool × Its), (L.foldl (setSt s n) st).2.length ≤ st.2.length + 2 * L.length
  | [], st => by simp
  | p :: r, st => by
    rw [List.foldl_cons]
    have ih := setSt_len s n r (setSt s n st p)
    have : (setSt s n st p).2.length ≤ st.2.length + 2 := by
      unfold setSt
      split <;> dsimp only <;> split <;> simp
    rw [List.length_cons]
    omega
theorem setSt_ok {P : Str × Int → Prop} {s : Str} {n : Int} (h0 : P (s, n)) : ∀ (L : Its) (st : Bool × Its), (∀ p ∈ L, P p) → (∀ p ∈ st.2, P p) → ∀ p ∈ (L.foldl (setSt s n) st).2, P p
  | [], st, _, h => h
  | q :: r, st, hL, h => by
    rw [List.foldl_cons]
    refine setSt_ok h0 r _ (fun p hp => hL p (List.mem_cons_of_mem _ hp)) (fun p hp => ?_)
    have hq := hL q List.mem_cons_self
    unfold setSt at hp
    split at hp <;> dsimp only at hp <;> split at hp
    · rcases List.mem_append.1 hp with hp | hp
      · exact h p hp
      · rw [List.mem_singleton.1 hp]; exact h0
    · rcases List.mem_append.1 hp with hp | hp
      · rcases List.mem_append.1 hp with hp | hp
        · exact h p hp
        · rw [List.mem_singleton.1 hp]; exact h0
      · rw [List.mem_singleton.1 hp]; exact hq
    · exact h p hp
    · rcases List.mem_append.1 hp with hp | hp
      · exact h p hp
      · rw [List.mem_singleton.1 hp]; exact hq
end Go.Proofs.YtefjdcghdcbojaaGreat

namespace Go.Proofs.YtefjdcghdcbojaaGreat
open Go.ChangeShapes Go.WideShapes Go.ChangeAt Go.RowKit
theorem own : ownKnob Tryz.prog.godebug = none := by kernel_rfl
theorem laidOut : laidOutB Tryz.prog = true := by kernel_rfl
section
variable {H : Type} {enc : TypeId × Value → H} {P : Program}
theorem trodAll_below {W W' : World} (hl : laidOutB P = true) (hb : Below W.heap.size W W') : ∀ {ts : List TypeId} {vs : List Value} {ds : List (DataW H)} {ps : List MemPlace} {sp : Nat → Bool},
    (∀ t ∈ ts, (P.readableRec t && decide (t < P.types.size)) = true) → DataW.TrodAll enc P W 0 (fun _ => true) true ts vs ds ps → (∀ p ∈ ps, p.block < W.heap.size) → (∀ p ∈ ps, sp p.block = true) →
    DataW.TrodAll enc P W' 0 sp true ts vs ds ps
  | [], vs, ds, ps, sp, _, h, _, _ => by
    cases vs <;> cases ds <;> exact h
  | t :: ts, vs, ds, ps, sp, hr, h, hlt, hsp => by
    obtain ⟨v, vs', d, ds', p, q, rfl, rfl, rfl, h1, h2⟩ := trodAll_cons h
    have ht := hr t (by simp)
    simp only [Bool.and_eq_true, decide_eq_true_eq] at ht
    exact ⟨p, q, WideElems.Trod_stays hl ht.1 ht.2 h1 (fun x hx => hb.same (hlt x (by simp [hx]))) (fun x hx => hsp x (by simp [hx])),
      trodAll_below hl hb (fun t ht => hr t (by simp [ht])) h2 (fun x hx => hlt x (by simp [hx])) (fun x hx => hsp x (by simp [hx])), rfl⟩
/-- The row's last step for a law, whatever its parameters. -/
theorem law_post {f : Func} {s : ChangeSpec} {W W' : World} {args : Array Value} {ds gs : List (DataW H)} {before : List MemPlace} {tb : TypeId}
    (hl : laidOutB P = true) (hread : (f.params.toList.all fun t => P.readableRec t && decide (t < P.types.size)) = true) (hr : f.resultTypes = #[tb]) (htb : P.underlying tb = some .bool)
    (hW : DataW.Whole enc P f.params.toList s.vars false W args.toList ds gs before) (hvars : s.vars = []) (hfn : s.fn H ds = { results := [.lit (.bool true)], args := ds })
    (hb : Below W.heap.size W W') : s.post enc P f false true false false W args (.bool true) W' := by
  have hlt : ∀ p ∈ before, p.block < W.heap.size := fun p hp => hW.lt p hp
  have hW' := hW
  obtain ⟨p, q, hA, hV, he, hz, hn⟩ := hW
  rw [hvars] at hV
  obtain ⟨rfl, rfl⟩ := trodVars_none hV
  rw [List.append_nil] at he
  subst he
  have e1 : s.fn H (ds ++ []) = { results := [.lit (.bool true)], args := ds } := by rw [List.append_nil]; exact hfn
  refine ⟨ds, [], before, [], before, [], hW', ?_, ?_, ?_, World.keptBut_mono (fun x hx => ⟨hx, .inr (.inl hx)⟩) (hb.frame (· ∈ before)), fun h => by cases h⟩
  · rw [e1, hr]
    exact trodAll_cons_mk (shut_bool htb true) trodAll_mk0
  · rw [e1]
    exact trodAll_below hl hb (List.all_eq_true.1 hread) hA hlt (fun x hx => by simpa using hlt x hx)
  · rw [e1, hvars]
    exact rfl
end
end Go.Proofs.YtefjdcghdcbojaaGreat

namespace Go.Proofs.YtefjdcghdcbojaaGreat
open Go.Joins Go.ChangeShapes Go.WideShapes Go.RowKit Go.Deep
section
variable {H : Type} {enc : TypeId × Value → H} {P : Program} {w : World} {base : Nat} {spare : Nat → Bool} {held : Bool}
/-- A slice of structs of k ints: its cells, row by row. -/
def SlI (w : World) (v : Value) (k : Nat) (L : List (List Int)) : Prop :=
  (v = .slice none 0 0 ∧ L = []) ∨ ∃ (a : Addr) (cap : Nat), v = .slice (some a) L.length cap ∧ L.length ≤ cap ∧ cap ≤ maxLen ∧
    ∀ i r, L[i]? = some r → r.length = k ∧ (∀ x ∈ r, okI x) ∧ ∀ (j : Nat) (x : Int), r[j]? = some x → w.cell? (a.add (i * k + j)) = some (.int .i64 x)
theorem SlI.len {v : Value} {k : Nat} {L : List (List Int)} (h : SlI w v k L) : L.length ≤ maxLen ∧ ∃ a c, v = .slice a L.length c := by
  rcases h with ⟨rfl, rfl⟩ | ⟨a, cap, rfl, h1, h2, -⟩
  · exact ⟨Nat.zero_le _, _, _, rfl⟩
  · exact ⟨by omega, _, _, rfl⟩
theorem add_field (a : Addr) (n j : Nat) : a.add (n + (j + 1)) = ⟨(a.add n).block, (a.add n).off + (j + 1), none⟩ := by
  rw [← Go.Deep.add_add]; rfl
theorem SlI.some {a0 : Option Addr} {n c k i : Nat} {L : List (List Int)} {r : List Int} (h : SlI w (.slice a0 n c) k L) (hr : L[i]? = .some r) : ∃ a, a0 = .some a := by
  rcases h with ⟨_, rfl⟩ | ⟨a, cap, e, _⟩
  · simp at hr
  · injection e with e1 _ _
    exact ⟨a, e1⟩
theorem SlI.row {a : Addr} {n c k i : Nat} {L : List (List Int)} {r : List Int} (h : SlI w (.slice (.some a) n c) k L) (hr : L[i]? = .some r) : r.length = k ∧ (∀ x ∈ r, okI x) ∧
    (∀ x, r[0]? = .some x → w.cell? (a.add (i * k)) = .some (.int .i64 x)) ∧ ∀ (j : Nat) (x : Int), r[j + 1]? = .some x → w.cell? ⟨(a.add (i * k)).block, (a.add (i * k)).off + (j + 1), none⟩ = .some (.int .i64 x) := by
  rcases h with ⟨_, rfl⟩ | ⟨a', cap, e, _, _, h3⟩
  · simp at hr
  · injection e with e1 _ _
    injection e1 with e1
    subst e1
    obtain ⟨g1, g2, g3⟩ := h3 i r hr
    exact ⟨g1, g2, fun x hx => g3 0 x hx, fun j x hx => by rw [← add_field]; exact g3 (j + 1) x hx⟩
theorem SlI.below {w' : World} {v : Value} {k : Nat} {L : List (List Int)} (h : SlI w v k L) (hk : 0 < k) (hb : Below w.heap.size w w') : SlI w' v k L := by
  rcases h with ⟨rfl, rfl⟩ | ⟨a, cap, rfl, h1, h2, h3⟩
  · exact .inl ⟨rfl, rfl⟩
  · refine .inr ⟨a, cap, rfl, h1, h2, fun i r hr => ⟨(h3 i r hr).1, (h3 i r hr).2.1, fun j x hx => ?_⟩⟩
    have hc := (h3 i r hr).2.2 j x hx
    have hlt : (a.add (i * k + j)).block < w.heap.size := by
      refine Nat.lt_of_not_le fun hle => ?_
      simp [World.cell?, Array.getElem?_eq_none hle] at hc
    simp only [World.cell?, hb.block _ hlt] at hc ⊢
    exact hc
end
end Go.Proofs.YtefjdcghdcbojaaGreat

namespace Go.Proofs.YtefjdcghdcbojaaGreat
open Go.ChangeShapes Go.WideShapes Go.RowKit Go.Deep
/-- A type's leaves: structs and arrays laid flat. -/
def leaves (P : Program) : Nat → TypeId → List TypeId
  | 0, t => [t]
  | n + 1, t => match P.underlying t with
    | some (.struct fs) => fs.toList.flatMap fun f => leaves P n f.type
    | some (.array m e) => (List.range m).flatMap fun _ => leaves P n e
    | _ => [t]
def offsOk (P : Program) (n : Nat) : List Field → Nat → Bool
  | [], _ => true
  | f :: r, off => f.offset == off && P.cellsOf f.type == (leaves P n f.type).length && offsOk P n r (off + (leaves P n f.type).length)
def flatOk (P : Program) : Nat → TypeId → Bool
  | 0, t => P.cellsOf t == 1
  | n + 1, t => P.cellsOf t == (leaves P (n + 1) t).length && match P.underlying t with
    | some (.struct fs) => offsOk P n fs.toList 0 && fs.toList.all fun f => flatOk P n f.type
    | some (.array _ e) => P.cellsOf e == (leaves P n e).length && flatOk P n e
    | _ => true
section
variable {H : Type} {enc : TypeId × Value → H} {P : Program} {w : World} {base : Nat} {spare : Nat → Bool} {held : Bool}
/-- The leaves lie in these cells. -/
def Leafs (enc : TypeId × Value → H) (P : Program) (w : World) (base : Nat) (spare : Nat → Bool) (held : Bool) (ts : List TypeId) (cs : List Value) : Prop :=
  ∀ (j : Nat) (t : TypeId), ts[j]? = some t → ∃ (v : Value) (n : Nat) (y : DataW H × List MemPlace), cs[j]? = some v ∧ DataW.trod enc P w base spare held n t [v] = some y
theorem Leafs.nil {cs : List Value} : Leafs enc P w base spare held [] cs := fun j t h => by simp at h
theorem Leafs.append {ts us : List TypeId} {cs : List Value} (h : Leafs enc P w base spare held ts (cs.take ts.length)) (h' : Leafs enc P w base spare held us (cs.drop ts.length)) : Leafs enc P w base spare held (ts ++ us) cs := by
  intro j t hj
  by_cases hl : j < ts.length
  · rw [List.getElem?_append_left hl] at hj
    obtain ⟨v, n, y, h1, h2⟩ := h j t hj
    rw [List.getElem?_take, if_pos hl] at h1
    exact ⟨v, n, y, h1, h2⟩
  · rw [List.getElem?_append_right (by omega)] at hj
    obtain ⟨v, n, y, h1, h2⟩ := h' _ t hj
    rw [List.getElem?_drop, show ts.length + (j - ts.length) = j by omega] at h1
    exact ⟨v, n, y, h1, h2⟩
theorem leafs_fields {n : Nat} : ∀ {fs : List Field} {off : Nat} {cs : List Value}, offsOk P n fs off = true → (∀ f ∈ fs, Leafs enc P w base spare held (leaves P n f.type) ((cs.drop f.offset).take (P.cellsOf f.type))) →
    Leafs enc P w base spare held (fs.flatMap fun f => leaves P n f.type) (cs.drop off)
  | [], _, _, _, _ => Leafs.nil
  | f :: r, off, cs, h, hf => by
    simp only [offsOk, Bool.and_eq_true, beq_iff_eq] at h
    obtain ⟨⟨h1, h2⟩, h3⟩ := h
    simp only [List.flatMap_cons]
    refine Leafs.append ?_ ?_
    · have := hf f (by simp)
      rw [h1, h2] at this
      exact this
    · rw [List.drop_drop]
      exact leafs_fields h3 (fun g hg => hf g (by simp [hg]))
theorem leafs_array {n : Nat} {e : TypeId} (he : P.cellsOf e = (leaves P n e).length) : ∀ {m k : Nat} {cs : List Value}, (∀ i, i < m → Leafs enc P w base spare held (leaves P n e) ((cs.drop ((k + i) * P.cellsOf e)).take (P.cellsOf e))) →
    Leafs enc P w base spare held ((List.range m).flatMap fun _ => leaves P n e) (cs.drop (k * P.cellsOf e))
  | 0, _, _, _ => Leafs.nil
  | m + 1, k, cs, hf => by
    rw [List.range_succ_eq_map, List.flatMap_cons, List.flatMap_map]
    refine Leafs.append ?_ ?_
    · have := hf 0 (by omega)
      rw [Nat.add_zero, he] at this
      rw [he]; exact this
    · rw [List.drop_drop, ← he]
      have := leafs_array he (m := m) (k := k + 1) (cs := cs) (fun i hi => by have := hf (i + 1) (by omega); rw [show k + 1 + i = k + (i + 1) by omega]; exact this)
      rw [show (k + 1) * P.cellsOf e = k * P.cellsOf e + P.cellsOf e by rw [Nat.succ_mul]] at this
      exact this
theorem flat_len {α : Type} (l : List α) : ∀ m : Nat, ((List.range m).flatMap fun _ => l).length = m * l.length
  | 0 => by simp
  | m + 1 => by rw [List.range_succ, List.flatMap_append, List.length_append, flat_len l m, Nat.succ_mul]; simp
theorem leafs_one {t : TypeId} {fuel : Nat} {cs : List Value} {x : DataW H × List MemPlace} (hl : cs.length = 1) (h : DataW.trod enc P w base spare held fuel t cs = some x) : Leafs enc P w base spare held [t] cs := by
  intro j t' hj
  match j, hj with
  | 0, hj =>
    cases hj
    match cs, hl with
    | [v], _ => exact ⟨v, fuel, x, rfl, h⟩
/-- WHATEVER IS READ IS READ LEAF BY LEAF. -/
theorem leafs_of : ∀ {n : Nat} {t : TypeId} {fuel : Nat} {cs : List Value} {x : DataW H × List MemPlace}, flatOk P n t = true → cs.length = P.cellsOf t → DataW.trod enc P w base spare held fuel t cs = some x →
    Leafs enc P w base spare held (leaves P n t) cs
  | 0, t, fuel, cs, x, hok, hl, h => by
    simp only [flatOk, beq_iff_eq] at hok
    exact leafs_one (by rw [hl, hok]) h
  | n + 1, t, fuel, cs, x, hok, hl, h => by
    simp only [flatOk, Bool.and_eq_true, beq_iff_eq] at hok
    obtain ⟨hc, hok⟩ := hok
    unfold leaves at hc ⊢
    cases hu : P.underlying t with
    | none => 
      rw [hu] at hc
      exact leafs_one (by rw [hl, hc]; rfl) h
    | some u =>
      rw [hu] at hc hok
      cases u with
      | struct fs =>
        simp only [Bool.and_eq_true] at hok
        obtain ⟨xs, m, _, _, hlen, hxl, hf⟩ := DataW.trod_struct hu h
        have := leafs_fields (enc := enc) (w := w) (base := base) (spare := spare) (held := held) (cs := cs) hok.1 (fun f hfm => by
          obtain ⟨i, hi, hi2⟩ := List.getElem_of_mem hfm
          have h1 := hf i f (by simp at hi; rw [Array.getElem?_eq_getElem hi]; simpa using hi2)
          have hi' : i < xs.length := by simp at hi; omega
          rw [List.getElem?_eq_getElem hi'] at h1
          refine leafs_of (n := n) (List.all_eq_true.1 hok.2 f hfm) ?_ h1
          have hsz : ∀ (l : List Field) (off : Nat), offsOk P n l off = true → ∀ g ∈ l, off ≤ g.offset ∧ g.offset + P.cellsOf g.type ≤ off + (l.flatMap fun f => leaves P n f.type).length := by
            intro l
            induction l with
            | nil => intro _ _ g hg; cases hg
            | cons a r ih =>
              intro off ho g hg
              simp only [offsOk, Bool.and_eq_true, beq_iff_eq] at ho
              simp only [List.flatMap_cons, List.length_append]
              rcases List.mem_cons.1 hg with rfl | hg
              · omega
              · have := ih _ ho.2 g hg
                omega
          have := hsz _ _ hok.1 f hfm
          simp only at hc
          rw [List.length_take, List.length_drop]
          omega)
        simpa using this
      | array m e =>
        simp only [Bool.and_eq_true, beq_iff_eq] at hok
        obtain ⟨xs, k, _, _, hlen, hxl, hf⟩ := DataW.trod_array hu h
        have := leafs_array (enc := enc) (w := w) (base := base) (spare := spare) (held := held) (cs := cs) (m := m) (k := 0) hok.1 (fun i hi => by
          have h1 := hf i hi
          rw [List.getElem?_eq_getElem (by omega)] at h1
          rw [Nat.zero_add]
          refine leafs_of (n := n) hok.2 ?_ h1
          rw [List.length_take, List.length_drop]
          have hcc : cs.length = m * P.cellsOf e := by
            rw [hl, hc, hok.1]
            exact flat_len _ _
          have : (i + 1) * P.cellsOf e ≤ m * P.cellsOf e := Nat.mul_le_mul_right _ hi
          rw [Nat.succ_mul] at this
          omega)
        simpa using this
      | _ => exact leafs_one (by rw [hl, hc]; rfl) h
/-- What a leaf is. -/
theorem leaf_int {t : TypeId} {k : IntKind} {n : Nat} {v : Value} {y : DataW H × List MemPlace} (ht : P.underlying t = some (.int k)) (h : DataW.trod enc P w base spare held n t [v] = some y) : ∃ x, v = .int k x ∧ (Lit.int k x).wf = true := by
  obtain ⟨x, e, _, hw⟩ := DataW.trod_int ht h
  injection e with e _
  exact ⟨x, e, hw⟩
theorem leaf_i64 {t : TypeId} {n : Nat} {v : Value} {y : DataW H × List MemPlace} (ht : P.underlying t = some (.int .i64)) (h : DataW.trod enc P w base spare held n t [v] = some y) : ∃ x, v = .int .i64 x ∧ okI x := by
  obtain ⟨x, e, hw⟩ := leaf_int ht h
  exact ⟨x, e, wf_okI.1 hw⟩
/-- A slice of whatever: its elements' leaves lie in cells. -/
def Sl (enc : TypeId × Value → H) (P : Program) (w : World) (base : Nat) (spare : Nat → Bool) (held : Bool) (ts : List TypeId) (v : Value) (n : Nat) : Prop :=
  n ≤ maxLen ∧ ((v = .slice none 0 0 ∧ n = 0) ∨ ∃ (a : Addr) (cap : Nat), v = .slice (some a) n cap ∧ n ≤ cap ∧ base ≤ a.block ∧ ∀ i, i < n → ∀ (j : Nat) (t : TypeId), ts[j]? = some t →
    ∃ (u : Value) (m : Nat) (y : DataW H × List MemPlace), w.cell? (a.add (i * ts.length + j)) = some u ∧ DataW.trod enc P w base spare held m t [u] = some y)
theorem leaf_slice {t e : TypeId} {d n : Nat} {v : Value} {y : DataW H × List MemPlace} (ht : P.underlying t = some (.slice e)) (hok : flatOk P d e = true) (hc : P.cellsOf e = (leaves P d e).length) (h : DataW.trod enc P w base spare held n t [v] = some y) :
    ∃ len, Sl enc P w base spare held (leaves P d e) v len := by
  rcases open_slice ht h with ⟨h0, _⟩ | ⟨a, len, cap, m, k, D, Pl, hcs, hb, hl, hm, hmm, _, hi⟩
  · injection h0 with h0 _
    exact ⟨0, Nat.zero_le _, .inl ⟨h0, rfl⟩⟩
  · injection hcs with hcs _
    refine ⟨len, by omega, .inr ⟨a, cap, hcs, hl, hb, fun i hil j tj hj => ?_⟩⟩
    have hlm : len ≤ m := by rw [hmm]; split <;> omega
    obtain ⟨cs', hcells, htr⟩ := hi i (by omega)
    obtain ⟨_, hlen, hcell⟩ := World.cells?_some hcells
    obtain ⟨u, m', y', h1, h2⟩ := leafs_of hok hlen htr j tj hj
    refine ⟨u, m', y', ?_, h2⟩
    have hjl : j < P.cellsOf e := by rw [hc]; exact (List.getElem?_eq_some_iff.1 hj).1
    rw [← hc, ← Go.Deep.add_add, hcell j hjl, h1]
theorem Sl.form {ts : List TypeId} {v : Value} {n : Nat} (h : Sl enc P w base spare held ts v n) : n ≤ maxLen ∧ ∃ a c, v = .slice a n c := by
  rcases h with ⟨h0, ⟨rfl, rfl⟩ | ⟨a, cap, rfl, -⟩⟩
  · exact ⟨h0, _, _, rfl⟩
  · exact ⟨h0, _, _, rfl⟩
end
end Go.Proofs.YtefjdcghdcbojaaGreat

namespace Go.Proofs.YtefjdcghdcbojaaGreat
open Go.ChangeShapes Go.WideShapes Go.RowKit Go.Maps
section
variable {α : Type} {k : Nat} {cs : α → Array Value} {ok : World → α → Prop}
/-- A slice of things of k cells: L. -/
def Sq (k : Nat) (cs : α → Array Value) (ok : World → α → Prop) (w : World) (v : Value) (L : List α) : Prop :=
  L.length ≤ maxLen ∧ ∃ a cap, v = .slice a L.length cap ∧ ∀ (i : Nat) (r : α), L[i]? = some r → ok w r ∧ ∃ ad, a = some ad ∧ ∀ (j : Nat) (u : Value), (cs r)[j]? = some u → w.cell? (ad.add (i * k + j)) = some u
/-- What holds of an element goes on to hold where nothing old is turned. -/
def Keeps (ok : World → α → Prop) : Prop := ∀ ⦃S : Nat → Prop⦄ ⦃w w' : World⦄ ⦃r : α⦄, ok w r → Fr S w w' → (∀ b, S b → w.heap.size ≤ b) → ok w' r
theorem Sq.fr {S : Nat → Prop} {w w' : World} {v : Value} {L : List α} (hk : Keeps ok) (h : Sq k cs ok w v L) (hf : Fr S w w') (hS : ∀ b, S b → w.heap.size ≤ b) : Sq k cs ok w' v L := by
  obtain ⟨h0, a, cap, e, h1⟩ := h
  refine ⟨h0, a, cap, e, fun i r hr => ?_⟩
  obtain ⟨ho, ad, e2, hc⟩ := h1 i r hr
  refine ⟨hk ho hf hS, ad, e2, fun j u hu => ?_⟩
  have := hc j u hu
  exact hf.cell this (fun hs => by have := hS _ hs; have := World.block_lt_of_cell? w _ ‹w.cell? _ = _›; omega)
theorem Sq.fr0 {w w' : World} {v : Value} {L : List α} (hk : Keeps ok) (h : Sq k cs ok w v L) (hf : Fr (fun _ => False) w w') : Sq k cs ok w' v L := h.fr hk hf (fun _ h => h.elim)
theorem Sq.sl {w : World} {v : Value} {L : List α} (h : Sq k cs ok w v L) : ∃ a c, v = .slice a L.length c := by
  obtain ⟨_, a, c, e, _⟩ := h
  exact ⟨a, c, e⟩
theorem Sq.len {w : World} {v : Value} {L : List α} (h : Sq k cs ok w v L) : (L.length : Int) ≤ 9223372036854775807 := by
  have := h.1
  unfold maxLen at this
  omega
theorem Sq.okm {w : World} {v : Value} {L : List α} (h : Sq k cs ok w v L) {r : α} (hr : r ∈ L) : ok w r := by
  obtain ⟨i, hi⟩ := List.getElem?_of_mem hr
  obtain ⟨_, _, _, _, h1⟩ := h
  exact (h1 i r hi).1
theorem Sq.at_ {w : World} {a : Option Addr} {n c i : Nat} {L : List α} {r : α} (h : Sq k cs ok w (.slice a n c) L) (hr : L[i]? = some r) : ∃ ad, a = some ad ∧ ok w r ∧
    (∀ u, (cs r)[0]? = some u → w.cell? (ad.add (i * k)) = some u) ∧ ∀ (j : Nat) (u : Value), (cs r)[j + 1]? = some u → w.cell? ⟨(ad.add (i * k)).block, (ad.add (i * k)).off + (j + 1), none⟩ = some u := by
  obtain ⟨h0, a', cap, e, h1⟩ := h
  injection e with e1 _ _
  obtain ⟨ho, ad, e2, hc⟩ := h1 i r hr
  exact ⟨ad, e1.trans e2, ho, fun u hu => hc 0 u hu, fun j u hu => by rw [← add_field]; exact hc (j + 1) u hu⟩
theorem Sq.lt {w : World} {v : Value} {L : List α} (hcs : ∀ r, 0 < (cs r).size) (h : Sq k cs ok w v L) (hL : L ≠ []) : ∀ b, v.ownBlock = some b → b < w.heap.size := fun b hb => by
  obtain ⟨_, a, c, rfl, h1⟩ := h
  cases L with
  | nil => exact absurd rfl hL
  | cons p r =>
    obtain ⟨_, ad, rfl, hc⟩ := h1 0 p rfl
    have h2 := hc 0 _ (Array.getElem?_eq_getElem (hcs p))
    have := World.block_lt_of_cell? w _ h2
    have hb2 : (ad.add (0 * k + 0)).block = ad.block := by rw [Nat.zero_mul]; rfl
    rw [hb2] at this
    obtain rfl : ad.block = b := (by simpa [Value.ownBlock] using hb)
    exact this
theorem Sq.nil {w : World} {a : Option Addr} {c : Nat} : Sq k cs ok w (.slice a 0 c) [] := ⟨Nat.zero_le _, a, c, rfl, fun i r hr => by simp at hr⟩
/-- An element's cells in one list. -/
def flat (cs : α → Array Value) (L : List α) : List Value := L.flatMap fun r => (cs r).toList
theorem flat_app (L M : List α) : flat cs (L ++ M) = flat cs L ++ flat cs M := by simp [flat]
theorem flat_len1 (hcs : ∀ r, (cs r).size = k) (L : List α) : (flat cs L).length = L.length * k := by
  induction L with
  | nil => simp [flat]
  | cons q r ih =>
    have e : flat cs (q :: r) = (cs q).toList ++ flat cs r := by simp [flat]
    rw [e, List.length_append, ih, List.length_cons, Nat.succ_mul, Array.length_toList, hcs]; omega
theorem flat_at (hcs : ∀ r, (cs r).size = k) : ∀ {L : List α} {i : Nat} {r : α}, L[i]? = some r → ∀ (j : Nat) (u : Value), (cs r)[j]? = some u → (flat cs L)[i * k + j]? = some u
  | q :: L, 0, r, h, j, u, hu => by
    cases h
    have e : flat cs (q :: L) = (cs q).toList ++ flat cs L := by simp [flat]
    have hj := (Array.getElem?_eq_some_iff.1 hu).1
    rw [e, Nat.zero_mul, Nat.zero_add, List.getElem?_append_left (by simpa using hj)]
    simpa using hu
  | q :: L, i + 1, r, h, j, u, hu => by
    have e : flat cs (q :: L) = (cs q).toList ++ flat cs L := by simp [flat]
    have ih := flat_at hcs (L := L) (i := i) (r := r) (by simpa using h) j u hu
    have hl : (cs q).toList.length = k := by rw [Array.length_toList, hcs]
    rw [e, List.getElem?_append_right (by rw [hl, Nat.succ_mul]; omega), hl, Nat.succ_mul, show i * k + k + j - k = i * k + j by omega]
    exact ih
theorem flat_take (hcs : ∀ r, (cs r).size = k) (L : List α) (i : Nat) : flat cs (L.take i) = (flat cs L).take (i * k) := by
  induction L generalizing i with
  | nil => simp [flat]
  | cons q r ih =>
    cases i with
    | zero => simp [flat]
    | succ i =>
      have e : flat cs (q :: r) = (cs q).toList ++ flat cs r := by simp [flat]
      have e2 : flat cs (q :: r.take i) = (cs q).toList ++ flat cs (r.take i) := by simp [flat]
      have hl : (cs q).toList.length = k := by rw [Array.length_toList, hcs]
      rw [List.take_succ_cons, e, e2, ih, List.take_append, hl, List.take_of_length_le (l := (cs q).toList) (i := (i + 1) * k) (by rw [hl, Nat.succ_mul]; omega), Nat.succ_mul, show i * k + k - k = i * k by omega]
/-- A row of the call's own reads as a slice. -/
theorem Sq.own {w : World} {base : Nat} {e : TypeId} {v : Value} {L : List α} (hcs : ∀ r, (cs r).size = k) (h : w.ownsRow base e k v L.length (flat cs L)) (hL : ∀ p ∈ L, ok w p) : Sq k cs ok w v L := by
  rcases h.2 with ⟨rfl, h0⟩ | ⟨g, cap, cur, rfl, hbase, hb, hn, hm, hs, ht⟩
  · have : L = [] := List.eq_nil_of_length_eq_zero h0
    subst this
    exact Sq.nil
  · refine ⟨by unfold maxLen at *; omega, some ⟨g, 0, none⟩, cap, rfl, fun i p hp => ⟨hL p (List.mem_of_getElem? hp), _, rfl, fun j u hu => ?_⟩⟩
    have hi := (List.getElem?_eq_some_iff.1 hp).1
    have hj := (Array.getElem?_eq_some_iff.1 hu).1
    rw [hcs] at hj
    have hlt : i * k + j < L.length * k := by
      have : (i + 1) * k ≤ L.length * k := Nat.mul_le_mul_right _ hi
      rw [Nat.succ_mul] at this
      omega
    have h2 := h.cellAt (g := g) (j := i * k + j) (by first | exact hlt | (rw [flat_len1 hcs]; exact hlt))
    have e0 : (⟨g, 0, none⟩ : Addr).add (i * k + j) = ⟨g, i * k + j, none⟩ := by unfold Addr.add; split <;> simp_all
    rw [e0, h2]
    exact flat_at hcs hp j u hu
end
section
variable {α : Type} {k : Nat} {cs : α → Array Value} {ok : World → α → Prop}
variable {H : Type} {enc : TypeId × Value → H} {P : Program} {w : World} {base : Nat} {spare : Nat → Bool} {held : Bool}
/-- An argument: a slice of structs, opened by its elements' own opener. -/
theorem leaf_sq {t e : TypeId} {d n : Nat} {v : Value} {y : DataW H × List MemPlace} (ht : P.underlying t = some (.slice e)) (hok : flatOk P d e = true) (hc : P.cellsOf e = (leaves P d e).length) (hl : (leaves P d e).length = k)
    (hopen : ∀ (cell : Nat → Option Value), (∀ (j : Nat) (t : TypeId), (leaves P d e)[j]? = some t → ∃ (u : Value) (m : Nat) (y : DataW H × List MemPlace), cell j = some u ∧ DataW.trod enc P w base spare held m t [u] = some y) → ∃ r : α, ok w r ∧ ∀ (j : Nat) (u : Value), (cs r)[j]? = some u → cell j = some u)
    (h : DataW.trod enc P w base spare held n t [v] = some y) : ∃ L, Sq k cs ok w v L := by
  obtain ⟨len, hmax, hs⟩ := leaf_slice ht hok hc h
  rcases hs with ⟨e, rfl⟩ | ⟨a, cap, e, hle, hb, hi⟩
  · exact ⟨[], Nat.zero_le _, none, 0, e, fun i r hr => by simp at hr⟩
  · have key : ∀ i, i < len → ∃ r : α, ok w r ∧ ∀ (j : Nat) (u : Value), (cs r)[j]? = some u → w.cell? (a.add (i * k + j)) = some u := fun i hil =>
      hopen (fun j => w.cell? (a.add (i * k + j))) (fun j t ht => by have := hi i hil j t ht; rw [hl] at this; exact this)
    rcases Nat.eq_zero_or_pos len with rfl | hpos
    · exact ⟨[], Nat.zero_le _, some a, cap, by rw [e]; rfl, fun i r hr => by simp at hr⟩
    · obtain ⟨x0, _⟩ := key 0 hpos
      haveI : Inhabited α := ⟨x0⟩
      obtain ⟨X, hX⟩ := Go.Deep.choose_lt key
      refine ⟨(List.range len).map X, (by rw [List.length_map, List.length_range]; exact hmax), some a, cap, (by rw [e, List.length_map, List.length_range]), fun i r hr => ?_⟩
      rw [List.getElem?_map] at hr
      obtain ⟨i', hi', rfl⟩ := Option.map_eq_some_iff.1 hr
      obtain ⟨hlt, e⟩ := List.getElem?_eq_some_iff.1 hi'
      rw [List.getElem_range] at e
      subst e
      have := hX i (by simpa using hlt)
      exact ⟨this.1, a, rfl, this.2⟩
theorem open_sq {t e : TypeId} {d : Nat} {r : Reach} {b0 : Nat} {v : Value} {x : DataW H} {p : List MemPlace} (ht : P.underlying t = some (.slice e)) (hok : flatOk P d e = true) (hc : P.cellsOf e = (leaves P d e).length) (hl : (leaves P d e).length = k)
    (hopen : ∀ (cell : Nat → Option Value), (∀ (j : Nat) (t : TypeId), (leaves P d e)[j]? = some t → ∃ (u : Value) (m : Nat) (y : DataW H × List MemPlace), cell j = some u ∧ DataW.trod enc P w base spare held m t [u] = some y) → ∃ r : α, ok w r ∧ ∀ (j : Nat) (u : Value), (cs r)[j]? = some u → cell j = some u)
    (hv : Value.okWide P w r b0 t v) (h : DataW.Trod enc P w base spare held t v x p) : ∃ L, Sq k cs ok w v L := by
  obtain ⟨fuel, h⟩ := h
  obtain ⟨a0, l0, c0, rfl⟩ := okWide_slice ht hv
  exact leaf_sq ht hok hc hl hopen (n := fuel) (by simpa only [Value.cells] using h)
end
end Go.Proofs.YtefjdcghdcbojaaGreat

namespace Go.Proofs.YtefjdcghdcbojaaGreat
open Go.RowKit
/-- A world in which all that was there in w lies as it did. -/
structure FrW (w : World) where
  val : World
  fr : Fr (fun _ => False) w val
instance frW_nonempty (w : World) : Nonempty (FrW w) := ⟨⟨w, Fr.refl _ w⟩⟩
theorem FrW.cell {w : World} {p : Addr} {v : Value} (hc : w.cell? p = some v) (X : FrW w) : X.val.cell? p = some v := X.fr.cell hc (fun h => h)
theorem FrW.at_ {w : World} {b : Nat} {o : Obj} (hc : w.heap[b]? = some o) (X : FrW w) : X.val.heap[b]? = some o := X.fr.at_ hc (fun h => h)
theorem wp_region_fr {P : Program} {id : Nat} {Q : Exit → Act → World → Prop} {a : Act} {w : World} {l : List Oper} (hm : P.follows .mixedOrders = true) (hB : Region.lexB .any l.toArray = true)
    (h : wpQuiet P l.toArray (fun w' => ∃ X : FrW w, w' = X.val) (fun a' => ∀ w', (∃ X : FrW w, w' = X.val) → Q .normal a' w') l a) : (Code.region id l.toArray true).wp P Q a w :=
  wp_region_quiet (C := fun w' => ∃ X : FrW w, w' = X.val) hm hB ⟨⟨_, (Fr.refl _ w).drew⟩, rfl⟩ (by simpa using h)
end Go.Proofs.YtefjdcghdcbojaaGreat

namespace Go.Proofs.YtefjdcghdcbojaaGreat
open Go.RowKit Go.Maps
/-- A bin: its number, its zone, its room, what lies in it. -/
structure BV where
  nu : Int
  zo : Int
  ro : Int
  l : Value
  its : Its
def BV.cs (b : BV) : Array Value := #[.int .i64 b.nu, .int .i64 b.zo, .int .i64 b.ro, b.l]
structure BOk (w : World) (b : BV) : Prop where
  nu : okI b.nu
  zo : okI b.zo
  ro : okI b.ro
  l : Il w b.l b.its
theorem bokKeeps : Keeps BOk := fun _ _ _ _ h hf hS => ⟨h.nu, h.zo, h.ro, h.l.fr hf hS⟩
theorem bvSize (b : BV) : b.cs.size = 4 := rfl
/-- A slice of bins. -/
abbrev Bl (w : World) (v : Value) (L : List BV) : Prop := Sq 4 BV.cs BOk w v L
/-- How much room is left. -/
def leftF (b : BV) : Int := wrap64 (b.ro - totF b.its)
/-- How well it takes a good: it has it, it is empty, it can, it can't. -/
def kindF (b : BV) (s : Str) : Int := if 0 < ofF b.its s then 0 else if b.its.length = 0 then 1 else if b.its.length < 16 then 2 else 3
set_option maxRecDepth 100000 in
set_option maxHeartbeats 4000000 in
theorem bLeft (w : World) (b : BV) (hk : BOk w b) : Calls Tryz.prog 24 #[.agg b.cs] w fun e w' => e = .returned (.int .i64 (leftF b)) ∧ Fr (fun _ => False) w w' := by
  obtain ⟨n0, hn0⟩ : ∃ n0, w.heap.size = n0 := ⟨_, rfl⟩
  have HL := Lib.hid (hk.l)
  obtain ⟨nu, zo, ro, l, its⟩ := b
  obtain ⟨la, lc, hl⟩ := hk.l.sl
  dsimp only at hl
  subst hl
  obtain ⟨W0, hW0⟩ : ∃ W0, w.alloc (.cells #[.int .i64 nu, .int .i64 zo, .int .i64 ro, .slice la its.length lc] 64) = W0 := ⟨_, rfl⟩
  have hb0 : W0.heap[n0]? = some (.cells #[.int .i64 nu, .int .i64 zo, .int .i64 ro, .slice la its.length lc] 64) := by rw [← hW0]; exact heap_at hn0.symm _
  have hF0 : Fr (fun _ => False) w W0 := by rw [← hW0]; exact (Fr.refl _ w).alloc _
  obtain ⟨N, hN⟩ : ∃ N, its.length = N := ⟨_, rfl⟩
  have hTo : Hid (∀ W, Fr (fun _ => False) w W → Calls Tryz.prog 72 #[.slice la N lc] W fun e w' => e = .returned (.int .i64 (totF its)) ∧ Fr (fun _ => False) W w') := Lib.hid (fun W hf => by
    have := iTotal W _ its (HL.out.fr hf (fun _ h => h.elim))
    dsimp only at this
    rw [hN] at this; exact this)
  unfold BV.cs leftF
  dsimp only
  rw [hN] at hb0 hW0 ⊢
  obtain ⟨TO, hTO⟩ : ∃ t, totF its = t := ⟨_, rfl⟩
  rw [hTO] at hTo ⊢
  have HF0 := Lib.hid hF0
  have p0 := FrW.cell (cell_obj hb0 2 (.int .i64 ro) rfl)
  have p1 := FrW.cell (cell_obj hb0 3 (.slice la N lc) rfl)
  clear hk hN hb0 hF0 hTO
  go_enter Tryz.func24, Tryz.ntmps24
  go_wp2_with fail
  refine wp_region_fr (by kernel_rfl) (by kernel_rfl) ?_
  repeat (go_big_quiet_step ((go_at_call 72; rename_i X; refine (hTo.out _ (HF0.out.trans X.fr)).mono ?_; rintro e w2 ⟨rfl, hF⟩; exact ⟨rfl, ⟨w2, X.fr.trans hF⟩, rfl⟩)))
  refine wpQuiet_nil ?_
  rintro _ ⟨⟨V, hV⟩, rfl⟩
  go_wp2_with fail
  go_ret
  exact ⟨rfl, HF0.out.trans hV⟩
set_option maxRecDepth 100000 in
set_option maxHeartbeats 4000000 in
theorem bKind (w : World) (b : BV) (s : Str) (hk : BOk w b) : Calls Tryz.prog 51 #[.agg b.cs, vS s] w fun e w' => e = .returned (.int .i64 (kindF b s)) ∧ Fr (fun _ => False) w w' := by
  obtain ⟨n0, hn0⟩ : ∃ n0, w.heap.size = n0 := ⟨_, rfl⟩
  have HL := Lib.hid (hk.l)
  obtain ⟨nu, zo, ro, l, its⟩ := b
  obtain ⟨la, lc, hl⟩ := hk.l.sl
  have hlen := hk.l.1
  dsimp only at hl hlen
  subst hl
  obtain ⟨W0, hW0⟩ : ∃ W0, w.alloc (.cells #[.int .i64 nu, .int .i64 zo, .int .i64 ro, .slice la its.length lc] 64) = W0 := ⟨_, rfl⟩
  have hb0 : W0.heap[n0]? = some (.cells #[.int .i64 nu, .int .i64 zo, .int .i64 ro, .slice la its.length lc] 64) := by rw [← hW0]; exact heap_at hn0.symm _
  have hF0 : Fr (fun _ => False) w W0 := by rw [← hW0]; exact (Fr.refl _ w).alloc _
  obtain ⟨N, hN⟩ : ∃ N, its.length = N := ⟨_, rfl⟩
  have hOf : Hid (∀ W, Fr (fun _ => False) w W → Calls Tryz.prog 47 #[.slice la N lc, vS s] W fun e w' => e = .returned (.int .i64 (ofF its s)) ∧ Fr (fun _ => False) W w') := Lib.hid (fun W hf => by
    have := iOf W _ its s (HL.out.fr hf (fun _ h => h.elim))
    dsimp only at this
    rw [hN] at this; exact this)
  obtain ⟨R, hR⟩ : ∃ R, kindF ⟨nu, zo, ro, .slice la its.length lc, its⟩ s = R := ⟨_, rfl⟩
  rw [hR]
  have HR : Hid (R = if 0 < ofF its s then 0 else if N = 0 then 1 else if N < 16 then 2 else 3) := Lib.hid (by rw [← hR, ← hN]; rfl)
  unfold BV.cs
  dsimp only
  rw [hN] at hb0 hW0 hlen ⊢
  obtain ⟨OF, hOF⟩ : ∃ t, ofF its s = t := ⟨_, rfl⟩
  rw [hOF] at hOf HR
  have HF0 := Lib.hid hF0; have HB0 := Lib.hid hb0
  have p1 := cell_obj hb0 3 (.slice la N lc) rfl
  have hNI : (N : Int) ≤ 9223372036854775807 := by omega
  have hNs : N = 0 ∨ (0 < N ∧ N < 16) ∨ 16 ≤ N := by omega
  clear hk hN hb0 hF0 hOF hR hlen
  by_cases hpos : 0 < OF
  · have hr : Hid (R = 0) := Lib.hid (by rw [HR.out, if_pos hpos])
    clear hNs HR
    go_enter Tryz.func51, Tryz.ntmps51
    go_wp2_with (go_at_call 47; refine (hOf.out _ HF0.out).mono ?_; rintro e w2 ⟨rfl, hf2⟩; have HF2 := Lib.hid hf2; have p1 := cell_obj (hf2.at_ HB0.out (fun e => e)) 3 (.slice la N lc) rfl; clear hf2)
    go_ret
    exact ⟨by rw [hr.out]; rfl, HF0.out.trans HF2.out⟩
  · have d0 : decide (0 < OF) = false := decide_eq_false hpos
    rcases hNs with h0 | ⟨h0, h1⟩ | h1
    · have hr : Hid (R = 1) := Lib.hid (by rw [HR.out, if_neg hpos, if_pos h0])
      subst h0
      clear HR hpos
      go_enter Tryz.func51, Tryz.ntmps51
      go_wp2_with (go_at_call 47; refine (hOf.out _ HF0.out).mono ?_; rintro e w2 ⟨rfl, hf2⟩; have HF2 := Lib.hid hf2; have p1 := cell_obj (hf2.at_ HB0.out (fun e => e)) 3 (.slice la 0 lc) rfl; clear hf2)
      go_ret
      exact ⟨by rw [hr.out]; rfl, HF0.out.trans HF2.out⟩
    · have hr : Hid (R = 2) := Lib.hid (by rw [HR.out, if_neg hpos, if_neg (by omega), if_pos h1])
      have b0 : ((N : Int) == 0) = false := by simp; omega
      have b1 : (N : Int) < 16 := by omega
      clear HR hpos h0 h1
      go_enter Tryz.func51, Tryz.ntmps51
      go_wp2_with (go_at_call 47; refine (hOf.out _ HF0.out).mono ?_; rintro e w2 ⟨rfl, hf2⟩; have HF2 := Lib.hid hf2; have p1 := cell_obj (hf2.at_ HB0.out (fun e => e)) 3 (.slice la N lc) rfl; clear hf2)
      go_ret
      exact ⟨by rw [hr.out]; rfl, HF0.out.trans HF2.out⟩
    · have hr : Hid (R = 3) := Lib.hid (by rw [HR.out, if_neg hpos, if_neg (by omega), if_neg (by omega)])
      have b0 : ((N : Int) == 0) = false := by simp; omega
      have b1 : ¬ (N : Int) < 16 := by omega
      clear HR hpos h1
      go_enter Tryz.func51, Tryz.ntmps51
      go_wp2_with (go_at_call 47; refine (hOf.out _ HF0.out).mono ?_; rintro e w2 ⟨rfl, hf2⟩; have HF2 := Lib.hid hf2; have p1 := cell_obj (hf2.at_ HB0.out (fun e => e)) 3 (.slice la N lc) rfl; clear hf2)
      go_ret
      exact ⟨by rw [hr.out]; rfl, HF0.out.trans HF2.out⟩
end Go.Proofs.YtefjdcghdcbojaaGreat

namespace Go.Proofs.YtefjdcghdcbojaaGreat
/-- The place of the first that is so; -1: none. -/
def idxOf {α : Type} (p : α → Bool) (L : List α) : Int := match L.findIdx? p with | some i => (i : Int) | none => -1
theorem idxOf_at {α : Type} {p : α → Bool} {L : List α} {j : Nat} {x : α} (h : L[j]? = some x) (hp : p x = true) (hno : ∀ q y, q < j → L[q]? = some y → p y = false) : idxOf p L = j := by
  have : L.findIdx? p = some j := by
    rw [List.findIdx?_eq_some_iff_getElem]
    obtain ⟨hj, e⟩ := List.getElem?_eq_some_iff.1 h
    refine ⟨hj, by rw [e]; exact hp, fun q hq => ?_⟩
    have := hno q _ hq (List.getElem?_eq_getElem (by omega))
    simp [this]
  unfold idxOf
  rw [this]
theorem idxOf_no {α : Type} {p : α → Bool} {L : List α} (h : ∀ (q : Nat) (y : α), L[q]? = some y → p y = false) : idxOf p L = -1 := by
  have : L.findIdx? p = none := by
    rw [List.findIdx?_eq_none_iff]
    intro x hx
    obtain ⟨q, hq⟩ := List.getElem?_of_mem hx
    exact h q x hq
  unfold idxOf
  rw [this]
theorem idxOf_cases {α : Type} (p : α → Bool) (L : List α) : (idxOf p L = -1 ∧ L.find? p = none ∧ ∀ x ∈ L, p x = false) ∨ ∃ (j : Nat) (x : α), L[j]? = some x ∧ p x = true ∧ idxOf p L = j ∧ L.find? p = some x := by
  cases h : L.findIdx? p with
  | none =>
    left
    have h2 := List.findIdx?_eq_none_iff.1 h
    exact ⟨by unfold idxOf; rw [h], List.find?_eq_none.2 (fun x hx => by simp [h2 x hx]), h2⟩
  | some j =>
    right
    obtain ⟨hj, hp, hno⟩ := List.findIdx?_eq_some_iff_getElem.1 h
    refine ⟨j, L[j], List.getElem?_eq_getElem hj, hp, by unfold idxOf; rw [h], ?_⟩
    rw [List.find?_eq_some_iff_getElem]
    exact ⟨hp, j, hj, rfl, fun q hq => by simpa using hno q hq⟩
end Go.Proofs.YtefjdcghdcbojaaGreat

namespace Go.Proofs.YtefjdcghdcbojaaGreat
open Go.RowKit Go.Maps
set_option maxRecDepth 100000 in
set_option maxHeartbeats 4000000 in
theorem ixBin (w : World) (v : Value) (L : List BV) (p : BV → Bool) (b0 : Nat) (h : Sq 4 BV.cs BOk w v L)
    (hf : ∀ (W : World) (i : Nat) (x : BV), L[i]? = some x → Fr (fun _ => False) w W → Calls Tryz.prog 107 #[.agg (BV.cs x), .pointer (some ⟨b0, 0, none⟩)] W fun e W' => e = .returned (.bool (p x)) ∧ Fr (fun _ => False) W W') :
    Calls Tryz.prog 106 #[v, .func (.func 107) #[] #[.pointer (some ⟨b0, 0, none⟩)]] w fun e w' => e = .returned (.int .i64 (idxOf p L)) ∧ Fr (fun _ => False) w w' := by
  obtain ⟨a, c, rfl⟩ := h.sl
  obtain ⟨N, hN⟩ : ∃ N, L.length = N := ⟨_, rfl⟩
  have hNb : (N : Int) ≤ 9223372036854775807 := by have := h.len; omega
  have HL := Lib.hid h; have HN := Lib.hid hN; have HF := Lib.hid hf
  rw [hN] at HL ⊢
  obtain ⟨R, hR⟩ : ∃ R, idxOf p L = R := ⟨_, rfl⟩
  have HR := Lib.hid hR
  rw [hR]
  clear h hN hf hR
  go_enter Tryz.func106, Tryz.ntmps106
  go_wp2_with fail
  go_loopw [5, 8] (fun _ i wr => ∃ j : Nat, j ≤ N ∧ i = .int .i64 j ∧ Fr (fun _ => False) w wr ∧ ∀ q x, q < j → L[q]? = some x → p x = false) (fun _ i _ => N - (intOf i).toNat)
  case atStart => exact ⟨0, Nat.zero_le _, rfl, Fr.refl _ _, fun q x hq => by omega⟩
  case round =>
    obtain ⟨j, hj, rfl, hfr, hno⟩ := hrel
    have HFR := Lib.hid hfr; have HNO := Lib.hid hno
    clear hno
    by_cases hlt : j < N
    · obtain ⟨x, hx⟩ : ∃ x, L[j]? = some x := ⟨L[j]'(by rw [HN.out]; exact hlt), List.getElem?_eq_getElem _⟩
      obtain ⟨ad, rfl, hok, z0, zs⟩ := (HL.out.fr0 bokKeeps hfr).at_ hx
      have hC := HF.out wr j x hx hfr
      obtain ⟨b, hb⟩ : ∃ b, p x = b := ⟨_, rfl⟩
      rw [hb] at hC
      have HB := Lib.hid hb; have HX := Lib.hid hx
      have hjI : (j : Int) < N := by omega
      obtain ⟨X, hXX⟩ : ∃ X, X = x := ⟨_, rfl⟩
      rw [← hXX] at HB HX
      obtain ⟨nu, zo, ro, l, its⟩ := x
      clear hXX
      obtain ⟨la, lc, hl⟩ := hok.l.sl
      dsimp only at hl
      subst hl
      have x0 := z0 (.int .i64 nu) rfl
      have x1 := zs 0 (.int .i64 zo) rfl
      have x2 := zs 1 (.int .i64 ro) rfl
      have x3 := zs 2 (.slice la its.length lc) rfl
      dsimp only [Nat.zero_add, Nat.reduceAdd] at x0 x1 x2 x3
      have hC' : Calls Tryz.prog 107 #[.agg #[.int .i64 nu, .int .i64 zo, .int .i64 ro, .slice la its.length lc], .pointer (some ⟨b0, 0, none⟩)] wr fun e W' => e = .returned (.bool b) ∧ Fr (fun _ => False) wr W' := hC
      have HC := Lib.hid hC'
      clear hC hC' hb hx hok z0 zs hfr
      cases b with
      | true =>
        have hres : Hid (R = (j : Int)) := Lib.hid (by rw [← HR.out]; exact idxOf_at HX.out HB.out HNO.out)
        go_wp2_with (go_at_call 107; refine HC.out.mono ?_; rintro e w1 ⟨rfl, hf1⟩; have HF1 := Lib.hid hf1; clear hf1)
        go_ret
        exact ⟨by rw [hres.out]; rfl, HFR.out.trans HF1.out⟩
      | false =>
        go_wp2_with (go_at_call 107; refine HC.out.mono ?_; rintro e w1 ⟨rfl, hf1⟩; have HF1 := Lib.hid hf1; clear hf1)
        go_roundw
        case rel =>
          refine ⟨j + 1, by omega, by go_num, HFR.out.trans HF1.out, fun q x hq hx => ?_⟩
          by_cases e : q = j
          · subst e
            have := HX.out
            rw [this] at hx
            injection hx with hx
            rw [← hx]
            exact HB.out
          · exact HNO.out q x (by omega) hx
        case measure => simp [intOf]; omega
    · obtain rfl : j = N := by omega
      have hres : Hid (R = -1) := Lib.hid (by rw [← HR.out]; exact idxOf_no (fun q x hx => HNO.out q x (by have := (List.getElem?_eq_some_iff.1 hx).1; have := HN.out; omega) hx))
      clear hfr
      go_wp2_with fail
      go_ret
      exact ⟨by rw [hres.out]; rfl, HFR.out⟩

/-- A floor at g: these bins. -/
def Fl (W : World) (g : Nat) (L : List BV) : Prop := ∃ a c, W.heap[g]? = some (.cells #[.slice a L.length c] 62) ∧ Bl W (.slice a L.length c) L
theorem Fl.keep {W W' : World} {g : Nat} {L : List BV} (h : Fl W g L) (hf : Fr (fun _ => False) W W') : Fl W' g L := by
  obtain ⟨a, c, h1, h2⟩ := h
  exact ⟨a, c, hf.at_ h1 (fun e => e), h2.fr0 bokKeeps hf⟩
/-- The place of a bin; -1: there is none. -/
def findF (L : List BV) (n : Int) : Int := idxOf (fun b => decide (b.nu = n)) L
set_option maxRecDepth 100000 in
set_option maxHeartbeats 4000000 in
theorem bFind1 (w : World) (b : BV) (n : Int) (b0 : Nat) (hk : BOk w b) (hb : w.cell? ⟨b0, 0, none⟩ = some (.int .i64 n)) : Calls Tryz.prog 107 #[.agg b.cs, .pointer (some ⟨b0, 0, none⟩)] w fun e w' => e = .returned (.bool (decide (b.nu = n))) ∧ Fr (fun _ => False) w w' := by
  obtain ⟨nu, zo, ro, l, its⟩ := b
  obtain ⟨la, lc, hl⟩ := hk.l.sl
  dsimp only at hl
  subst hl
  unfold BV.cs
  dsimp only
  obtain ⟨N, hN⟩ : ∃ N, its.length = N := ⟨_, rfl⟩
  rw [hN]
  have hb2 := ((Fr.refl (fun _ => False) w).alloc (.cells #[.int .i64 nu, .int .i64 zo, .int .i64 ro, .slice la N lc] 64)).cell hb (fun h => h)
  clear hk hN
  by_cases e : nu = n
  · have b1 : (nu == n) = true := by simpa using e
    have hr : decide (nu = n) = true := decide_eq_true e
    rw [hr]
    clear e hr
    go_enter Tryz.func107, Tryz.ntmps107
    go_wp2_with fail
    go_ret
    exact ⟨rfl, (Fr.refl _ w).alloc _⟩
  · have b1 : (nu == n) = false := by simpa using e
    have hr : decide (nu = n) = false := decide_eq_false e
    rw [hr]
    clear e hr
    go_enter Tryz.func107, Tryz.ntmps107
    go_wp2_with fail
    go_ret
    exact ⟨rfl, (Fr.refl _ w).alloc _⟩
set_option maxRecDepth 100000 in
set_option maxHeartbeats 4000000 in
theorem bMade (w : World) (g : Nat) (L : List BV) (h : Fl w g L) (hL : 0 < L.length) : Calls Tryz.prog 34 #[.pointer (some ⟨g, 0, none⟩)] w fun e w' => e = .returned (.bool true) ∧ w = w' := by
  obtain ⟨a, c, h1, h2⟩ := h
  have hb := h2.len
  obtain ⟨N, hN⟩ : ∃ N, L.length = N := ⟨_, rfl⟩
  rw [hN] at h1 hb hL
  have c0 := cell_obj h1 0 (.slice a N c) rfl
  have hI : (0 : Int) < (N : Int) := by omega
  clear h1 h2 hN
  go_enter Tryz.func34, Tryz.ntmps34
  go_wp2_with fail
  go_ret
  exact ⟨rfl, rfl⟩
set_option maxRecDepth 100000 in
set_option maxHeartbeats 4000000 in
theorem bFind (w : World) (g : Nat) (L : List BV) (n : Int) (h : Fl w g L) (hL : 0 < L.length) : Calls Tryz.prog 77 #[.pointer (some ⟨g, 0, none⟩), .int .i64 n] w fun e w' => e = .returned (.int .i64 (findF L n)) ∧ Fr (fun _ => False) w w' := by
  obtain ⟨n0, hn0⟩ : ∃ n0, w.heap.size = n0 := ⟨_, rfl⟩
  obtain ⟨W0, hW0⟩ : ∃ W0, w.alloc (.cells #[.int .i64 n] 3) = W0 := ⟨_, rfl⟩
  have hb0 : W0.heap[n0]? = some (.cells #[.int .i64 n] 3) := by rw [← hW0]; exact heap_at hn0.symm _
  have hF0 : Fr (fun _ => False) w W0 := by rw [← hW0]; exact (Fr.refl _ w).alloc _
  have hm := Lib.hid (bMade W0 g L (h.keep hF0) hL)
  obtain ⟨a, c, h1, h2⟩ := h.keep hF0
  have hx : Hid (Calls Tryz.prog 106 #[.slice a L.length c, .func (.func 107) #[] #[.pointer (some ⟨n0, 0, none⟩)]] W0 fun e w' => e = .returned (.int .i64 (findF L n)) ∧ Fr (fun _ => False) W0 w') :=
    Lib.hid (ixBin W0 _ L (fun b => decide (b.nu = n)) n0 h2 (fun W i x hx hf => bFind1 W x n n0 (bokKeeps (h2.okm (List.mem_of_getElem? hx)) hf (fun _ e => e.elim)) (hf.cell (cell_obj hb0 0 (.int .i64 n) rfl) (fun e => e))))
  obtain ⟨N, hN⟩ : ∃ N, L.length = N := ⟨_, rfl⟩
  rw [hN] at h1 hx
  obtain ⟨R, hR⟩ : ∃ R, findF L n = R := ⟨_, rfl⟩
  rw [hR] at hx ⊢
  have c0 := cell_obj h1 0 (.slice a N c) rfl
  have HF0 := Lib.hid hF0
  clear h h1 h2 hb0 hF0 hR hN hL
  go_enter Tryz.func77, Tryz.ntmps77
  go_wp2_with (first
    | (go_at_call 34; refine hm.out.mono ?_; rintro e w1 ⟨rfl, rfl⟩)
    | (go_at_call 106; refine hx.out.mono ?_; rintro e w2 ⟨rfl, hf2⟩; have HF2 := Lib.hid hf2; clear hf2))
  go_ret
  exact ⟨rfl, HF0.out.trans HF2.out⟩
end Go.Proofs.YtefjdcghdcbojaaGreat

namespace Go.Proofs.YtefjdcghdcbojaaGreat
open Go.RowKit
/-- The variable in block B holds a slice that owns xs; its row, if it has one, was made by the rounds. -/
structure Col (W : World) (base B : Nat) (t e : TypeId) (size : Nat) (C : Nat → Prop) (v : Value) (n : Nat) (xs : List Value) : Prop where
  box : Boxed W B t v
  row : W.ownsRow base e size v n xs
  mine : ∀ b, v.ownBlock = some b → C b
section
variable {W w1 W' : World} {base B : Nat} {t e : TypeId} {size : Nat} {C : Nat → Prop} {v v' : Value} {n m : Nat} {xs ys : List Value} {tmp : Obj}
theorem Col.fa {D : Nat} (h : Col W base B t e size C v n xs) (hf : Fa D W W') : Col W' base B t e size C v n xs := ⟨Fa.box hf h.box, Fa.row hf h.row, h.mine⟩
theorem Col.cc {W0 : World} {W1 : World} (h : Col W base B t e size C v n xs) : Col W base B t e size (CC C W0 W1) v n xs := ⟨h.box, h.row, fun b hb => .inl (h.mine b hb)⟩
end
end Go.Proofs.YtefjdcghdcbojaaGreat

namespace Go.Proofs.YtefjdcghdcbojaaGreat
open Go.RowKit Go.Maps
theorem infoItem : (Tryz.prog.info? 118).map (fun i => (i.zero, i.size, i.bytes)) = some (some (.agg #[.string ⟨#[]⟩, .int .i64 0]), 2, 24) := by kernel_rfl
/-- Items' cells. -/
def itCs (L : Its) : List Value := L.flatMap fun p => [vS p.1, .int .i64 p.2]
theorem itCs_app (L M : Its) : itCs (L ++ M) = itCs L ++ itCs M := by simp [itCs]
theorem itCs_len (L : Its) : (itCs L).length = L.length * 2 := by
  induction L with
  | nil => rfl
  | cons q r ih => simp only [itCs, List.flatMap_cons, List.length_append, List.length_cons, List.length_nil] at *; rw [ih]; omega
theorem itCs_one {u : Value} {L : Its} (h : u ∈ itCs L) : u.oneCell' = true := by
  simp only [itCs, List.mem_flatMap] at h
  obtain ⟨q, _, hq⟩ := h
  simp only [List.mem_cons, List.not_mem_nil, or_false] at hq
  rcases hq with rfl | rfl <;> rfl
theorem itCs_at : ∀ {L : Its} {k : Nat} {p : Str × Int}, L[k]? = some p → (itCs L)[k * 2]? = some (vS p.1) ∧ (itCs L)[k * 2 + 1]? = some (.int .i64 p.2)
  | q :: r, 0, p, h => by
    cases h
    exact ⟨rfl, rfl⟩
  | q :: r, k + 1, p, h => by
    have := itCs_at (L := r) (k := k) (p := p) (by simpa using h)
    rw [show (k + 1) * 2 = k * 2 + 1 + 1 by omega]
    exact this
/-- What a row of the call's own reads as. -/
theorem Il.own {w : World} {base : Nat} {v : Value} {L : Its} (h : w.ownsRow base 118 2 v L.length (itCs L)) (hL : ∀ p ∈ L, okS p.1 ∧ okI p.2) : Il w v L ∧ ∀ b, v.ownBlock = some b → base ≤ b ∧ b < w.heap.size := by
  refine ⟨?_, fun b hb => h.lt b hb⟩
  rcases h.2 with ⟨rfl, h0⟩ | ⟨g, cap, cur, rfl, hbase, hb, hn, hm, hs, ht⟩
  · have : L = [] := List.eq_nil_of_length_eq_zero h0
    subst this
    exact ⟨by simp, none, 0, rfl, fun i p hp => by simp at hp⟩
  · have hm' : cap ≤ 9223372036854775807 := hm
    refine ⟨by omega, some ⟨g, 0, none⟩, cap, rfl, fun i p hp => ?_⟩
    have hok := hL p (List.mem_of_getElem? hp)
    obtain ⟨c0, c1⟩ := itCs_at hp
    have hi := (List.getElem?_eq_some_iff.1 hp).1
    have k0 := h.cellAt (g := g) (j := i * 2) (by omega)
    have k1 := h.cellAt (g := g) (j := i * 2 + 1) (by omega)
    have e0 : (⟨g, 0, none⟩ : Addr).add (i * 2) = ⟨g, i * 2, none⟩ := by
      unfold Addr.add; split <;> simp_all
    refine ⟨hok.1, hok.2, _, rfl, ?_, ?_⟩
    · rw [e0, k0]; exact c0
    · rw [e0]; dsimp only; rw [k1]; exact c1
end Go.Proofs.YtefjdcghdcbojaaGreat

namespace Go.Proofs.YtefjdcghdcbojaaGreat
open Go.RowKit Go.Maps
set_option maxRecDepth 100000 in
theorem itClone (w : World) (v : Value) (bs : Its) (h : Il w v bs) (hl : (bs.length : Int) ≤ 1000) : Calls Tryz.prog 80 #[v] w fun e w' =>
    ∃ v', e = .returned v' ∧ w'.ownsRow w.heap.size 118 2 v' bs.length (itCs bs) ∧ Fr (fun _ => False) w w' := by
  obtain ⟨i0, hi', hz0, hz1, hz2⟩ := info_parts infoItem
  obtain ⟨hb1, a, c, rfl, hbx⟩ := id h
  obtain ⟨n, hn⟩ : ∃ n, bs.length = n := ⟨_, rfl⟩
  have HN := Lib.hid hn
  rw [hn] at hl hb1 ⊢
  clear hn
  have hq := fun (w : World) (a : Option Addr) (n c n' c' : Nat) => Lib.run_eql_slice_nil (P := Tryz.prog) w 57 _ a n c n' c' Tryz.underlying57
  cases a with
  | none =>
    have h0 : n = 0 := by
      rcases Nat.eq_zero_or_pos n with h0 | h0
      · exact h0
      · obtain ⟨x, hx⟩ : ∃ x, bs[0]? = some x := ⟨bs[0]'(by have := HN.out; omega), List.getElem?_eq_getElem _⟩
        obtain ⟨-, -, ad', e, -⟩ := hbx 0 x hx
        cases e
    subst h0
    have hbe : bs = [] := List.eq_nil_of_length_eq_zero HN.out
    subst hbe
    clear h hbx
    go_enter Tryz.func80, Tryz.ntmps80
    go_wp2_with fail
    go_ret
    exact ⟨_, rfl, World.ownsRow_nil _ _ _ _, Fr.refl _ _⟩
  | some ad =>
    have hown : (w.alloc (.cells #[] 118)).ownsRow w.heap.size 118 2 (.slice (some ⟨w.heap.size, 0, none⟩) 0 0) 0 [] := World.ownsRow_made w #[] 0 (Nat.le_refl _) (Nat.zero_le _) rfl
    have hnews : ∀ (i : Nat) (u : Value), (itCs bs)[i]? = some u → (w.alloc (.cells #[] 118)).cell? (ad.add i) = some u := fun i u hu => by
      have hi := (List.getElem?_eq_some_iff.1 hu).1
      rw [itCs_len] at hi
      obtain ⟨x, hx⟩ : ∃ x, bs[i / 2]? = some x := ⟨bs[i / 2]'(by omega), List.getElem?_eq_getElem _⟩
      obtain ⟨-, -, ad', e, c0, c1⟩ := hbx (i / 2) x hx
      cases e
      obtain ⟨d0, d1⟩ := itCs_at hx
      rcases (by omega : i = i / 2 * 2 ∨ i = i / 2 * 2 + 1) with e | e
      · rw [e] at hu ⊢
        rw [d0] at hu
        rw [← hu]
        exact ((Fr.refl (fun _ => False) w).alloc _).cell c0 (fun h => h)
      · rw [e] at hu ⊢
        rw [d1] at hu
        rw [← hu, add_field]
        exact ((Fr.refl (fun _ => False) w).alloc _).cell c1 (fun h => h)
    have hall : ∀ u ∈ itCs bs, u.oneCell' = true := fun u hu => itCs_one hu
    have hul : (itCs bs).length = n * 2 := by have := HN.out; rw [itCs_len, this]
    have HNEWS := Lib.hid hnews; have HALL := Lib.hid hall; have HUL := Lib.hid hul; have HO := Lib.hid hown
    clear hnews hall hul hown hbx h
    go_enter Tryz.func80, Tryz.ntmps80
    go_wp2_with (at_builtin; refine wpList_append_own_at _ rfl _ _ 57 rfl w.heap.size 118 i0 _ 2 24 Tryz.underlying57 hi' hz0 hz1 hz2 rfl (by decide) (.slice (some ⟨w.heap.size, 0, none⟩) 0 0) 0 [] rfl HO.out ad n _ (itCs bs) rfl HUL.out HNEWS.out HALL.out (by unfold maxLen; omega) (by omega) (by simp) ?_; intro v' w5 hown' hgrow _ hat)
    go_ret
    refine ⟨_, rfl, by simpa using hown', ((Fr.refl (fun _ => False) w).alloc _).trans' (Fr.grown (S := fun b => b = w.heap.size) hgrow (fun r hr _ => by cases hr; rfl)) (fun b hb e => by omega)⟩
end Go.Proofs.YtefjdcghdcbojaaGreat

namespace Go.Proofs.YtefjdcghdcbojaaGreat
open Go.RowKit Go.Maps
/-- The bin of a number. -/
def binF (L : List BV) (n : Int) : Option BV := L.find? (fun b => decide (b.nu = n))
def leftN (L : List BV) (n : Int) : Int := match binF L n with | some b => leftF b | none => 0
set_option maxRecDepth 100000 in
set_option maxHeartbeats 4000000 in
theorem bLeftN (w : World) (g : Nat) (L : List BV) (n : Int) (h : Fl w g L) (hL : 0 < L.length) : Calls Tryz.prog 29 #[.pointer (some ⟨g, 0, none⟩), .int .i64 n] w fun e w' => e = .returned (.int .i64 (leftN L n)) ∧ Fr (fun _ => False) w w' := by
  have hfd := Lib.hid (bFind w g L n h hL)
  obtain ⟨R, hR⟩ : ∃ R, leftN L n = R := ⟨_, rfl⟩
  rw [hR]
  rcases idxOf_cases (fun b : BV => decide (b.nu = n)) L with ⟨h1, h2, -⟩ | ⟨j, x, h1, -, h2, h3⟩
  · have hr : Hid (R = 0) := Lib.hid (by rw [← hR]; unfold leftN binF; rw [h2])
    have hf : findF L n = -1 := h1
    rw [hf] at hfd
    clear h hL hR h1 h2 hf
    go_enter Tryz.func29, Tryz.ntmps29
    go_wp2_with (go_at_call 77; refine hfd.out.mono ?_; rintro e w1 ⟨rfl, hf1⟩; have HF1 := Lib.hid hf1; clear hf1)
    go_ret
    exact ⟨by rw [hr.out]; rfl, HF1.out⟩
  · have hr : Hid (R = leftF x) := Lib.hid (by rw [← hR]; unfold leftN binF; rw [h3])
    have hf : findF L n = (j : Int) := h2
    rw [hf] at hfd
    have hj := (List.getElem?_eq_some_iff.1 h1).1
    have HH := Lib.hid h; have HX := Lib.hid h1
    obtain ⟨N, hN⟩ : ∃ N, L.length = N := ⟨_, rfl⟩
    have HN := Lib.hid hN
    rw [hN] at hj
    have hjI : (j : Int) < N := by omega
    have hjn : ((j : Int) == -1) = false := by simp
    have hNI : (N : Int) ≤ 9223372036854775807 := by obtain ⟨_, _, _, q⟩ := h; have := q.len; omega
    clear h hL hR h1 h2 h3 hf hN
    go_enter Tryz.func29, Tryz.ntmps29
    go_wp2_with (go_at_call 77; refine hfd.out.mono ?_; rintro e w1 ⟨rfl, hf1⟩; have HF1 := Lib.hid hf1; obtain ⟨a, c, q1, q2⟩ := HH.out.keep hf1; rw [HN.out] at q1 q2; obtain ⟨ad, rfl, hok, z0, zs⟩ := q2.at_ HX.out; have HOK := Lib.hid hok; obtain ⟨la, lc, hl⟩ := hok.l.sl; have x0 := z0 (.int .i64 x.nu) rfl; have x1 := zs 0 (.int .i64 x.zo) rfl; have x2 := zs 1 (.int .i64 x.ro) rfl; have x3 := zs 2 x.l rfl; dsimp only [Nat.zero_add, Nat.reduceAdd] at x0 x1 x2 x3; rw [hl] at x3; have c0 := cell_obj q1 0 (.slice (some ad) N c) rfl; have hcs : BV.cs x = #[.int .i64 x.nu, .int .i64 x.zo, .int .i64 x.ro, .slice la x.its.length lc] := (by unfold BV.cs; rw [hl]); have HCS := Lib.hid hcs; clear hf1 q1 q2 hok z0 zs hl hcs)
    have hbl := Lib.hid (bLeft _ x HOK.out)
    rw [HCS.out] at hbl
    refine hbl.out.mono ?_
    rintro e w2 ⟨rfl, hf2⟩
    have HF2 := Lib.hid hf2
    clear hf2
    go_wp2_with fail
    go_ret
    exact ⟨by rw [hr.out]; rfl, HF1.out.trans HF2.out⟩
end Go.Proofs.YtefjdcghdcbojaaGreat

namespace Go.Proofs.YtefjdcghdcbojaaGreat
open Go.RowKit Go.Maps
/-- How many of a good lie on a floor. -/
def sumF (L : List BV) (s : Str) : Int := L.foldl (fun a b => wrap64 (a + ofF b.its s)) 0
theorem sumF_take {L : List BV} {k : Nat} {p : BV} (s : Str) (h : L[k]? = some p) : sumF (L.take (k + 1)) s = wrap64 (sumF (L.take k) s + ofF p.its s) := by
  unfold sumF
  rw [List.take_add_one, h, List.foldl_append]
  rfl
set_option maxRecDepth 100000 in
set_option maxHeartbeats 4000000 in
theorem bOfAll (w : World) (g : Nat) (L : List BV) (s : Str) (h : Fl w g L) (hL : 0 < L.length) : Calls Tryz.prog 14 #[.pointer (some ⟨g, 0, none⟩), vS s] w fun e w' => e = .returned (.int .i64 (sumF L s)) ∧ Fr (fun _ => False) w w' := by
  have hm := Lib.hid (bMade w g L h hL)
  have HH := Lib.hid h
  obtain ⟨a, c, q1, q2⟩ := h
  have hNI := q2.len
  obtain ⟨N, hN⟩ : ∃ N, L.length = N := ⟨_, rfl⟩
  have HN := Lib.hid hN
  rw [hN] at q1 q2 hNI
  have c0 := cell_obj q1 0 (.slice a N c) rfl
  have HQ2 := Lib.hid q2
  clear q1 q2 hN hL
  go_enter Tryz.func14, Tryz.ntmps14
  go_wp2_with (go_at_call 34; refine hm.out.mono ?_; rintro e w1 ⟨rfl, rfl⟩)
  go_loopw [5, 15] (fun va vi wr => ∃ k : Nat, k ≤ N ∧ va = .int .i64 (sumF (L.take k) s) ∧ vi = .int .i64 k ∧ Fr (fun _ => False) w wr) (fun _ vi _ => N - (intOf vi).toNat)
  case atStart => exact ⟨0, Nat.zero_le _, rfl, rfl, Fr.refl _ _⟩
  case round =>
    obtain ⟨k, hk, rfl, rfl, hfr⟩ := hrel
    have HFR := Lib.hid hfr
    by_cases hlt : k < N
    · obtain ⟨x, hx⟩ : ∃ x, L[k]? = some x := ⟨L[k]'(by rw [HN.out]; exact hlt), List.getElem?_eq_getElem _⟩
      have HT := Lib.hid (sumF_take s hx)
      obtain ⟨ad, rfl, hok, z0, zs⟩ := (HQ2.out.fr0 bokKeeps hfr).at_ hx
      have hkI : (k : Int) < N := by omega
      have HOK := Lib.hid hok
      obtain ⟨la, lc, hl⟩ := hok.l.sl
      have x0 := z0 (.int .i64 x.nu) rfl
      have x1 := zs 0 (.int .i64 x.zo) rfl
      have x2 := zs 1 (.int .i64 x.ro) rfl
      have x3 := zs 2 x.l rfl
      dsimp only [Nat.zero_add, Nat.reduceAdd] at x0 x1 x2 x3
      rw [hl] at x3
      obtain ⟨T, hT⟩ : ∃ T, sumF (L.take k) s = T := ⟨_, rfl⟩
      obtain ⟨O, hO⟩ : ∃ O, ofF x.its s = O := ⟨_, rfl⟩
      rw [hT, hO] at HT
      rw [hT]
      have hOf : Hid (∀ W, Fr (fun _ => False) wr W → Calls Tryz.prog 47 #[.slice la x.its.length lc, vS s] W fun e w' => e = .returned (.int .i64 O) ∧ Fr (fun _ => False) W w') := Lib.hid (fun W hf => by
        have := iOf W x.l x.its s (HOK.out.l.fr hf (fun _ e => e.elim))
        rw [hl, hO] at this; exact this)
      clear hx hok z0 zs hl hT hO hfr
      go_wp2_with (go_at_call 47; refine (hOf.out _ ((Fr.refl _ wr).alloc _)).mono ?_; rintro e w2 ⟨rfl, hf2⟩; have HF2 := Lib.hid (((Fr.refl (fun _ => False) wr).alloc _).trans hf2); clear hf2)
      go_roundw
      case rel => exact ⟨k + 1, by omega, by first | (rw [HT.out]; done) | (rw [HT.out]; rfl), by go_num, HFR.out.trans HF2.out⟩
      case measure => simp [intOf]; omega
    · obtain rfl : k = N := by omega
      have hkI : ¬ (k : Int) < k := by omega
      have hres : Hid (sumF (L.take k) s = sumF L s) := Lib.hid (by rw [List.take_of_length_le (by rw [HN.out]; exact Nat.le_refl _)])
      clear hfr
      go_wp2_with fail
      go_ret
      exact ⟨by rw [hres.out]; rfl, HFR.out⟩
end Go.Proofs.YtefjdcghdcbojaaGreat

