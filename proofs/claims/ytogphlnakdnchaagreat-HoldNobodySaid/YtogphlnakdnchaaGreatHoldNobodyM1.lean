/- Texts of this claim, joined: Small helpers of my own for all walks of this seat; Maps of the call's own, as lists of keys and values, rising by key: my own view over the library's 'ownsMap'; Strings as keys of maps, and their order: plainly; stock: a good's numbers, what is done to them, and stocks as lists: plainly; The frame of a step: which old blocks it may have turned. My own relation for all contracts; A step of a thing that owns blocks: what it owns behind it is what it owned, or new; count.May; Ranges over functions: an iterator's contract over a list that is known, and the loop's law; items: lists of goods: All, Good; A law: it returns true, and leaves all that was there. What is common to all laws of this seat; Arguments opened to cells: structs of ints by value, slices of structs of ints; Arguments of whatever structs, opened to their leaves: structs and arrays laid flat; what a leaf is; Arguments: strings, slices of items, opened; Arguments of whatever structs, opened to their leaves, with a bound on the weights of what they hold; Slices of structs, whatever they hold: each element's cells, and what else holds of it; hold's laws: Op and slices of it opened; Slices of bytes; cells: numbers as bytes: Num; cells.Num: walked; slices.Grow, slices.Concat, slices.Clone at bytes; slices.Concat, slices.Clone at bytes; cells.Maker: put, Num, Flag, New, Done. -/
import Derived.Test.YtogphlnakdnchaaGreatRows
import Derived.WalkKit
import Derived.WalkLawsBesides
import Derived.WalkSpells
import Derived.Lib.Hide
import Derived.Deep.AppendLies
import Derived.Maps.OwnIn
import Derived.Maps.OwnSet
import Derived.Maps.Ext
import Derived.Sort.MapsRangeIn
import Derived.Sort.KeysCollected
import Derived.RangeFuncNested
import Derived.Sort.Walk0
import Derived.RangeFuncCalls
import Derived.RangeFuncLeaves
import Derived.OwnWalkIn
import Derived.TacticsInMore
import Derived.LoopNIn
import Derived.LoopIn
import Derived.RegionIn
import Derived.Laws.RangeAny
import Derived.Laws.Cover1
import Derived.ProofKit
import Derived.OpenShut
import Derived.SizedLaws
import Derived.Below
import Derived.Lib.SmallJoins
import Derived.Deep.Slices
import Derived.Deep.Fields
import Derived.ChangeSame
import Derived.Test.YtogphlnakdnchaaGreatLen64
import Derived.Maps.AppendAt
import Derived.RangeFuncBox
import Derived.OwnWalk
import Derived.Laws.BitsAllLaws
import Derived.Deep.LoopGhost
import Derived.Deep.RegionWith
import Derived.Deep.QuietTactic
import Derived.BigQuiet
namespace Go.Proofs.YtogphlnakdnchaaGreat
open Go.RowKit
theorem ret_bool {a b : Bool} (h : a = b) : Ending.returned (.bool a) = .returned (.bool b) := by rw [h]
theorem val_int {k : IntKind} {a b : Int} (h : a = b) : Value.int k a = .int k b := by rw [h]
theorem run_equalIn_func_nil {P : Program} (w : World) (d : Nat) (t : TypeId) (ps rs : Array TypeId) (b : Bool) (f : Fn) (x y : Array Value) (h : P.underlying t = some (.func ps rs b)) :
    (Op.equalIn (d + 1) t (.func f x y) .nilFunc).run P w = .ok false w := by
  simp [Op.equalIn, run_underlying h]
/-- 'f == nil', f a function that is there. -/
theorem run_eql_func_nil {P : Program} (w : World) (t : TypeId) (ps rs : Array TypeId) (b : Bool) (f : Fn) (x y : Array Value) (h : P.underlying t = some (.func ps rs b)) :
    (binOp .eql t (.func f x y) .nilFunc).run P w = .ok (.bool false) w := by
  simp only [binOp]
  simp [Op.equal, Op.maxDepth, run_equalIn_func_nil w 9999 t ps rs b f x y h]
theorem cell_obj {w : World} {b : Nat} {cs : Array Value} {t : TypeId} (h : w.heap[b]? = some (.cells cs t)) (j : Nat) (v : Value) (hj : cs[j]? = some v) : w.cell? ⟨b, j, none⟩ = some v := by simp [World.cell?, h, hj]
theorem obj_set {w : World} {g : Nat} {cs : Array Value} {t : TypeId} (h : w.heap[g]? = some (.cells cs t)) (j : Nat) (v : Value) : (w.setCell ⟨g, j, none⟩ v).heap[g]? = some (.cells (cs.setIfInBounds j v) t) := by
  obtain ⟨hlt, hk⟩ := Array.getElem?_eq_some_iff.1 h
  show (w.heap.modify g _)[g]? = _
  rw [Array.getElem?_eq_getElem (by rw [Array.size_modify]; exact hlt), Array.getElem_modify_self, hk]
  rfl
theorem obj_frozen {w : World} {g : Nat} {cs : Array Value} {t : TypeId} (h : w.heap[g]? = some (.cells cs t)) (j : Nat) : w.frozen? ⟨g, j, none⟩ = false := by simp [World.frozen?, h]
theorem heap_new (w : World) (o : Obj) : (w.alloc o).heap[w.heap.size]? = some o := by show (w.heap.push o)[w.heap.size]? = _; simp
theorem heap_at {w : World} {b : Nat} (h : b = w.heap.size) (o : Obj) : (w.alloc o).heap[b]? = some o := h ▸ heap_new w o
theorem heap_keep {w : World} {b : Nat} {x : Obj} (h : w.heap[b]? = some x) (o : Obj) : (w.alloc o).heap[b]? = some x := by
  have hb := (Array.getElem?_eq_some_iff.1 h).1
  show (w.heap.push o)[b]? = _
  rw [Array.getElem?_push, if_neg (by omega)]; exact h
end Go.Proofs.YtogphlnakdnchaaGreat

namespace Go.Proofs.YtogphlnakdnchaaGreat
open Go.RowKit Go.Maps

/-- Keys of a kind: how they are encoded, how they are told, which they are. -/
structure KT (κ : Type) where
  enc : κ → Value
  lit : κ → Lit
  ok : κ → Prop
structure KO (P : Program) (k : TypeId) {κ : Type} [DecidableEq κ] (T : KT κ) : Prop where
  keyed : Keyed P k
  key : ∀ {x : κ}, T.ok x → keyOf P k (T.enc x) = some (T.lit x)
  back : ∀ {v : Value} {kl : Lit}, keyOf P k v = some kl → ∃ x : κ, T.ok x ∧ v = T.enc x ∧ kl = T.lit x
  same : ∀ x y : κ, (T.lit x).sameKey (T.lit y) = decide (x = y)

def okI (x : Int) : Prop := -9223372036854775808 ≤ x ∧ x ≤ 9223372036854775807
theorem wf_okI {x : Int} : (Lit.int .i64 x).wf = true ↔ okI x := by
  simp [Lit.wf, okI, IntKind.min, IntKind.max, IntKind.signed, IntKind.bits]
def ktI : KT Int where
  enc := .int .i64
  lit := .int .i64
  ok := okI
theorem koI {P : Program} {k : TypeId} (hk : P.underlying k = some (.int .i64)) : KO P k ktI where
  keyed := int_keyed hk
  key h := keyOf_int_mk hk (wf_okI.2 h)
  back {v kl} h := by
    cases v <;> simp [keyOf, hk, mapKey] at h
    obtain ⟨⟨rfl, h1⟩, rfl⟩ := h
    exact ⟨_, wf_okI.1 h1, rfl, rfl⟩
  same x y := by simp [ktI, Lit.sameKey]

def heldR (v : Value) : Option (DataW Value × List MemPlace) := some (.held v, [])
variable {κ ν : Type} [DecidableEq κ]
def insS (lt : κ → κ → Bool) (x : κ × ν) : List (κ × ν) → List (κ × ν)
  | [] => [x]
  | y :: r => if lt x.1 y.1 then x :: y :: r else y :: insS lt x r
def delS (l : List (κ × ν)) (x : κ) : List (κ × ν) := l.filter fun p => !decide (p.1 = x)
def putS (lt : κ → κ → Bool) (l : List (κ × ν)) (x : κ) (v : ν) : List (κ × ν) := insS lt (x, v) (delS l x)
def getS : List (κ × ν) → κ → Option ν
  | [], _ => none
  | p :: r, x => if p.1 = x then some p.2 else getS r x

variable {P : Program} {k : TypeId}
def KT.lt (T : KT κ) (x y : κ) : Bool := (T.lit x).before (T.lit y)
def KT.dat (T : KT κ) (enc : ν → Value) (l : List (κ × ν)) : DataW Value := .map (l.map fun p => (T.lit p.1, .held (enc p.2)))
/-- Block b is a map of keys of kind T, whose entries are l, rising by key. -/
def Mp (P : Program) (w : World) (k : TypeId) (T : KT κ) (enc : ν → Value) (b : Nat) (l : List (κ × ν)) : Prop := ∃ n, w.ownsMap P k heldR b n (T.dat enc l)
variable {T : KT κ}

omit [DecidableEq κ] in
theorem dat_ins (T : KT κ) (enc : ν → Value) (x : κ × ν) (l : List (κ × ν)) :
    DataW.insert (T.lit x.1, .held (enc x.2)) (l.map fun p => (T.lit p.1, .held (enc p.2))) = (insS T.lt x l).map fun p => (T.lit p.1, .held (enc p.2)) := by
  induction l with
  | nil => rfl
  | cons y r ih =>
    show (if (T.lit x.1).before (T.lit y.1) = true then _ else _) = List.map _ (if (T.lit x.1).before (T.lit y.1) = true then _ else _)
    cases (T.lit x.1).before (T.lit y.1)
    · simp only [Bool.false_eq_true, if_false, List.map_cons, ih]
    · simp
theorem dat_del (K : KO P k T) (enc : ν → Value) (x : κ) (l : List (κ × ν)) :
    (l.map fun p => (T.lit p.1, (.held (enc p.2) : DataW Value))).filter (fun p => !p.1.sameKey (T.lit x)) = (delS l x).map fun p => (T.lit p.1, .held (enc p.2)) := by
  unfold delS
  rw [List.filter_map]
  congr 1
  apply List.filter_congr
  intro p _
  simp [K.same]
theorem dat_put (K : KO P k T) (enc : ν → Value) (l : List (κ × ν)) (x : κ) (v : ν) : (T.dat enc l).put (T.lit x) (.held (enc v)) = T.dat enc (putS T.lt l x v) := by
  show DataW.map (DataW.insert _ _) = _
  rw [dat_del K, dat_ins T enc (x, v)]
  rfl
theorem dat_strike (K : KO P k T) (enc : ν → Value) (l : List (κ × ν)) (x : κ) : (T.dat enc l).del (T.lit x) = T.dat enc (delS l x) := by
  show DataW.map _ = _
  rw [dat_del K]
  rfl
theorem dat_at (K : KO P k T) (enc : ν → Value) (x : κ) (z : DataW Value) : ∀ l : List (κ × ν), (T.dat enc l).atKey (T.lit x) z = (match getS l x with | some v => .held (enc v) | none => z)
  | [] => rfl
  | p :: r => by
    have ih := dat_at K enc x z r
    simp only [KT.dat, DataW.atKey] at ih ⊢
    simp only [List.map_cons, List.find?_cons, K.same, getS]
    by_cases h : p.1 = x
    · simp [h]
    · simp only [h, decide_false, if_false]
      exact ih
theorem dat_has (K : KO P k T) (enc : ν → Value) (x : κ) : ∀ l : List (κ × ν), has (T.dat enc l) (T.lit x) = (getS l x).isSome
  | [] => rfl
  | p :: r => by
    have ih := dat_has K enc x r
    simp only [KT.dat, has] at ih ⊢
    simp only [List.map_cons, List.any_cons, K.same, getS]
    by_cases h : p.1 = x
    · simp [h]
    · simp only [h, decide_false, if_false, Bool.false_or]
      exact ih
omit [DecidableEq κ] in
theorem dat_size (T : KT κ) (enc : ν → Value) (l : List (κ × ν)) : Maps.size (T.dat enc l) = l.length := by simp [KT.dat, Maps.size]

variable {w w' : World} {enc : ν → Value} {b : Nat} {l : List (κ × ν)} {t e : TypeId}
omit [DecidableEq κ] in
theorem Mp.made (P : Program) (w : World) (k : TypeId) (T : KT κ) (enc : ν → Value) : Mp P (w.alloc (.map #[] 0)) k T enc w.heap.size ([] : List (κ × ν)) := ⟨0, World.ownsMap_made w P k heldR⟩
omit [DecidableEq κ] in
theorem Mp.lt (h : Mp P w k T enc b l) : b < w.heap.size := h.elim fun _ h => h.lt
omit [DecidableEq κ] in
theorem Mp.kept {row : Option Nat} (h : Mp P w k T enc b l) (hg : w.grownBy w' row) (hne : some b ≠ row) : Mp P w' k T enc b l := h.elim fun n h => ⟨n, h.kept hg hne⟩
omit [DecidableEq κ] in
theorem Mp.at_ (h : Mp P w k T enc b l) (hg : w'.heap[b]? = w.heap[b]?) : Mp P w' k T enc b l := by
  obtain ⟨n, es, clock, hb, r⟩ := h
  exact ⟨n, es, clock, hg.trans hb, r⟩
omit [DecidableEq κ] in
theorem Mp.below {B : Nat} (h : Mp P w k T enc b l) (hg : Below B w w') (hb : b < B) : Mp P w' k T enc b l := h.at_ (hg.block b hb)
omit [DecidableEq κ] in
theorem Mp.alloc (h : Mp P w k T enc b l) (o : Obj) : Mp P (w.alloc o) k T enc b l := h.elim fun n h => ⟨n, h.alloc o⟩
omit [DecidableEq κ] in
theorem Mp.drew (h : Mp P w k T enc b l) : Mp P w.drew k T enc b l := h
omit [DecidableEq κ] in
theorem Mp.drewN (h : Mp P w k T enc b l) (n : Nat) : Mp P (w.drewN n) k T enc b l := h
omit [DecidableEq κ] in
theorem Mp.setCell (h : Mp P w k T enc b l) {a : Addr} (ha : b ≠ a.block) (u : Value) : Mp P (w.setCell a u) k T enc b l := h.elim fun n h => ⟨n, h.setCell ha u⟩
/-- The keys are of their kind, and rise. -/
theorem Mp.ok (h : Mp P w k T enc b l) (K : KO P k T) : (∀ p ∈ l, T.ok p.1) ∧ l.Pairwise (fun p q => T.lt p.1 q.1 = true) := by
  obtain ⟨n, h⟩ := h
  constructor
  · obtain ⟨es, hD, hk⟩ := h.keysOf
    have e1 : l.map (fun p => (T.lit p.1, (.held (enc p.2) : DataW Value))) = es := by injection hD
    intro p hp
    have : (T.lit p.1, (.held (enc p.2) : DataW Value)) ∈ es := by rw [← e1]; exact List.mem_map.2 ⟨p, hp, rfl⟩
    obtain ⟨v, hv⟩ := hk _ this
    obtain ⟨x, hx, _, e2⟩ := K.back hv
    have := K.same p.1 x
    rw [← e2] at this
    have h3 : (T.lit p.1).sameKey (T.lit p.1) = true := by rw [K.same]; simp
    rw [h3] at this
    have : p.1 = x := by simpa using this.symm
    rw [this]; exact hx
  · obtain ⟨es, hD, hs, _⟩ := h.canon K.keyed
    have e1 : l.map (fun p => (T.lit p.1, (.held (enc p.2) : DataW Value))) = es := by injection hD
    rw [← e1, List.pairwise_map] at hs
    exact hs
theorem Mp.look (h : Mp P w k T enc b l) (K : KO P k T) (ht : P.underlying t = some (.map k e)) {z : Value} (hz : (zeroValue e).run P w = .ok z w) {x : κ} (hx : T.ok x) :
    (Instr.lookup t (.map (some b)) (T.enc x) false).run P w = .ok (match getS l x with | some v => enc v | none => z) w := by
  obtain ⟨n, h⟩ := h
  obtain ⟨v, ps, hrun, hv⟩ := h.lookup K.keyed ht hz (zd := .held z) (zp := []) rfl (K.key hx)
  rw [hrun]
  rw [dat_at K] at hv
  unfold heldR at hv
  cases hg : getS l x with
  | none => rw [hg] at hv; simp at hv; rw [hv.1]
  | some u => rw [hg] at hv; simp at hv; rw [hv.1]
theorem Mp.look_ok (h : Mp P w k T enc b l) (K : KO P k T) (ht : P.underlying t = some (.map k e)) {z : Value} (hz : (zeroValue e).run P w = .ok z w) {x : κ} (hx : T.ok x) :
    (Instr.lookup t (.map (some b)) (T.enc x) true).run P w = .ok (.tuple #[match getS l x with | some v => enc v | none => z, .bool (getS l x).isSome]) w := by
  obtain ⟨n, h⟩ := h
  obtain ⟨v, ps, hrun, hv⟩ := h.look_ok K.keyed ht hz (zd := .held z) (zp := []) rfl (K.key hx)
  rw [hrun, dat_has K]
  rw [dat_at K] at hv
  unfold heldR at hv
  cases hg : getS l x with
  | none => rw [hg] at hv; simp at hv; rw [hv.1]
  | some u => rw [hg] at hv; simp at hv; rw [hv.1]
omit [DecidableEq κ] in
theorem Mp.len (h : Mp P w k T enc b l) (ht : P.underlying t = some (.map k e)) (ty : TypeId) : (Builtin.len_ #[t] ty #[.map (some b)]).run P w = .ok (.int .i64 l.length) w := by
  obtain ⟨n, h⟩ := h
  rw [h.len ht ty, dat_size]
omit [DecidableEq κ] in
theorem Mp.owns (h : Mp P w k T enc b l) : w.ownsMap P k heldR b l.length (T.dat enc l) := by
  obtain ⟨n, es, clock, hb, F, hs, hD⟩ := h
  refine ⟨es, clock, hb, F, ?_, hD⟩
  have := congrArg Maps.size hD
  rw [dat_size] at this
  simp [Maps.size, length_sorted] at this
  omega
theorem Mp.store (h : Mp P w k T enc b l) (K : KO P k T) (ht : P.underlying t = some (.map k e)) (hl : l.length < 9223372036854775807) {x : κ} (hx : T.ok x) (v : ν) :
    ∃ w', (Instr.mapUpdate t (.map (some b)) (T.enc x) (enc v)).run P w = .ok () w' ∧ Mp P w' k T enc b (putS T.lt l x v) ∧ w.mapTurned w' b := by
  obtain ⟨w', h1, h2, h3⟩ := h.owns.store K.keyed ht (by unfold maxLen; omega) (K.key hx) (d := .held (enc v)) (ps := []) rfl
  exact ⟨w', h1, ⟨_, by rw [← dat_put K]; exact h2⟩, h3⟩
theorem Mp.drop (h : Mp P w k T enc b l) (K : KO P k T) (ht : P.underlying t = some (.map k e)) {x : κ} (hx : T.ok x) (ty : TypeId) :
    ∃ w', (Builtin.delete_ #[t, k] ty #[.map (some b), T.enc x]).run P w = .ok (.tuple #[]) w' ∧ Mp P w' k T enc b (delS l x) ∧ w.mapTurned w' b := by
  obtain ⟨n, h⟩ := h
  obtain ⟨w', h1, h2, h3⟩ := h.drop K.keyed ht (K.key hx) ty
  exact ⟨w', h1, ⟨_, by rw [← dat_strike K]; exact h2⟩, h3⟩
theorem map_ne_cells {w : World} {κ ν : Type} {P : Program} {k : TypeId} {T : KT κ} {enc : ν → Value} {b g : Nat} {l : List (κ × ν)} {cs : Array Value} {t : TypeId} (h : Mp P w k T enc b l) (hg : w.heap[g]? = some (.cells cs t)) : g ≠ b := by
  rintro rfl
  obtain ⟨_, es, clock, hb, _⟩ := h
  rw [hg] at hb; cases hb
end Go.Proofs.YtogphlnakdnchaaGreat

namespace Go.Proofs.YtogphlnakdnchaaGreat
open Go.RowKit Go.Maps
abbrev Str := List UInt8
abbrev vS (s : Str) : Value := .string ⟨s.toArray⟩
theorem bytesBefore_eq : ∀ (x y : Str), bytesBefore x y = decide (x < y)
  | [], [] => by simp [bytesBefore]
  | _ :: _, [] => by simp [bytesBefore]
  | [], _ :: _ => by simp [bytesBefore]
  | a :: x, b :: y => by
    rw [bytesBefore, bytesBefore_eq x y, ← bytesLess_eq, ← bytesLess_eq, Op.bytesLess]
def okS (s : Str) : Prop := s.length ≤ maxLen
def ktS : KT Str where
  enc := vS
  lit := .string
  ok := okS
theorem ktS_lt (a b : Str) : ktS.lt a b = decide (a < b) := bytesBefore_eq a b
theorem koS {P : Program} {k : TypeId} (hk : P.underlying k = some .string) : KO P k ktS where
  keyed := string_keyed hk
  key {x} h := by
    have h : x.length ≤ maxLen := h
    have hs : (ByteArray.mk x.toArray).size ≤ maxLen := by simpa [ByteArray.size] using h
    simp [keyOf, hk, mapKey, ktS, hs]
  back {v kl} h := by
    obtain ⟨x, h1, h2, h3⟩ := keyOf_str hk h
    exact ⟨x, h3, h1, h2⟩
  same x y := by rw [Bool.eq_iff_iff]; simp [ktS, Lit.sameKey]
theorem str_irr (a : Str) : ¬ a < a := List.lt_irrefl a
theorem str_trans {a b c : Str} (h : a < b) (h' : b < c) : a < c := List.lt_trans h h'
theorem str_tri (a b : Str) : a < b ∨ a = b ∨ b < a := by
  by_cases h : a < b
  · exact .inl h
  · by_cases h' : b < a
    · exact .inr (.inr h')
    · exact .inr (.inl (List.le_antisymm h' h))
theorem str_asym {a b : Str} (h : a < b) : ¬ b < a := fun h' => str_irr _ (str_trans h h')
theorem strKeys_dat {ν : Type} (enc : ν → Value) (l : List (Str × ν)) : strKeys (ktS.dat enc l) = l.map (·.1) := by
  simp [KT.dat, strKeys, ktS, strOf]
abbrev RiseS {ν : Type} (l : List (Str × ν)) : Prop := l.Pairwise (fun p q => p.1 < q.1)
theorem riseS_of {ν : Type} {l : List (Str × ν)} (h : l.Pairwise (fun p q => ktS.lt p.1 q.1 = true)) : RiseS l := h.imp (fun {p q} e => by rw [ktS_lt] at e; simpa using e)
theorem strs_sorted {ν : Type} {l : List (Str × ν)} (h : RiseS l) {ss : List Str} (hp : ss.Perm (l.map (·.1))) : ss.mergeSort (fun x y => decide (x ≤ y)) = l.map (·.1) := by
  have hlt : (l.map (·.1)).Pairwise (fun x y : Str => x < y) := by
    rw [List.pairwise_map]
    exact h
  have h1 : (ss.mergeSort (fun x y => decide (x ≤ y))).Pairwise (fun x y => decide (x ≤ y) = true) := List.pairwise_mergeSort (fun a b c h1 h2 => by simp only [decide_eq_true_eq] at *; exact List.le_trans h1 h2) (fun a b => by simp only [Bool.or_eq_true, decide_eq_true_eq]; exact List.le_total a b) ss
  have h2 : (ss.mergeSort (fun x y => decide (x ≤ y))).Perm (l.map (·.1)) := (List.mergeSort_perm ss _).trans hp
  refine h2.eq_of_pairwise (le := fun x y : Str => decide (x ≤ y) = true) (fun a b _ _ h1 h2 => by simp only [decide_eq_true_eq] at *; exact List.le_antisymm h1 h2) h1 (hlt.imp (fun {a b} e => by simp only [decide_eq_true_eq]; exact str_asym e))
section
variable {κ ν : Type} [DecidableEq κ]
omit [DecidableEq κ] in
theorem insK_perm (lt : κ → κ → Bool) (x : κ × ν) : ∀ l : List (κ × ν), (insS lt x l).Perm (x :: l)
  | [] => List.Perm.refl _
  | y :: r => by
    show (if lt x.1 y.1 = true then x :: y :: r else y :: insS lt x r).Perm _
    split
    · exact List.Perm.refl _
    · exact ((insK_perm lt x r).cons y).trans (List.Perm.swap x y r)
theorem mem_putK {lt : κ → κ → Bool} {l : List (κ × ν)} {x : κ} {v : ν} {p : κ × ν} : p ∈ putS lt l x v ↔ p = (x, v) ∨ (p ∈ l ∧ p.1 ≠ x) := by
  unfold putS
  rw [(insK_perm lt (x, v) _).mem_iff, List.mem_cons]
  simp [delS]
theorem putK_len (lt : κ → κ → Bool) (l : List (κ × ν)) (x : κ) (v : ν) : (putS lt l x v).length ≤ l.length + 1 := by
  unfold putS
  rw [(insK_perm lt (x, v) _).length_eq, List.length_cons]
  have := List.length_filter_le (fun p : κ × ν => !decide (p.1 = x)) l
  unfold delS
  omega
theorem getK_none {l : List (κ × ν)} {x : κ} : getS l x = none ↔ ∀ p ∈ l, p.1 ≠ x := by
  induction l with
  | nil => simp [getS]
  | cons p r ih =>
    simp only [getS]
    by_cases h : p.1 = x
    · rw [if_pos h]; simp [h]
    · rw [if_neg h, ih]; simp [h]
theorem getK_mem {l : List (κ × ν)} {x : κ} {v : ν} (h : getS l x = some v) : (x, v) ∈ l := by
  induction l with
  | nil => cases h
  | cons p r ih =>
    simp only [getS] at h
    by_cases e : p.1 = x
    · rw [if_pos e] at h
      cases h
      subst e
      simp
    · rw [if_neg e] at h
      exact List.mem_cons_of_mem _ (ih h)
theorem getK_of {l : List (κ × ν)} {x : κ} {v : ν} (hnd : (l.map (·.1)).Nodup) (h : (x, v) ∈ l) : getS l x = some v := by
  induction l with
  | nil => cases h
  | cons p r ih =>
    rw [List.map_cons, List.nodup_cons] at hnd
    simp only [getS]
    rcases List.mem_cons.1 h with rfl | h
    · rw [if_pos rfl]
    · have hne : ¬ p.1 = x := by
        intro e
        exact hnd.1 (by rw [e]; exact List.mem_map.2 ⟨_, h, rfl⟩)
      rw [if_neg hne]
      exact ih hnd.2 h
omit [DecidableEq κ] in
theorem nd_perm {l l' : List (κ × ν)} (h : l.Perm l') (hn : (l'.map (·.1)).Nodup) : (l.map (·.1)).Nodup := (h.map _).nodup_iff.2 hn
theorem putK_nd {lt : κ → κ → Bool} {l : List (κ × ν)} {x : κ} {v : ν} (hn : (l.map (·.1)).Nodup) : ((putS lt l x v).map (·.1)).Nodup := by
  unfold putS
  refine nd_perm (insK_perm lt (x, v) _) ?_
  rw [List.map_cons, List.nodup_cons]
  refine ⟨fun h => ?_, ?_⟩
  · obtain ⟨p, hp, e⟩ := List.mem_map.1 h
    have := (List.mem_filter.1 hp).2
    simp [e] at this
  · exact List.Nodup.sublist (List.Sublist.map _ List.filter_sublist) hn
theorem getK_put {lt : κ → κ → Bool} {l : List (κ × ν)} {x y : κ} {v : ν} (hn : (l.map (·.1)).Nodup) : getS (putS lt l x v) y = if x = y then some v else getS l y := by
  by_cases e : x = y
  · subst e
    rw [if_pos rfl]
    exact getK_of (putK_nd hn) (mem_putK.2 (.inl rfl))
  · rw [if_neg e]
    cases h : getS l y with
    | none =>
      refine getK_none.2 (fun p hp => ?_)
      rcases mem_putK.1 hp with rfl | ⟨hp, -⟩
      · exact e
      · exact getK_none.1 h p hp
    | some u => exact getK_of (putK_nd hn) (mem_putK.2 (.inr ⟨getK_mem h, fun h => e h.symm⟩))
end
theorem riseS_nd {ν : Type} {l : List (Str × ν)} (h : RiseS l) : (l.map (·.1)).Nodup := by
  rw [List.Nodup, List.pairwise_map]
  refine List.Pairwise.imp ?_ h
  intro p q e h
  have e : p.1 < q.1 := e
  rw [h] at e
  exact str_irr _ e
theorem riseS_ins {ν : Type} {x : Str × ν} : ∀ {l : List (Str × ν)}, RiseS l → (∀ p ∈ l, p.1 ≠ x.1) → RiseS (insS ktS.lt x l)
  | [], _, _ => by simp [insS]
  | y :: r, h, hx => by
    obtain ⟨h1, h2⟩ := List.pairwise_cons.1 h
    show RiseS (if ktS.lt x.1 y.1 = true then x :: y :: r else y :: insS ktS.lt x r)
    rw [ktS_lt]
    by_cases hlt : x.1 < y.1
    · rw [if_pos (by simpa using hlt)]
      refine List.pairwise_cons.2 ⟨fun p hp => ?_, h⟩
      rcases List.mem_cons.1 hp with rfl | hp
      · exact hlt
      · exact str_trans hlt (h1 p hp)
    · rw [if_neg (by simpa using hlt)]
      refine List.pairwise_cons.2 ⟨fun p hp => ?_, riseS_ins h2 (fun p hp => hx p (List.mem_cons_of_mem _ hp))⟩
      rcases List.mem_cons.1 ((insK_perm ktS.lt x r).mem_iff.1 hp) with rfl | hp
      · rcases str_tri y.1 p.1 with h | h | h
        · exact h
        · exact absurd h (hx y (by simp))
        · exact absurd h hlt
      · exact h1 p hp
theorem riseS_put {ν : Type} {l : List (Str × ν)} {x : Str} {v : ν} (h : RiseS l) : RiseS (putS ktS.lt l x v) :=
  riseS_ins (h.sublist List.filter_sublist) (fun p hp => by simpa [delS] using (List.mem_filter.1 hp).2)
end Go.Proofs.YtogphlnakdnchaaGreat

namespace Go.Proofs.YtogphlnakdnchaaGreat
open Go.RowKit Go.Maps
/-- A good's level and flow. -/
structure SR where
  free : Int
  held : Int
  picked : Int
  aside : Int
  received : Int
  returned : Int
  counted : Int
  came : Int
  shipped : Int
  scrapped : Int
  sent : Int
deriving DecidableEq
def SR.zero : SR := ⟨0, 0, 0, 0, 0, 0, 0, 0, 0, 0, 0⟩
def SR.cs (r : SR) : Array Value := #[.int .i64 r.free, .int .i64 r.held, .int .i64 r.picked, .int .i64 r.aside, .int .i64 r.received, .int .i64 r.returned, .int .i64 r.counted, .int .i64 r.came, .int .i64 r.shipped, .int .i64 r.scrapped, .int .i64 r.sent]
def SR.enc (r : SR) : Value := .agg r.cs
/-- Is it a count? -/
def mayI (n : Int) : Bool := decide (0 ≤ n) && decide (n ≤ 1099511627776)
def flowI (n : Int) : Bool := decide (0 ≤ n) && decide (n ≤ 72057594037927936)
def SR.each (r : SR) : Bool := mayI r.free && mayI r.held && mayI r.picked && mayI r.aside && (flowI r.received && flowI r.returned && flowI r.came && flowI r.shipped && flowI r.scrapped && flowI r.sent)
def SR.sum (r : SR) : Int := r.free + r.held + r.picked + r.aside
def SR.right (r : SR) : Bool := r.each && mayI r.sum
def SR.flow (r : SR) : Int := r.received + r.returned + r.counted + r.came - r.shipped - r.scrapped - r.sent
def SR.bal (r : SR) : Bool := r.each && (decide (-576460752303423488 ≤ r.counted) && decide (r.counted ≤ 576460752303423488) && decide (r.sum = r.flow))
theorem mayI_iff {n : Int} : mayI n = true ↔ 0 ≤ n ∧ n ≤ 1099511627776 := by simp [mayI]
theorem flowI_iff {n : Int} : flowI n = true ↔ 0 ≤ n ∧ n ≤ 72057594037927936 := by simp [flowI]
/-- The numbers' bounds, written out. -/
structure SRb (r : SR) : Prop where
  a0 : 0 ≤ r.free ∧ r.free ≤ 1099511627776
  a1 : 0 ≤ r.held ∧ r.held ≤ 1099511627776
  a2 : 0 ≤ r.picked ∧ r.picked ≤ 1099511627776
  a3 : 0 ≤ r.aside ∧ r.aside ≤ 1099511627776
  b0 : 0 ≤ r.received ∧ r.received ≤ 72057594037927936
  b1 : 0 ≤ r.returned ∧ r.returned ≤ 72057594037927936
  b2 : 0 ≤ r.came ∧ r.came ≤ 72057594037927936
  b3 : 0 ≤ r.shipped ∧ r.shipped ≤ 72057594037927936
  b4 : 0 ≤ r.scrapped ∧ r.scrapped ≤ 72057594037927936
  b5 : 0 ≤ r.sent ∧ r.sent ≤ 72057594037927936
theorem SR.each_iff {r : SR} : r.each = true ↔ SRb r := by
  simp only [SR.each, Bool.and_eq_true, mayI_iff, flowI_iff]
  exact ⟨fun ⟨⟨⟨⟨a, b⟩, c⟩, d⟩, ⟨⟨⟨⟨e, f⟩, g⟩, h⟩, i⟩, j⟩ => ⟨a, b, c, d, e, f, g, h, i, j⟩, fun ⟨a, b, c, d, e, f, g, h, i, j⟩ => ⟨⟨⟨⟨a, b⟩, c⟩, d⟩, ⟨⟨⟨⟨e, f⟩, g⟩, h⟩, i⟩, j⟩⟩
/-- A good that may be in a stock. -/
structure SRok (r : SR) : Prop where
  b : SRb r
  sum : 0 ≤ r.sum ∧ r.sum ≤ 1099511627776
  bal : r.sum = r.flow
theorem SRok.counted {r : SR} (h : SRok r) : -576460752303423488 ≤ r.counted ∧ r.counted ≤ 576460752303423488 := by
  have h0 := h.bal
  unfold SR.sum SR.flow at h0
  obtain ⟨⟨a0, a1, a2, a3, b0, b1, b2, b3, b4, b5⟩, -, -⟩ := h
  omega
theorem SRok.right {r : SR} (h : SRok r) : r.right = true := by
  unfold SR.right
  rw [Bool.and_eq_true, SR.each_iff, mayI_iff]
  exact ⟨h.b, h.sum⟩
theorem SRok.of {r : SR} (h1 : r.right = true) (h2 : r.bal = true) : SRok r := by
  unfold SR.right at h1
  rw [Bool.and_eq_true, SR.each_iff, mayI_iff] at h1
  unfold SR.bal at h2
  simp only [Bool.and_eq_true, decide_eq_true_eq] at h2
  exact ⟨h1.1, h1.2, h2.2.2⟩
theorem SRok.ofR {r : SR} (h1 : r.right = true) (h2 : r.sum = r.flow) : SRok r := by
  unfold SR.right at h1
  rw [Bool.and_eq_true, SR.each_iff, mayI_iff] at h1
  exact ⟨h1.1, h1.2, h2⟩
theorem SRok.zero : SRok SR.zero := by
  refine ⟨⟨?_, ?_, ?_, ?_, ?_, ?_, ?_, ?_, ?_, ?_⟩, ?_, ?_⟩ <;> simp [SR.zero, SR.sum, SR.flow]
/-- A row's number, by its place. -/
def SR.get (r : SR) : Nat → Int
  | 0 => r.free
  | 1 => r.held
  | 2 => r.picked
  | 3 => r.aside
  | 4 => r.received
  | 5 => r.returned
  | 6 => r.counted
  | 7 => r.came
  | 8 => r.shipped
  | 9 => r.scrapped
  | _ => r.sent
def SR.set (r : SR) (i : Nat) (n : Int) : SR :=
  match i with
  | 0 => { r with free := n }
  | 1 => { r with held := n }
  | 2 => { r with picked := n }
  | 3 => { r with aside := n }
  | 4 => { r with received := n }
  | 5 => { r with returned := n }
  | 6 => { r with counted := n }
  | 7 => { r with came := n }
  | 8 => { r with shipped := n }
  | 9 => { r with scrapped := n }
  | _ => { r with sent := n }
def SR.add (r : SR) (o : Option Nat) (n : Int) : SR := match o with
  | none => r
  | some i => r.set i (r.get i + n)
theorem SR.cs_get (r : SR) {i : Nat} (h : i < 11) : r.cs[i]? = some (.int .i64 (r.get i)) := by
  match i, h with
  | 0, _ => rfl
  | 1, _ => rfl
  | 2, _ => rfl
  | 3, _ => rfl
  | 4, _ => rfl
  | 5, _ => rfl
  | 6, _ => rfl
  | 7, _ => rfl
  | 8, _ => rfl
  | 9, _ => rfl
  | 10, _ => rfl
theorem SR.cs_set (r : SR) {i : Nat} (h : i < 11) (n : Int) : r.cs.setIfInBounds i (.int .i64 n) = (r.set i n).cs := by
  match i, h with
  | 0, _ => rfl
  | 1, _ => rfl
  | 2, _ => rfl
  | 3, _ => rfl
  | 4, _ => rfl
  | 5, _ => rfl
  | 6, _ => rfl
  | 7, _ => rfl
  | 8, _ => rfl
  | 9, _ => rfl
  | 10, _ => rfl
/-- Where a kind takes from, where it goes, which flow it is. -/
def roadF (k : Int) : Option Nat × Option Nat × Option Nat :=
  if k = 1 then (none, some 0, some 4) else
  if k = 2 then (some 0, some 1, none) else
  if k = 3 then (some 1, some 0, none) else
  if k = 4 then (some 1, some 2, none) else
  if k = 5 then (some 2, some 1, none) else
  if k = 6 then (some 2, none, some 8) else
  if k = 7 then (none, some 3, some 5) else
  if k = 8 then (some 3, some 0, none) else
  if k = 9 then (some 3, none, some 9) else
  if k = 10 then (some 0, none, some 10) else
  if k = 11 then (none, some 0, some 7) else (none, none, none)
theorem roadF_lt (k : Int) : (∀ i, (roadF k).1 = some i → i < 4) ∧ (∀ i, (roadF k).2.1 = some i → i < 4) ∧ (∀ i, (roadF k).2.2 = some i → 4 ≤ i ∧ i ≠ 6 ∧ i < 11) := by
  obtain ⟨R, hR⟩ : ∃ R, roadF k = R := ⟨_, rfl⟩
  rw [hR]
  unfold roadF at hR
  by_cases h1 : k = 1
  · rw [if_pos h1] at hR; subst hR; simp
  rw [if_neg h1] at hR
  by_cases h2 : k = 2
  · rw [if_pos h2] at hR; subst hR; simp
  rw [if_neg h2] at hR
  by_cases h3 : k = 3
  · rw [if_pos h3] at hR; subst hR; simp
  rw [if_neg h3] at hR
  by_cases h4 : k = 4
  · rw [if_pos h4] at hR; subst hR; simp
  rw [if_neg h4] at hR
  by_cases h5 : k = 5
  · rw [if_pos h5] at hR; subst hR; simp
  rw [if_neg h5] at hR
  by_cases h6 : k = 6
  · rw [if_pos h6] at hR; subst hR; simp
  rw [if_neg h6] at hR
  by_cases h7 : k = 7
  · rw [if_pos h7] at hR; subst hR; simp
  rw [if_neg h7] at hR
  by_cases h8 : k = 8
  · rw [if_pos h8] at hR; subst hR; simp
  rw [if_neg h8] at hR
  by_cases h9 : k = 9
  · rw [if_pos h9] at hR; subst hR; simp
  rw [if_neg h9] at hR
  by_cases h10 : k = 10
  · rw [if_pos h10] at hR; subst hR; simp
  rw [if_neg h10] at hR
  by_cases h11 : k = 11
  · rw [if_pos h11] at hR; subst hR; simp
  rw [if_neg h11] at hR
  subst hR; simp
def SR.move (r : SR) (k n : Int) : SR := ((r.add (roadF k).1 (-n)).add (roadF k).2.1 n).add (roadF k).2.2 n
/-- What is done keeps a good in balance. -/
theorem SR.move_bal {r : SR} (h : r.sum = r.flow) (k n : Int) : (r.move k n).sum = (r.move k n).flow := by
  unfold SR.sum SR.flow at h ⊢
  obtain ⟨R, hR⟩ : ∃ R, roadF k = R := ⟨_, rfl⟩
  unfold SR.move
  rw [hR]
  unfold roadF at hR
  by_cases h1 : k = 1
  · rw [if_pos h1] at hR; subst hR; simp only [SR.add, SR.set, SR.get]; omega
  rw [if_neg h1] at hR
  by_cases h2 : k = 2
  · rw [if_pos h2] at hR; subst hR; simp only [SR.add, SR.set, SR.get]; omega
  rw [if_neg h2] at hR
  by_cases h3 : k = 3
  · rw [if_pos h3] at hR; subst hR; simp only [SR.add, SR.set, SR.get]; omega
  rw [if_neg h3] at hR
  by_cases h4 : k = 4
  · rw [if_pos h4] at hR; subst hR; simp only [SR.add, SR.set, SR.get]; omega
  rw [if_neg h4] at hR
  by_cases h5 : k = 5
  · rw [if_pos h5] at hR; subst hR; simp only [SR.add, SR.set, SR.get]; omega
  rw [if_neg h5] at hR
  by_cases h6 : k = 6
  · rw [if_pos h6] at hR; subst hR; simp only [SR.add, SR.set, SR.get]; omega
  rw [if_neg h6] at hR
  by_cases h7 : k = 7
  · rw [if_pos h7] at hR; subst hR; simp only [SR.add, SR.set, SR.get]; omega
  rw [if_neg h7] at hR
  by_cases h8 : k = 8
  · rw [if_pos h8] at hR; subst hR; simp only [SR.add, SR.set, SR.get]; omega
  rw [if_neg h8] at hR
  by_cases h9 : k = 9
  · rw [if_pos h9] at hR; subst hR; simp only [SR.add, SR.set, SR.get]; omega
  rw [if_neg h9] at hR
  by_cases h10 : k = 10
  · rw [if_pos h10] at hR; subst hR; simp only [SR.add, SR.set, SR.get]; omega
  rw [if_neg h10] at hR
  by_cases h11 : k = 11
  · rw [if_pos h11] at hR; subst hR; simp only [SR.add, SR.set, SR.get]; omega
  rw [if_neg h11] at hR
  subst hR
  exact h
abbrev Stk := List (Str × SR)
def rowAt (A : Stk) (g : Str) : SR := (getS A g).getD SR.zero
abbrev Its := List (Str × Int)
def goodC (c : UInt8) : Bool := (decide (97 ≤ c.toNat) && decide (c.toNat ≤ 122)) || (decide (48 ≤ c.toNat) && decide (c.toNat ≤ 57)) || decide (c.toNat = 45)
def goodB (s : Str) : Bool := s.all goodC && (decide (0 < s.length) && decide (s.length ≤ 16))
def itsOk : Str → Its → Bool
  | _, [] => true
  | last, p :: r => goodB p.1 && decide (1 ≤ p.2) && mayI p.2 && decide (last < p.1) && itsOk p.1 r
def mayL (l : Its) : Bool := itsOk [] l && decide (l.length ≤ 16)
def doMay (A : Stk) (k : Int) (l : Its) : Int := match (roadF k).1 with
  | none => 0
  | some i => if l.any (fun p => (getS A p.1).isNone) = true then 71 else if l.any (fun p => decide ((rowAt A p.1).get i < p.2)) = true then 51 else 0
def doFold (k : Int) : Stk → Its → Option Stk
  | A, [] => some A
  | A, p :: r => if ((rowAt A p.1).move k p.2).right = true then doFold k (putS ktS.lt A p.1 ((rowAt A p.1).move k p.2)) r else none
def doS (A : Stk) (k : Int) (l : Its) : Int × Stk :=
  if k < 1 ∨ 11 < k then (1, A) else if mayL l = false then (60, A) else if doMay A k l ≠ 0 then (doMay A k l, A) else
  match doFold k A l with
  | none => (50, A)
  | some B => if 64 < B.length then (2, A) else (0, B)
def offerS (A : Stk) (l : Its) : Its := l.filterMap fun p => if 0 < min p.2 (rowAt A p.1).free then some (p.1, min p.2 (rowAt A p.1).free) else none
/-- A stock that may be. -/
structure SOk (A : Stk) : Prop where
  rise : RiseS A
  good : ∀ p ∈ A, goodB p.1 = true
  row : ∀ p ∈ A, SRok p.2
  len : A.length ≤ 64
theorem getS_memS {ν : Type} {A : List (Str × ν)} {g : Str} {v : ν} (h : getS A g = some v) : (g, v) ∈ A := by
  induction A with
  | nil => cases h
  | cons p r ih =>
    simp only [getS] at h
    by_cases e : p.1 = g
    · rw [if_pos e] at h
      cases h
      subst e
      simp
    · rw [if_neg e] at h
      exact List.mem_cons_of_mem _ (ih h)
theorem SOk.at_ {A : Stk} (h : SOk A) (g : Str) : SRok (rowAt A g) := by
  show SRok ((getS A g).getD SR.zero)
  cases e : getS A g with
  | none => exact SRok.zero
  | some v => exact h.row _ (getS_memS e)
end Go.Proofs.YtogphlnakdnchaaGreat

namespace Go.Proofs.YtogphlnakdnchaaGreat
open Go.RowKit
/-- w' is w, but for the old blocks of S, and for new blocks. -/
structure Fr (S : Nat → Prop) (w w' : World) : Prop where
  os : w'.os = w.os
  tape : w'.tape = w.tape
  output : w'.output = w.output
  size : w.heap.size ≤ w'.heap.size
  same : ∀ b, b < w.heap.size → ¬ S b → w'.heap[b]? = w.heap[b]?
section
variable {S S' : Nat → Prop} {w w' w'' : World}
theorem Fr.refl (S : Nat → Prop) (w : World) : Fr S w w := ⟨rfl, rfl, rfl, Nat.le_refl _, fun _ _ _ => rfl⟩
theorem Fr.trans (h : Fr S w w') (h' : Fr S w' w'') : Fr S w w'' :=
  ⟨h'.os.trans h.os, h'.tape.trans h.tape, h'.output.trans h.output, Nat.le_trans h.size h'.size, fun b hb hs => (h'.same b (Nat.lt_of_lt_of_le hb h.size) hs).trans (h.same b hb hs)⟩
theorem Fr.mono (h : Fr S w w') (hS : ∀ b, b < w.heap.size → S b → S' b) : Fr S' w w' := ⟨h.os, h.tape, h.output, h.size, fun b hb hs => h.same b hb (fun e => hs (hS b hb e))⟩
/-- As 'trans', where the second step may turn new blocks too. -/
theorem Fr.trans' (h : Fr S w w') (h' : Fr S' w' w'') (hS : ∀ b, b < w.heap.size → S' b → S b) : Fr S w w'' :=
  ⟨h'.os.trans h.os, h'.tape.trans h.tape, h'.output.trans h.output, Nat.le_trans h.size h'.size, fun b hb hs => (h'.same b (Nat.lt_of_lt_of_le hb h.size) (fun e => hs (hS b hb e))).trans (h.same b hb hs)⟩
theorem Fr.drew (h : Fr S w w') : Fr S w w'.drew := ⟨h.os, h.tape, h.output, h.size, h.same⟩
theorem Fr.drewN (h : Fr S w w') (n : Nat) : Fr S w (w'.drewN n) := ⟨h.os, h.tape, h.output, h.size, h.same⟩
theorem Fr.grown {row : Option Nat} (h : w.grownBy w' row) (hr : ∀ r, row = some r → r < w.heap.size → S r) : Fr S w w' :=
  ⟨h.os, h.tape, h.output, h.size, fun b hb hs => h.block b hb (fun e => hs (hr b e.symm hb))⟩
theorem Fr.below (h : Below w.heap.size w w') : Fr S w w' := ⟨h.os, h.tape, h.output, h.size, fun b hb _ => h.block b hb⟩
theorem Fr.toBelow {B : Nat} (h : Fr S w w') (hS : ∀ b, S b → B ≤ b) (hB : B ≤ w.heap.size) : Below B w w' :=
  ⟨h.os, h.tape, h.output, h.size, fun b hb => h.same b (by omega) (fun e => by have := hS b e; omega)⟩
theorem Fr.alloc (h : Fr S w w') (o : Obj) : Fr S w (w'.alloc o) := h.trans (Fr.grown (row := none) (World.grownBy_alloc w' o none) (fun _ e => by cases e))
theorem Fr.setCell (h : Fr S w w') {p : Addr} (hp : p.block < w.heap.size → S p.block) (u : Value) : Fr S w (w'.setCell p u) :=
  ⟨h.os, h.tape, h.output, by simpa [World.setCell] using h.size, fun b hb hs => (Below.heap_setCell w' p u b (fun e => hs (by rw [e]; exact hp (by rw [← e]; exact hb)))).trans (h.same b hb hs)⟩
theorem Fr.putObj (h : Fr S w w') {l : Nat} (hl : l < w.heap.size → S l) (o : Obj) : Fr S w (w'.putObj l o) :=
  ⟨h.os, h.tape, h.output, by simpa using h.size, fun b hb hs => (World.putObj_heap_other (fun e => hs (by rw [e]; exact hl (by rw [← e]; exact hb)))).trans (h.same b hb hs)⟩
theorem Fr.turned {b : Nat} (h : w.mapTurned w' b) (hb : S b) : Fr S w w' := Fr.grown h.grown (fun r e _ => by cases e; exact hb)
theorem Fr.at_ {b : Nat} {o : Obj} (h : Fr S w w') (hb : w.heap[b]? = some o) (hs : ¬ S b) : w'.heap[b]? = some o := (h.same b (Array.getElem?_eq_some_iff.1 hb).1 hs).trans hb
theorem Fr.cell {p : Addr} {v : Value} (h : Fr S w w') (hc : w.cell? p = some v) (hs : ¬ S p.block) : w'.cell? p = some v :=
  (World.cell?_of_block (h.same p.block (World.block_lt_of_cell? w _ hc) hs)).trans hc
theorem Fr.box {b : Nat} {t : TypeId} {v : Value} (h : Fr S w w') (hb : Boxed w b t v) (hs : ¬ S b) : Boxed w' b t v := h.at_ hb hs
theorem Fr.mp {κ ν : Type} {k : TypeId} {T : KT κ} {enc : ν → Value} {b : Nat} {l : List (κ × ν)} {P : Program} (h : Fr S w w') (hm : Mp P w k T enc b l) (hs : ¬ S b) : Mp P w' k T enc b l :=
  hm.at_ (h.same b hm.lt hs)
theorem Fr.row {base : Nat} {e : TypeId} {size n : Nat} {v : Value} {xs : List Value} (h : Fr S w w') (ho : w.ownsRow base e size v n xs) (hs : ∀ b, v.ownBlock = some b → ¬ S b) : w'.ownsRow base e size v n xs := by
  refine ⟨ho.1, ?_⟩
  rcases ho.2 with h0 | ⟨g, cap, cur, rfl, hbase, hb, r⟩
  · exact .inl h0
  · exact .inr ⟨g, cap, cur, rfl, hbase, h.at_ hb (hs g rfl), r⟩
/-- A block that is none of the program's own data: a loop's record, an iterator over a map or a string .. -/
def auxObj : Obj → Bool
  | .cells .. | .map .. | .pending .. | .view .. | .number .. | .chan .. | .coro .. | .finalizers .. => false
  | _ => true
def AuxAt (B : Nat) (w : World) (b : Nat) : Prop := B ≤ b ∧ ∃ o, w.heap[b]? = some o ∧ auxObj o = true
/-- Behind it cells and maps are as they were, and what lay below B. -/
abbrev Fa (B : Nat) (w w' : World) : Prop := Fr (AuxAt B w) w w'
theorem Fa.cells {B b : Nat} {cs : Array Value} {t : TypeId} {fr : Nat × Nat} (h : Fa B w w') (hb : w.heap[b]? = some (.cells cs t fr)) : w'.heap[b]? = some (.cells cs t fr) :=
  h.at_ hb (fun ⟨_, o, ho, hx⟩ => by rw [hb] at ho; cases ho; cases hx)
theorem Fa.cell {B : Nat} {p : Addr} {v : Value} (h : Fa B w w') (hc : w.cell? p = some v) : w'.cell? p = some v := by
  refine Fr.cell h hc (fun ⟨_, o, ho, hx⟩ => ?_)
  unfold World.cell? at hc
  rw [ho] at hc
  cases o <;> simp at hc
  cases hx
theorem Fa.box {B b : Nat} {t : TypeId} {v : Value} (h : Fa B w w') (hb : Boxed w b t v) : Boxed w' b t v := Fa.cells h hb
theorem Fa.mp {κ ν : Type} {k : TypeId} {T : KT κ} {enc : ν → Value} {B b : Nat} {l : List (κ × ν)} {P : Program} (h : Fa B w w') (hm : Mp P w k T enc b l) : Mp P w' k T enc b l := by
  obtain ⟨n, es, clock, hb, r⟩ := hm
  exact ⟨n, es, clock, h.at_ hb (fun ⟨_, o, ho, hx⟩ => by rw [hb] at ho; cases ho; cases hx), r⟩
theorem Fa.row {base B : Nat} {e : TypeId} {size n : Nat} {v : Value} {xs : List Value} (h : Fa B w w') (ho : w.ownsRow base e size v n xs) : w'.ownsRow base e size v n xs := by
  refine ⟨ho.1, ?_⟩
  rcases ho.2 with h0 | ⟨g, cap, cur, rfl, hbase, hb, r⟩
  · exact .inl h0
  · exact .inr ⟨g, cap, cur, rfl, hbase, Fa.cells h hb, r⟩
theorem Fa.old {B : Nat} (h : Fa B w' w'') (h0 : Fr S w w') (hB : w.heap.size ≤ B) : Fr S w w'' := h0.trans' h (fun b hb hx => by have := hx.1; omega)
end
end Go.Proofs.YtogphlnakdnchaaGreat

namespace Go.Proofs.YtogphlnakdnchaaGreat
open Go.RowKit
def Stp (TS : Nat → Prop) (w w' : World) (TS' : Nat → Prop) : Prop := Fr TS w w' ∧ ∀ b, TS' b → TS b ∨ w.heap.size ≤ b
section
variable {w w' : World} {TS : Nat → Prop}
theorem Stp.refl (h : Fr (fun _ => False) w w') : Stp TS w w' TS := ⟨h.mono (fun _ _ e => e.elim), fun _ e => .inl e⟩
theorem Stp.low {TS TS' : Nat → Prop} {w w' : World} {n : Nat} (hs : Stp TS w w' TS') (hT : ∀ b, TS b → n ≤ b) (hn : n ≤ w.heap.size) : ∀ b, TS' b → n ≤ b := fun b hb => by
  rcases hs.2 b hb with h | h
  · exact hT b h
  · omega
theorem Stp.fr {TS TS' : Nat → Prop} {w0 w w' : World} {n : Nat} (hs : Stp TS w w' TS') (hf : Fr (fun b => n ≤ b) w0 w) (hT : ∀ b, TS b → n ≤ b) : Fr (fun b => n ≤ b) w0 w' := hf.trans' hs.1 (fun b _ e => hT b e)
theorem Stp.trans {TS TS' TS'' : Nat → Prop} {w w' w'' : World} (h : Stp TS w w' TS') (h' : Stp TS' w' w'' TS'') : Stp TS w w'' TS'' :=
  ⟨h.1.trans' h'.1 (fun b hb e => (h.2 b e).elim id (fun e => by omega)), fun b hb => by
    rcases h'.2 b hb with e | e
    · exact h.2 b e
    · exact .inr (Nat.le_trans h.1.size e)⟩
end
end Go.Proofs.YtogphlnakdnchaaGreat

namespace Go.Proofs.YtogphlnakdnchaaGreat
open Go.RowKit Go.Maps
theorem kMay (w : World) (n : Int) : Calls Tryz.prog 68 #[.int .i64 n] w fun e w' => e = .returned (.bool (mayI n)) ∧ w = w' := by
  unfold mayI
  by_cases h1 : 0 ≤ n <;> by_cases h2 : n ≤ 1099511627776
  all_goals
    simp only [h1, h2, decide_true, decide_false, Bool.and_true, Bool.and_false]
    go_enter Tryz.func68, Tryz.ntmps68
    go_wp2
    go_ret
    exact ⟨rfl, rfl⟩
end Go.Proofs.YtogphlnakdnchaaGreat

namespace Go.Proofs.YtogphlnakdnchaaGreat
open Go.RowKit
variable {α : Type}
/-- What a caller keeps between two rounds abides whatever the iterator, and the loop's own record, do. -/
def Ab (B : Nat) (J : World → Prop) : Prop := ∀ W W', J W → Fa B W W' → J W'
/-- A round of loop l: the yield is taken up as a round, which ends in R. -/
abbrev Yd (l : Nat) (args : Array Value) (W : World) (R : Ending → World → Prop) : Prop := YieldAt Fence.wide 0 Tryz.prog l args W R
/-- The blocks that rounds have made: C, and what has been made from W to W'. -/
def CC (C : Nat → Prop) (W W' : World) (b : Nat) : Prop := C b ∨ (W.heap.size ≤ b ∧ b < W'.heap.size)
/-- THE ITERATOR gf (with what it has captured, lb) GIVES X, one by one, or a part of it if a round says no more; between rounds it reads no block that the rounds may turn (S: the old blocks that they may turn; C: those that rounds have made). -/
def ItX (gf : Nat) (lb : Array Value) (encs : α → Array Value) (X : List α) (S : Nat → Prop) (w : World) : Prop :=
  ∀ (l : Nat) (S' : Nat → Prop) (J Jx : Nat → (Nat → Prop) → World → Prop) (W : World), Below w.heap.size w W → (∀ b, S' b → b < W.heap.size ∧ (b < w.heap.size → S b)) → (∀ k C, Ab W.heap.size (J k C)) →
    (∀ k x C W1, X[k]? = some x → J k C W1 → Yd l (encs x) W1 fun e W' =>
      (e = .returned (.bool true) ∧ J (k + 1) (CC C W1 W') W' ∧ Fr (fun b => S' b ∨ C b) W1 W') ∨ (e = .returned (.bool false) ∧ Jx (k + 1) (CC C W1 W') W' ∧ Fr (fun b => S' b ∨ C b) W1 W')) →
    (∀ k C, Ab W.heap.size (Jx k C)) →
    J 0 (fun _ => False) W →
    Calls Tryz.prog gf (#[.func (.yield l) #[] #[]] ++ lb) W fun e W' => (∃ v, e = .returned v) ∧ ((∃ C, J X.length C W') ∨ ∃ k C, k ≤ X.length ∧ Jx k C W')
theorem ItX.mono {gf : Nat} {lb : Array Value} {encs : α → Array Value} {X : List α} {S S0 : Nat → Prop} {w : World} (h : ItX gf lb encs X S w) (hS : ∀ b, S0 b → S b) : ItX gf lb encs X S0 w :=
  fun l S' J Jx W hW hS' => h l S' J Jx W hW (fun b hb => ⟨(hS' b hb).1, fun hl => hS b ((hS' b hb).2 hl)⟩)
/-- How a round's body ends: C0: what the rounds had made when this one began, in W0. -/
def bodyEnd (S C0 : Nat → Prop) (W0 : World) (I : Nat → (Nat → Prop) → World → Prop) (Ix : Code → Nat → (Nat → Prop) → World → Prop) (k : Nat) (W : World) : Exit → Act → World → Prop
  | .normal, _, W' => Fr (fun b => S b ∨ CC C0 W0 W b) W W' ∧ I k (CC C0 W0 W') W'
  | .ret, _, W' => Fr (fun b => S b ∨ CC C0 W0 W b) W W' ∧ Ix .ret k (CC C0 W0 W') W'
  | .exit id, _, W' => Fr (fun b => S b ∨ CC C0 W0 W b) W W' ∧ Ix (.exit id) k (CC C0 W0 W') W'
  | .goto t, _, W' => Fr (fun b => S b ∨ CC C0 W0 W b) W W' ∧ Ix (.goto t) k (CC C0 W0 W') W'
  | .panic _, _, _ => False
  | .outgrown, _, _ => False
/-- Behind the assignment to the loop's variables: what the body owes. -/
def Took (w : World) (S C : Nat → Prop) (I : Nat → (Nat → Prop) → World → Prop) (Ix : Code → Nat → (Nat → Prop) → World → Prop) (k l : Nat) (W : World) (body : Code) (a' : Act) (W' : World) : Prop :=
  Fr (fun b => S b ∨ C b) W W' ∧ I k C W' ∧ ∀ Wb, I k C Wb → Fr S w Wb → Fa w.heap.size W' Wb → W.heap.size ≤ Wb.heap.size → w.heap.size ≤ W.heap.size → (∀ b, C b → w.heap.size ≤ b) → (∃ r, Wb.heap[l]? = some (.loop r)) →
    body.wpIn (Fence.wide.inRound l) 0 Tryz.prog (bodyEnd S C W I Ix (k + 1) Wb) a' Wb
theorem Took.mk {w : World} {S C : Nat → Prop} {I : Nat → (Nat → Prop) → World → Prop} {Ix : Code → Nat → (Nat → Prop) → World → Prop} {k l : Nat} {W : World} {body : Code} {a' : Act} {W' : World}
    (h1 : Fr (fun b => S b ∨ C b) W W') (h2 : I k C W') (h3 : ∀ Wb, I k C Wb → Fr S w Wb → Fa w.heap.size W' Wb → W.heap.size ≤ Wb.heap.size → w.heap.size ≤ W.heap.size → (∀ b, C b → w.heap.size ≤ b) → (∃ r, Wb.heap[l]? = some (.loop r)) →
    body.wpIn (Fence.wide.inRound l) 0 Tryz.prog (bodyEnd S C W I Ix (k + 1) Wb) a' Wb) : Took w S C I Ix k l W body a' W' := ⟨h1, h2, h3⟩
theorem frAlloc {B : Nat} {w : World} (o : Obj) : Fa B w (w.alloc o) := (Fr.refl _ _).alloc o
theorem frPut {B : Nat} {w : World} {l : Nat} {o : Obj} (o' : Obj) (hB : B ≤ l) (hl : w.heap[l]? = some o) (ho : auxObj o = true) : Fa B w (w.putObj l o') := (Fr.refl _ _).putObj (fun _ => ⟨hB, o, hl, ho⟩) o'
theorem Ab.fr {S : Nat → Prop} {w : World} {B : Nat} (hB : w.heap.size ≤ B) : Ab B (fun W => Fr S w W) := fun _ _ h hf => Fa.old hf h hB
theorem Fa.up {B B' : Nat} {W W' : World} (h : Fa B' W W') (hB : B ≤ B') : Fa B W W' := Fr.mono h fun _ _ ⟨a, b⟩ => ⟨Nat.le_trans hB a, b⟩
/-- **A range over an iterator that gives X**, at the outermost level of a function: the loop's variables may be boxed (W': behind the assignment; Wb: where the body begins). C: the blocks that the rounds have made. -/
theorem rangeX {g : Operand} {ps : Array Tmp} {assign body : Code} {Q : Exit → Act → World → Prop} {a : Act} {w w0 : World} {n : Nat}
    {gf : Nat} {lb : Array Value} (hg : a.eval g = .func (.func gf) #[] lb) (eg : ∀ args w, (callFunc gf args).run Tryz.prog w = .ok (.enter gf args) w)
    {encs : α → Array Value} {X : List α} {S : Nat → Prop} (hseq : ItX gf lb encs X S w0) (hb0 : Below w0.heap.size w0 w) (hS : ∀ b, S b → b < w.heap.size) (hps : ∀ x, (encs x).size = ps.size)
    (I : Nat → (Nat → Prop) → World → Prop) (Ix : Code → Nat → (Nat → Prop) → World → Prop) (hI : ∀ k C, Ab w.heap.size (I k C)) (hIx : ∀ c k C, Ab w.heap.size (Ix c k C)) (h0 : I 0 (fun _ => False) w)
    (hround : ∀ (l k : Nat) (x : α) (C : Nat → Prop) (W : World), X[k]? = some x → w.heap.size ≤ l → I k C W → Fr S w W →
      assign.wpIn (Fence.wide.inRound l) 0 Tryz.prog (Exit.then (Took w S C I Ix k l W body) (fun _ _ _ => False)) { tmps := (ps.zip (encs x)).foldl (fun t (p, v) => t.setIfInBounds p v) a.tmps, defers := [] } W)
    (hdone : ∀ (D : Nat) (C : Nat → Prop) (W : World), w.heap.size ≤ D → I X.length C W → Fr S w W → W.heap[D]? = some (.deferred (some [])) → Q .normal { a with defers := { target := .collected D, args := #[] } :: a.defers } W)
    (hstop : ∀ (D : Nat) (c : Code) (k : Nat) (C : Nat → Prop) (W : World), w.heap.size ≤ D → k ≤ X.length → Ix c k C W → Fr S w W → W.heap[D]? = some (.deferred (some [])) →
      c.wpIn Fence.wide n Tryz.prog Q { a with defers := { target := .collected D, args := #[] } :: a.defers } W) :
    (Code.rangeFunc g ps assign body).wpIn Fence.wide n Tryz.prog Q a w := by
  refine wpIn_rangeFunc ?_
  intro fn hfn
  obtain ⟨rec, hrec⟩ : ∃ rec : LoopState → Option Code → Loop, rec = fun st pe => { state := st, pending := pe, fn, tmps := a.tmps, params := ps, assign, body, defers := w.heap.size } := ⟨_, rfl⟩
  obtain ⟨W1, hW1⟩ : ∃ W1, (w.alloc (.deferred (some []))).alloc (.loop (rec .ready none)) = W1 := ⟨_, rfl⟩
  have hs1 : W1.heap.size = w.heap.size + 2 := by rw [← hW1]; simp
  have hL1 : W1.heap[w.heap.size + 1]? = some (.loop (rec .ready none)) := by
    rw [← hW1]; have := World.alloc_heap_new (w.alloc (.deferred (some []))) (.loop (rec .ready none)); rwa [World.size_alloc] at this
  have hD1 : W1.heap[w.heap.size]? = some (.deferred (some [])) := by
    rw [← hW1]; exact (Below.heap_alloc _ _ _ (by simp)).trans (World.alloc_heap_new w _)
  have hf1 : Fa w.heap.size w W1 := by rw [← hW1]; exact ((Fr.refl _ _).alloc _).alloc _
  have hr1 : Fr S w W1 := by rw [← hW1]; exact ((Fr.refl _ _).alloc _).alloc _
  have hb1 : Below w0.heap.size w0 W1 := by
    rw [← hW1]; exact hb0.trans ((((Below.refl _ w).alloc (Nat.le_refl _) _).alloc (by simp) _).mono hb0.size)
  refine ⟨w.heap.size + 1, [{ target := .collected w.heap.size, args := #[] }], W1, { target := .fn (.func gf) lb, args := #[.func (.yield (w.heap.size + 1)) #[] #[]] }, W1, gf,
    #[.func (.yield (w.heap.size + 1)) #[] #[]] ++ lb, W1, ?_, ?_, fun _ _ => trivial, ?_, (fun h => by cases h), ?_⟩
  · rw [← hW1, hrec]; exact run_enterLoop_outer _ _ _ _ _
  · simp only [resolve, hg]
    simp [go_sem]
  · simp [invoke, go_sem, eg]
  have hB : w.heap.size ≤ W1.heap.size := by omega
  have hDL : ∀ {st pe A B}, A.heap[w.heap.size + 1]? = some (.loop (rec st pe)) → A.heap[w.heap.size]? = some (.deferred (some [])) → Fa W1.heap.size A B →
      B.heap[w.heap.size + 1]? = some (.loop (rec st pe)) ∧ B.heap[w.heap.size]? = some (.deferred (some [])) := fun hl hd hf =>
    ⟨hf.at_ hl (fun hx => by have := hx.1; omega), hf.at_ hd (fun hx => by have := hx.1; omega)⟩
  refine callsIn_wide.2 ((hseq (w.heap.size + 1) (fun b => S b ∨ b = w.heap.size + 1)
    (fun k C W => I k C W ∧ Fr S w W ∧ (∀ b, C b → w.heap.size + 2 ≤ b) ∧ W.heap[w.heap.size + 1]? = some (.loop (rec .ready none)) ∧ W.heap[w.heap.size]? = some (.deferred (some [])))
    (fun k C W => ∃ c, Ix c k C W ∧ Fr S w W ∧ W.heap[w.heap.size + 1]? = some (.loop (rec .done (some c))) ∧ W.heap[w.heap.size]? = some (.deferred (some [])))
    W1 hb1 ?_ ?_ ?_ ?_ ⟨hI 0 _ _ _ h0 hf1, hr1, fun _ h => h.elim, hL1, hD1⟩).mono ?_)
  · rintro b (h | rfl)
    · have := hS b h
      exact ⟨by omega, fun _ => h⟩
    · exact ⟨by omega, fun h => by have := hb0.size; omega⟩
  · rintro k C A B ⟨hi, hr, hC, hl, hd⟩ hf
    obtain ⟨hl', hd'⟩ := hDL hl hd hf
    exact ⟨hI k C _ _ hi (Fa.up hf hB), Fa.old hf hr hB, hC, hl', hd'⟩
  · -- a round
    rintro k x C W hx ⟨hi, hr, hC, hl, hd⟩
    have hy := run_yield (P := Tryz.prog) (args := encs x) hl (by rw [hrec]; exact hps x)
    rw [hrec] at hy
    have hltW : w.heap.size + 1 < W.heap.size := (Array.getElem?_eq_some_iff.1 hl).1
    have nS : ∀ (A B : World), W.heap.size ≤ A.heap.size → ¬ (S (w.heap.size + 1) ∨ CC C A B (w.heap.size + 1)) ∧ ¬ (S w.heap.size ∨ CC C A B w.heap.size) := fun A B hA => by
      constructor
      · rintro (e | e | e)
        · have := hS _ e; omega
        · have := hC _ e; omega
        · omega
      · rintro (e | e | e)
        · have := hS _ e; omega
        · have := hC _ e; omega
        · omega
    refine ⟨fn, _, assign, body, hy, roundIn_of_wpIn hfn (wpIn_mono (hround _ k x C W hx (by omega) hi hr) ?_)⟩
    rintro e0 a' Wa h0
    cases e0 with
    | normal => ?_
    | _ => exact h0
    obtain ⟨hra, hia, hbody⟩ := h0
    have hla := hra.at_ hl (fun e => e.elim (fun e => by have := hS _ e; omega) (fun e => by have := hC _ e; omega))
    have hda := hra.at_ hd (fun e => e.elim (fun e => by have := hS _ e; omega) (fun e => by have := hC _ e; omega))
    refine ⟨_, run_beginRound hla (by rw [hrec]), ?_⟩
    obtain ⟨Wb, hWb⟩ : ∃ Wb, Wa.putObj (w.heap.size + 1) (.loop { rec .ready none with state := .busy }) = Wb := ⟨_, rfl⟩
    rw [hWb]
    have hlt : w.heap.size + 1 < Wa.heap.size := (Array.getElem?_eq_some_iff.1 hla).1
    have hszb : Wb.heap.size = Wa.heap.size := by rw [← hWb]; simp
    have hlb : Wb.heap[w.heap.size + 1]? = some (.loop { rec .ready none with state := .busy }) := by rw [← hWb]; exact World.putObj_heap_same hlt
    have hdb : Wb.heap[w.heap.size]? = some (.deferred (some [])) := by rw [← hWb]; exact (World.putObj_heap_other (by omega)).trans hda
    have hfb : Fa w.heap.size Wa Wb := by rw [← hWb]; exact frPut _ (by omega) hla rfl
    have hra' : Fr S w Wa := hr.trans' hra (fun b hb e => e.elim id (fun e => by have := hC _ e; omega))
    have hrb : Fr S w Wb := Fa.old hfb hra' (Nat.le_refl _)
    have hrW : Fr (fun b => (S b ∨ b = w.heap.size + 1) ∨ C b) W Wb := by
      rw [← hWb]; exact (hra.mono (fun b _ h => h.elim (fun h => .inl (.inl h)) .inr)).putObj (fun _ => .inl (.inr rfl)) _
    have hszW : W.heap.size ≤ Wb.heap.size := by rw [hszb]; exact hra.size
    refine wpIn_mono (hbody Wb (hI k C _ _ hia hfb) hrb hfb hszW hr.size (fun b e => by have := hC b e; omega) ⟨_, hlb⟩) ?_
    have fin : ∀ (jump : Option Code) (W3 : World), Fr (fun b => S b ∨ CC C W Wb b) Wb W3 →
        (Instr.endRound (w.heap.size + 1) jump).run Tryz.prog W3 = .ok (.bool jump.isNone) (W3.putObj (w.heap.size + 1) (.loop (rec (if jump.isNone then .ready else .done) jump))) ∧
        Fa w.heap.size W3 (W3.putObj (w.heap.size + 1) (.loop (rec (if jump.isNone then .ready else .done) jump))) ∧
        Fr S w (W3.putObj (w.heap.size + 1) (.loop (rec (if jump.isNone then .ready else .done) jump))) ∧
        Fr (fun b => (S b ∨ b = w.heap.size + 1) ∨ C b) W (W3.putObj (w.heap.size + 1) (.loop (rec (if jump.isNone then .ready else .done) jump))) ∧
        (∀ b, CC C W W3 b → w.heap.size + 2 ≤ b) ∧ CC C W (W3.putObj (w.heap.size + 1) (.loop (rec (if jump.isNone then .ready else .done) jump))) = CC C W W3 ∧
        (W3.putObj (w.heap.size + 1) (.loop (rec (if jump.isNone then .ready else .done) jump))).heap[w.heap.size + 1]? = some (.loop (rec (if jump.isNone then .ready else .done) jump)) ∧
        (W3.putObj (w.heap.size + 1) (.loop (rec (if jump.isNone then .ready else .done) jump))).heap[w.heap.size]? = some (.deferred (some [])) := fun jump W3 h3 => by
      have hn := nS W Wb (Nat.le_refl _)
      have hl3 := h3.at_ hlb hn.1
      have hd3 := h3.at_ hdb hn.2
      have he := run_endRound (P := Tryz.prog) jump hl3
      rw [hrec] at he ⊢
      refine ⟨he, frPut _ (by omega) hl3 rfl, ?_, ?_, ?_, ?_, World.putObj_heap_same (Array.getElem?_eq_some_iff.1 hl3).1, (World.putObj_heap_other (by omega)).trans hd3⟩
      · refine (hrb.trans' h3 ?_).putObj (fun h => by omega) _
        rintro b hb (e | e | e)
        · exact e
        · have := hC _ e; omega
        · omega
      · refine (hrW.trans' h3 ?_).putObj (fun _ => .inl (.inr rfl)) _
        rintro b hb (e | e | e)
        · exact .inl (.inl e)
        · exact .inr e
        · omega
      · rintro b (e | e)
        · exact hC _ e
        · omega
      · funext b; simp [CC]
    rintro e a3 W3 hp
    cases e with
    | normal =>
      obtain ⟨h3, hi3⟩ := hp
      obtain ⟨e1, e2, e3, e4, e7, e8, e5, e6⟩ := fin none W3 h3
      exact ⟨_, _, e1, .inl ⟨rfl, ⟨by rw [e8]; exact hI _ _ _ _ hi3 e2, e3, by rw [e8]; exact e7, e5, e6⟩, e4⟩⟩
    | ret =>
      obtain ⟨h3, hi3⟩ := hp
      obtain ⟨e1, e2, e3, e4, e7, e8, e5, e6⟩ := fin (some .ret) W3 h3
      exact ⟨_, _, e1, .inr ⟨rfl, ⟨.ret, by rw [e8]; exact hIx _ _ _ _ _ hi3 e2, e3, e5, e6⟩, e4⟩⟩
    | exit id =>
      obtain ⟨h3, hi3⟩ := hp
      obtain ⟨e1, e2, e3, e4, e7, e8, e5, e6⟩ := fin (some (.exit id)) W3 h3
      exact ⟨_, _, e1, .inr ⟨rfl, ⟨.exit id, by rw [e8]; exact hIx _ _ _ _ _ hi3 e2, e3, e5, e6⟩, e4⟩⟩
    | goto t =>
      obtain ⟨h3, hi3⟩ := hp
      obtain ⟨e1, e2, e3, e4, e7, e8, e5, e6⟩ := fin (some (.goto t)) W3 h3
      exact ⟨_, _, e1, .inr ⟨rfl, ⟨.goto t, by rw [e8]; exact hIx _ _ _ _ _ hi3 e2, e3, e5, e6⟩, e4⟩⟩
    | panic ch => exact hp.elim
    | outgrown => exact hp.elim
  · rintro k C A B ⟨c, hi, hr, hl, hd⟩ hf
    obtain ⟨hl', hd'⟩ := hDL hl hd hf
    exact ⟨c, hIx c k C _ _ hi (Fa.up hf hB), Fa.old hf hr hB, hl', hd'⟩
  · -- behind the iterator
    rintro e W2 ⟨⟨v, rfl⟩, (⟨C, hi, hr, _, hl, hd⟩ | ⟨k, C, hk, c, hi, hr, hl, hd⟩)⟩
    · have he := run_endLoop (P := Tryz.prog) hl (by rw [hrec]; simp)
      rw [hrec] at he
      exact ⟨none, _, he, hdone _ C _ (Nat.le_refl _) (hI _ _ _ _ hi (frPut _ (by omega) hl rfl)) (hr.putObj (fun h => by omega) _) ((World.putObj_heap_other (by omega)).trans hd)⟩
    · have he := run_endLoop (P := Tryz.prog) hl (by rw [hrec]; simp)
      rw [hrec] at he
      exact ⟨some c, _, he, hstop _ c k C _ (Nat.le_refl _) hk (hIx c k C _ _ hi (frPut _ (by omega) hl rfl)) (hr.putObj (fun h => by omega) _) ((World.putObj_heap_other (by omega)).trans hd)⟩
def ZI (_ : Nat) (_ : Nat → Prop) (_ : World) : Prop := True
def ZX (_ : Code) (_ : Nat) (_ : Nat → Prop) (_ : World) : Prop := False
theorem boxed_below {B : Nat} {w w' : World} {b : Nat} {t : TypeId} {v : Value} (h : Boxed w b t v) (hb : Below B w w') (h1 : b < B) : Boxed w' b t v := (hb.block b h1).trans h
theorem row_slice {w : World} {base : Nat} {e : TypeId} {size n : Nat} {v : Value} {xs : List Value} (h : w.ownsRow base e size v n xs) : ∃ a c, v = .slice a n c := by
  rcases h.2 with ⟨e1, e2⟩ | ⟨_, _, _, e1, _⟩
  · exact ⟨_, _, by rw [e1, e2]⟩
  · exact ⟨_, _, e1⟩
theorem row_addr {w : World} {base : Nat} {e : TypeId} {size n c : Nat} {a : Option Addr} {xs : List Value} (h : w.ownsRow base e size (.slice a n c) n xs) (hn : 0 < n) : ∃ g, a = some ⟨g, 0, none⟩ ∧ base ≤ g ∧ g < w.heap.size := by
  obtain ⟨g, c', e1, h1, h2⟩ := h.form hn
  injection e1 with e1
  exact ⟨g, e1, h1, h2⟩
end Go.Proofs.YtogphlnakdnchaaGreat

namespace Go.Proofs.YtogphlnakdnchaaGreat
open Go.RowKit Go.Maps
/-- A slice of items. -/
def Il (w : World) (v : Value) (L : Its) : Prop := L.length ≤ 9223372036854775807 ∧ ∃ (a : Option Addr) (c : Nat), v = .slice a L.length c ∧ ∀ (i : Nat) (p : Str × Int), L[i]? = some p → okS p.1 ∧ okI p.2 ∧
  ∃ ad, a = some ad ∧ w.cell? (ad.add (i * 2)) = some (vS p.1) ∧ w.cell? ⟨(ad.add (i * 2)).block, (ad.add (i * 2)).off + 1, none⟩ = some (.int .i64 p.2)
theorem add_block (ad : Addr) (i : Nat) : (ad.add i).block = ad.block := by unfold Addr.add; split <;> rfl
theorem Il.keep {S : Nat → Prop} {w w' : World} {v : Value} {L : Its} (h : Il w v L) (hf : Fr S w w') (hS : L ≠ [] → ∀ b, v.ownBlock = some b → ¬ S b) : Il w' v L := by
  obtain ⟨h0, a, c, rfl, h1⟩ := h
  refine ⟨h0, a, c, rfl, fun i p hp => ?_⟩
  obtain ⟨b1, b2, ad, rfl, c0, c1⟩ := h1 i p hp
  have hb := add_block ad (i * 2)
  have hne : L ≠ [] := fun e => by rw [e] at hp; simp at hp
  exact ⟨b1, b2, ad, rfl, hf.cell c0 (fun e => hS hne ad.block rfl (hb ▸ e)), hf.cell c1 (fun e => hS hne ad.block rfl (hb ▸ e))⟩
theorem Il.fr {S : Nat → Prop} {w w' : World} {v : Value} {L : Its} (h : Il w v L) (hf : Fr S w w') (hS : ∀ b, S b → w.heap.size ≤ b) : Il w' v L := by
  obtain ⟨h0, a, c, rfl, h1⟩ := h
  refine ⟨h0, a, c, rfl, fun i p hp => ?_⟩
  obtain ⟨b1, b2, ad, rfl, c0, c1⟩ := h1 i p hp
  exact ⟨b1, b2, ad, rfl, hf.cell c0 (fun e => by have := hS _ e; have := World.block_lt_of_cell? w _ c0; omega), hf.cell c1 (fun e => by have := hS _ e; have := World.block_lt_of_cell? w _ c1; omega)⟩
theorem Il.sl {w : World} {v : Value} {L : Its} (h : Il w v L) : ∃ a c, v = .slice a L.length c := by
  obtain ⟨_, a, c, e, _⟩ := h
  exact ⟨a, c, e⟩
theorem Il.lt {w : World} {v : Value} {L : Its} (h : Il w v L) (hL : L ≠ []) : ∀ b, v.ownBlock = some b → b < w.heap.size := fun b hb => by
  obtain ⟨_, a, c, rfl, h1⟩ := h
  cases L with
  | nil => exact absurd rfl hL
  | cons p r =>
    obtain ⟨_, _, ad, rfl, c0, _⟩ := h1 0 p rfl
    have := World.block_lt_of_cell? w _ c0
    rw [add_block] at this
    obtain rfl : ad.block = b := (by simpa [Value.ownBlock] using hb)
    exact this
theorem iAll (a : Option Addr) (n c : Nat) (w : World) : Calls Tryz.prog 58 #[.slice a n c] w fun e w' =>
    e = .returned (.func (.func 95) #[] #[.pointer (some ⟨w.heap.size, 0, none⟩)]) ∧ w' = w.alloc (.cells #[.slice a n c] 27) := by
  go_enter Tryz.func58, Tryz.ntmps58
  go_wp2
  go_ret
  exact ⟨rfl, rfl⟩
def encIt (p : Str × Int) : Array Value := #[vS p.1, .int .i64 p.2]
set_option maxRecDepth 100000 in
set_option maxHeartbeats 4000000 in
theorem iAll1 (S : Nat → Prop) (w : World) (Bt : Nat) (v : Value) (L : Its) (hBt : Boxed w Bt 27 v) (h : Il w v L) (n1 : ¬ S Bt) (n2 : L ≠ [] → ∀ b, S b → v.ownBlock ≠ some b) :
    ItX 95 #[.pointer (some ⟨Bt, 0, none⟩)] encIt L S w := by
  intro lp S' J Jx W hW hS' hJ hY hJx h0
  have hBW := boxed_below hBt hW hBt.lt
  have hLW : Il W v L := h.fr (Fr.below (S := fun _ => False) hW) (fun _ h => h.elim)
  have s2 : L ≠ [] → ∀ b, v.ownBlock = some b → ¬ S' b := fun hl b hb e => n2 hl _ ((hS' _ e).2 (h.lt hl b hb)) hb
  have hltW : L ≠ [] → ∀ b, v.ownBlock = some b → b < W.heap.size := fun hl b hb => Nat.lt_of_lt_of_le (h.lt hl b hb) hW.size
  have hcB := hBW.cell
  obtain ⟨a, c, rfl⟩ := h.sl
  obtain ⟨N, hN⟩ : ∃ N, L.length = N := ⟨_, rfl⟩
  have hNb : (N : Int) ≤ 9223372036854775807 := by have := h.1; omega
  have HS := Lib.hid hS'; have HL := Lib.hid hLW; have S2 := Lib.hid s2; have HN := Lib.hid hN; have HLT := Lib.hid hltW
  rw [hN] at hcB S2 HLT HL ⊢
  have hfn : ∀ f, Fence.wide.fn f := fun _ => trivial
  have hdp : Fence.wide.depth.isSome = false := rfl
  clear hBt h n1 n2 hS' hLW hBW s2 hW hN hltW
  refine (callsIn_wide (n := 0)).1 ?_
  refine callsIn_of_wp Tryz.func95 rfl trivial ?_ rfl
  simp only [Tryz.ntmps95, List.size_toArray, List.length_cons, List.length_nil, Nat.reduceAdd, Nat.reduceSub, Array.replicate_succ, Array.replicate_zero, List.push_toArray, List.append_toArray, List.nil_append, List.cons_append]
  gi_wp2_with fail
  gi_loopw [7] (fun i wr => ∃ (k : Nat) (C : Nat → Prop), k ≤ N ∧ i = .int .i64 k ∧ J k C wr ∧ (∀ b, C b → W.heap.size ≤ b ∧ b < wr.heap.size) ∧ Fr (fun b => S' b ∨ C b) W wr) (fun i _ => N - (intOf i).toNat)
  case atStart => exact ⟨0, _, Nat.zero_le _, rfl, h0, fun _ h => False.elim h, Fr.refl _ _⟩
  case round =>
    obtain ⟨k, C, hk, rfl, hJr, hC, hkp⟩ := hrel
    by_cases hlt : k < N
    · obtain ⟨p, hp⟩ : ∃ p, L[k]? = some p := ⟨L[k]'(by rw [HN.out]; exact hlt), List.getElem?_eq_getElem _⟩
      have hne : L ≠ [] := fun e => by rw [e] at hp; simp at hp
      have hLr := HL.out.keep hkp (fun hl b hb e => e.elim (S2.out hl b hb) (fun e => by have := hC _ e; have := HLT.out hl b hb; omega))
      clear hne
      obtain ⟨_, a', c', e, hx⟩ := hLr
      obtain ⟨ok1, ok2, ad, ea, x0, x1⟩ := hx k p hp
      rw [HN.out] at e
      injection e with e1 _ e3
      rw [ea] at e1
      subst e1 e3
      obtain ⟨g, n⟩ := p
      dsimp only at x0 x1 ok1 ok2
      have hJ2 := hJ k C _ _ hJr (frAlloc (B := W.heap.size) (.cells #[vS g, .int .i64 n] 65))
      obtain ⟨fn, tmps, assign, body, hy, hR⟩ := hY k (g, n) C _ hp hJ2
      dsimp only [encIt] at hy
      have hlI : (k : Int) < N := by omega
      have HC := Lib.hid hC; have HK := Lib.hid hkp; have HP := Lib.hid hp
      clear hC hkp hp hJr hJ2 hx ea ok1 ok2
      gi_wp2
      refine hR.mono ?_
      rintro e W3 (⟨rfl, hJ3, hk3⟩ | ⟨rfl, hJx3, _⟩)
      · gi_wp2
        go_roundw
        case rel =>
          refine ⟨k + 1, _, by omega, by go_num, hJ3, ?_, ?_⟩
          · have hs3 := hk3.size
            have hsa : (wr.alloc (.cells #[vS g, .int .i64 n] 65)).heap.size = wr.heap.size + 1 := by simp
            rintro b (e | e)
            · have := HC.out b e; exact ⟨this.1, by omega⟩
            · have := HK.out.size; exact ⟨by omega, e.2⟩
          · exact (((HK.out.alloc _).mono (fun b _ e => e.elim .inl (fun e => .inr (.inl e))))).trans (hk3.mono (fun b _ e => e.elim .inl (fun e => .inr (.inl e))))
        case measure => simp [intOf]; omega
      · gi_wp2
        refine bodyPost_ret (results_none rfl _ _ _) rfl ?_
        refine ⟨⟨_, rfl⟩, .inr ⟨_, _, ?_, hJx3⟩⟩
        have := HN.out
        omega
    · have : k = N := by omega
      subst this
      gi_wp2
      go_end0
      exact ⟨⟨_, rfl⟩, .inl ⟨C, hJr⟩⟩
theorem goodB_bad {s : Str} {k : Nat} (h : k < s.length) (hb : goodC s[k] = false) : goodB s = false := by
  have : s.all goodC = false := by
    refine Bool.eq_false_iff.2 (fun ht => ?_)
    have := List.all_eq_true.1 ht s[k] (List.getElem_mem h)
    rw [hb] at this; cases this
  simp [goodB, this]
set_option maxRecDepth 100000 in
set_option maxHeartbeats 4000000 in
theorem iGood (w : World) (s : Str) (hs : okS s) : Calls Tryz.prog 67 #[vS s] w fun e w' => e = .returned (.bool (goodB s)) ∧ Fr (fun _ => False) w w' := by
  obtain ⟨G, hG⟩ : ∃ G, goodB s = G := ⟨_, rfl⟩
  rw [hG]
  have HG := Lib.hid hG
  obtain ⟨B, hB⟩ : ∃ B, ByteArray.mk s.toArray = B := ⟨_, rfl⟩
  have hsz : B.size = s.length := by rw [← hB]; simp [ByteArray.size]
  have hge : ∀ k (h : k < B.size) (h' : k < s.length), B[k]'h = s[k]'h' := by subst hB; exact fun k h h' => rfl
  have HSZ := Lib.hid hsz; have HGE := Lib.hid hge; have HBB := Lib.hid hB
  have hs : (s.length : Int) ≤ 9223372036854775807 := by unfold okS maxLen at hs; omega
  rw [← hsz] at hs
  unfold vS
  rw [hB]
  clear hG hB hsz hge
  go_enter Tryz.func67, Tryz.ntmps67
  go_wp2_with fail
  go_loopw [4] (fun _ wr => ∃ k : Nat, k ≤ B.size ∧ wr = w.iter B k ∧ ∀ j (h : j < s.length), j < k → goodC s[j] = true) (fun _ wr => B.size - wr.iterPos w.heap.size)
  case atStart => exact ⟨0, Nat.zero_le _, rfl, fun j _ hj => by omega⟩
  case round =>
    obtain ⟨k, hk, rfl, hall⟩ := hrel
    have HA := Lib.hid hall
    clear hall
    by_cases hp : k < B.size
    · have hnx : ∀ ty, (Instr.next (.pointer (some ⟨w.heap.size, 0, none⟩)) true ty).run Tryz.prog (w.iter B k) = _ := fun ty => run_next_any w B k ty hp
      have hkl : k < s.length := by rw [← HSZ.out]; exact hp
      have hc := HGE.out k hp hkl
      obtain ⟨x, hx⟩ : ∃ x : Nat, (B[k]'hp).toNat = x := ⟨_, rfl⟩
      have hno : Hid (goodC s[k] = false → G = false) := Lib.hid (fun h => by rw [← HG.out]; exact goodB_bad hkl h)
      have hgc : Hid (goodC s[k] = ((decide (97 ≤ x) && decide (x ≤ 122)) || (decide (48 ≤ x) && decide (x ≤ 57)) || decide (x = 45))) := Lib.hid (by rw [← hx, hc]; rfl)
      have hF : Hid (∀ p, Fr (fun _ => False) w (w.iter B p)) := Lib.hid (fun p => (Fr.refl _ w).alloc _)
      by_cases ha : x < 128
      · have hd : Utf8.decode B k = (x, 1) := by rw [decode_ascii B k hp (by omega), hx]
        rw [hd] at hnx
        have hstep : Hid (goodC s[k] = true → ∀ j (h : j < s.length), j < k + 1 → goodC s[j] = true) := Lib.hid (fun hg j h hj => by
          by_cases e : j = k
          · subst e; exact hg
          · exact HA.out j h (by omega))
        clear hd hc hx
        rcases (by omega : (97 ≤ x ∧ x ≤ 122) ∨ x < 48 ∧ x ≠ 45 ∨ x = 45 ∨ (48 ≤ x ∧ x ≤ 57) ∨ (57 < x ∧ x < 97) ∨ 122 < x) with h | h | h | h | h | h
        · have hy := Lib.hid (hstep.out (by rw [hgc.out]; simp [h.1, h.2]))
          obtain ⟨h1, h2⟩ := h
          have q1 : ¬ (x : Int) < 97 := by omega
          have q2 : ¬ (122 : Int) < (x : Int) := by omega
          go_wp2_with fail
          go_roundw
          case rel => exact ⟨k + 1, by omega, rfl, hy.out⟩
          case measure => simp; omega
        · have hn := Lib.hid (hno.out (by rw [hgc.out]; simp; omega))
          obtain ⟨h1, h2⟩ := h
          have q1 : (x : Int) < 48 := by omega
          have q2 : ((x : Int) != 45) = true := by simp; omega
          have q3 : (x : Int) < 97 := by omega
          go_wp2_with fail
          go_ret
          exact ⟨by rw [hn.out]; rfl, hF.out _⟩
        · have hy := Lib.hid (hstep.out (by rw [hgc.out]; simp [h]))
          subst h
          go_wp2_with fail
          go_roundw
          case rel => exact ⟨k + 1, by omega, rfl, hy.out⟩
          case measure => simp; omega
        · have hy := Lib.hid (hstep.out (by rw [hgc.out]; simp [h.1, h.2]))
          obtain ⟨h1, h2⟩ := h
          have q1 : ¬ (x : Int) < 48 := by omega
          have q2 : ¬ (57 : Int) < (x : Int) := by omega
          have q3 : (x : Int) < 97 := by omega
          go_wp2_with fail
          go_roundw
          case rel => exact ⟨k + 1, by omega, rfl, hy.out⟩
          case measure => simp; omega
        · have hn := Lib.hid (hno.out (by rw [hgc.out]; simp; omega))
          obtain ⟨h1, h2⟩ := h
          have q1 : ¬ (x : Int) < 48 := by omega
          have q2 : (57 : Int) < (x : Int) := by omega
          have q3 : (x : Int) < 97 := by omega
          have q4 : ((x : Int) != 45) = true := by simp; omega
          go_wp2_with fail
          go_ret
          exact ⟨by rw [hn.out]; rfl, hF.out _⟩
        · have hn := Lib.hid (hno.out (by rw [hgc.out]; simp; omega))
          have q1 : ¬ (x : Int) < 48 := by omega
          have q2 : (57 : Int) < (x : Int) := by omega
          have q3 : ¬ (x : Int) < 97 := by omega
          have q4 : ((x : Int) != 45) = true := by simp; omega
          have q5 : (122 : Int) < (x : Int) := by omega
          go_wp2_with fail
          go_ret
          exact ⟨by rw [hn.out]; rfl, hF.out _⟩
      · obtain ⟨hr1, hr2⟩ := decode_high B k hp (by omega)
        obtain ⟨y, hy⟩ : ∃ y, (Utf8.decode B k).1 = y := ⟨_, rfl⟩
        obtain ⟨z, hz⟩ : ∃ z, (Utf8.decode B k).2 = z := ⟨_, rfl⟩
        have hyl := decode_le B k
        rw [hy, hz] at hnx
        rw [hy] at hr1 hyl
        have hn := Lib.hid (hno.out (by rw [hgc.out]; simp; omega))
        have q1 : ¬ (y : Int) < 48 := by omega
        have q2 : (57 : Int) < (y : Int) := by omega
        have q3 : ¬ (y : Int) < 97 := by omega
        have q4 : ((y : Int) != 45) = true := by simp; omega
        have q5 : (122 : Int) < (y : Int) := by omega
        clear hy hz hc hx hr2 ha
        go_wp2_with fail
        go_ret
        exact ⟨by rw [hn.out]; rfl, hF.out _⟩
    · obtain rfl : k = B.size := by omega
      have hnx : ∀ ty, (Instr.next (.pointer (some ⟨w.heap.size, 0, none⟩)) true ty).run Tryz.prog (w.iter B B.size) = _ := fun ty => run_next_end w B B.size ty hp
      have hF : Hid (∀ p, Fr (fun _ => False) w (w.iter B p)) := Lib.hid (fun p => (Fr.refl _ w).alloc _)
      have hall : Hid (s.all goodC = true) := Lib.hid (List.all_eq_true.2 (fun c hc => by
        obtain ⟨j, hj, rfl⟩ := List.getElem_of_mem hc
        exact HA.out j hj (by rw [HSZ.out]; exact hj)))
      have hGE : Hid (G = (decide (0 < B.size) && decide (B.size ≤ 16))) := Lib.hid (by rw [← HG.out, HSZ.out]; simp [goodB, hall.out])
      have hemp : Hid (B.toList.isEmpty = decide (B.size = 0)) := Lib.hid (by
        rw [← HBB.out]
        cases s <;> simp [ByteArray.size])
      clear hp
      by_cases h0 : B.size = 0
      · have he : B.toList.isEmpty = true := by rw [hemp.out]; simp [h0]
        have hg : Hid (G = false) := Lib.hid (by rw [hGE.out]; simp [h0])
        clear h0
        go_wp2_with fail
        go_ret
        exact ⟨by rw [hg.out]; rfl, hF.out _⟩
      · have he : B.toList.isEmpty = false := by rw [hemp.out]; simp [h0]
        by_cases h16 : B.size ≤ 16
        · have hg : Hid (G = true) := Lib.hid (by rw [hGE.out]; simp; omega)
          have hI : (B.size : Int) ≤ 16 := by omega
          clear h0
          go_wp2_with fail
          go_ret
          exact ⟨by rw [hg.out]; rfl, hF.out _⟩
        · have hg : Hid (G = false) := Lib.hid (by rw [hGE.out]; simp; omega)
          have hI : ¬ (B.size : Int) ≤ 16 := by omega
          clear h0
          go_wp2_with fail
          go_ret
          exact ⟨by rw [hg.out]; rfl, hF.out _⟩
end Go.Proofs.YtogphlnakdnchaaGreat

namespace Go.Proofs.YtogphlnakdnchaaGreat
open Go.ChangeShapes Go.WideShapes Go.ChangeAt Go.RowKit
theorem own : ownKnob Tryz.prog.godebug = none := by kernel_rfl
theorem laidOut : laidOutB Tryz.prog = true := by kernel_rfl
section
variable {H : Type} {enc : TypeId × Value → H} {P : Program}
theorem trodAll_below {W W' : World} (hl : laidOutB P = true) (hb : Below W.heap.size W W') : ∀ {ts : List TypeId} {vs : List Value} {ds : List (DataW H)} {ps : List MemPlace} {sp : Nat → Bool},
    (∀ t ∈ ts, (P.readableRec t && decide (t < P.types.size)) = true) → DataW.TrodAll enc P W 0 (fun _ => true) true ts vs ds ps → (∀ p ∈ ps, p.block < W.heap.size) → (∀ p ∈ ps, sp p.block = true) →
    DataW.TrodAll enc P W' 0 sp true ts vs ds ps
  | [], vs, ds, ps, sp, _, h, _, _ => by
    cases vs <;> cases ds <;> exact h
  | t :: ts, vs, ds, ps, sp, hr, h, hlt, hsp => by
    obtain ⟨v, vs', d, ds', p, q, rfl, rfl, rfl, h1, h2⟩ := trodAll_cons h
    have ht := hr t (by simp)
    simp only [Bool.and_eq_true, decide_eq_true_eq] at ht
    exact ⟨p, q, WideElems.Trod_stays hl ht.1 ht.2 h1 (fun x hx => hb.same (hlt x (by simp [hx]))) (fun x hx => hsp x (by simp [hx])),
      trodAll_below hl hb (fun t ht => hr t (by simp [ht])) h2 (fun x hx => hlt x (by simp [hx])) (fun x hx => hsp x (by simp [hx])), rfl⟩
/-- The row's last step for a law, whatever its parameters. -/
theorem law_post {f : Func} {s : ChangeSpec} {W W' : World} {args : Array Value} {ds gs : List (DataW H)} {before : List MemPlace} {tb : TypeId}
    (hl : laidOutB P = true) (hread : (f.params.toList.all fun t => P.readableRec t && decide (t < P.types.size)) = true) (hr : f.resultTypes = #[tb]) (htb : P.underlying tb = some .bool)
    (hW : DataW.Whole enc P f.params.toList s.vars false W args.toList ds gs before) (hvars : s.vars = []) (hfn : s.fn H ds = { results := [.lit (.bool true)], args := ds })
    (hb : Below W.heap.size W W') : s.post enc P f false true false false W args (.bool true) W' := by
  have hlt : ∀ p ∈ before, p.block < W.heap.size := fun p hp => hW.lt p hp
  have hW' := hW
  obtain ⟨p, q, hA, hV, he, hz, hn⟩ := hW
  rw [hvars] at hV
  obtain ⟨rfl, rfl⟩ := trodVars_none hV
  rw [List.append_nil] at he
  subst he
  have e1 : s.fn H (ds ++ []) = { results := [.lit (.bool true)], args := ds } := by rw [List.append_nil]; exact hfn
  refine ⟨ds, [], before, [], before, [], hW', ?_, ?_, ?_, World.keptBut_mono (fun x hx => ⟨hx, .inr (.inl hx)⟩) (hb.frame (· ∈ before)), fun h => by cases h⟩
  · rw [e1, hr]
    exact trodAll_cons_mk (shut_bool htb true) trodAll_mk0
  · rw [e1]
    exact trodAll_below hl hb (List.all_eq_true.1 hread) hA hlt (fun x hx => by simpa using hlt x hx)
  · rw [e1, hvars]
    exact rfl
end
end Go.Proofs.YtogphlnakdnchaaGreat

namespace Go.Proofs.YtogphlnakdnchaaGreat
open Go.Joins Go.ChangeShapes Go.WideShapes Go.RowKit Go.Deep
section
variable {H : Type} {enc : TypeId × Value → H} {P : Program} {w : World} {base : Nat} {spare : Nat → Bool} {held : Bool}
/-- A slice of structs of k ints: its cells, row by row. -/
def SlI (w : World) (v : Value) (k : Nat) (L : List (List Int)) : Prop :=
  (v = .slice none 0 0 ∧ L = []) ∨ ∃ (a : Addr) (cap : Nat), v = .slice (some a) L.length cap ∧ L.length ≤ cap ∧ cap ≤ maxLen ∧
    ∀ i r, L[i]? = some r → r.length = k ∧ (∀ x ∈ r, okI x) ∧ ∀ (j : Nat) (x : Int), r[j]? = some x → w.cell? (a.add (i * k + j)) = some (.int .i64 x)
theorem SlI.len {v : Value} {k : Nat} {L : List (List Int)} (h : SlI w v k L) : L.length ≤ maxLen ∧ ∃ a c, v = .slice a L.length c := by
  rcases h with ⟨rfl, rfl⟩ | ⟨a, cap, rfl, h1, h2, -⟩
  · exact ⟨Nat.zero_le _, _, _, rfl⟩
  · exact ⟨by omega, _, _, rfl⟩
theorem add_field (a : Addr) (n j : Nat) : a.add (n + (j + 1)) = ⟨(a.add n).block, (a.add n).off + (j + 1), none⟩ := by
  rw [← Go.Deep.add_add]; rfl
theorem SlI.some {a0 : Option Addr} {n c k i : Nat} {L : List (List Int)} {r : List Int} (h : SlI w (.slice a0 n c) k L) (hr : L[i]? = .some r) : ∃ a, a0 = .some a := by
  rcases h with ⟨_, rfl⟩ | ⟨a, cap, e, _⟩
  · simp at hr
  · injection e with e1 _ _
    exact ⟨a, e1⟩
theorem SlI.row {a : Addr} {n c k i : Nat} {L : List (List Int)} {r : List Int} (h : SlI w (.slice (.some a) n c) k L) (hr : L[i]? = .some r) : r.length = k ∧ (∀ x ∈ r, okI x) ∧
    (∀ x, r[0]? = .some x → w.cell? (a.add (i * k)) = .some (.int .i64 x)) ∧ ∀ (j : Nat) (x : Int), r[j + 1]? = .some x → w.cell? ⟨(a.add (i * k)).block, (a.add (i * k)).off + (j + 1), none⟩ = .some (.int .i64 x) := by
  rcases h with ⟨_, rfl⟩ | ⟨a', cap, e, _, _, h3⟩
  · simp at hr
  · injection e with e1 _ _
    injection e1 with e1
    subst e1
    obtain ⟨g1, g2, g3⟩ := h3 i r hr
    exact ⟨g1, g2, fun x hx => g3 0 x hx, fun j x hx => by rw [← add_field]; exact g3 (j + 1) x hx⟩
theorem SlI.below {w' : World} {v : Value} {k : Nat} {L : List (List Int)} (h : SlI w v k L) (hk : 0 < k) (hb : Below w.heap.size w w') : SlI w' v k L := by
  rcases h with ⟨rfl, rfl⟩ | ⟨a, cap, rfl, h1, h2, h3⟩
  · exact .inl ⟨rfl, rfl⟩
  · refine .inr ⟨a, cap, rfl, h1, h2, fun i r hr => ⟨(h3 i r hr).1, (h3 i r hr).2.1, fun j x hx => ?_⟩⟩
    have hc := (h3 i r hr).2.2 j x hx
    have hlt : (a.add (i * k + j)).block < w.heap.size := by
      refine Nat.lt_of_not_le fun hle => ?_
      simp [World.cell?, Array.getElem?_eq_none hle] at hc
    simp only [World.cell?, hb.block _ hlt] at hc ⊢
    exact hc
end
end Go.Proofs.YtogphlnakdnchaaGreat

namespace Go.Proofs.YtogphlnakdnchaaGreat
open Go.ChangeShapes Go.WideShapes Go.RowKit Go.Deep
/-- A type's leaves: structs and arrays laid flat. -/
def leaves (P : Program) : Nat → TypeId → List TypeId
  | 0, t => [t]
  | n + 1, t => match P.underlying t with
    | some (.struct fs) => fs.toList.flatMap fun f => leaves P n f.type
    | some (.array m e) => (List.range m).flatMap fun _ => leaves P n e
    | _ => [t]
def offsOk (P : Program) (n : Nat) : List Field → Nat → Bool
  | [], _ => true
  | f :: r, off => f.offset == off && P.cellsOf f.type == (leaves P n f.type).length && offsOk P n r (off + (leaves P n f.type).length)
def flatOk (P : Program) : Nat → TypeId → Bool
  | 0, t => P.cellsOf t == 1
  | n + 1, t => P.cellsOf t == (leaves P (n + 1) t).length && match P.underlying t with
    | some (.struct fs) => offsOk P n fs.toList 0 && fs.toList.all fun f => flatOk P n f.type
    | some (.array _ e) => P.cellsOf e == (leaves P n e).length && flatOk P n e
    | _ => true
section
variable {H : Type} {enc : TypeId × Value → H} {P : Program} {w : World} {base : Nat} {spare : Nat → Bool} {held : Bool}
/-- The leaves lie in these cells. -/
def Leafs (enc : TypeId × Value → H) (P : Program) (w : World) (base : Nat) (spare : Nat → Bool) (held : Bool) (ts : List TypeId) (cs : List Value) : Prop :=
  ∀ (j : Nat) (t : TypeId), ts[j]? = some t → ∃ (v : Value) (n : Nat) (y : DataW H × List MemPlace), cs[j]? = some v ∧ DataW.trod enc P w base spare held n t [v] = some y
theorem Leafs.nil {cs : List Value} : Leafs enc P w base spare held [] cs := fun j t h => by simp at h
theorem Leafs.append {ts us : List TypeId} {cs : List Value} (h : Leafs enc P w base spare held ts (cs.take ts.length)) (h' : Leafs enc P w base spare held us (cs.drop ts.length)) : Leafs enc P w base spare held (ts ++ us) cs := by
  intro j t hj
  by_cases hl : j < ts.length
  · rw [List.getElem?_append_left hl] at hj
    obtain ⟨v, n, y, h1, h2⟩ := h j t hj
    rw [List.getElem?_take, if_pos hl] at h1
    exact ⟨v, n, y, h1, h2⟩
  · rw [List.getElem?_append_right (by omega)] at hj
    obtain ⟨v, n, y, h1, h2⟩ := h' _ t hj
    rw [List.getElem?_drop, show ts.length + (j - ts.length) = j by omega] at h1
    exact ⟨v, n, y, h1, h2⟩
theorem leafs_fields {n : Nat} : ∀ {fs : List Field} {off : Nat} {cs : List Value}, offsOk P n fs off = true → (∀ f ∈ fs, Leafs enc P w base spare held (leaves P n f.type) ((cs.drop f.offset).take (P.cellsOf f.type))) →
    Leafs enc P w base spare held (fs.flatMap fun f => leaves P n f.type) (cs.drop off)
  | [], _, _, _, _ => Leafs.nil
  | f :: r, off, cs, h, hf => by
    simp only [offsOk, Bool.and_eq_true, beq_iff_eq] at h
    obtain ⟨⟨h1, h2⟩, h3⟩ := h
    simp only [List.flatMap_cons]
    refine Leafs.append ?_ ?_
    · have := hf f (by simp)
      rw [h1, h2] at this
      exact this
    · rw [List.drop_drop]
      exact leafs_fields h3 (fun g hg => hf g (by simp [hg]))
theorem leafs_array {n : Nat} {e : TypeId} (he : P.cellsOf e = (leaves P n e).length) : ∀ {m k : Nat} {cs : List Value}, (∀ i, i < m → Leafs enc P w base spare held (leaves P n e) ((cs.drop ((k + i) * P.cellsOf e)).take (P.cellsOf e))) →
    Leafs enc P w base spare held ((List.range m).flatMap fun _ => leaves P n e) (cs.drop (k * P.cellsOf e))
  | 0, _, _, _ => Leafs.nil
  | m + 1, k, cs, hf => by
    rw [List.range_succ_eq_map, List.flatMap_cons, List.flatMap_map]
    refine Leafs.append ?_ ?_
    · have := hf 0 (by omega)
      rw [Nat.add_zero, he] at this
      rw [he]; exact this
    · rw [List.drop_drop, ← he]
      have := leafs_array he (m := m) (k := k + 1) (cs := cs) (fun i hi => by have := hf (i + 1) (by omega); rw [show k + 1 + i = k + (i + 1) by omega]; exact this)
      rw [show (k + 1) * P.cellsOf e = k * P.cellsOf e + P.cellsOf e by rw [Nat.succ_mul]] at this
      exact this
theorem flat_len {α : Type} (l : List α) : ∀ m : Nat, ((List.range m).flatMap fun _ => l).length = m * l.length
  | 0 => by simp
  | m + 1 => by rw [List.range_succ, List.flatMap_append, List.length_append, flat_len l m, Nat.succ_mul]; simp
theorem leafs_one {t : TypeId} {fuel : Nat} {cs : List Value} {x : DataW H × List MemPlace} (hl : cs.length = 1) (h : DataW.trod enc P w base spare held fuel t cs = some x) : Leafs enc P w base spare held [t] cs := by
  intro j t' hj
  match j, hj with
  | 0, hj =>
    cases hj
    match cs, hl with
    | [v], _ => exact ⟨v, fuel, x, rfl, h⟩
/-- WHATEVER IS READ IS READ LEAF BY LEAF. -/
theorem leafs_of : ∀ {n : Nat} {t : TypeId} {fuel : Nat} {cs : List Value} {x : DataW H × List MemPlace}, flatOk P n t = true → cs.length = P.cellsOf t → DataW.trod enc P w base spare held fuel t cs = some x →
    Leafs enc P w base spare held (leaves P n t) cs
  | 0, t, fuel, cs, x, hok, hl, h => by
    simp only [flatOk, beq_iff_eq] at hok
    exact leafs_one (by rw [hl, hok]) h
  | n + 1, t, fuel, cs, x, hok, hl, h => by
    simp only [flatOk, Bool.and_eq_true, beq_iff_eq] at hok
    obtain ⟨hc, hok⟩ := hok
    unfold leaves at hc ⊢
    cases hu : P.underlying t with
    | none => 
      rw [hu] at hc
      exact leafs_one (by rw [hl, hc]; rfl) h
    | some u =>
      rw [hu] at hc hok
      cases u with
      | struct fs =>
        simp only [Bool.and_eq_true] at hok
        obtain ⟨xs, m, _, _, hlen, hxl, hf⟩ := DataW.trod_struct hu h
        have := leafs_fields (enc := enc) (w := w) (base := base) (spare := spare) (held := held) (cs := cs) hok.1 (fun f hfm => by
          obtain ⟨i, hi, hi2⟩ := List.getElem_of_mem hfm
          have h1 := hf i f (by simp at hi; rw [Array.getElem?_eq_getElem hi]; simpa using hi2)
          have hi' : i < xs.length := by simp at hi; omega
          rw [List.getElem?_eq_getElem hi'] at h1
          refine leafs_of (n := n) (List.all_eq_true.1 hok.2 f hfm) ?_ h1
          have hsz : ∀ (l : List Field) (off : Nat), offsOk P n l off = true → ∀ g ∈ l, off ≤ g.offset ∧ g.offset + P.cellsOf g.type ≤ off + (l.flatMap fun f => leaves P n f.type).length := by
            intro l
            induction l with
            | nil => intro _ _ g hg; cases hg
            | cons a r ih =>
              intro off ho g hg
              simp only [offsOk, Bool.and_eq_true, beq_iff_eq] at ho
              simp only [List.flatMap_cons, List.length_append]
              rcases List.mem_cons.1 hg with rfl | hg
              · omega
              · have := ih _ ho.2 g hg
                omega
          have := hsz _ _ hok.1 f hfm
          simp only at hc
          rw [List.length_take, List.length_drop]
          omega)
        simpa using this
      | array m e =>
        simp only [Bool.and_eq_true, beq_iff_eq] at hok
        obtain ⟨xs, k, _, _, hlen, hxl, hf⟩ := DataW.trod_array hu h
        have := leafs_array (enc := enc) (w := w) (base := base) (spare := spare) (held := held) (cs := cs) (m := m) (k := 0) hok.1 (fun i hi => by
          have h1 := hf i hi
          rw [List.getElem?_eq_getElem (by omega)] at h1
          rw [Nat.zero_add]
          refine leafs_of (n := n) hok.2 ?_ h1
          rw [List.length_take, List.length_drop]
          have hcc : cs.length = m * P.cellsOf e := by
            rw [hl, hc, hok.1]
            exact flat_len _ _
          have : (i + 1) * P.cellsOf e ≤ m * P.cellsOf e := Nat.mul_le_mul_right _ hi
          rw [Nat.succ_mul] at this
          omega)
        simpa using this
      | _ => exact leafs_one (by rw [hl, hc]; rfl) h
/-- What a leaf is. -/
theorem leaf_int {t : TypeId} {k : IntKind} {n : Nat} {v : Value} {y : DataW H × List MemPlace} (ht : P.underlying t = some (.int k)) (h : DataW.trod enc P w base spare held n t [v] = some y) : ∃ x, v = .int k x ∧ (Lit.int k x).wf = true := by
  obtain ⟨x, e, _, hw⟩ := DataW.trod_int ht h
  injection e with e _
  exact ⟨x, e, hw⟩
theorem leaf_i64 {t : TypeId} {n : Nat} {v : Value} {y : DataW H × List MemPlace} (ht : P.underlying t = some (.int .i64)) (h : DataW.trod enc P w base spare held n t [v] = some y) : ∃ x, v = .int .i64 x ∧ okI x := by
  obtain ⟨x, e, hw⟩ := leaf_int ht h
  exact ⟨x, e, wf_okI.1 hw⟩
/-- A slice of whatever: its elements' leaves lie in cells. -/
def Sl (enc : TypeId × Value → H) (P : Program) (w : World) (base : Nat) (spare : Nat → Bool) (held : Bool) (ts : List TypeId) (v : Value) (n : Nat) : Prop :=
  n ≤ maxLen ∧ ((v = .slice none 0 0 ∧ n = 0) ∨ ∃ (a : Addr) (cap : Nat), v = .slice (some a) n cap ∧ n ≤ cap ∧ base ≤ a.block ∧ ∀ i, i < n → ∀ (j : Nat) (t : TypeId), ts[j]? = some t →
    ∃ (u : Value) (m : Nat) (y : DataW H × List MemPlace), w.cell? (a.add (i * ts.length + j)) = some u ∧ DataW.trod enc P w base spare held m t [u] = some y)
theorem leaf_slice {t e : TypeId} {d n : Nat} {v : Value} {y : DataW H × List MemPlace} (ht : P.underlying t = some (.slice e)) (hok : flatOk P d e = true) (hc : P.cellsOf e = (leaves P d e).length) (h : DataW.trod enc P w base spare held n t [v] = some y) :
    ∃ len, Sl enc P w base spare held (leaves P d e) v len := by
  rcases open_slice ht h with ⟨h0, _⟩ | ⟨a, len, cap, m, k, D, Pl, hcs, hb, hl, hm, hmm, _, hi⟩
  · injection h0 with h0 _
    exact ⟨0, Nat.zero_le _, .inl ⟨h0, rfl⟩⟩
  · injection hcs with hcs _
    refine ⟨len, by omega, .inr ⟨a, cap, hcs, hl, hb, fun i hil j tj hj => ?_⟩⟩
    have hlm : len ≤ m := by rw [hmm]; split <;> omega
    obtain ⟨cs', hcells, htr⟩ := hi i (by omega)
    obtain ⟨_, hlen, hcell⟩ := World.cells?_some hcells
    obtain ⟨u, m', y', h1, h2⟩ := leafs_of hok hlen htr j tj hj
    refine ⟨u, m', y', ?_, h2⟩
    have hjl : j < P.cellsOf e := by rw [hc]; exact (List.getElem?_eq_some_iff.1 hj).1
    rw [← hc, ← Go.Deep.add_add, hcell j hjl, h1]
theorem Sl.form {ts : List TypeId} {v : Value} {n : Nat} (h : Sl enc P w base spare held ts v n) : n ≤ maxLen ∧ ∃ a c, v = .slice a n c := by
  rcases h with ⟨h0, ⟨rfl, rfl⟩ | ⟨a, cap, rfl, -⟩⟩
  · exact ⟨h0, _, _, rfl⟩
  · exact ⟨h0, _, _, rfl⟩
end
end Go.Proofs.YtogphlnakdnchaaGreat

namespace Go.Proofs.YtogphlnakdnchaaGreat
open Go.ChangeShapes Go.WideShapes Go.RowKit Go.Maps
section
variable {H : Type} {enc : TypeId × Value → H} {w : World} {base : Nat} {spare : Nat → Bool} {held : Bool}
theorem leaf_str {P : Program} {t : TypeId} {n : Nat} {v : Value} {y : DataW H × List MemPlace} (ht : P.underlying t = some .string) (h : DataW.trod enc P w base spare held n t [v] = some y) : ∃ s : Str, v = vS s ∧ okS s := by
  obtain ⟨s, e, _, hs⟩ := DataW.trod_string ht h
  injection e with e _
  refine ⟨s.data.toList, e, ?_⟩
  unfold okS
  exact hs
set_option maxRecDepth 100000 in
theorem leaf_items {n : Nat} {v : Value} {y : DataW H × List MemPlace} (h : DataW.trod enc Tryz.prog w base spare held n 27 [v] = some y) : ∃ L, Il w v L := by
  obtain ⟨len, hmax, hs⟩ := leaf_slice (d := 1) Tryz.underlying27 (by kernel_rfl) (by kernel_rfl) h
  have hmax : len ≤ 9223372036854775807 := hmax
  rcases hs with ⟨rfl, rfl⟩ | ⟨a, cap, rfl, hl, hb, hi⟩
  · exact ⟨[], by simp, none, 0, rfl, fun i p hp => by simp at hp⟩
  · have key : ∀ i, i < len → ∃ p : Str × Int, okS p.1 ∧ okI p.2 ∧ w.cell? (a.add (i * 2)) = some (vS p.1) ∧ w.cell? ⟨(a.add (i * 2)).block, (a.add (i * 2)).off + 1, none⟩ = some (.int .i64 p.2) := fun i hil => by
      obtain ⟨u, m, y, hc, ht⟩ := hi i hil 0 9 (by kernel_rfl)
      obtain ⟨u', m', y', hc', ht'⟩ := hi i hil 1 3 (by kernel_rfl)
      obtain ⟨s, rfl, hs⟩ := leaf_str Tryz.underlying9 ht
      obtain ⟨x, rfl, hx⟩ := leaf_i64 Tryz.underlying3 ht'
      have e : (leaves Tryz.prog 1 65).length = 2 := by kernel_rfl
      rw [e] at hc hc'
      exact ⟨(s, x), hs, hx, hc, by rw [← add_field]; exact hc'⟩
    obtain ⟨X, hX⟩ := Go.Deep.choose_lt key
    refine ⟨(List.range len).map X, (by rw [List.length_map, List.length_range]; exact hmax), some a, cap, (by rw [List.length_map, List.length_range]), fun i p hp => ?_⟩
    rw [List.getElem?_map] at hp
    obtain ⟨i', hi', rfl⟩ := Option.map_eq_some_iff.1 hp
    obtain ⟨hlt, e⟩ := List.getElem?_eq_some_iff.1 hi'
    rw [List.getElem_range] at e
    subst e
    obtain ⟨x0, x1, x2, x3⟩ := hX i (by simpa using hlt)
    exact ⟨x0, x1, a, rfl, x2, x3⟩
end
end Go.Proofs.YtogphlnakdnchaaGreat

namespace Go.Proofs.YtogphlnakdnchaaGreat
open Go.ChangeShapes Go.WideShapes Go.RowKit Go.Deep
section
variable {H : Type} {enc : TypeId × Value → H} {P : Program} {w : World} {base : Nat} {spare : Nat → Bool} {held : Bool} {Z : Nat → Prop}
/-- The leaves lie in these cells; their weights meet Z. -/
def LeafsZ (Z : Nat → Prop) (enc : TypeId × Value → H) (P : Program) (w : World) (base : Nat) (spare : Nat → Bool) (held : Bool) (ts : List TypeId) (cs : List Value) : Prop :=
  ∀ (j : Nat) (t : TypeId), ts[j]? = some t → ∃ (v : Value) (n : Nat) (y : DataW H × List MemPlace), cs[j]? = some v ∧ DataW.trod enc P w base spare held n t [v] = some y ∧ ∀ m ∈ y.1.weights P t, Z m
theorem LeafsZ.nil {cs : List Value} : LeafsZ Z enc P w base spare held [] cs := fun j t h => by simp at h
theorem LeafsZ.append {ts us : List TypeId} {cs : List Value} (h : LeafsZ Z enc P w base spare held ts (cs.take ts.length)) (h' : LeafsZ Z enc P w base spare held us (cs.drop ts.length)) : LeafsZ Z enc P w base spare held (ts ++ us) cs := by
  intro j t hj
  by_cases hl : j < ts.length
  · rw [List.getElem?_append_left hl] at hj
    obtain ⟨v, n, y, h1, h2⟩ := h j t hj
    rw [List.getElem?_take, if_pos hl] at h1
    exact ⟨v, n, y, h1, h2⟩
  · rw [List.getElem?_append_right (by omega)] at hj
    obtain ⟨v, n, y, h1, h2⟩ := h' _ t hj
    rw [List.getElem?_drop, show ts.length + (j - ts.length) = j by omega] at h1
    exact ⟨v, n, y, h1, h2⟩
end
end Go.Proofs.YtogphlnakdnchaaGreat

namespace Go.Proofs.YtogphlnakdnchaaGreat
open Go.ChangeShapes Go.WideShapes Go.RowKit Go.Maps
section
variable {α : Type} {k : Nat} {cs : α → Array Value} {ok : World → α → Prop}
/-- A slice of things of k cells: L. -/
def Sq (k : Nat) (cs : α → Array Value) (ok : World → α → Prop) (w : World) (v : Value) (L : List α) : Prop :=
  L.length ≤ maxLen ∧ ∃ a cap, v = .slice a L.length cap ∧ ∀ (i : Nat) (r : α), L[i]? = some r → ok w r ∧ ∃ ad, a = some ad ∧ ∀ (j : Nat) (u : Value), (cs r)[j]? = some u → w.cell? (ad.add (i * k + j)) = some u
/-- What holds of an element goes on to hold where nothing old is turned. -/
def Keeps (ok : World → α → Prop) : Prop := ∀ ⦃S : Nat → Prop⦄ ⦃w w' : World⦄ ⦃r : α⦄, ok w r → Fr S w w' → (∀ b, S b → w.heap.size ≤ b) → ok w' r
theorem Sq.fr {S : Nat → Prop} {w w' : World} {v : Value} {L : List α} (hk : Keeps ok) (h : Sq k cs ok w v L) (hf : Fr S w w') (hS : ∀ b, S b → w.heap.size ≤ b) : Sq k cs ok w' v L := by
  obtain ⟨h0, a, cap, e, h1⟩ := h
  refine ⟨h0, a, cap, e, fun i r hr => ?_⟩
  obtain ⟨ho, ad, e2, hc⟩ := h1 i r hr
  refine ⟨hk ho hf hS, ad, e2, fun j u hu => ?_⟩
  have := hc j u hu
  exact hf.cell this (fun hs => by have := hS _ hs; have := World.block_lt_of_cell? w _ ‹w.cell? _ = _›; omega)
theorem Sq.fr0 {w w' : World} {v : Value} {L : List α} (hk : Keeps ok) (h : Sq k cs ok w v L) (hf : Fr (fun _ => False) w w') : Sq k cs ok w' v L := h.fr hk hf (fun _ h => h.elim)
theorem Sq.sl {w : World} {v : Value} {L : List α} (h : Sq k cs ok w v L) : ∃ a c, v = .slice a L.length c := by
  obtain ⟨_, a, c, e, _⟩ := h
  exact ⟨a, c, e⟩
theorem Sq.len {w : World} {v : Value} {L : List α} (h : Sq k cs ok w v L) : (L.length : Int) ≤ 9223372036854775807 := by
  have := h.1
  unfold maxLen at this
  omega
theorem Sq.at_ {w : World} {a : Option Addr} {n c i : Nat} {L : List α} {r : α} (h : Sq k cs ok w (.slice a n c) L) (hr : L[i]? = some r) : ∃ ad, a = some ad ∧ ok w r ∧
    (∀ u, (cs r)[0]? = some u → w.cell? (ad.add (i * k)) = some u) ∧ ∀ (j : Nat) (u : Value), (cs r)[j + 1]? = some u → w.cell? ⟨(ad.add (i * k)).block, (ad.add (i * k)).off + (j + 1), none⟩ = some u := by
  obtain ⟨h0, a', cap, e, h1⟩ := h
  injection e with e1 _ _
  obtain ⟨ho, ad, e2, hc⟩ := h1 i r hr
  exact ⟨ad, e1.trans e2, ho, fun u hu => hc 0 u hu, fun j u hu => by rw [← add_field]; exact hc (j + 1) u hu⟩
theorem Sq.lt {w : World} {v : Value} {L : List α} (hcs : ∀ r, 0 < (cs r).size) (h : Sq k cs ok w v L) (hL : L ≠ []) : ∀ b, v.ownBlock = some b → b < w.heap.size := fun b hb => by
  obtain ⟨_, a, c, rfl, h1⟩ := h
  cases L with
  | nil => exact absurd rfl hL
  | cons p r =>
    obtain ⟨_, ad, rfl, hc⟩ := h1 0 p rfl
    have h2 := hc 0 _ (Array.getElem?_eq_getElem (hcs p))
    have := World.block_lt_of_cell? w _ h2
    have hb2 : (ad.add (0 * k + 0)).block = ad.block := by rw [Nat.zero_mul]; rfl
    rw [hb2] at this
    obtain rfl : ad.block = b := (by simpa [Value.ownBlock] using hb)
    exact this
theorem Sq.nil {w : World} {a : Option Addr} {c : Nat} : Sq k cs ok w (.slice a 0 c) [] := ⟨Nat.zero_le _, a, c, rfl, fun i r hr => by simp at hr⟩
/-- An element's cells in one list. -/
def flat (cs : α → Array Value) (L : List α) : List Value := L.flatMap fun r => (cs r).toList
theorem flat_len1 (hcs : ∀ r, (cs r).size = k) (L : List α) : (flat cs L).length = L.length * k := by
  induction L with
  | nil => simp [flat]
  | cons q r ih =>
    have e : flat cs (q :: r) = (cs q).toList ++ flat cs r := by simp [flat]
    rw [e, List.length_append, ih, List.length_cons, Nat.succ_mul, Array.length_toList, hcs]; omega
theorem flat_at (hcs : ∀ r, (cs r).size = k) : ∀ {L : List α} {i : Nat} {r : α}, L[i]? = some r → ∀ (j : Nat) (u : Value), (cs r)[j]? = some u → (flat cs L)[i * k + j]? = some u
  | q :: L, 0, r, h, j, u, hu => by
    cases h
    have e : flat cs (q :: L) = (cs q).toList ++ flat cs L := by simp [flat]
    have hj := (Array.getElem?_eq_some_iff.1 hu).1
    rw [e, Nat.zero_mul, Nat.zero_add, List.getElem?_append_left (by simpa using hj)]
    simpa using hu
  | q :: L, i + 1, r, h, j, u, hu => by
    have e : flat cs (q :: L) = (cs q).toList ++ flat cs L := by simp [flat]
    have ih := flat_at hcs (L := L) (i := i) (r := r) (by simpa using h) j u hu
    have hl : (cs q).toList.length = k := by rw [Array.length_toList, hcs]
    rw [e, List.getElem?_append_right (by rw [hl, Nat.succ_mul]; omega), hl, Nat.succ_mul, show i * k + k + j - k = i * k + j by omega]
    exact ih
/-- A row of the call's own reads as a slice. -/
theorem Sq.own {w : World} {base : Nat} {e : TypeId} {v : Value} {L : List α} (hcs : ∀ r, (cs r).size = k) (h : w.ownsRow base e k v L.length (flat cs L)) (hL : ∀ p ∈ L, ok w p) : Sq k cs ok w v L := by
  rcases h.2 with ⟨rfl, h0⟩ | ⟨g, cap, cur, rfl, hbase, hb, hn, hm, hs, ht⟩
  · have : L = [] := List.eq_nil_of_length_eq_zero h0
    subst this
    exact Sq.nil
  · refine ⟨by unfold maxLen at *; omega, some ⟨g, 0, none⟩, cap, rfl, fun i p hp => ⟨hL p (List.mem_of_getElem? hp), _, rfl, fun j u hu => ?_⟩⟩
    have hi := (List.getElem?_eq_some_iff.1 hp).1
    have hj := (Array.getElem?_eq_some_iff.1 hu).1
    rw [hcs] at hj
    have hlt : i * k + j < L.length * k := by
      have : (i + 1) * k ≤ L.length * k := Nat.mul_le_mul_right _ hi
      rw [Nat.succ_mul] at this
      omega
    have h2 := h.cellAt (g := g) (j := i * k + j) (by first | exact hlt | (rw [flat_len1 hcs]; exact hlt))
    have e0 : (⟨g, 0, none⟩ : Addr).add (i * k + j) = ⟨g, i * k + j, none⟩ := by unfold Addr.add; split <;> simp_all
    rw [e0, h2]
    exact flat_at hcs hp j u hu
end
section
variable {α : Type} {k : Nat} {cs : α → Array Value} {ok : World → α → Prop}
variable {H : Type} {enc : TypeId × Value → H} {P : Program} {w : World} {base : Nat} {spare : Nat → Bool} {held : Bool}
/-- An argument: a struct by value. -/
theorem open_one {t : TypeId} {d : Nat} {fs : Array Field} {r : Reach} {b0 : Nat} {v : Value} {x : DataW H} {p : List MemPlace} (ht : P.underlying t = some (.struct fs)) (hok : flatOk P d t = true) (hc : P.cellsOf t = k) (hl : ∀ r, (cs r).size = k)
    (hopen : ∀ (cell : Nat → Option Value), (∀ (j : Nat) (t' : TypeId), (leaves P d t)[j]? = some t' → ∃ (u : Value) (m : Nat) (y : DataW H × List MemPlace), cell j = some u ∧ DataW.trod enc P w base spare held m t' [u] = some y) → ∃ r : α, ok w r ∧ ∀ (j : Nat) (u : Value), (cs r)[j]? = some u → cell j = some u)
    (hv : Value.okWide P w r b0 t v) (h : DataW.Trod enc P w base spare held t v x p) : ∃ r : α, v = .agg (cs r) ∧ ok w r := by
  obtain ⟨fuel, h⟩ := h
  obtain ⟨cs', rfl, hsz⟩ := okWide_struct ht hv
  have hl2 := leafs_of (n := d) (t := t) hok (by rw [hc]; rw [hc] at hsz; simpa [Value.cells] using hsz) h
  obtain ⟨r, hr, hcell⟩ := hopen (fun j => (Value.agg cs').cells.toList[j]?) (fun j t ht => hl2 j t ht)
  refine ⟨r, ?_, hr⟩
  congr 1
  apply Array.ext
  · rw [hsz, hc, hl]
  · intro i h1 h2
    have := hcell i (cs r)[i] (by simp)
    simpa [Value.cells, h1] using this
end
end Go.Proofs.YtogphlnakdnchaaGreat

namespace Go.Proofs.YtogphlnakdnchaaGreat
open Go.ChangeShapes Go.WideShapes Go.RowKit Go.Maps
structure HOp where
  kd : Int
  o : Int
  l : Value
  its : Its
  d : Int
  g : Str
  n : Int
def hopC (r : HOp) : Array Value := #[.int .i64 r.kd, .int .i64 r.o, r.l, .int .i64 r.d, vS r.g, .int .i64 r.n]
def okHop (w : World) (r : HOp) : Prop := okI r.kd ∧ okI r.o ∧ Il w r.l r.its ∧ okI r.d ∧ okS r.g ∧ okI r.n
theorem hopSize (r : HOp) : (hopC r).size = 6 := rfl
section
variable {H : Type} {enc : TypeId × Value → H} {w : World} {base : Nat} {spare : Nat → Bool} {held : Bool}
set_option maxRecDepth 100000 in
theorem open_hop (cell : Nat → Option Value) (h : ∀ (j : Nat) (t : TypeId), (leaves Tryz.prog 3 29)[j]? = some t → ∃ (u : Value) (m : Nat) (y : DataW H × List MemPlace), cell j = some u ∧ DataW.trod enc Tryz.prog w base spare held m t [u] = some y) :
    ∃ r : HOp, okHop w r ∧ ∀ (j : Nat) (u : Value), (hopC r)[j]? = some u → cell j = some u := by
  obtain ⟨u0, m0, y0, c0, t0⟩ := h 0 3 (by kernel_rfl)
  obtain ⟨u1, m1, y1, c1, t1⟩ := h 1 3 (by kernel_rfl)
  obtain ⟨u2, m2, y2, c2, t2⟩ := h 2 27 (by kernel_rfl)
  obtain ⟨u3, m3, y3, c3, t3⟩ := h 3 3 (by kernel_rfl)
  obtain ⟨u4, m4, y4, c4, t4⟩ := h 4 9 (by kernel_rfl)
  obtain ⟨u5, m5, y5, c5, t5⟩ := h 5 3 (by kernel_rfl)
  obtain ⟨x0, rfl, k0⟩ := leaf_i64 Tryz.underlying3 t0
  obtain ⟨x1, rfl, k1⟩ := leaf_i64 Tryz.underlying3 t1
  obtain ⟨L, hL⟩ := leaf_items t2
  obtain ⟨x3, rfl, k3⟩ := leaf_i64 Tryz.underlying3 t3
  obtain ⟨s, rfl, k4⟩ := leaf_str Tryz.underlying9 t4
  obtain ⟨x5, rfl, k5⟩ := leaf_i64 Tryz.underlying3 t5
  refine ⟨⟨x0, x1, u2, L, x3, s, x5⟩, ⟨k0, k1, hL, k3, k4, k5⟩, fun j u hu => ?_⟩
  match j, hu with
  | 0, hu => cases hu; exact c0
  | 1, hu => cases hu; exact c1
  | 2, hu => cases hu; exact c2
  | 3, hu => cases hu; exact c3
  | 4, hu => cases hu; exact c4
  | 5, hu => cases hu; exact c5
  | j + 6, hu => simp [hopC] at hu
set_option maxRecDepth 100000 in
theorem open_hop1 {r : Reach} {b0 : Nat} {v : Value} {d : DataW H} {p : List MemPlace} (hv : Value.okWide Tryz.prog w r b0 29 v) (h : DataW.Trod enc Tryz.prog w base spare held 29 v d p) : ∃ r : HOp, v = .agg (hopC r) ∧ okHop w r :=
  open_one (cs := hopC) (ok := okHop) (k := 6) (d := 3) Tryz.underlying29 (by kernel_rfl) (by kernel_rfl) hopSize open_hop hv h
end
end Go.Proofs.YtogphlnakdnchaaGreat

namespace Go.Proofs.YtogphlnakdnchaaGreat
open Go.RowKit
/-- Bytes. -/
def Bs (w : World) (v : Value) (bs : List Int) : Prop := bs.length ≤ 9223372036854775807 ∧ ∃ (a : Option Addr) (c : Nat), v = .slice a bs.length c ∧ ∀ (i : Nat) (x : Int), bs[i]? = some x → 0 ≤ x ∧ x < 256 ∧ ∃ ad, a = some ad ∧ w.cell? (ad.add i) = some (.int .u8 x)
theorem Bs.nil (w : World) : Bs w (.slice none 0 0) [] := ⟨by simp, none, 0, rfl, fun i x h => by simp at h⟩
theorem Bs.fr {S : Nat → Prop} {w w' : World} {v : Value} {bs : List Int} (h : Bs w v bs) (hf : Fr S w w') (hS : ∀ b, S b → w.heap.size ≤ b) : Bs w' v bs := by
  obtain ⟨h0, a, c, e, h1⟩ := h
  refine ⟨h0, a, c, e, fun i x hx => ?_⟩
  obtain ⟨b1, b2, ad, e, hc⟩ := h1 i x hx
  exact ⟨b1, b2, ad, e, hf.cell hc (fun hs => by have := hS _ hs; have := World.block_lt_of_cell? w _ hc; omega)⟩
end Go.Proofs.YtogphlnakdnchaaGreat

namespace Go.Proofs.YtogphlnakdnchaaGreat
open Go.RowKit Go.Maps
theorem infoU8 : (Tryz.prog.info? 5).map (fun i => (i.zero, i.size, i.bytes)) = some (some (.int .u8 0), 1, 1) := by kernel_rfl
/-- k bytes of u, the highest first. -/
def beB (u : Nat) : Nat → List Int
  | 0 => []
  | k + 1 => ((u / 256 ^ k % 256 : Nat) : Int) :: beB u k
def nSz (u : Nat) : Nat := (Lib.bitLen u + 7) / 8
def numH (n : Int) : Int := if n < 0 then 144 else 128
def numU (n : Int) : Nat := if n < 0 then (-1 - n).toNat else n.toNat
/-- A number's cell. -/
def numB (n : Int) : List Int := if 0 ≤ n ∧ n < 128 then [n] else (numH n + nSz (numU n)) :: beB (numU n) (nSz (numU n))
theorem beB_len (u : Nat) : ∀ k, (beB u k).length = k
  | 0 => rfl
  | k + 1 => by simp [beB, beB_len u k]
/-- Bytes as values. -/
def u8s (l : List Int) : List Value := l.map (.int .u8)
/-- Bytes that lie in memory from block B on. -/
def Bn (B : Nat) (w : World) (v : Value) (bs : List Int) : Prop := Bs w v bs ∧ ∀ b, v.ownBlock = some b → B ≤ b
theorem beB_mem {u k : Nat} {x : Int} (h : x ∈ beB u k) : 0 ≤ x ∧ x < 256 := by
  induction k with
  | zero => cases h
  | succ k ih =>
    simp only [beB, List.mem_cons] at h
    rcases h with rfl | h
    · omega
    · exact ih h
theorem nSz_le {u : Nat} (h : u < 18446744073709551616) : nSz u ≤ 8 := by
  have := Lib.bitLen_le u 64 (by omega) h
  unfold nSz; omega
theorem numU_lt {n : Int} (h : okI n) : numU n < 9223372036854775808 := by unfold numU okI at *; split <;> omega
theorem numB_mem {n : Int} (h : okI n) {x : Int} (hx : x ∈ numB n) : 0 ≤ x ∧ x < 256 := by
  unfold numB at hx
  split at hx
  · simp at hx; omega
  · simp only [List.mem_cons] at hx
    rcases hx with rfl | hx
    · have := nSz_le (u := numU n) (by have := numU_lt h; omega)
      unfold numH; split <;> omega
    · exact beB_mem hx
theorem numB_len {n : Int} (h : okI n) : 1 ≤ (numB n).length ∧ (numB n).length ≤ 9 := by
  unfold numB
  split
  · simp
  · have := nSz_le (u := numU n) (by have := numU_lt h; omega)
    simp [beB_len]; omega
/-- A row of the call's own, read as bytes. -/
theorem Bs.own {w : World} {base : Nat} {v : Value} {bs : List Int} (h : w.ownsRow base 5 1 v bs.length (u8s bs)) (hb : ∀ x ∈ bs, 0 ≤ x ∧ x < 256) : Bn base w v bs := by
  rcases Nat.eq_zero_or_pos bs.length with h0 | h0
  · have : bs = [] := List.eq_nil_of_length_eq_zero h0
    subst this
    obtain ⟨hl, h1 | ⟨g, cap, cur, rfl, hbs, hh, hn, hm, hs, ht⟩⟩ := h
    · obtain ⟨rfl, -⟩ := h1
      exact ⟨Bs.nil w, fun b hb => by cases hb⟩
    · exact ⟨⟨by simp, _, cap, rfl, fun i x hx => by simp at hx⟩, fun b hb => by cases hb; exact hbs⟩
  · obtain ⟨g, cap, rfl, hg, hlt⟩ := h.form h0
    refine ⟨⟨?_, _, cap, rfl, fun i x hx => ?_⟩, fun b hb => by cases hb; exact hg⟩
    · obtain ⟨-, h1 | ⟨g', cap', cur, e, _, _, hn, hm, _, _⟩⟩ := h
      · omega
      · have hm : cap' ≤ 9223372036854775807 := hm
        omega
    · have hi := (List.getElem?_eq_some_iff.1 hx).1
      have hmem : x ∈ bs := List.mem_of_getElem? hx
      refine ⟨(hb x hmem).1, (hb x hmem).2, _, rfl, ?_⟩
      have := h.cellAt (g := g) (j := i) (by simpa using hi)
      rw [show (⟨g, 0, none⟩ : Addr).add i = ⟨g, i, none⟩ by simp [Addr.add]; omega, this]
      simp [u8s, hx]
end Go.Proofs.YtogphlnakdnchaaGreat

namespace Go.Proofs.YtogphlnakdnchaaGreat
open Go.RowKit Go.Maps
theorem beB_get (u : Nat) : ∀ {s k : Nat}, k < s → (beB u s)[k]? = some ((u / 256 ^ (s - 1 - k) % 256 : Nat) : Int)
  | 0, _, h => by omega
  | s + 1, 0, _ => by simp [beB]
  | s + 1, k + 1, h => by
    have := beB_get u (s := s) (k := k) (by omega)
    simp only [beB, List.getElem?_cons_succ]
    rw [this, show s + 1 - 1 - (k + 1) = s - 1 - k by omega]
theorem cClip (w : World) (a : Addr) (n c : Nat) (h : n ≤ c) (hc : c ≤ 9223372036854775807) : Calls Tryz.prog 115 #[.slice (some a) n c] w fun e w' => e = .returned (.slice (some a) n n) ∧ w = w' := by
  go_enter Tryz.func115, Tryz.ntmps115
  go_wp2
  go_ret
  exact ⟨rfl, rfl⟩
theorem pow256 (U m : Nat) : ((U : Int) / 2 ^ (8 * m)) % 256 = ((U / 256 ^ m % 256 : Nat) : Int) := by
  have : (2 : Int) ^ (8 * m) = ((256 ^ m : Nat) : Int) := by
    rw [Int.pow_mul]; simp
  rw [this]; simp
theorem own_cap {w : World} {base : Nat} {e : TypeId} {size n m cap : Nat} {a : Addr} {xs : List Value} (h : w.ownsRow base e size (.slice (some a) n cap) m xs) : n ≤ cap ∧ cap ≤ 9223372036854775807 := by
  rcases h.2 with ⟨h0, _⟩ | ⟨g, c, cur, e1, _, _, h1, h2, _⟩
  · cases h0
  · injection e1 with e2 e3 e4
    subst e3 e4
    exact ⟨h1, h2⟩
theorem Bn.clip {B : Nat} {w : World} {a : Option Addr} {n c c' : Nat} {bs : List Int} (h : Bn B w (.slice a n c) bs) : Bn B w (.slice a n c') bs := by
  obtain ⟨⟨h0, a', c1, e, h1⟩, h2⟩ := h
  injection e with e1 e2 e3
  subst e1 e2
  exact ⟨⟨h0, _, c', rfl, h1⟩, fun b hb => h2 b (by cases a <;> exact hb)⟩
theorem xorOnes (m : Nat) (h : m < 18446744073709551616) : 18446744073709551615 ^^^ m = 18446744073709551615 - m := by
  have h1 := congrArg BitVec.toNat (BitVec.allOnes_xor (x := BitVec.ofNat 64 m))
  rw [BitVec.toNat_xor, BitVec.toNat_not, BitVec.toNat_allOnes, BitVec.toNat_ofNat, Nat.mod_eq_of_lt (by simpa using h)] at h1
  simpa using h1
theorem notU64 {n : Int} (h0 : -9223372036854775808 ≤ n) (h1 : n < 0) : bits BinOp.xor IntKind.u64 IntKind.u64.max (IntKind.u64.wrap n) = ((-1 - n).toNat : Int) := by
  have e1 : IntKind.u64.max = ((18446744073709551615 : Nat) : Int) := by decide
  have e2 : IntKind.u64.wrap n = ((n + 18446744073709551616).toNat : Int) := by
    show n % 18446744073709551616 = _
    omega
  rw [e1, e2, u64_xor_nat _ _ (by omega) (by omega), xorOnes _ (by omega)]
  omega
set_option maxRecDepth 100000 in
set_option maxHeartbeats 2000000 in
theorem cNum (w : World) (n : Int) (hn : okI n) : Calls Tryz.prog 90 #[.int .i64 n] w fun e w' => ∃ v, e = .returned v ∧ Bn w.heap.size w' v (numB n) ∧ Below w.heap.size w w' := by
  obtain ⟨i0, hi', hz0, hz1, hz2⟩ := info_parts infoU8
  have HN := Lib.hid hn
  unfold okI at hn
  by_cases h : 0 ≤ n ∧ n < 128
  · obtain ⟨h0, h1⟩ := h
    have e : numB n = [n] := by unfold numB; rw [if_pos ⟨h0, h1⟩]
    rw [e]
    go_enter Tryz.func90, Tryz.ntmps90
    go_wp2
    go_ret
    exact ⟨_, rfl, Bs.own (w := w.alloc (.cells #[.int .u8 n] 5)) (base := w.heap.size) ⟨by simp [u8s], .inr ⟨_, _, _, rfl, Nat.le_refl _, heap_new _ _, by simp, by decide, by simp, by simp [u8s]⟩⟩ (fun x hx => by simp at hx; omega), (Below.refl _ _).alloc (Nat.le_refl _) _⟩
  · obtain ⟨U, hU⟩ : ∃ U, numU n = U := ⟨_, rfl⟩
    have hU1 := numU_lt HN.out
    have e : numB n = (numH n + nSz U) :: beB U (nSz U) := by unfold numB; rw [if_neg h, hU]
    rw [e]
    rw [hU] at hU1
    obtain ⟨s, hs⟩ : ∃ s, nSz U = s := ⟨_, rfl⟩
    rw [hs]
    have hs8 : s ≤ 8 := by rw [← hs]; exact nSz_le (by omega)
    have hLen := bLen64 (U : Int) w (by omega) (by omega)
    rw [show (U : Int).toNat = U from rfl] at hLen
    obtain ⟨bl, hbl⟩ : ∃ bl, Lib.bitLen U = bl := ⟨_, rfl⟩
    have hbs : (bl + 7) / 8 = s := by rw [← hs, ← hbl]; rfl
    rw [hbl] at hLen
    have hbl64 : bl ≤ 64 := by rw [← hbl]; exact Lib.bitLen_le U 64 (by omega) (by omega)
    have HL := Lib.hid hLen
    clear hLen
    rcases (by omega : n < 0 ∨ 128 ≤ n) with hneg | hpos
    · have hH : numH n = 144 := if_pos hneg
      have hX := notU64 hn.1 hneg
      have hUn : (-1 - n).toNat = U := by rw [← hU]; unfold numU; rw [if_pos hneg]
      rw [hUn] at hX
      rw [hH]
      clear hU hs hbl h e
      go_enter Tryz.func90, Tryz.ntmps90
      go_wp2_with fail
      refine HL.out.mono ?_
      rintro e w' ⟨rfl, hww⟩
      have hww := hww.symm
      subst hww
      go_wp2_with fail
      go_loopw [6, 7] (fun o i wr => ∃ k : Nat, k ≤ s ∧ i = .int .i64 ((s : Int) - 1 - k) ∧ wr.ownsRow w.heap.size 5 1 o (1 + k) (u8s ((144 + (s : Int)) :: (beB U s).take k)) ∧ Below w.heap.size w wr) (fun _ i _ => (intOf i + 1).toNat)
      case atStart =>
        refine ⟨0, by omega, val_int (by omega), ⟨by simp [u8s], .inr ⟨_, _, _, rfl, Nat.le_refl _, heap_new _ _, by simp, by decide, by simp, ?_⟩⟩, (Below.refl _ _).alloc (Nat.le_refl _) _⟩
        simp [u8s]; omega
      case round =>
        obtain ⟨k, hk, rfl, hown, hB⟩ := hrel
        by_cases hks : k < s
        · have HOW := Lib.hid hown; have HBB := Lib.hid hB
          have hBs := hB.size
          clear hown hB
          go_wp2_with (at_builtin; refine wpList_append_own_at _ rfl _ _ 48 rfl w.heap.size 5 i0 (.int .u8 0) 1 1 Tryz.underlying48 hi' hz0 hz1 hz2 rfl (by decide) _ (1 + k) _ rfl (HOW.out.alloc _) ⟨wr.heap.size, 0, none⟩ 1 1 [.int .u8 _] rfl rfl (cell_one_new _ _ _) (by simp [Value.oneCell']) (by unfold maxLen; omega) (by omega) (by simp; omega) ?_; intro v' w1 hown' hgrow _ _)
          go_roundw
          case rel =>
            refine ⟨k + 1, by omega, val_int (by omega), ?_, (HBB.out.alloc hBs _).grown hgrow (by simp; omega) (fun r hr => (HOW.out.lt r hr).1)⟩
            rw [List.take_add_one, beB_get U hks, ← pow256]
            rw [show 1 + (k + 1) = 1 + k + 1 by omega]
            simpa [u8s] using hown'
          case measure => simp [intOf]; omega
        · have hke : k = s := by omega
          subst hke
          obtain ⟨g, cap, rfl, hg, hlt⟩ := hown.form (by omega)
          have HOW := Lib.hid hown; have HBB := Lib.hid hB
          clear hown hB
          go_wp2_with fail
          refine (cClip wr _ _ _ (own_cap HOW.out).1 (own_cap HOW.out).2).mono ?_
          rintro e w3 ⟨rfl, rfl⟩
          go_wp2_with fail
          go_ret
          have hle : (beB U k).take k = beB U k := List.take_of_length_le (by rw [beB_len]; omega)
          have hown := HOW.out
          rw [hle] at hown
          have hl1 : ((144 + (k : Int)) :: beB U k).length = 1 + k := by rw [List.length_cons, beB_len, Nat.add_comm]
          refine ⟨_, rfl, (Bs.own (v := .slice (some ⟨g, 0, none⟩) (1 + k) cap) (bs := (144 + (k : Int)) :: beB U k) (by rw [hl1]; exact hown) (fun x hx => ?_)).clip, HBB.out⟩
          rcases List.mem_cons.1 hx with rfl | hx
          · omega
          · exact beB_mem hx
    · have hH : numH n = 128 := if_neg (by omega)
      have hUn : n = (U : Int) := by rw [← hU]; unfold numU; rw [if_neg (by omega)]; omega
      rw [hH]
      clear hU hs hbl h e HN
      subst hUn
      go_enter Tryz.func90, Tryz.ntmps90
      go_wp2_with fail
      refine HL.out.mono ?_
      rintro e w' ⟨rfl, hww⟩
      have hww := hww.symm
      subst hww
      go_wp2_with fail
      go_loopw [6, 7] (fun o i wr => ∃ k : Nat, k ≤ s ∧ i = .int .i64 ((s : Int) - 1 - k) ∧ wr.ownsRow w.heap.size 5 1 o (1 + k) (u8s ((128 + (s : Int)) :: (beB U s).take k)) ∧ Below w.heap.size w wr) (fun _ i _ => (intOf i + 1).toNat)
      case atStart =>
        refine ⟨0, by omega, val_int (by omega), ⟨by simp [u8s], .inr ⟨_, _, _, rfl, Nat.le_refl _, heap_new _ _, by simp, by decide, by simp, ?_⟩⟩, (Below.refl _ _).alloc (Nat.le_refl _) _⟩
        simp [u8s]; omega
      case round =>
        obtain ⟨k, hk, rfl, hown, hB⟩ := hrel
        by_cases hks : k < s
        · have HOW := Lib.hid hown; have HBB := Lib.hid hB
          have hBs := hB.size
          clear hown hB
          go_wp2_with (at_builtin; refine wpList_append_own_at _ rfl _ _ 48 rfl w.heap.size 5 i0 (.int .u8 0) 1 1 Tryz.underlying48 hi' hz0 hz1 hz2 rfl (by decide) _ (1 + k) _ rfl (HOW.out.alloc _) ⟨wr.heap.size, 0, none⟩ 1 1 [.int .u8 _] rfl rfl (cell_one_new _ _ _) (by simp [Value.oneCell']) (by unfold maxLen; omega) (by omega) (by simp; omega) ?_; intro v' w1 hown' hgrow _ _)
          go_roundw
          case rel =>
            refine ⟨k + 1, by omega, val_int (by omega), ?_, (HBB.out.alloc hBs _).grown hgrow (by simp; omega) (fun r hr => (HOW.out.lt r hr).1)⟩
            rw [List.take_add_one, beB_get U hks, ← pow256]
            rw [show 1 + (k + 1) = 1 + k + 1 by omega]
            simpa [u8s] using hown'
          case measure => simp [intOf]; omega
        · have hke : k = s := by omega
          subst hke
          obtain ⟨g, cap, rfl, hg, hlt⟩ := hown.form (by omega)
          have HOW := Lib.hid hown; have HBB := Lib.hid hB
          clear hown hB
          go_wp2_with fail
          refine (cClip wr _ _ _ (own_cap HOW.out).1 (own_cap HOW.out).2).mono ?_
          rintro e w3 ⟨rfl, rfl⟩
          go_wp2_with fail
          go_ret
          have hle : (beB U k).take k = beB U k := List.take_of_length_le (by rw [beB_len]; omega)
          have hown := HOW.out
          rw [hle] at hown
          have hl1 : ((128 + (k : Int)) :: beB U k).length = 1 + k := by rw [List.length_cons, beB_len, Nat.add_comm]
          refine ⟨_, rfl, (Bs.own (v := .slice (some ⟨g, 0, none⟩) (1 + k) cap) (bs := (128 + (k : Int)) :: beB U k) (by rw [hl1]; exact hown) (fun x hx => ?_)).clip, HBB.out⟩
          rcases List.mem_cons.1 hx with rfl | hx
          · omega
          · exact beB_mem hx
end Go.Proofs.YtogphlnakdnchaaGreat

namespace Go.Proofs.YtogphlnakdnchaaGreat
open Go.RowKit Go.Maps
theorem run_append_zeros {P : Program} (w : World) (t ty e ti : TypeId) (i : TypeInfo) (z : Value) (ht : P.underlying t = some (.slice e)) (hti : P.underlying ti = some (.int .i64)) (hi : P.info? e = some i) (hz : i.zero = some z) (hby : i.bytes = 1) (hsz : i.size = 1)
    (n : Nat) (h0 : 0 < n) (h63 : n ≤ 1099511627776) :
    (Builtin.append_ #[t, ti] ty #[.slice none 0 0, .int .i64 n]).run P w =
      .ok (.slice (some ⟨w.heap.size, 0, none⟩) n (grownCap w n 0 e)) (w.drew.alloc (.cells (Builtin.zeroCells z.cells n ++ Builtin.zeroCells z.cells (grownCap w n 0 e - n)) e)) := by
  have hn : n ≠ 0 := by omega
  have h63' : ¬ (9223372036854775807 < (n : Int)) := by omega
  have h48' : ¬ (281474976710656 < Builtin.nextslicecap n 0) := by rw [nextslicecap_zero h0]; omega
  have hw : IntKind.i64.wrap (n : Int) = n := by rw [IntKind.wrap_i64]; omega
  have hl : ¬ ((n : Int) < 0) := by omega
  have hl2 : ¬ (281474976710656 < (n : Int)) := by omega
  simp [Builtin.append_, run_underlying ht, run_underlying hti, sizeOf, typeInfo, zeroValue, hi, hz, hby, hsz, asInt, asIntOf, hw, hl, hl2, hn, h63', h48', Question.forced, run_firstCells_none, newRow, grownCap]
theorem wpList_append_zeros {P : Program} (w : World) {ops : Array Oper} {rest : List Oper} {o : Oper} {a : Act} {Q : Exit → Act → World → Prop} (hgd : o.guard = none) (s x : Operand) (t e ti : TypeId)
    (ho : o.op = .call { callee := .builtin .append, args := #[s, x], argTypes := #[t, ti] }) (i : TypeInfo) (z : Value) (ht : P.underlying t = some (.slice e)) (hti : P.underlying ti = some (.int .i64)) (hi : P.info? e = some i) (hz : i.zero = some z) (hby : i.bytes = 1) (hsz : i.size = 1)
    (n : Nat) (h0 : 0 < n) (h63 : n ≤ 1099511627776) (hs : a.eval s = .slice none 0 0) (hx : a.eval x = .int .i64 n)
    (h : wpList P ops Q rest (a.put o.dst (.slice (some ⟨w.heap.size, 0, none⟩) n (grownCap w n 0 e))) (w.drew.alloc (.cells (Builtin.zeroCells z.cells n ++ Builtin.zeroCells z.cells (grownCap w n 0 e - n)) e))) :
    wpList P ops Q (o :: rest) a w := by
  refine wpList_plain hgd fun K hK => ?_
  have hr := run_append_zeros (P := P) w t o.type e ti i z ht hti hi hz hby hsz n h0 h63
  unfold Oper.wp execOp
  simp only [ho, resolve, invoke, builtin, Sem.run_bind, Sem.run_pure, Result.andThen_ok, List.map_toArray, List.map_cons, List.map_nil, hs, hx, hr]
  exact hK _ _ h
theorem zeroCells_size (z : Array Value) (hz : z.size = 1) (n : Nat) : (Builtin.zeroCells z n).size = n := by simp [Builtin.zeroCells, hz]
set_option maxRecDepth 100000 in
theorem cGrow (w : World) (n : Nat) (hn : (n : Int) ≤ 1099511627776) : Calls Tryz.prog 125 #[.slice none 0 0, .int .i64 n] w fun e w' =>
    ∃ v, e = .returned v ∧ w'.ownsRow w.heap.size 5 1 v 0 [] ∧ Below w.heap.size w w' := by
  obtain ⟨i0, hi', hz0, hz1, hz2⟩ := info_parts infoU8
  by_cases h0 : n = 0
  · subst h0
    go_enter Tryz.func125, Tryz.ntmps125
    go_wp2
    go_ret
    exact ⟨_, rfl, World.ownsRow_nil _ _ _ _, Below.refl _ _⟩
  · have hpos : 0 < n := by omega
    have hcap := Lib.hid (grownCap_ge w n 0 5)
    have hcm := Lib.hid (grownCap_le_maxLen w n 0 5 (by unfold maxLen; omega))
    go_enter Tryz.func125, Tryz.ntmps125
    go_wp2_with (at_builtin; refine wpList_append_zeros _ rfl _ _ 48 5 3 rfl i0 (.int .u8 0) Tryz.underlying48 Tryz.underlying3 hi' hz0 hz2 hz1 n hpos (by omega) rfl rfl ?_)
    go_ret
    refine ⟨_, rfl, World.ownsRow_made (w := w.drew) _ _ (Nat.le_refl _) hcm.out ?_, (Below.refl _ w).drew.alloc (Nat.le_refl _) _⟩
    rw [Array.size_append, zeroCells_size _ rfl, zeroCells_size _ rfl]
    have := hcap.out
    omega
end Go.Proofs.YtogphlnakdnchaaGreat

namespace Go.Proofs.YtogphlnakdnchaaGreat
open Go.RowKit Go.Maps
def Parts (w : World) (v : Value) (L : List (Value × List Int)) : Prop := ∃ a c, v = .slice (some a) L.length c ∧ ∀ i p, L[i]? = some p → w.cell? (a.add i) = some p.1 ∧ Bs w p.1 p.2 ∧ ∃ ad n c, p.1 = .slice (some ad) n c
def catL (L : List (Value × List Int)) : List Int := L.flatMap (·.2)
theorem catL_take {L : List (Value × List Int)} {k : Nat} {p : Value × List Int} (h : L[k]? = some p) : catL (L.take (k + 1)) = catL (L.take k) ++ p.2 := by
  unfold catL
  rw [List.take_add_one, h]; simp
theorem catL_le (L : List (Value × List Int)) (k : Nat) : (catL (L.take k)).length ≤ (catL L).length := by
  have : catL L = catL (L.take k) ++ catL (L.drop k) := by
    unfold catL
    rw [← List.flatMap_append, List.take_append_drop]
  rw [this, List.length_append]; omega
theorem Parts.fr {S : Nat → Prop} {w w' : World} {v : Value} {L : List (Value × List Int)} (h : Parts w v L) (hf : Fr S w w') (hS : ∀ b, S b → w.heap.size ≤ b) : Parts w' v L := by
  obtain ⟨a, c, e, h1⟩ := h
  refine ⟨a, c, e, fun i p hp => ⟨?_, (h1 i p hp).2.1.fr hf hS, (h1 i p hp).2.2⟩⟩
  have hc := (h1 i p hp).1
  exact hf.cell hc (fun hs => by have := hS _ hs; have := World.block_lt_of_cell? w _ hc; omega)
set_option maxRecDepth 100000 in
set_option maxHeartbeats 1000000 in
theorem cConcat (w : World) (v : Value) (L : List (Value × List Int)) (h : Parts w v L) (hl : (L.length : Int) ≤ 1000) (hn : ((catL L).length : Int) ≤ 1099511627776) : Calls Tryz.prog 113 #[v] w fun e w' =>
    ∃ v', e = .returned v' ∧ w'.ownsRow w.heap.size 5 1 v' (catL L).length (u8s (catL L)) ∧ Below w.heap.size w w' := by
  obtain ⟨i0, hi', hz0, hz1, hz2⟩ := info_parts infoU8
  obtain ⟨a, c, rfl, -⟩ := id h
  have HP := Lib.hid h
  clear h
  obtain ⟨ln, hln⟩ : ∃ ln, L.length = ln := ⟨_, rfl⟩
  have HLN := Lib.hid hln
  rw [hln] at hl HP ⊢
  clear hln
  have hle := fun k => catL_le L k
  obtain ⟨tot, htot⟩ : ∃ t, (catL L).length = t := ⟨_, rfl⟩
  have HTOT := Lib.hid htot
  rw [htot] at hn hle ⊢
  have HLE := Lib.hid hle
  clear htot hle
  go_enter Tryz.func113, Tryz.ntmps113
  go_wp2
  go_loopw [3, 11] (fun z i wr => ∃ k : Nat, (k : Int) ≤ ln ∧ z = .int .i64 ((catL (L.take k)).length : Nat) ∧ i = .int .i64 k ∧ wr = w) (fun _ i _ => ln - (intOf i).toNat)
  case atStart => exact ⟨0, by omega, by simp [catL], rfl, rfl⟩
  case round =>
    obtain ⟨k, hk, rfl, rfl, rfl⟩ := hrel
    by_cases hkl : (k : Int) < ln
    · obtain ⟨p, hp⟩ : ∃ p, L[k]? = some p := ⟨L[k]'(by have := HLN.out; omega), List.getElem?_eq_getElem _⟩
      obtain ⟨a', c', e, h1⟩ := HP.out
      have hc := (h1 k p hp).1
      obtain ⟨hb1, ba, bc, hbe, -⟩ := id (h1 k p hp).2.1
      injection e with e1 e2 e3
      cases e1
      have e3 := e3.symm
      subst e3
      have HT := Lib.hid (congrArg List.length (catL_take hp))
      have HLE1 := HLE.out (k + 1)
      rw [HT.out, List.length_append] at HLE1
      rw [hbe] at hc
      obtain ⟨pl, hpl⟩ : ∃ n, p.2.length = n := ⟨_, rfl⟩
      rw [hpl] at hc HLE1 hb1
      obtain ⟨z, hz⟩ : ∃ z, (catL (L.take k)).length = z := ⟨_, rfl⟩
      rw [hz] at HLE1 ⊢
      have HZ := Lib.hid hz; have HPL := Lib.hid hpl
      clear h1 hp hz hpl e2 hbe
      go_wp2
      go_roundw
      case rel => exact ⟨k + 1, by omega, val_int (by rw [HT.out, List.length_append, HZ.out, HPL.out]; omega), by go_num, by trivial⟩
      case measure => simp [intOf]; omega
    · have hke : k = ln := by omega
      have hz : (catL (L.take k)).length = tot := by rw [List.take_of_length_le (by have := HLN.out; omega)]; exact HTOT.out
      rw [hz]
      subst hke
      clear hz
      go_wp2_with fail
      refine (cGrow _ _ hn).mono ?_
      rintro e w1 ⟨v1, rfl, hown, hB⟩
      have HOW := Lib.hid hown; have HBB := Lib.hid hB
      clear hown hB
      go_wp2_with fail
      obtain ⟨W0, rfl⟩ : ∃ W0 : World, W0 = wr := ⟨_, rfl⟩
      go_loopw [6, 27] (fun o i w2 => ∃ j : Nat, (j : Int) ≤ k ∧ i = .int .i64 j ∧ w2.ownsRow W0.heap.size 5 1 o (catL (L.take j)).length (u8s (catL (L.take j))) ∧ Below W0.heap.size W0 w2) (fun _ i _ => k - (intOf i).toNat)
      case atStart => exact ⟨0, by omega, rfl, HOW.out, HBB.out⟩
      case round =>
        obtain ⟨j, hj, rfl, hown2, hB2⟩ := hrel
        by_cases hjl : (j : Int) < k
        · obtain ⟨p, hp⟩ : ∃ p, L[j]? = some p := ⟨L[j]'(by have := HLN.out; omega), List.getElem?_eq_getElem _⟩
          obtain ⟨a', c', e, h1⟩ := HP.out
          have hc := (h1 j p hp).1
          obtain ⟨ad, pl', pc, hpe⟩ := (h1 j p hp).2.2
          obtain ⟨hb1, ba, bc, hbe, hbx⟩ := id (h1 j p hp).2.1
          rw [hpe] at hbe
          injection hbe with g1 g2 g3
          subst g1 g2 g3
          injection e with e1 e2 e3
          cases e1
          have e3 := e3.symm
          subst e3
          rw [hpe] at hc
          have hc2 := (hB2.cell (p := a.add j) (World.block_lt_of_cell? W0 _ hc)).trans hc
          have hT := catL_take hp
          have hLE1 := HLE.out (j + 1)
          rw [hT, List.length_append] at hLE1
          have hnews : ∀ (i : Nat) (u : Value), (u8s p.2)[i]? = some u → wr.cell? (ad.add i) = some u := fun i u hu => by
            unfold u8s at hu
            rw [List.getElem?_map] at hu
            obtain ⟨x, hx, rfl⟩ := Option.map_eq_some_iff.1 hu
            obtain ⟨-, -, ad', e, hcell⟩ := hbx i x hx
            cases e
            exact (hB2.cell (World.block_lt_of_cell? W0 _ hcell)).trans hcell
          have hall : ∀ u ∈ u8s p.2, u.oneCell' = true := fun u hu => by
            unfold u8s at hu
            obtain ⟨x, _, rfl⟩ := List.mem_map.1 hu
            rfl
          have hul : (u8s p.2).length = p.2.length := by simp [u8s]
          have HNEWS := Lib.hid hnews; have HALL := Lib.hid hall; have HUL := Lib.hid hul; have HT := Lib.hid hT; have HO2 := Lib.hid hown2; have HB2 := Lib.hid hB2
          obtain ⟨pl, hpl⟩ : ∃ n, p.2.length = n := ⟨_, rfl⟩
          obtain ⟨z, hz⟩ : ∃ z, (catL (L.take j)).length = z := ⟨_, rfl⟩
          have hBs := hB2.size
          rw [hpl] at hc2 hLE1 HUL
          rw [hz] at hLE1 HO2
          have HPL := Lib.hid hpl; have HZ := Lib.hid hz
          clear hnews hall hul hT hown2 hB2 h1 hp hc hbx e2 hb1 hpl hz hpe
          go_wp2_with (at_builtin; refine wpList_append_own_at _ rfl _ _ 48 rfl W0.heap.size 5 i0 (.int .u8 0) 1 1 Tryz.underlying48 hi' hz0 hz1 hz2 rfl (by decide) _ z _ rfl HO2.out ad pl _ (u8s p.2) rfl (by rw [HUL.out, Nat.mul_one]) HNEWS.out HALL.out (by unfold maxLen; omega) (by omega) hBs ?_; intro v' w5 hown' hgrow _ _)
          go_roundw
          case rel =>
            refine ⟨j + 1, by omega, by go_num, ?_, HB2.out.grown hgrow hBs (fun r hr => (HO2.out.lt r hr).1)⟩
            rw [HT.out, List.length_append, HZ.out, HPL.out]
            unfold u8s at hown' ⊢
            rw [List.map_append]
            exact hown'
          case measure => simp [intOf]; omega
        · have hje : j = k := by omega
          subst hje
          rw [List.take_of_length_le (by have := HLN.out; omega), HTOT.out] at hown2
          go_wp2_with fail
          go_ret
          exact ⟨_, rfl, hown2, hB2⟩
end Go.Proofs.YtogphlnakdnchaaGreat

namespace Go.Proofs.YtogphlnakdnchaaGreat
open Go.RowKit Go.Maps
/-- A maker that holds bs. -/
structure MK (w : World) (g : Nat) (TS : Nat → Prop) (bs : List Int) (long : Bool) : Prop where
  ex : ∃ v, w.heap[g]? = some (.cells #[v, .bool long] 137) ∧ w.ownsRow 0 5 1 v bs.length (u8s bs) ∧ ∀ b, v.ownBlock = some b → TS b ∧ b ≠ g
  own : TS g
  lt : ∀ b, TS b → b < w.heap.size
  len : (bs.length : Int) ≤ 262144
def putB (bs : List Int) (long : Bool) (c : List Int) : List Int := if long = true ∨ 262144 < bs.length + c.length then bs else bs ++ c
def putL (bs : List Int) (long : Bool) (c : List Int) : Bool := long || decide (262144 < bs.length + c.length)
theorem MK.fr {S TS : Nat → Prop} {w w' : World} {g : Nat} {bs : List Int} {long : Bool} (h : MK w g TS bs long) (hf : Fr S w w') (hS : ∀ b, TS b → ¬ S b) : MK w' g TS bs long := by
  obtain ⟨⟨v, h1, h2, h3⟩, h4, h5, h6⟩ := h
  exact ⟨⟨v, hf.at_ h1 (hS _ h4), hf.row h2 (fun b hb => hS _ (h3 b hb).1), h3⟩, h4, fun b hb => Nat.lt_of_lt_of_le (h5 b hb) hf.size, h6⟩
set_option maxRecDepth 100000 in
theorem cMNew (w : World) : Calls Tryz.prog 48 #[] w fun e w' => e = .returned (.pointer (some ⟨w.heap.size, 0, none⟩)) ∧ MK w' w.heap.size (fun b => b = w.heap.size) [] false ∧ Fr (fun _ => False) w w' := by
  go_enter Tryz.func48, Tryz.ntmps48
  go_wp2
  go_ret
  exact ⟨rfl, ⟨⟨_, heap_new _ _, World.ownsRow_nil _ _ _ _, fun b hb => by cases hb⟩, rfl, fun b hb => by simp [hb], by simp⟩, (Fr.refl _ _).alloc _⟩
set_option maxRecDepth 100000 in
set_option maxHeartbeats 1000000 in
theorem cPut (w : World) (g : Nat) (TS : Nat → Prop) (bs : List Int) (long : Bool) (v : Value) (L : List (Value × List Int)) (h : MK w g TS bs long) (hP : Parts w v L) (hl : (L.length : Int) ≤ 1000) (hn : ((catL L).length : Int) ≤ 1099511627776) (hn0 : 0 < (catL L).length) :
    Calls Tryz.prog 89 #[.pointer (some ⟨g, 0, none⟩), v] w fun e w' => e = .returned (.pointer (some ⟨g, 0, none⟩)) ∧ ∃ TS', MK w' g TS' (putB bs long (catL L)) (putL bs long (catL L)) ∧ Stp TS w w' TS' := by
  obtain ⟨i0, hi', hz0, hz1, hz2⟩ := info_parts infoU8
  go_enter Tryz.func89, Tryz.ntmps89
  go_wp2_with fail
  refine (cConcat w v L hP hl hn).mono ?_
  rintro e w1 ⟨v', rfl, hown, hB⟩
  obtain ⟨g', cap, rfl, hg', hlt'⟩ := hown.form hn0
  have hM := h.fr (Fr.below hB) (fun _ _ h => h)
  obtain ⟨⟨vm, h1, h2, h3⟩, h4, h5, h6⟩ := id hM
  have hgw : g < w.heap.size := h.lt g h.own
  have HLT := Lib.hid h.lt; have HGO := Lib.hid h4
  obtain ⟨am, cm, rfl⟩ : ∃ a c, vm = .slice a bs.length c := by
    rcases h2.2 with ⟨e1, e2⟩ | ⟨_, _, _, e1, _⟩
    · exact ⟨_, _, by rw [e1, e2]⟩
    · exact ⟨_, _, e1⟩
  have b0 := cell_obj h1 0 (.slice am bs.length cm) rfl
  have b1 := cell_obj h1 1 (.bool long) rfl
  have f0 := obj_frozen h1 0
  have f1 := obj_frozen h1 1
  obtain ⟨n, hn1⟩ : ∃ n, bs.length = n := ⟨_, rfl⟩
  obtain ⟨k, hk1⟩ : ∃ k, (catL L).length = k := ⟨_, rfl⟩
  rw [hn1] at b0 h6
  rw [hk1] at hn hn0 ⊢
  have HM := Lib.hid hM; have HN := Lib.hid hn1; have HK := Lib.hid hk1; have HB := Lib.hid hB; have HO := Lib.hid hown; have H1 := Lib.hid h1; have H2 := Lib.hid h2; have H3 := Lib.hid h3
  clear h hM h1 h2 h3 h4 h5 hn1 hk1 hB hown hP hl
  have hlong : ∀ (bs' : List Int), (bs'.length : Int) ≤ 262144 → bs' = bs → ∃ TS', MK (w1.setCell ⟨g, 1, none⟩ (.bool true)) g TS' bs' true ∧ Stp TS w (w1.setCell ⟨g, 1, none⟩ (.bool true)) TS' := by
    rintro bs' h1 rfl
    have hF : Fr (fun b => b = g) w1 (w1.setCell ⟨g, 1, none⟩ (.bool true)) := (Fr.refl (fun b => b = g) w1).setCell (p := ⟨g, 1, none⟩) (fun _ => rfl) _
    exact ⟨TS, ⟨⟨_, obj_set H1.out 1 (.bool true), hF.row H2.out (fun b hb => (H3.out b hb).2), H3.out⟩, HGO.out, fun b hb => by have := HLT.out b hb; have := HB.out.size; have := hF.size; omega, h1⟩,
      ((Fr.below HB.out).mono (S := fun _ => False) (S' := TS) (fun _ _ h => h.elim)).trans' hF (fun b _ e => e ▸ HGO.out), fun b hb => .inl hb⟩
  have HLONG := Lib.hid hlong
  clear hlong
  cases long with
  | true =>
    go_wp2_with fail
    go_ret
    have e1 : putB bs true (catL L) = bs := by simp [putB]
    have e2 : putL bs true (catL L) = true := by simp [putL]
    rw [e1, e2]
    exact ⟨rfl, HLONG.out bs (by have := HN.out; omega) rfl⟩
  | false =>
    by_cases ho : 262144 - (n : Int) < k
    · go_wp2_with fail
      go_ret
      have hov : 262144 < bs.length + (catL L).length := by have := HN.out; have := HK.out; omega
      have e1 : putB bs false (catL L) = bs := by simp [putB, hov]
      have e2 : putL bs false (catL L) = true := by simp [putL, hov]
      rw [e1, e2]
      exact ⟨rfl, HLONG.out bs (by have := HN.out; omega) rfl⟩
    · have hno : ¬ 262144 < bs.length + (catL L).length := by have := HN.out; have := HK.out; omega
      have e1 : putB bs false (catL L) = bs ++ catL L := by simp [putB, hno]
      have e2 : putL bs false (catL L) = false := by simp [putL, hno]
      have HE1 := Lib.hid e1; have HE2 := Lib.hid e2; have HNO := Lib.hid hno
      clear HLONG e1 e2 hno
      have hd : decide (262144 - (n : Int) < k) = false := by simpa using ho
      have hF : Fr (fun b => b = g) w1 (w1.setCell ⟨g, 1, none⟩ (.bool false)) := (Fr.refl (fun b => b = g) w1).setCell (p := ⟨g, 1, none⟩) (fun _ => rfl) _
      have hG := obj_set H1.out 1 (.bool false)
      have hrow := hF.row H2.out (fun b hb => (H3.out b hb).2)
      have hrowc := hF.row HO.out (fun b hb => by cases hb; show ¬ g' = g; omega)
      have hnews : ∀ (i : Nat) (u : Value), (u8s (catL L))[i]? = some u → (w1.setCell ⟨g, 1, none⟩ (.bool false)).cell? ((⟨g', 0, none⟩ : Addr).add i) = some u := fun i u hu => by
        have hi := (List.getElem?_eq_some_iff.1 hu).1
        have := hrowc.cellAt (g := g') (j := i) (by simpa [u8s] using hi)
        rw [show (⟨g', 0, none⟩ : Addr).add i = ⟨g', i, none⟩ by simp [Addr.add]; omega, this]
        exact hu
      have hall : ∀ u ∈ u8s (catL L), u.oneCell' = true := fun u hu => by
        unfold u8s at hu
        obtain ⟨x, _, rfl⟩ := List.mem_map.1 hu
        rfl
      have hul : (u8s (catL L)).length = k * 1 := by have := HK.out; simp [u8s]; exact this
      have HNEWS := Lib.hid hnews; have HALL := Lib.hid hall; have HUL := Lib.hid hul; have HROW := Lib.hid hrow; have HG := Lib.hid hG; have HF := Lib.hid hF
      rw [HN.out] at HROW
      clear hnews hall hul hrow hG hF hrowc ho
      have c0 := cell_obj HG.out 0 (.slice am n cm) (by rw [← HN.out]; rfl)
      have h3 := H3.out
      rw [HN.out] at h3
      have HNB := Lib.hid h3
      clear h3
      go_wp2_with (at_builtin; refine wpList_append_own_at _ rfl _ _ 48 rfl 0 5 i0 (.int .u8 0) 1 1 Tryz.underlying48 hi' hz0 hz1 hz2 rfl (by decide) (.slice am n cm) n (u8s bs) rfl HROW.out ⟨g', 0, none⟩ k _ (u8s (catL L)) rfl HUL.out HNEWS.out HALL.out (by unfold maxLen; omega) (by omega) (Nat.zero_le _) ?_; intro v' w5 hown' hgrow _ hat; obtain ⟨g5, cap5, rfl, -, hl5⟩ := hown'.form (by omega); have hG5 := (hgrow.block g (Array.getElem?_eq_some_iff.1 HG.out).1 (fun e => (HNB.out g e.symm).2 rfl)).trans HG.out; have c5 := cell_obj hG5 0 (.slice am n cm) (by rw [← HN.out]; rfl); have f5 := obj_frozen hG5 0)
      go_ret
      rw [HE1.out, HE2.out]
      have hs1 : (w1.setCell ⟨g, 1, none⟩ (.bool false)).heap.size = w1.heap.size := by simp [World.setCell]
      have hat2 : TS g5 ∧ g5 ≠ g ∨ g5 = w1.heap.size := by
        rcases hat with e | e
        · exact .inl (HNB.out g5 e.symm)
        · rw [hs1] at e; exact .inr (by injection e)
      have hBs := HB.out.size
      have hne : g5 ≠ g := by
        rcases hat2 with e | e
        · exact e.2
        · omega
      have hF6 : Fr (fun b => b = g) w5 (w5.setCell ⟨g, 0, none⟩ (.slice (some ⟨g5, 0, none⟩) (n + k) cap5)) := (Fr.refl (fun b => b = g) w5).setCell (p := ⟨g, 0, none⟩) (fun _ => rfl) _
      have hs5 := hgrow.size
      have hs6 := hF6.size
      refine ⟨rfl, fun b => TS b ∨ b = g5, ⟨⟨_, obj_set hG5 0 _, ?_, fun b hb => ?_⟩, .inl HGO.out, ?_, ?_⟩, ?_, ?_⟩
      · have hl : (bs ++ catL L).length = n + k := by rw [List.length_append, HN.out, HK.out]
        rw [hl]
        unfold u8s at hown' ⊢
        rw [List.map_append]
        exact hF6.row hown' (fun b hb => by cases hb; exact hne)
      · cases hb; exact ⟨.inr rfl, hne⟩
      · rintro b (hb | rfl)
        · have := HLT.out b hb; omega
        · omega
      · have := HNO.out; rw [List.length_append]; omega
      · refine ((((Fr.below HB.out).mono (S := fun _ => False) (S' := TS) (fun _ _ h => h.elim)).trans' HF.out (fun b _ e => e ▸ HGO.out)).trans' (Fr.grown (S := fun b => TS b) hgrow (fun r hr _ => (HNB.out r hr).1)) (fun b _ e => e)).trans' hF6 (fun b _ e => e ▸ HGO.out)
      · rintro b (hb | rfl)
        · exact .inl hb
        · rcases hat2 with e | e
          · exact .inl e.1
          · exact .inr (by omega)
end Go.Proofs.YtogphlnakdnchaaGreat

