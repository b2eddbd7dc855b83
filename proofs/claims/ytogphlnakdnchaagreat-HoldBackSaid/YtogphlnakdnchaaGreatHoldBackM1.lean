/- Texts of this claim, joined: Small helpers of my own for all walks of this seat; Maps of the call's own, as lists of keys and values, rising by key: my own view over the library's 'ownsMap'; Strings as keys of maps, and their order: plainly; stock: a good's numbers, what is done to them, and stocks as lists: plainly; The frame of a step: which old blocks it may have turned. My own relation for all contracts; A step of a thing that owns blocks: what it owns behind it is what it owned, or new; count.May; Ranges over functions: an iterator's contract over a list that is known, and the loop's law; items: lists of goods: All, Good; items: May; entrepotref05.May; entrepotref06: Good, May, Same; entrepotref06: May, Same; entrepotref06: May; append(row, source...) where the source may be nil, empty or not; rows of cells read out of memory; append(row, source...) at a step of a region that draws its order; l[:j] and l[j:] of a row: the slice operations' own runs, and what their values read; stock: the object; New, made, a row's numbers, each, right, Balanced, road, add; count.May; A region that draws its order, whose operations only read, and whose calls may lay blocks, but give what does not hang on the world: one walk in the text's order serves (the library's theorem on quiet regions, at the class of all worlds that hold what was there). -/
import Derived.Test.YtogphlnakdnchaaGreatRows
import Derived.WalkKit
import Derived.WalkLawsBesides
import Derived.WalkSpells
import Derived.Lib.Hide
import Derived.Deep.AppendLies
import Derived.Maps.OwnIn
import Derived.Maps.OwnSet
import Derived.Maps.Ext
import Derived.Sort.MapsRangeIn
import Derived.Sort.KeysCollected
import Derived.RangeFuncNested
import Derived.Sort.Walk0
import Derived.RangeFuncCalls
import Derived.RangeFuncLeaves
import Derived.OwnWalkIn
import Derived.TacticsInMore
import Derived.LoopNIn
import Derived.LoopIn
import Derived.RegionIn
import Derived.Laws.RangeAny
import Derived.Laws.Cover1
import Derived.Shelf.Abstract
import Derived.Deep.QuietTactic
import Derived.BigQuiet
import Derived.Maps.AppendAt
import Derived.OwnWalk
import Derived.Deep.RegionHeld3
import Derived.Deep.RegionWith
import Derived.StillTailTactics
namespace Go.Proofs.YtogphlnakdnchaaGreat
open Go.RowKit
theorem ret_bool {a b : Bool} (h : a = b) : Ending.returned (.bool a) = .returned (.bool b) := by rw [h]
theorem val_int {k : IntKind} {a b : Int} (h : a = b) : Value.int k a = .int k b := by rw [h]
theorem run_equalIn_func_nil {P : Program} (w : World) (d : Nat) (t : TypeId) (ps rs : Array TypeId) (b : Bool) (f : Fn) (x y : Array Value) (h : P.underlying t = some (.func ps rs b)) :
    (Op.equalIn (d + 1) t (.func f x y) .nilFunc).run P w = .ok false w := by
  simp [Op.equalIn, run_underlying h]
/-- 'f == nil', f a function that is there. -/
theorem run_eql_func_nil {P : Program} (w : World) (t : TypeId) (ps rs : Array TypeId) (b : Bool) (f : Fn) (x y : Array Value) (h : P.underlying t = some (.func ps rs b)) :
    (binOp .eql t (.func f x y) .nilFunc).run P w = .ok (.bool false) w := by
  simp only [binOp]
  simp [Op.equal, Op.maxDepth, run_equalIn_func_nil w 9999 t ps rs b f x y h]
theorem cell_obj {w : World} {b : Nat} {cs : Array Value} {t : TypeId} (h : w.heap[b]? = some (.cells cs t)) (j : Nat) (v : Value) (hj : cs[j]? = some v) : w.cell? ⟨b, j, none⟩ = some v := by simp [World.cell?, h, hj]
theorem obj_set {w : World} {g : Nat} {cs : Array Value} {t : TypeId} (h : w.heap[g]? = some (.cells cs t)) (j : Nat) (v : Value) : (w.setCell ⟨g, j, none⟩ v).heap[g]? = some (.cells (cs.setIfInBounds j v) t) := by
  obtain ⟨hlt, hk⟩ := Array.getElem?_eq_some_iff.1 h
  show (w.heap.modify g _)[g]? = _
  rw [Array.getElem?_eq_getElem (by rw [Array.size_modify]; exact hlt), Array.getElem_modify_self, hk]
  rfl
theorem obj_frozen {w : World} {g : Nat} {cs : Array Value} {t : TypeId} (h : w.heap[g]? = some (.cells cs t)) (j : Nat) : w.frozen? ⟨g, j, none⟩ = false := by simp [World.frozen?, h]
theorem heap_new (w : World) (o : Obj) : (w.alloc o).heap[w.heap.size]? = some o := by show (w.heap.push o)[w.heap.size]? = _; simp
theorem heap_at {w : World} {b : Nat} (h : b = w.heap.size) (o : Obj) : (w.alloc o).heap[b]? = some o := h ▸ heap_new w o
theorem heap_keep {w : World} {b : Nat} {x : Obj} (h : w.heap[b]? = some x) (o : Obj) : (w.alloc o).heap[b]? = some x := by
  have hb := (Array.getElem?_eq_some_iff.1 h).1
  show (w.heap.push o)[b]? = _
  rw [Array.getElem?_push, if_neg (by omega)]; exact h
end Go.Proofs.YtogphlnakdnchaaGreat

namespace Go.Proofs.YtogphlnakdnchaaGreat
open Go.RowKit Go.Maps

/-- Keys of a kind: how they are encoded, how they are told, which they are. -/
structure KT (κ : Type) where
  enc : κ → Value
  lit : κ → Lit
  ok : κ → Prop
structure KO (P : Program) (k : TypeId) {κ : Type} [DecidableEq κ] (T : KT κ) : Prop where
  keyed : Keyed P k
  key : ∀ {x : κ}, T.ok x → keyOf P k (T.enc x) = some (T.lit x)
  back : ∀ {v : Value} {kl : Lit}, keyOf P k v = some kl → ∃ x : κ, T.ok x ∧ v = T.enc x ∧ kl = T.lit x
  same : ∀ x y : κ, (T.lit x).sameKey (T.lit y) = decide (x = y)

def okI (x : Int) : Prop := -9223372036854775808 ≤ x ∧ x ≤ 9223372036854775807
theorem wf_okI {x : Int} : (Lit.int .i64 x).wf = true ↔ okI x := by
  simp [Lit.wf, okI, IntKind.min, IntKind.max, IntKind.signed, IntKind.bits]
def ktI : KT Int where
  enc := .int .i64
  lit := .int .i64
  ok := okI
theorem koI {P : Program} {k : TypeId} (hk : P.underlying k = some (.int .i64)) : KO P k ktI where
  keyed := int_keyed hk
  key h := keyOf_int_mk hk (wf_okI.2 h)
  back {v kl} h := by
    cases v <;> simp [keyOf, hk, mapKey] at h
    obtain ⟨⟨rfl, h1⟩, rfl⟩ := h
    exact ⟨_, wf_okI.1 h1, rfl, rfl⟩
  same x y := by simp [ktI, Lit.sameKey]

def heldR (v : Value) : Option (DataW Value × List MemPlace) := some (.held v, [])
variable {κ ν : Type} [DecidableEq κ]
def insS (lt : κ → κ → Bool) (x : κ × ν) : List (κ × ν) → List (κ × ν)
  | [] => [x]
  | y :: r => if lt x.1 y.1 then x :: y :: r else y :: insS lt x r
def delS (l : List (κ × ν)) (x : κ) : List (κ × ν) := l.filter fun p => !decide (p.1 = x)
def putS (lt : κ → κ → Bool) (l : List (κ × ν)) (x : κ) (v : ν) : List (κ × ν) := insS lt (x, v) (delS l x)
def getS : List (κ × ν) → κ → Option ν
  | [], _ => none
  | p :: r, x => if p.1 = x then some p.2 else getS r x

variable {P : Program} {k : TypeId}
def KT.lt (T : KT κ) (x y : κ) : Bool := (T.lit x).before (T.lit y)
def KT.dat (T : KT κ) (enc : ν → Value) (l : List (κ × ν)) : DataW Value := .map (l.map fun p => (T.lit p.1, .held (enc p.2)))
/-- Block b is a map of keys of kind T, whose entries are l, rising by key. -/
def Mp (P : Program) (w : World) (k : TypeId) (T : KT κ) (enc : ν → Value) (b : Nat) (l : List (κ × ν)) : Prop := ∃ n, w.ownsMap P k heldR b n (T.dat enc l)
variable {T : KT κ}

omit [DecidableEq κ] in
theorem dat_ins (T : KT κ) (enc : ν → Value) (x : κ × ν) (l : List (κ × ν)) :
    DataW.insert (T.lit x.1, .held (enc x.2)) (l.map fun p => (T.lit p.1, .held (enc p.2))) = (insS T.lt x l).map fun p => (T.lit p.1, .held (enc p.2)) := by
  induction l with
  | nil => rfl
  | cons y r ih =>
    show (if (T.lit x.1).before (T.lit y.1) = true then _ else _) = List.map _ (if (T.lit x.1).before (T.lit y.1) = true then _ else _)
    cases (T.lit x.1).before (T.lit y.1)
    · simp only [Bool.false_eq_true, if_false, List.map_cons, ih]
    · simp
theorem dat_del (K : KO P k T) (enc : ν → Value) (x : κ) (l : List (κ × ν)) :
    (l.map fun p => (T.lit p.1, (.held (enc p.2) : DataW Value))).filter (fun p => !p.1.sameKey (T.lit x)) = (delS l x).map fun p => (T.lit p.1, .held (enc p.2)) := by
  unfold delS
  rw [List.filter_map]
  congr 1
  apply List.filter_congr
  intro p _
  simp [K.same]
theorem dat_put (K : KO P k T) (enc : ν → Value) (l : List (κ × ν)) (x : κ) (v : ν) : (T.dat enc l).put (T.lit x) (.held (enc v)) = T.dat enc (putS T.lt l x v) := by
  show DataW.map (DataW.insert _ _) = _
  rw [dat_del K, dat_ins T enc (x, v)]
  rfl
theorem dat_strike (K : KO P k T) (enc : ν → Value) (l : List (κ × ν)) (x : κ) : (T.dat enc l).del (T.lit x) = T.dat enc (delS l x) := by
  show DataW.map _ = _
  rw [dat_del K]
  rfl
theorem dat_at (K : KO P k T) (enc : ν → Value) (x : κ) (z : DataW Value) : ∀ l : List (κ × ν), (T.dat enc l).atKey (T.lit x) z = (match getS l x with | some v => .held (enc v) | none => z)
  | [] => rfl
  | p :: r => by
    have ih := dat_at K enc x z r
    simp only [KT.dat, DataW.atKey] at ih ⊢
    simp only [List.map_cons, List.find?_cons, K.same, getS]
    by_cases h : p.1 = x
    · simp [h]
    · simp only [h, decide_false, if_false]
      exact ih
theorem dat_has (K : KO P k T) (enc : ν → Value) (x : κ) : ∀ l : List (κ × ν), has (T.dat enc l) (T.lit x) = (getS l x).isSome
  | [] => rfl
  | p :: r => by
    have ih := dat_has K enc x r
    simp only [KT.dat, has] at ih ⊢
    simp only [List.map_cons, List.any_cons, K.same, getS]
    by_cases h : p.1 = x
    · simp [h]
    · simp only [h, decide_false, if_false, Bool.false_or]
      exact ih
omit [DecidableEq κ] in
theorem dat_size (T : KT κ) (enc : ν → Value) (l : List (κ × ν)) : Maps.size (T.dat enc l) = l.length := by simp [KT.dat, Maps.size]

variable {w w' : World} {enc : ν → Value} {b : Nat} {l : List (κ × ν)} {t e : TypeId}
omit [DecidableEq κ] in
theorem Mp.made (P : Program) (w : World) (k : TypeId) (T : KT κ) (enc : ν → Value) : Mp P (w.alloc (.map #[] 0)) k T enc w.heap.size ([] : List (κ × ν)) := ⟨0, World.ownsMap_made w P k heldR⟩
omit [DecidableEq κ] in
theorem Mp.lt (h : Mp P w k T enc b l) : b < w.heap.size := h.elim fun _ h => h.lt
omit [DecidableEq κ] in
theorem Mp.kept {row : Option Nat} (h : Mp P w k T enc b l) (hg : w.grownBy w' row) (hne : some b ≠ row) : Mp P w' k T enc b l := h.elim fun n h => ⟨n, h.kept hg hne⟩
omit [DecidableEq κ] in
theorem Mp.at_ (h : Mp P w k T enc b l) (hg : w'.heap[b]? = w.heap[b]?) : Mp P w' k T enc b l := by
  obtain ⟨n, es, clock, hb, r⟩ := h
  exact ⟨n, es, clock, hg.trans hb, r⟩
omit [DecidableEq κ] in
theorem Mp.below {B : Nat} (h : Mp P w k T enc b l) (hg : Below B w w') (hb : b < B) : Mp P w' k T enc b l := h.at_ (hg.block b hb)
omit [DecidableEq κ] in
theorem Mp.alloc (h : Mp P w k T enc b l) (o : Obj) : Mp P (w.alloc o) k T enc b l := h.elim fun n h => ⟨n, h.alloc o⟩
omit [DecidableEq κ] in
theorem Mp.drew (h : Mp P w k T enc b l) : Mp P w.drew k T enc b l := h
omit [DecidableEq κ] in
theorem Mp.drewN (h : Mp P w k T enc b l) (n : Nat) : Mp P (w.drewN n) k T enc b l := h
omit [DecidableEq κ] in
theorem Mp.setCell (h : Mp P w k T enc b l) {a : Addr} (ha : b ≠ a.block) (u : Value) : Mp P (w.setCell a u) k T enc b l := h.elim fun n h => ⟨n, h.setCell ha u⟩
/-- The keys are of their kind, and rise. -/
theorem Mp.ok (h : Mp P w k T enc b l) (K : KO P k T) : (∀ p ∈ l, T.ok p.1) ∧ l.Pairwise (fun p q => T.lt p.1 q.1 = true) := by
  obtain ⟨n, h⟩ := h
  constructor
  · obtain ⟨es, hD, hk⟩ := h.keysOf
    have e1 : l.map (fun p => (T.lit p.1, (.held (enc p.2) : DataW Value))) = es := by injection hD
    intro p hp
    have : (T.lit p.1, (.held (enc p.2) : DataW Value)) ∈ es := by rw [← e1]; exact List.mem_map.2 ⟨p, hp, rfl⟩
    obtain ⟨v, hv⟩ := hk _ this
    obtain ⟨x, hx, _, e2⟩ := K.back hv
    have := K.same p.1 x
    rw [← e2] at this
    have h3 : (T.lit p.1).sameKey (T.lit p.1) = true := by rw [K.same]; simp
    rw [h3] at this
    have : p.1 = x := by simpa using this.symm
    rw [this]; exact hx
  · obtain ⟨es, hD, hs, _⟩ := h.canon K.keyed
    have e1 : l.map (fun p => (T.lit p.1, (.held (enc p.2) : DataW Value))) = es := by injection hD
    rw [← e1, List.pairwise_map] at hs
    exact hs
theorem Mp.look (h : Mp P w k T enc b l) (K : KO P k T) (ht : P.underlying t = some (.map k e)) {z : Value} (hz : (zeroValue e).run P w = .ok z w) {x : κ} (hx : T.ok x) :
    (Instr.lookup t (.map (some b)) (T.enc x) false).run P w = .ok (match getS l x with | some v => enc v | none => z) w := by
  obtain ⟨n, h⟩ := h
  obtain ⟨v, ps, hrun, hv⟩ := h.lookup K.keyed ht hz (zd := .held z) (zp := []) rfl (K.key hx)
  rw [hrun]
  rw [dat_at K] at hv
  unfold heldR at hv
  cases hg : getS l x with
  | none => rw [hg] at hv; simp at hv; rw [hv.1]
  | some u => rw [hg] at hv; simp at hv; rw [hv.1]
theorem Mp.look_ok (h : Mp P w k T enc b l) (K : KO P k T) (ht : P.underlying t = some (.map k e)) {z : Value} (hz : (zeroValue e).run P w = .ok z w) {x : κ} (hx : T.ok x) :
    (Instr.lookup t (.map (some b)) (T.enc x) true).run P w = .ok (.tuple #[match getS l x with | some v => enc v | none => z, .bool (getS l x).isSome]) w := by
  obtain ⟨n, h⟩ := h
  obtain ⟨v, ps, hrun, hv⟩ := h.look_ok K.keyed ht hz (zd := .held z) (zp := []) rfl (K.key hx)
  rw [hrun, dat_has K]
  rw [dat_at K] at hv
  unfold heldR at hv
  cases hg : getS l x with
  | none => rw [hg] at hv; simp at hv; rw [hv.1]
  | some u => rw [hg] at hv; simp at hv; rw [hv.1]
omit [DecidableEq κ] in
theorem Mp.len (h : Mp P w k T enc b l) (ht : P.underlying t = some (.map k e)) (ty : TypeId) : (Builtin.len_ #[t] ty #[.map (some b)]).run P w = .ok (.int .i64 l.length) w := by
  obtain ⟨n, h⟩ := h
  rw [h.len ht ty, dat_size]
omit [DecidableEq κ] in
theorem Mp.owns (h : Mp P w k T enc b l) : w.ownsMap P k heldR b l.length (T.dat enc l) := by
  obtain ⟨n, es, clock, hb, F, hs, hD⟩ := h
  refine ⟨es, clock, hb, F, ?_, hD⟩
  have := congrArg Maps.size hD
  rw [dat_size] at this
  simp [Maps.size, length_sorted] at this
  omega
theorem Mp.store (h : Mp P w k T enc b l) (K : KO P k T) (ht : P.underlying t = some (.map k e)) (hl : l.length < 9223372036854775807) {x : κ} (hx : T.ok x) (v : ν) :
    ∃ w', (Instr.mapUpdate t (.map (some b)) (T.enc x) (enc v)).run P w = .ok () w' ∧ Mp P w' k T enc b (putS T.lt l x v) ∧ w.mapTurned w' b := by
  obtain ⟨w', h1, h2, h3⟩ := h.owns.store K.keyed ht (by unfold maxLen; omega) (K.key hx) (d := .held (enc v)) (ps := []) rfl
  exact ⟨w', h1, ⟨_, by rw [← dat_put K]; exact h2⟩, h3⟩
theorem Mp.drop (h : Mp P w k T enc b l) (K : KO P k T) (ht : P.underlying t = some (.map k e)) {x : κ} (hx : T.ok x) (ty : TypeId) :
    ∃ w', (Builtin.delete_ #[t, k] ty #[.map (some b), T.enc x]).run P w = .ok (.tuple #[]) w' ∧ Mp P w' k T enc b (delS l x) ∧ w.mapTurned w' b := by
  obtain ⟨n, h⟩ := h
  obtain ⟨w', h1, h2, h3⟩ := h.drop K.keyed ht (K.key hx) ty
  exact ⟨w', h1, ⟨_, by rw [← dat_strike K]; exact h2⟩, h3⟩
theorem map_ne_cells {w : World} {κ ν : Type} {P : Program} {k : TypeId} {T : KT κ} {enc : ν → Value} {b g : Nat} {l : List (κ × ν)} {cs : Array Value} {t : TypeId} (h : Mp P w k T enc b l) (hg : w.heap[g]? = some (.cells cs t)) : g ≠ b := by
  rintro rfl
  obtain ⟨_, es, clock, hb, _⟩ := h
  rw [hg] at hb; cases hb
end Go.Proofs.YtogphlnakdnchaaGreat

namespace Go.Proofs.YtogphlnakdnchaaGreat
open Go.RowKit Go.Maps
abbrev Str := List UInt8
abbrev vS (s : Str) : Value := .string ⟨s.toArray⟩
theorem bytesBefore_eq : ∀ (x y : Str), bytesBefore x y = decide (x < y)
  | [], [] => by simp [bytesBefore]
  | _ :: _, [] => by simp [bytesBefore]
  | [], _ :: _ => by simp [bytesBefore]
  | a :: x, b :: y => by
    rw [bytesBefore, bytesBefore_eq x y, ← bytesLess_eq, ← bytesLess_eq, Op.bytesLess]
def okS (s : Str) : Prop := s.length ≤ maxLen
def ktS : KT Str where
  enc := vS
  lit := .string
  ok := okS
theorem ktS_lt (a b : Str) : ktS.lt a b = decide (a < b) := bytesBefore_eq a b
theorem koS {P : Program} {k : TypeId} (hk : P.underlying k = some .string) : KO P k ktS where
  keyed := string_keyed hk
  key {x} h := by
    have h : x.length ≤ maxLen := h
    have hs : (ByteArray.mk x.toArray).size ≤ maxLen := by simpa [ByteArray.size] using h
    simp [keyOf, hk, mapKey, ktS, hs]
  back {v kl} h := by
    obtain ⟨x, h1, h2, h3⟩ := keyOf_str hk h
    exact ⟨x, h3, h1, h2⟩
  same x y := by rw [Bool.eq_iff_iff]; simp [ktS, Lit.sameKey]
theorem str_irr (a : Str) : ¬ a < a := List.lt_irrefl a
theorem str_trans {a b c : Str} (h : a < b) (h' : b < c) : a < c := List.lt_trans h h'
theorem str_tri (a b : Str) : a < b ∨ a = b ∨ b < a := by
  by_cases h : a < b
  · exact .inl h
  · by_cases h' : b < a
    · exact .inr (.inr h')
    · exact .inr (.inl (List.le_antisymm h' h))
theorem str_asym {a b : Str} (h : a < b) : ¬ b < a := fun h' => str_irr _ (str_trans h h')
theorem strKeys_dat {ν : Type} (enc : ν → Value) (l : List (Str × ν)) : strKeys (ktS.dat enc l) = l.map (·.1) := by
  simp [KT.dat, strKeys, ktS, strOf]
abbrev RiseS {ν : Type} (l : List (Str × ν)) : Prop := l.Pairwise (fun p q => p.1 < q.1)
theorem riseS_of {ν : Type} {l : List (Str × ν)} (h : l.Pairwise (fun p q => ktS.lt p.1 q.1 = true)) : RiseS l := h.imp (fun {p q} e => by rw [ktS_lt] at e; simpa using e)
theorem strs_sorted {ν : Type} {l : List (Str × ν)} (h : RiseS l) {ss : List Str} (hp : ss.Perm (l.map (·.1))) : ss.mergeSort (fun x y => decide (x ≤ y)) = l.map (·.1) := by
  have hlt : (l.map (·.1)).Pairwise (fun x y : Str => x < y) := by
    rw [List.pairwise_map]
    exact h
  have h1 : (ss.mergeSort (fun x y => decide (x ≤ y))).Pairwise (fun x y => decide (x ≤ y) = true) := List.pairwise_mergeSort (fun a b c h1 h2 => by simp only [decide_eq_true_eq] at *; exact List.le_trans h1 h2) (fun a b => by simp only [Bool.or_eq_true, decide_eq_true_eq]; exact List.le_total a b) ss
  have h2 : (ss.mergeSort (fun x y => decide (x ≤ y))).Perm (l.map (·.1)) := (List.mergeSort_perm ss _).trans hp
  refine h2.eq_of_pairwise (le := fun x y : Str => decide (x ≤ y) = true) (fun a b _ _ h1 h2 => by simp only [decide_eq_true_eq] at *; exact List.le_antisymm h1 h2) h1 (hlt.imp (fun {a b} e => by simp only [decide_eq_true_eq]; exact str_asym e))
section
variable {κ ν : Type} [DecidableEq κ]
omit [DecidableEq κ] in
theorem insK_perm (lt : κ → κ → Bool) (x : κ × ν) : ∀ l : List (κ × ν), (insS lt x l).Perm (x :: l)
  | [] => List.Perm.refl _
  | y :: r => by
    show (if lt x.1 y.1 = true then x :: y :: r else y :: insS lt x r).Perm _
    split
    · exact List.Perm.refl _
    · exact ((insK_perm lt x r).cons y).trans (List.Perm.swap x y r)
theorem mem_putK {lt : κ → κ → Bool} {l : List (κ × ν)} {x : κ} {v : ν} {p : κ × ν} : p ∈ putS lt l x v ↔ p = (x, v) ∨ (p ∈ l ∧ p.1 ≠ x) := by
  unfold putS
  rw [(insK_perm lt (x, v) _).mem_iff, List.mem_cons]
  simp [delS]
theorem putK_len (lt : κ → κ → Bool) (l : List (κ × ν)) (x : κ) (v : ν) : (putS lt l x v).length ≤ l.length + 1 := by
  unfold putS
  rw [(insK_perm lt (x, v) _).length_eq, List.length_cons]
  have := List.length_filter_le (fun p : κ × ν => !decide (p.1 = x)) l
  unfold delS
  omega
theorem getK_none {l : List (κ × ν)} {x : κ} : getS l x = none ↔ ∀ p ∈ l, p.1 ≠ x := by
  induction l with
  | nil => simp [getS]
  | cons p r ih =>
    simp only [getS]
    by_cases h : p.1 = x
    · rw [if_pos h]; simp [h]
    · rw [if_neg h, ih]; simp [h]
theorem getK_mem {l : List (κ × ν)} {x : κ} {v : ν} (h : getS l x = some v) : (x, v) ∈ l := by
  induction l with
  | nil => cases h
  | cons p r ih =>
    simp only [getS] at h
    by_cases e : p.1 = x
    · rw [if_pos e] at h
      cases h
      subst e
      simp
    · rw [if_neg e] at h
      exact List.mem_cons_of_mem _ (ih h)
theorem getK_of {l : List (κ × ν)} {x : κ} {v : ν} (hnd : (l.map (·.1)).Nodup) (h : (x, v) ∈ l) : getS l x = some v := by
  induction l with
  | nil => cases h
  | cons p r ih =>
    rw [List.map_cons, List.nodup_cons] at hnd
    simp only [getS]
    rcases List.mem_cons.1 h with rfl | h
    · rw [if_pos rfl]
    · have hne : ¬ p.1 = x := by
        intro e
        exact hnd.1 (by rw [e]; exact List.mem_map.2 ⟨_, h, rfl⟩)
      rw [if_neg hne]
      exact ih hnd.2 h
omit [DecidableEq κ] in
theorem nd_perm {l l' : List (κ × ν)} (h : l.Perm l') (hn : (l'.map (·.1)).Nodup) : (l.map (·.1)).Nodup := (h.map _).nodup_iff.2 hn
theorem putK_nd {lt : κ → κ → Bool} {l : List (κ × ν)} {x : κ} {v : ν} (hn : (l.map (·.1)).Nodup) : ((putS lt l x v).map (·.1)).Nodup := by
  unfold putS
  refine nd_perm (insK_perm lt (x, v) _) ?_
  rw [List.map_cons, List.nodup_cons]
  refine ⟨fun h => ?_, ?_⟩
  · obtain ⟨p, hp, e⟩ := List.mem_map.1 h
    have := (List.mem_filter.1 hp).2
    simp [e] at this
  · exact List.Nodup.sublist (List.Sublist.map _ List.filter_sublist) hn
theorem getK_put {lt : κ → κ → Bool} {l : List (κ × ν)} {x y : κ} {v : ν} (hn : (l.map (·.1)).Nodup) : getS (putS lt l x v) y = if x = y then some v else getS l y := by
  by_cases e : x = y
  · subst e
    rw [if_pos rfl]
    exact getK_of (putK_nd hn) (mem_putK.2 (.inl rfl))
  · rw [if_neg e]
    cases h : getS l y with
    | none =>
      refine getK_none.2 (fun p hp => ?_)
      rcases mem_putK.1 hp with rfl | ⟨hp, -⟩
      · exact e
      · exact getK_none.1 h p hp
    | some u => exact getK_of (putK_nd hn) (mem_putK.2 (.inr ⟨getK_mem h, fun h => e h.symm⟩))
end
theorem riseS_nd {ν : Type} {l : List (Str × ν)} (h : RiseS l) : (l.map (·.1)).Nodup := by
  rw [List.Nodup, List.pairwise_map]
  refine List.Pairwise.imp ?_ h
  intro p q e h
  have e : p.1 < q.1 := e
  rw [h] at e
  exact str_irr _ e
theorem riseS_ins {ν : Type} {x : Str × ν} : ∀ {l : List (Str × ν)}, RiseS l → (∀ p ∈ l, p.1 ≠ x.1) → RiseS (insS ktS.lt x l)
  | [], _, _ => by simp [insS]
  | y :: r, h, hx => by
    obtain ⟨h1, h2⟩ := List.pairwise_cons.1 h
    show RiseS (if ktS.lt x.1 y.1 = true then x :: y :: r else y :: insS ktS.lt x r)
    rw [ktS_lt]
    by_cases hlt : x.1 < y.1
    · rw [if_pos (by simpa using hlt)]
      refine List.pairwise_cons.2 ⟨fun p hp => ?_, h⟩
      rcases List.mem_cons.1 hp with rfl | hp
      · exact hlt
      · exact str_trans hlt (h1 p hp)
    · rw [if_neg (by simpa using hlt)]
      refine List.pairwise_cons.2 ⟨fun p hp => ?_, riseS_ins h2 (fun p hp => hx p (List.mem_cons_of_mem _ hp))⟩
      rcases List.mem_cons.1 ((insK_perm ktS.lt x r).mem_iff.1 hp) with rfl | hp
      · rcases str_tri y.1 p.1 with h | h | h
        · exact h
        · exact absurd h (hx y (by simp))
        · exact absurd h hlt
      · exact h1 p hp
theorem riseS_put {ν : Type} {l : List (Str × ν)} {x : Str} {v : ν} (h : RiseS l) : RiseS (putS ktS.lt l x v) :=
  riseS_ins (h.sublist List.filter_sublist) (fun p hp => by simpa [delS] using (List.mem_filter.1 hp).2)
end Go.Proofs.YtogphlnakdnchaaGreat

namespace Go.Proofs.YtogphlnakdnchaaGreat
open Go.RowKit Go.Maps
/-- A good's level and flow. -/
structure SR where
  free : Int
  held : Int
  picked : Int
  aside : Int
  received : Int
  returned : Int
  counted : Int
  came : Int
  shipped : Int
  scrapped : Int
  sent : Int
deriving DecidableEq
def SR.zero : SR := ⟨0, 0, 0, 0, 0, 0, 0, 0, 0, 0, 0⟩
def SR.cs (r : SR) : Array Value := #[.int .i64 r.free, .int .i64 r.held, .int .i64 r.picked, .int .i64 r.aside, .int .i64 r.received, .int .i64 r.returned, .int .i64 r.counted, .int .i64 r.came, .int .i64 r.shipped, .int .i64 r.scrapped, .int .i64 r.sent]
def SR.enc (r : SR) : Value := .agg r.cs
/-- Is it a count? -/
def mayI (n : Int) : Bool := decide (0 ≤ n) && decide (n ≤ 1099511627776)
def flowI (n : Int) : Bool := decide (0 ≤ n) && decide (n ≤ 72057594037927936)
def SR.each (r : SR) : Bool := mayI r.free && mayI r.held && mayI r.picked && mayI r.aside && (flowI r.received && flowI r.returned && flowI r.came && flowI r.shipped && flowI r.scrapped && flowI r.sent)
def SR.sum (r : SR) : Int := r.free + r.held + r.picked + r.aside
def SR.right (r : SR) : Bool := r.each && mayI r.sum
def SR.flow (r : SR) : Int := r.received + r.returned + r.counted + r.came - r.shipped - r.scrapped - r.sent
def SR.bal (r : SR) : Bool := r.each && (decide (-576460752303423488 ≤ r.counted) && decide (r.counted ≤ 576460752303423488) && decide (r.sum = r.flow))
theorem mayI_iff {n : Int} : mayI n = true ↔ 0 ≤ n ∧ n ≤ 1099511627776 := by simp [mayI]
theorem flowI_iff {n : Int} : flowI n = true ↔ 0 ≤ n ∧ n ≤ 72057594037927936 := by simp [flowI]
/-- The numbers' bounds, written out. -/
structure SRb (r : SR) : Prop where
  a0 : 0 ≤ r.free ∧ r.free ≤ 1099511627776
  a1 : 0 ≤ r.held ∧ r.held ≤ 1099511627776
  a2 : 0 ≤ r.picked ∧ r.picked ≤ 1099511627776
  a3 : 0 ≤ r.aside ∧ r.aside ≤ 1099511627776
  b0 : 0 ≤ r.received ∧ r.received ≤ 72057594037927936
  b1 : 0 ≤ r.returned ∧ r.returned ≤ 72057594037927936
  b2 : 0 ≤ r.came ∧ r.came ≤ 72057594037927936
  b3 : 0 ≤ r.shipped ∧ r.shipped ≤ 72057594037927936
  b4 : 0 ≤ r.scrapped ∧ r.scrapped ≤ 72057594037927936
  b5 : 0 ≤ r.sent ∧ r.sent ≤ 72057594037927936
theorem SR.each_iff {r : SR} : r.each = true ↔ SRb r := by
  simp only [SR.each, Bool.and_eq_true, mayI_iff, flowI_iff]
  exact ⟨fun ⟨⟨⟨⟨a, b⟩, c⟩, d⟩, ⟨⟨⟨⟨e, f⟩, g⟩, h⟩, i⟩, j⟩ => ⟨a, b, c, d, e, f, g, h, i, j⟩, fun ⟨a, b, c, d, e, f, g, h, i, j⟩ => ⟨⟨⟨⟨a, b⟩, c⟩, d⟩, ⟨⟨⟨⟨e, f⟩, g⟩, h⟩, i⟩, j⟩⟩
/-- A good that may be in a stock. -/
structure SRok (r : SR) : Prop where
  b : SRb r
  sum : 0 ≤ r.sum ∧ r.sum ≤ 1099511627776
  bal : r.sum = r.flow
theorem SRok.counted {r : SR} (h : SRok r) : -576460752303423488 ≤ r.counted ∧ r.counted ≤ 576460752303423488 := by
  have h0 := h.bal
  unfold SR.sum SR.flow at h0
  obtain ⟨⟨a0, a1, a2, a3, b0, b1, b2, b3, b4, b5⟩, -, -⟩ := h
  omega
theorem SRok.right {r : SR} (h : SRok r) : r.right = true := by
  unfold SR.right
  rw [Bool.and_eq_true, SR.each_iff, mayI_iff]
  exact ⟨h.b, h.sum⟩
theorem SRok.of {r : SR} (h1 : r.right = true) (h2 : r.bal = true) : SRok r := by
  unfold SR.right at h1
  rw [Bool.and_eq_true, SR.each_iff, mayI_iff] at h1
  unfold SR.bal at h2
  simp only [Bool.and_eq_true, decide_eq_true_eq] at h2
  exact ⟨h1.1, h1.2, h2.2.2⟩
theorem SRok.ofR {r : SR} (h1 : r.right = true) (h2 : r.sum = r.flow) : SRok r := by
  unfold SR.right at h1
  rw [Bool.and_eq_true, SR.each_iff, mayI_iff] at h1
  exact ⟨h1.1, h1.2, h2⟩
theorem SRok.zero : SRok SR.zero := by
  refine ⟨⟨?_, ?_, ?_, ?_, ?_, ?_, ?_, ?_, ?_, ?_⟩, ?_, ?_⟩ <;> simp [SR.zero, SR.sum, SR.flow]
/-- A row's number, by its place. -/
def SR.get (r : SR) : Nat → Int
  | 0 => r.free
  | 1 => r.held
  | 2 => r.picked
  | 3 => r.aside
  | 4 => r.received
  | 5 => r.returned
  | 6 => r.counted
  | 7 => r.came
  | 8 => r.shipped
  | 9 => r.scrapped
  | _ => r.sent
def SR.set (r : SR) (i : Nat) (n : Int) : SR :=
  match i with
  | 0 => { r with free := n }
  | 1 => { r with held := n }
  | 2 => { r with picked := n }
  | 3 => { r with aside := n }
  | 4 => { r with received := n }
  | 5 => { r with returned := n }
  | 6 => { r with counted := n }
  | 7 => { r with came := n }
  | 8 => { r with shipped := n }
  | 9 => { r with scrapped := n }
  | _ => { r with sent := n }
def SR.add (r : SR) (o : Option Nat) (n : Int) : SR := match o with
  | none => r
  | some i => r.set i (r.get i + n)
theorem SR.cs_get (r : SR) {i : Nat} (h : i < 11) : r.cs[i]? = some (.int .i64 (r.get i)) := by
  match i, h with
  | 0, _ => rfl
  | 1, _ => rfl
  | 2, _ => rfl
  | 3, _ => rfl
  | 4, _ => rfl
  | 5, _ => rfl
  | 6, _ => rfl
  | 7, _ => rfl
  | 8, _ => rfl
  | 9, _ => rfl
  | 10, _ => rfl
theorem SR.cs_set (r : SR) {i : Nat} (h : i < 11) (n : Int) : r.cs.setIfInBounds i (.int .i64 n) = (r.set i n).cs := by
  match i, h with
  | 0, _ => rfl
  | 1, _ => rfl
  | 2, _ => rfl
  | 3, _ => rfl
  | 4, _ => rfl
  | 5, _ => rfl
  | 6, _ => rfl
  | 7, _ => rfl
  | 8, _ => rfl
  | 9, _ => rfl
  | 10, _ => rfl
/-- Where a kind takes from, where it goes, which flow it is. -/
def roadF (k : Int) : Option Nat × Option Nat × Option Nat :=
  if k = 1 then (none, some 0, some 4) else
  if k = 2 then (some 0, some 1, none) else
  if k = 3 then (some 1, some 0, none) else
  if k = 4 then (some 1, some 2, none) else
  if k = 5 then (some 2, some 1, none) else
  if k = 6 then (some 2, none, some 8) else
  if k = 7 then (none, some 3, some 5) else
  if k = 8 then (some 3, some 0, none) else
  if k = 9 then (some 3, none, some 9) else
  if k = 10 then (some 0, none, some 10) else
  if k = 11 then (none, some 0, some 7) else (none, none, none)
theorem roadF_lt (k : Int) : (∀ i, (roadF k).1 = some i → i < 4) ∧ (∀ i, (roadF k).2.1 = some i → i < 4) ∧ (∀ i, (roadF k).2.2 = some i → 4 ≤ i ∧ i ≠ 6 ∧ i < 11) := by
  obtain ⟨R, hR⟩ : ∃ R, roadF k = R := ⟨_, rfl⟩
  rw [hR]
  unfold roadF at hR
  by_cases h1 : k = 1
  · rw [if_pos h1] at hR; subst hR; simp
  rw [if_neg h1] at hR
  by_cases h2 : k = 2
  · rw [if_pos h2] at hR; subst hR; simp
  rw [if_neg h2] at hR
  by_cases h3 : k = 3
  · rw [if_pos h3] at hR; subst hR; simp
  rw [if_neg h3] at hR
  by_cases h4 : k = 4
  · rw [if_pos h4] at hR; subst hR; simp
  rw [if_neg h4] at hR
  by_cases h5 : k = 5
  · rw [if_pos h5] at hR; subst hR; simp
  rw [if_neg h5] at hR
  by_cases h6 : k = 6
  · rw [if_pos h6] at hR; subst hR; simp
  rw [if_neg h6] at hR
  by_cases h7 : k = 7
  · rw [if_pos h7] at hR; subst hR; simp
  rw [if_neg h7] at hR
  by_cases h8 : k = 8
  · rw [if_pos h8] at hR; subst hR; simp
  rw [if_neg h8] at hR
  by_cases h9 : k = 9
  · rw [if_pos h9] at hR; subst hR; simp
  rw [if_neg h9] at hR
  by_cases h10 : k = 10
  · rw [if_pos h10] at hR; subst hR; simp
  rw [if_neg h10] at hR
  by_cases h11 : k = 11
  · rw [if_pos h11] at hR; subst hR; simp
  rw [if_neg h11] at hR
  subst hR; simp
def SR.move (r : SR) (k n : Int) : SR := ((r.add (roadF k).1 (-n)).add (roadF k).2.1 n).add (roadF k).2.2 n
/-- What is done keeps a good in balance. -/
theorem SR.move_bal {r : SR} (h : r.sum = r.flow) (k n : Int) : (r.move k n).sum = (r.move k n).flow := by
  unfold SR.sum SR.flow at h ⊢
  obtain ⟨R, hR⟩ : ∃ R, roadF k = R := ⟨_, rfl⟩
  unfold SR.move
  rw [hR]
  unfold roadF at hR
  by_cases h1 : k = 1
  · rw [if_pos h1] at hR; subst hR; simp only [SR.add, SR.set, SR.get]; omega
  rw [if_neg h1] at hR
  by_cases h2 : k = 2
  · rw [if_pos h2] at hR; subst hR; simp only [SR.add, SR.set, SR.get]; omega
  rw [if_neg h2] at hR
  by_cases h3 : k = 3
  · rw [if_pos h3] at hR; subst hR; simp only [SR.add, SR.set, SR.get]; omega
  rw [if_neg h3] at hR
  by_cases h4 : k = 4
  · rw [if_pos h4] at hR; subst hR; simp only [SR.add, SR.set, SR.get]; omega
  rw [if_neg h4] at hR
  by_cases h5 : k = 5
  · rw [if_pos h5] at hR; subst hR; simp only [SR.add, SR.set, SR.get]; omega
  rw [if_neg h5] at hR
  by_cases h6 : k = 6
  · rw [if_pos h6] at hR; subst hR; simp only [SR.add, SR.set, SR.get]; omega
  rw [if_neg h6] at hR
  by_cases h7 : k = 7
  · rw [if_pos h7] at hR; subst hR; simp only [SR.add, SR.set, SR.get]; omega
  rw [if_neg h7] at hR
  by_cases h8 : k = 8
  · rw [if_pos h8] at hR; subst hR; simp only [SR.add, SR.set, SR.get]; omega
  rw [if_neg h8] at hR
  by_cases h9 : k = 9
  · rw [if_pos h9] at hR; subst hR; simp only [SR.add, SR.set, SR.get]; omega
  rw [if_neg h9] at hR
  by_cases h10 : k = 10
  · rw [if_pos h10] at hR; subst hR; simp only [SR.add, SR.set, SR.get]; omega
  rw [if_neg h10] at hR
  by_cases h11 : k = 11
  · rw [if_pos h11] at hR; subst hR; simp only [SR.add, SR.set, SR.get]; omega
  rw [if_neg h11] at hR
  subst hR
  exact h
abbrev Stk := List (Str × SR)
def rowAt (A : Stk) (g : Str) : SR := (getS A g).getD SR.zero
abbrev Its := List (Str × Int)
def goodC (c : UInt8) : Bool := (decide (97 ≤ c.toNat) && decide (c.toNat ≤ 122)) || (decide (48 ≤ c.toNat) && decide (c.toNat ≤ 57)) || decide (c.toNat = 45)
def goodB (s : Str) : Bool := s.all goodC && (decide (0 < s.length) && decide (s.length ≤ 16))
def itsOk : Str → Its → Bool
  | _, [] => true
  | last, p :: r => goodB p.1 && decide (1 ≤ p.2) && mayI p.2 && decide (last < p.1) && itsOk p.1 r
def mayL (l : Its) : Bool := itsOk [] l && decide (l.length ≤ 16)
def doMay (A : Stk) (k : Int) (l : Its) : Int := match (roadF k).1 with
  | none => 0
  | some i => if l.any (fun p => (getS A p.1).isNone) = true then 71 else if l.any (fun p => decide ((rowAt A p.1).get i < p.2)) = true then 51 else 0
def doFold (k : Int) : Stk → Its → Option Stk
  | A, [] => some A
  | A, p :: r => if ((rowAt A p.1).move k p.2).right = true then doFold k (putS ktS.lt A p.1 ((rowAt A p.1).move k p.2)) r else none
def doS (A : Stk) (k : Int) (l : Its) : Int × Stk :=
  if k < 1 ∨ 11 < k then (1, A) else if mayL l = false then (60, A) else if doMay A k l ≠ 0 then (doMay A k l, A) else
  match doFold k A l with
  | none => (50, A)
  | some B => if 64 < B.length then (2, A) else (0, B)
/-- How many more there are, what is wrong, and the stock behind it. -/
def countS (A : Stk) (g : Str) (n : Int) : Int × Int × Stk :=
  if mayI n = false then (0, 1, A) else match getS A g with
  | none => (0, 71, A)
  | some r => if n < r.held then (0, 70, A) else
    let r' := { r with free := r.free + (n - r.held - r.free), counted := r.counted + (n - r.held - r.free) }
    if r'.right = true then (n - r.held - r.free, 0, putS ktS.lt A g r') else (0, 50, A)
def offerS (A : Stk) (l : Its) : Its := l.filterMap fun p => if 0 < min p.2 (rowAt A p.1).free then some (p.1, min p.2 (rowAt A p.1).free) else none
/-- A stock that may be. -/
structure SOk (A : Stk) : Prop where
  rise : RiseS A
  good : ∀ p ∈ A, goodB p.1 = true
  row : ∀ p ∈ A, SRok p.2
  len : A.length ≤ 64
theorem getS_memS {ν : Type} {A : List (Str × ν)} {g : Str} {v : ν} (h : getS A g = some v) : (g, v) ∈ A := by
  induction A with
  | nil => cases h
  | cons p r ih =>
    simp only [getS] at h
    by_cases e : p.1 = g
    · rw [if_pos e] at h
      cases h
      subst e
      simp
    · rw [if_neg e] at h
      exact List.mem_cons_of_mem _ (ih h)
theorem SOk.at_ {A : Stk} (h : SOk A) (g : Str) : SRok (rowAt A g) := by
  show SRok ((getS A g).getD SR.zero)
  cases e : getS A g with
  | none => exact SRok.zero
  | some v => exact h.row _ (getS_memS e)
end Go.Proofs.YtogphlnakdnchaaGreat

namespace Go.Proofs.YtogphlnakdnchaaGreat
open Go.RowKit
/-- w' is w, but for the old blocks of S, and for new blocks. -/
structure Fr (S : Nat → Prop) (w w' : World) : Prop where
  os : w'.os = w.os
  tape : w'.tape = w.tape
  output : w'.output = w.output
  size : w.heap.size ≤ w'.heap.size
  same : ∀ b, b < w.heap.size → ¬ S b → w'.heap[b]? = w.heap[b]?
section
variable {S S' : Nat → Prop} {w w' w'' : World}
theorem Fr.refl (S : Nat → Prop) (w : World) : Fr S w w := ⟨rfl, rfl, rfl, Nat.le_refl _, fun _ _ _ => rfl⟩
theorem Fr.trans (h : Fr S w w') (h' : Fr S w' w'') : Fr S w w'' :=
  ⟨h'.os.trans h.os, h'.tape.trans h.tape, h'.output.trans h.output, Nat.le_trans h.size h'.size, fun b hb hs => (h'.same b (Nat.lt_of_lt_of_le hb h.size) hs).trans (h.same b hb hs)⟩
theorem Fr.mono (h : Fr S w w') (hS : ∀ b, b < w.heap.size → S b → S' b) : Fr S' w w' := ⟨h.os, h.tape, h.output, h.size, fun b hb hs => h.same b hb (fun e => hs (hS b hb e))⟩
/-- As 'trans', where the second step may turn new blocks too. -/
theorem Fr.trans' (h : Fr S w w') (h' : Fr S' w' w'') (hS : ∀ b, b < w.heap.size → S' b → S b) : Fr S w w'' :=
  ⟨h'.os.trans h.os, h'.tape.trans h.tape, h'.output.trans h.output, Nat.le_trans h.size h'.size, fun b hb hs => (h'.same b (Nat.lt_of_lt_of_le hb h.size) (fun e => hs (hS b hb e))).trans (h.same b hb hs)⟩
theorem Fr.drew (h : Fr S w w') : Fr S w w'.drew := ⟨h.os, h.tape, h.output, h.size, h.same⟩
theorem Fr.drewN (h : Fr S w w') (n : Nat) : Fr S w (w'.drewN n) := ⟨h.os, h.tape, h.output, h.size, h.same⟩
theorem Fr.grown {row : Option Nat} (h : w.grownBy w' row) (hr : ∀ r, row = some r → r < w.heap.size → S r) : Fr S w w' :=
  ⟨h.os, h.tape, h.output, h.size, fun b hb hs => h.block b hb (fun e => hs (hr b e.symm hb))⟩
theorem Fr.below (h : Below w.heap.size w w') : Fr S w w' := ⟨h.os, h.tape, h.output, h.size, fun b hb _ => h.block b hb⟩
theorem Fr.toBelow {B : Nat} (h : Fr S w w') (hS : ∀ b, S b → B ≤ b) (hB : B ≤ w.heap.size) : Below B w w' :=
  ⟨h.os, h.tape, h.output, h.size, fun b hb => h.same b (by omega) (fun e => by have := hS b e; omega)⟩
theorem Fr.alloc (h : Fr S w w') (o : Obj) : Fr S w (w'.alloc o) := h.trans (Fr.grown (row := none) (World.grownBy_alloc w' o none) (fun _ e => by cases e))
theorem Fr.setCell (h : Fr S w w') {p : Addr} (hp : p.block < w.heap.size → S p.block) (u : Value) : Fr S w (w'.setCell p u) :=
  ⟨h.os, h.tape, h.output, by simpa [World.setCell] using h.size, fun b hb hs => (Below.heap_setCell w' p u b (fun e => hs (by rw [e]; exact hp (by rw [← e]; exact hb)))).trans (h.same b hb hs)⟩
theorem Fr.putObj (h : Fr S w w') {l : Nat} (hl : l < w.heap.size → S l) (o : Obj) : Fr S w (w'.putObj l o) :=
  ⟨h.os, h.tape, h.output, by simpa using h.size, fun b hb hs => (World.putObj_heap_other (fun e => hs (by rw [e]; exact hl (by rw [← e]; exact hb)))).trans (h.same b hb hs)⟩
theorem Fr.turned {b : Nat} (h : w.mapTurned w' b) (hb : S b) : Fr S w w' := Fr.grown h.grown (fun r e _ => by cases e; exact hb)
theorem Fr.at_ {b : Nat} {o : Obj} (h : Fr S w w') (hb : w.heap[b]? = some o) (hs : ¬ S b) : w'.heap[b]? = some o := (h.same b (Array.getElem?_eq_some_iff.1 hb).1 hs).trans hb
theorem Fr.cell {p : Addr} {v : Value} (h : Fr S w w') (hc : w.cell? p = some v) (hs : ¬ S p.block) : w'.cell? p = some v :=
  (World.cell?_of_block (h.same p.block (World.block_lt_of_cell? w _ hc) hs)).trans hc
theorem Fr.box {b : Nat} {t : TypeId} {v : Value} (h : Fr S w w') (hb : Boxed w b t v) (hs : ¬ S b) : Boxed w' b t v := h.at_ hb hs
theorem Fr.mp {κ ν : Type} {k : TypeId} {T : KT κ} {enc : ν → Value} {b : Nat} {l : List (κ × ν)} {P : Program} (h : Fr S w w') (hm : Mp P w k T enc b l) (hs : ¬ S b) : Mp P w' k T enc b l :=
  hm.at_ (h.same b hm.lt hs)
theorem Fr.row {base : Nat} {e : TypeId} {size n : Nat} {v : Value} {xs : List Value} (h : Fr S w w') (ho : w.ownsRow base e size v n xs) (hs : ∀ b, v.ownBlock = some b → ¬ S b) : w'.ownsRow base e size v n xs := by
  refine ⟨ho.1, ?_⟩
  rcases ho.2 with h0 | ⟨g, cap, cur, rfl, hbase, hb, r⟩
  · exact .inl h0
  · exact .inr ⟨g, cap, cur, rfl, hbase, h.at_ hb (hs g rfl), r⟩
/-- A block that is none of the program's own data: a loop's record, an iterator over a map or a string .. -/
def auxObj : Obj → Bool
  | .cells .. | .map .. | .pending .. | .view .. | .number .. | .chan .. | .coro .. | .finalizers .. => false
  | _ => true
def AuxAt (B : Nat) (w : World) (b : Nat) : Prop := B ≤ b ∧ ∃ o, w.heap[b]? = some o ∧ auxObj o = true
/-- Behind it cells and maps are as they were, and what lay below B. -/
abbrev Fa (B : Nat) (w w' : World) : Prop := Fr (AuxAt B w) w w'
theorem Fa.cells {B b : Nat} {cs : Array Value} {t : TypeId} {fr : Nat × Nat} (h : Fa B w w') (hb : w.heap[b]? = some (.cells cs t fr)) : w'.heap[b]? = some (.cells cs t fr) :=
  h.at_ hb (fun ⟨_, o, ho, hx⟩ => by rw [hb] at ho; cases ho; cases hx)
theorem Fa.cell {B : Nat} {p : Addr} {v : Value} (h : Fa B w w') (hc : w.cell? p = some v) : w'.cell? p = some v := by
  refine Fr.cell h hc (fun ⟨_, o, ho, hx⟩ => ?_)
  unfold World.cell? at hc
  rw [ho] at hc
  cases o <;> simp at hc
  cases hx
theorem Fa.box {B b : Nat} {t : TypeId} {v : Value} (h : Fa B w w') (hb : Boxed w b t v) : Boxed w' b t v := Fa.cells h hb
theorem Fa.mp {κ ν : Type} {k : TypeId} {T : KT κ} {enc : ν → Value} {B b : Nat} {l : List (κ × ν)} {P : Program} (h : Fa B w w') (hm : Mp P w k T enc b l) : Mp P w' k T enc b l := by
  obtain ⟨n, es, clock, hb, r⟩ := hm
  exact ⟨n, es, clock, h.at_ hb (fun ⟨_, o, ho, hx⟩ => by rw [hb] at ho; cases ho; cases hx), r⟩
theorem Fa.row {base B : Nat} {e : TypeId} {size n : Nat} {v : Value} {xs : List Value} (h : Fa B w w') (ho : w.ownsRow base e size v n xs) : w'.ownsRow base e size v n xs := by
  refine ⟨ho.1, ?_⟩
  rcases ho.2 with h0 | ⟨g, cap, cur, rfl, hbase, hb, r⟩
  · exact .inl h0
  · exact .inr ⟨g, cap, cur, rfl, hbase, Fa.cells h hb, r⟩
theorem Fa.old {B : Nat} (h : Fa B w' w'') (h0 : Fr S w w') (hB : w.heap.size ≤ B) : Fr S w w'' := h0.trans' h (fun b hb hx => by have := hx.1; omega)
end
end Go.Proofs.YtogphlnakdnchaaGreat

namespace Go.Proofs.YtogphlnakdnchaaGreat
open Go.RowKit
def Stp (TS : Nat → Prop) (w w' : World) (TS' : Nat → Prop) : Prop := Fr TS w w' ∧ ∀ b, TS' b → TS b ∨ w.heap.size ≤ b
section
variable {w w' : World} {TS : Nat → Prop}
theorem Stp.refl (h : Fr (fun _ => False) w w') : Stp TS w w' TS := ⟨h.mono (fun _ _ e => e.elim), fun _ e => .inl e⟩
theorem Stp.low {TS TS' : Nat → Prop} {w w' : World} {n : Nat} (hs : Stp TS w w' TS') (hT : ∀ b, TS b → n ≤ b) (hn : n ≤ w.heap.size) : ∀ b, TS' b → n ≤ b := fun b hb => by
  rcases hs.2 b hb with h | h
  · exact hT b h
  · omega
theorem Stp.fr {TS TS' : Nat → Prop} {w0 w w' : World} {n : Nat} (hs : Stp TS w w' TS') (hf : Fr (fun b => n ≤ b) w0 w) (hT : ∀ b, TS b → n ≤ b) : Fr (fun b => n ≤ b) w0 w' := hf.trans' hs.1 (fun b _ e => hT b e)
theorem Stp.trans {TS TS' TS'' : Nat → Prop} {w w' w'' : World} (h : Stp TS w w' TS') (h' : Stp TS' w' w'' TS'') : Stp TS w w'' TS'' :=
  ⟨h.1.trans' h'.1 (fun b hb e => (h.2 b e).elim id (fun e => by omega)), fun b hb => by
    rcases h'.2 b hb with e | e
    · exact h.2 b e
    · exact .inr (Nat.le_trans h.1.size e)⟩
end
end Go.Proofs.YtogphlnakdnchaaGreat

namespace Go.Proofs.YtogphlnakdnchaaGreat
open Go.RowKit Go.Maps
theorem good_pos {s : Str} (h : goodB s = true) : ([] : Str) < s := by
  cases s with
  | nil => simp [goodB] at h
  | cons a r => exact List.nil_lt_cons a r
theorem kMay (w : World) (n : Int) : Calls Tryz.prog 68 #[.int .i64 n] w fun e w' => e = .returned (.bool (mayI n)) ∧ w = w' := by
  unfold mayI
  by_cases h1 : 0 ≤ n <;> by_cases h2 : n ≤ 1099511627776
  all_goals
    simp only [h1, h2, decide_true, decide_false, Bool.and_true, Bool.and_false]
    go_enter Tryz.func68, Tryz.ntmps68
    go_wp2
    go_ret
    exact ⟨rfl, rfl⟩
end Go.Proofs.YtogphlnakdnchaaGreat

namespace Go.Proofs.YtogphlnakdnchaaGreat
open Go.RowKit
variable {α : Type}
/-- What a caller keeps between two rounds abides whatever the iterator, and the loop's own record, do. -/
def Ab (B : Nat) (J : World → Prop) : Prop := ∀ W W', J W → Fa B W W' → J W'
/-- A round of loop l: the yield is taken up as a round, which ends in R. -/
abbrev Yd (l : Nat) (args : Array Value) (W : World) (R : Ending → World → Prop) : Prop := YieldAt Fence.wide 0 Tryz.prog l args W R
/-- The blocks that rounds have made: C, and what has been made from W to W'. -/
def CC (C : Nat → Prop) (W W' : World) (b : Nat) : Prop := C b ∨ (W.heap.size ≤ b ∧ b < W'.heap.size)
/-- THE ITERATOR gf (with what it has captured, lb) GIVES X, one by one, or a part of it if a round says no more; between rounds it reads no block that the rounds may turn (S: the old blocks that they may turn; C: those that rounds have made). -/
def ItX (gf : Nat) (lb : Array Value) (encs : α → Array Value) (X : List α) (S : Nat → Prop) (w : World) : Prop :=
  ∀ (l : Nat) (S' : Nat → Prop) (J Jx : Nat → (Nat → Prop) → World → Prop) (W : World), Below w.heap.size w W → (∀ b, S' b → b < W.heap.size ∧ (b < w.heap.size → S b)) → (∀ k C, Ab W.heap.size (J k C)) →
    (∀ k x C W1, X[k]? = some x → J k C W1 → Yd l (encs x) W1 fun e W' =>
      (e = .returned (.bool true) ∧ J (k + 1) (CC C W1 W') W' ∧ Fr (fun b => S' b ∨ C b) W1 W') ∨ (e = .returned (.bool false) ∧ Jx (k + 1) (CC C W1 W') W' ∧ Fr (fun b => S' b ∨ C b) W1 W')) →
    (∀ k C, Ab W.heap.size (Jx k C)) →
    J 0 (fun _ => False) W →
    Calls Tryz.prog gf (#[.func (.yield l) #[] #[]] ++ lb) W fun e W' => (∃ v, e = .returned v) ∧ ((∃ C, J X.length C W') ∨ ∃ k C, k ≤ X.length ∧ Jx k C W')
theorem ItX.mono {gf : Nat} {lb : Array Value} {encs : α → Array Value} {X : List α} {S S0 : Nat → Prop} {w : World} (h : ItX gf lb encs X S w) (hS : ∀ b, S0 b → S b) : ItX gf lb encs X S0 w :=
  fun l S' J Jx W hW hS' => h l S' J Jx W hW (fun b hb => ⟨(hS' b hb).1, fun hl => hS b ((hS' b hb).2 hl)⟩)
/-- How a round's body ends: C0: what the rounds had made when this one began, in W0. -/
def bodyEnd (S C0 : Nat → Prop) (W0 : World) (I : Nat → (Nat → Prop) → World → Prop) (Ix : Code → Nat → (Nat → Prop) → World → Prop) (k : Nat) (W : World) : Exit → Act → World → Prop
  | .normal, _, W' => Fr (fun b => S b ∨ CC C0 W0 W b) W W' ∧ I k (CC C0 W0 W') W'
  | .ret, _, W' => Fr (fun b => S b ∨ CC C0 W0 W b) W W' ∧ Ix .ret k (CC C0 W0 W') W'
  | .exit id, _, W' => Fr (fun b => S b ∨ CC C0 W0 W b) W W' ∧ Ix (.exit id) k (CC C0 W0 W') W'
  | .goto t, _, W' => Fr (fun b => S b ∨ CC C0 W0 W b) W W' ∧ Ix (.goto t) k (CC C0 W0 W') W'
  | .panic _, _, _ => False
  | .outgrown, _, _ => False
/-- Behind the assignment to the loop's variables: what the body owes. -/
def Took (w : World) (S C : Nat → Prop) (I : Nat → (Nat → Prop) → World → Prop) (Ix : Code → Nat → (Nat → Prop) → World → Prop) (k l : Nat) (W : World) (body : Code) (a' : Act) (W' : World) : Prop :=
  Fr (fun b => S b ∨ C b) W W' ∧ I k C W' ∧ ∀ Wb, I k C Wb → Fr S w Wb → Fa w.heap.size W' Wb → W.heap.size ≤ Wb.heap.size → w.heap.size ≤ W.heap.size → (∀ b, C b → w.heap.size ≤ b) → (∃ r, Wb.heap[l]? = some (.loop r)) →
    body.wpIn (Fence.wide.inRound l) 0 Tryz.prog (bodyEnd S C W I Ix (k + 1) Wb) a' Wb
theorem Took.mk {w : World} {S C : Nat → Prop} {I : Nat → (Nat → Prop) → World → Prop} {Ix : Code → Nat → (Nat → Prop) → World → Prop} {k l : Nat} {W : World} {body : Code} {a' : Act} {W' : World}
    (h1 : Fr (fun b => S b ∨ C b) W W') (h2 : I k C W') (h3 : ∀ Wb, I k C Wb → Fr S w Wb → Fa w.heap.size W' Wb → W.heap.size ≤ Wb.heap.size → w.heap.size ≤ W.heap.size → (∀ b, C b → w.heap.size ≤ b) → (∃ r, Wb.heap[l]? = some (.loop r)) →
    body.wpIn (Fence.wide.inRound l) 0 Tryz.prog (bodyEnd S C W I Ix (k + 1) Wb) a' Wb) : Took w S C I Ix k l W body a' W' := ⟨h1, h2, h3⟩
theorem frAlloc {B : Nat} {w : World} (o : Obj) : Fa B w (w.alloc o) := (Fr.refl _ _).alloc o
theorem frPut {B : Nat} {w : World} {l : Nat} {o : Obj} (o' : Obj) (hB : B ≤ l) (hl : w.heap[l]? = some o) (ho : auxObj o = true) : Fa B w (w.putObj l o') := (Fr.refl _ _).putObj (fun _ => ⟨hB, o, hl, ho⟩) o'
theorem Ab.fr {S : Nat → Prop} {w : World} {B : Nat} (hB : w.heap.size ≤ B) : Ab B (fun W => Fr S w W) := fun _ _ h hf => Fa.old hf h hB
theorem Fa.up {B B' : Nat} {W W' : World} (h : Fa B' W W') (hB : B ≤ B') : Fa B W W' := Fr.mono h fun _ _ ⟨a, b⟩ => ⟨Nat.le_trans hB a, b⟩
/-- **A range over an iterator that gives X**, at the outermost level of a function: the loop's variables may be boxed (W': behind the assignment; Wb: where the body begins). C: the blocks that the rounds have made. -/
theorem rangeX {g : Operand} {ps : Array Tmp} {assign body : Code} {Q : Exit → Act → World → Prop} {a : Act} {w w0 : World} {n : Nat}
    {gf : Nat} {lb : Array Value} (hg : a.eval g = .func (.func gf) #[] lb) (eg : ∀ args w, (callFunc gf args).run Tryz.prog w = .ok (.enter gf args) w)
    {encs : α → Array Value} {X : List α} {S : Nat → Prop} (hseq : ItX gf lb encs X S w0) (hb0 : Below w0.heap.size w0 w) (hS : ∀ b, S b → b < w.heap.size) (hps : ∀ x, (encs x).size = ps.size)
    (I : Nat → (Nat → Prop) → World → Prop) (Ix : Code → Nat → (Nat → Prop) → World → Prop) (hI : ∀ k C, Ab w.heap.size (I k C)) (hIx : ∀ c k C, Ab w.heap.size (Ix c k C)) (h0 : I 0 (fun _ => False) w)
    (hround : ∀ (l k : Nat) (x : α) (C : Nat → Prop) (W : World), X[k]? = some x → w.heap.size ≤ l → I k C W → Fr S w W →
      assign.wpIn (Fence.wide.inRound l) 0 Tryz.prog (Exit.then (Took w S C I Ix k l W body) (fun _ _ _ => False)) { tmps := (ps.zip (encs x)).foldl (fun t (p, v) => t.setIfInBounds p v) a.tmps, defers := [] } W)
    (hdone : ∀ (D : Nat) (C : Nat → Prop) (W : World), w.heap.size ≤ D → I X.length C W → Fr S w W → W.heap[D]? = some (.deferred (some [])) → Q .normal { a with defers := { target := .collected D, args := #[] } :: a.defers } W)
    (hstop : ∀ (D : Nat) (c : Code) (k : Nat) (C : Nat → Prop) (W : World), w.heap.size ≤ D → k ≤ X.length → Ix c k C W → Fr S w W → W.heap[D]? = some (.deferred (some [])) →
      c.wpIn Fence.wide n Tryz.prog Q { a with defers := { target := .collected D, args := #[] } :: a.defers } W) :
    (Code.rangeFunc g ps assign body).wpIn Fence.wide n Tryz.prog Q a w := by
  refine wpIn_rangeFunc ?_
  intro fn hfn
  obtain ⟨rec, hrec⟩ : ∃ rec : LoopState → Option Code → Loop, rec = fun st pe => { state := st, pending := pe, fn, tmps := a.tmps, params := ps, assign, body, defers := w.heap.size } := ⟨_, rfl⟩
  obtain ⟨W1, hW1⟩ : ∃ W1, (w.alloc (.deferred (some []))).alloc (.loop (rec .ready none)) = W1 := ⟨_, rfl⟩
  have hs1 : W1.heap.size = w.heap.size + 2 := by rw [← hW1]; simp
  have hL1 : W1.heap[w.heap.size + 1]? = some (.loop (rec .ready none)) := by
    rw [← hW1]; have := World.alloc_heap_new (w.alloc (.deferred (some []))) (.loop (rec .ready none)); rwa [World.size_alloc] at this
  have hD1 : W1.heap[w.heap.size]? = some (.deferred (some [])) := by
    rw [← hW1]; exact (Below.heap_alloc _ _ _ (by simp)).trans (World.alloc_heap_new w _)
  have hf1 : Fa w.heap.size w W1 := by rw [← hW1]; exact ((Fr.refl _ _).alloc _).alloc _
  have hr1 : Fr S w W1 := by rw [← hW1]; exact ((Fr.refl _ _).alloc _).alloc _
  have hb1 : Below w0.heap.size w0 W1 := by
    rw [← hW1]; exact hb0.trans ((((Below.refl _ w).alloc (Nat.le_refl _) _).alloc (by simp) _).mono hb0.size)
  refine ⟨w.heap.size + 1, [{ target := .collected w.heap.size, args := #[] }], W1, { target := .fn (.func gf) lb, args := #[.func (.yield (w.heap.size + 1)) #[] #[]] }, W1, gf,
    #[.func (.yield (w.heap.size + 1)) #[] #[]] ++ lb, W1, ?_, ?_, fun _ _ => trivial, ?_, (fun h => by cases h), ?_⟩
  · rw [← hW1, hrec]; exact run_enterLoop_outer _ _ _ _ _
  · simp only [resolve, hg]
    simp [go_sem]
  · simp [invoke, go_sem, eg]
  have hB : w.heap.size ≤ W1.heap.size := by omega
  have hDL : ∀ {st pe A B}, A.heap[w.heap.size + 1]? = some (.loop (rec st pe)) → A.heap[w.heap.size]? = some (.deferred (some [])) → Fa W1.heap.size A B →
      B.heap[w.heap.size + 1]? = some (.loop (rec st pe)) ∧ B.heap[w.heap.size]? = some (.deferred (some [])) := fun hl hd hf =>
    ⟨hf.at_ hl (fun hx => by have := hx.1; omega), hf.at_ hd (fun hx => by have := hx.1; omega)⟩
  refine callsIn_wide.2 ((hseq (w.heap.size + 1) (fun b => S b ∨ b = w.heap.size + 1)
    (fun k C W => I k C W ∧ Fr S w W ∧ (∀ b, C b → w.heap.size + 2 ≤ b) ∧ W.heap[w.heap.size + 1]? = some (.loop (rec .ready none)) ∧ W.heap[w.heap.size]? = some (.deferred (some [])))
    (fun k C W => ∃ c, Ix c k C W ∧ Fr S w W ∧ W.heap[w.heap.size + 1]? = some (.loop (rec .done (some c))) ∧ W.heap[w.heap.size]? = some (.deferred (some [])))
    W1 hb1 ?_ ?_ ?_ ?_ ⟨hI 0 _ _ _ h0 hf1, hr1, fun _ h => h.elim, hL1, hD1⟩).mono ?_)
  · rintro b (h | rfl)
    · have := hS b h
      exact ⟨by omega, fun _ => h⟩
    · exact ⟨by omega, fun h => by have := hb0.size; omega⟩
  · rintro k C A B ⟨hi, hr, hC, hl, hd⟩ hf
    obtain ⟨hl', hd'⟩ := hDL hl hd hf
    exact ⟨hI k C _ _ hi (Fa.up hf hB), Fa.old hf hr hB, hC, hl', hd'⟩
  · -- a round
    rintro k x C W hx ⟨hi, hr, hC, hl, hd⟩
    have hy := run_yield (P := Tryz.prog) (args := encs x) hl (by rw [hrec]; exact hps x)
    rw [hrec] at hy
    have hltW : w.heap.size + 1 < W.heap.size := (Array.getElem?_eq_some_iff.1 hl).1
    have nS : ∀ (A B : World), W.heap.size ≤ A.heap.size → ¬ (S (w.heap.size + 1) ∨ CC C A B (w.heap.size + 1)) ∧ ¬ (S w.heap.size ∨ CC C A B w.heap.size) := fun A B hA => by
      constructor
      · rintro (e | e | e)
        · have := hS _ e; omega
        · have := hC _ e; omega
        · omega
      · rintro (e | e | e)
        · have := hS _ e; omega
        · have := hC _ e; omega
        · omega
    refine ⟨fn, _, assign, body, hy, roundIn_of_wpIn hfn (wpIn_mono (hround _ k x C W hx (by omega) hi hr) ?_)⟩
    rintro e0 a' Wa h0
    cases e0 with
    | normal => ?_
    | _ => exact h0
    obtain ⟨hra, hia, hbody⟩ := h0
    have hla := hra.at_ hl (fun e => e.elim (fun e => by have := hS _ e; omega) (fun e => by have := hC _ e; omega))
    have hda := hra.at_ hd (fun e => e.elim (fun e => by have := hS _ e; omega) (fun e => by have := hC _ e; omega))
    refine ⟨_, run_beginRound hla (by rw [hrec]), ?_⟩
    obtain ⟨Wb, hWb⟩ : ∃ Wb, Wa.putObj (w.heap.size + 1) (.loop { rec .ready none with state := .busy }) = Wb := ⟨_, rfl⟩
    rw [hWb]
    have hlt : w.heap.size + 1 < Wa.heap.size := (Array.getElem?_eq_some_iff.1 hla).1
    have hszb : Wb.heap.size = Wa.heap.size := by rw [← hWb]; simp
    have hlb : Wb.heap[w.heap.size + 1]? = some (.loop { rec .ready none with state := .busy }) := by rw [← hWb]; exact World.putObj_heap_same hlt
    have hdb : Wb.heap[w.heap.size]? = some (.deferred (some [])) := by rw [← hWb]; exact (World.putObj_heap_other (by omega)).trans hda
    have hfb : Fa w.heap.size Wa Wb := by rw [← hWb]; exact frPut _ (by omega) hla rfl
    have hra' : Fr S w Wa := hr.trans' hra (fun b hb e => e.elim id (fun e => by have := hC _ e; omega))
    have hrb : Fr S w Wb := Fa.old hfb hra' (Nat.le_refl _)
    have hrW : Fr (fun b => (S b ∨ b = w.heap.size + 1) ∨ C b) W Wb := by
      rw [← hWb]; exact (hra.mono (fun b _ h => h.elim (fun h => .inl (.inl h)) .inr)).putObj (fun _ => .inl (.inr rfl)) _
    have hszW : W.heap.size ≤ Wb.heap.size := by rw [hszb]; exact hra.size
    refine wpIn_mono (hbody Wb (hI k C _ _ hia hfb) hrb hfb hszW hr.size (fun b e => by have := hC b e; omega) ⟨_, hlb⟩) ?_
    have fin : ∀ (jump : Option Code) (W3 : World), Fr (fun b => S b ∨ CC C W Wb b) Wb W3 →
        (Instr.endRound (w.heap.size + 1) jump).run Tryz.prog W3 = .ok (.bool jump.isNone) (W3.putObj (w.heap.size + 1) (.loop (rec (if jump.isNone then .ready else .done) jump))) ∧
        Fa w.heap.size W3 (W3.putObj (w.heap.size + 1) (.loop (rec (if jump.isNone then .ready else .done) jump))) ∧
        Fr S w (W3.putObj (w.heap.size + 1) (.loop (rec (if jump.isNone then .ready else .done) jump))) ∧
        Fr (fun b => (S b ∨ b = w.heap.size + 1) ∨ C b) W (W3.putObj (w.heap.size + 1) (.loop (rec (if jump.isNone then .ready else .done) jump))) ∧
        (∀ b, CC C W W3 b → w.heap.size + 2 ≤ b) ∧ CC C W (W3.putObj (w.heap.size + 1) (.loop (rec (if jump.isNone then .ready else .done) jump))) = CC C W W3 ∧
        (W3.putObj (w.heap.size + 1) (.loop (rec (if jump.isNone then .ready else .done) jump))).heap[w.heap.size + 1]? = some (.loop (rec (if jump.isNone then .ready else .done) jump)) ∧
        (W3.putObj (w.heap.size + 1) (.loop (rec (if jump.isNone then .ready else .done) jump))).heap[w.heap.size]? = some (.deferred (some [])) := fun jump W3 h3 => by
      have hn := nS W Wb (Nat.le_refl _)
      have hl3 := h3.at_ hlb hn.1
      have hd3 := h3.at_ hdb hn.2
      have he := run_endRound (P := Tryz.prog) jump hl3
      rw [hrec] at he ⊢
      refine ⟨he, frPut _ (by omega) hl3 rfl, ?_, ?_, ?_, ?_, World.putObj_heap_same (Array.getElem?_eq_some_iff.1 hl3).1, (World.putObj_heap_other (by omega)).trans hd3⟩
      · refine (hrb.trans' h3 ?_).putObj (fun h => by omega) _
        rintro b hb (e | e | e)
        · exact e
        · have := hC _ e; omega
        · omega
      · refine (hrW.trans' h3 ?_).putObj (fun _ => .inl (.inr rfl)) _
        rintro b hb (e | e | e)
        · exact .inl (.inl e)
        · exact .inr e
        · omega
      · rintro b (e | e)
        · exact hC _ e
        · omega
      · funext b; simp [CC]
    rintro e a3 W3 hp
    cases e with
    | normal =>
      obtain ⟨h3, hi3⟩ := hp
      obtain ⟨e1, e2, e3, e4, e7, e8, e5, e6⟩ := fin none W3 h3
      exact ⟨_, _, e1, .inl ⟨rfl, ⟨by rw [e8]; exact hI _ _ _ _ hi3 e2, e3, by rw [e8]; exact e7, e5, e6⟩, e4⟩⟩
    | ret =>
      obtain ⟨h3, hi3⟩ := hp
      obtain ⟨e1, e2, e3, e4, e7, e8, e5, e6⟩ := fin (some .ret) W3 h3
      exact ⟨_, _, e1, .inr ⟨rfl, ⟨.ret, by rw [e8]; exact hIx _ _ _ _ _ hi3 e2, e3, e5, e6⟩, e4⟩⟩
    | exit id =>
      obtain ⟨h3, hi3⟩ := hp
      obtain ⟨e1, e2, e3, e4, e7, e8, e5, e6⟩ := fin (some (.exit id)) W3 h3
      exact ⟨_, _, e1, .inr ⟨rfl, ⟨.exit id, by rw [e8]; exact hIx _ _ _ _ _ hi3 e2, e3, e5, e6⟩, e4⟩⟩
    | goto t =>
      obtain ⟨h3, hi3⟩ := hp
      obtain ⟨e1, e2, e3, e4, e7, e8, e5, e6⟩ := fin (some (.goto t)) W3 h3
      exact ⟨_, _, e1, .inr ⟨rfl, ⟨.goto t, by rw [e8]; exact hIx _ _ _ _ _ hi3 e2, e3, e5, e6⟩, e4⟩⟩
    | panic ch => exact hp.elim
    | outgrown => exact hp.elim
  · rintro k C A B ⟨c, hi, hr, hl, hd⟩ hf
    obtain ⟨hl', hd'⟩ := hDL hl hd hf
    exact ⟨c, hIx c k C _ _ hi (Fa.up hf hB), Fa.old hf hr hB, hl', hd'⟩
  · -- behind the iterator
    rintro e W2 ⟨⟨v, rfl⟩, (⟨C, hi, hr, _, hl, hd⟩ | ⟨k, C, hk, c, hi, hr, hl, hd⟩)⟩
    · have he := run_endLoop (P := Tryz.prog) hl (by rw [hrec]; simp)
      rw [hrec] at he
      exact ⟨none, _, he, hdone _ C _ (Nat.le_refl _) (hI _ _ _ _ hi (frPut _ (by omega) hl rfl)) (hr.putObj (fun h => by omega) _) ((World.putObj_heap_other (by omega)).trans hd)⟩
    · have he := run_endLoop (P := Tryz.prog) hl (by rw [hrec]; simp)
      rw [hrec] at he
      exact ⟨some c, _, he, hstop _ c k C _ (Nat.le_refl _) hk (hIx c k C _ _ hi (frPut _ (by omega) hl rfl)) (hr.putObj (fun h => by omega) _) ((World.putObj_heap_other (by omega)).trans hd)⟩
theorem boxed_below {B : Nat} {w w' : World} {b : Nat} {t : TypeId} {v : Value} (h : Boxed w b t v) (hb : Below B w w') (h1 : b < B) : Boxed w' b t v := (hb.block b h1).trans h
theorem row_slice {w : World} {base : Nat} {e : TypeId} {size n : Nat} {v : Value} {xs : List Value} (h : w.ownsRow base e size v n xs) : ∃ a c, v = .slice a n c := by
  rcases h.2 with ⟨e1, e2⟩ | ⟨_, _, _, e1, _⟩
  · exact ⟨_, _, by rw [e1, e2]⟩
  · exact ⟨_, _, e1⟩
theorem row_addr {w : World} {base : Nat} {e : TypeId} {size n c : Nat} {a : Option Addr} {xs : List Value} (h : w.ownsRow base e size (.slice a n c) n xs) (hn : 0 < n) : ∃ g, a = some ⟨g, 0, none⟩ ∧ base ≤ g ∧ g < w.heap.size := by
  obtain ⟨g, c', e1, h1, h2⟩ := h.form hn
  injection e1 with e1
  exact ⟨g, e1, h1, h2⟩
end Go.Proofs.YtogphlnakdnchaaGreat

namespace Go.Proofs.YtogphlnakdnchaaGreat
open Go.RowKit Go.Maps
/-- A slice of items. -/
def Il (w : World) (v : Value) (L : Its) : Prop := L.length ≤ 9223372036854775807 ∧ ∃ (a : Option Addr) (c : Nat), v = .slice a L.length c ∧ ∀ (i : Nat) (p : Str × Int), L[i]? = some p → okS p.1 ∧ okI p.2 ∧
  ∃ ad, a = some ad ∧ w.cell? (ad.add (i * 2)) = some (vS p.1) ∧ w.cell? ⟨(ad.add (i * 2)).block, (ad.add (i * 2)).off + 1, none⟩ = some (.int .i64 p.2)
theorem add_block (ad : Addr) (i : Nat) : (ad.add i).block = ad.block := by unfold Addr.add; split <;> rfl
theorem Il.keep {S : Nat → Prop} {w w' : World} {v : Value} {L : Its} (h : Il w v L) (hf : Fr S w w') (hS : L ≠ [] → ∀ b, v.ownBlock = some b → ¬ S b) : Il w' v L := by
  obtain ⟨h0, a, c, rfl, h1⟩ := h
  refine ⟨h0, a, c, rfl, fun i p hp => ?_⟩
  obtain ⟨b1, b2, ad, rfl, c0, c1⟩ := h1 i p hp
  have hb := add_block ad (i * 2)
  have hne : L ≠ [] := fun e => by rw [e] at hp; simp at hp
  exact ⟨b1, b2, ad, rfl, hf.cell c0 (fun e => hS hne ad.block rfl (hb ▸ e)), hf.cell c1 (fun e => hS hne ad.block rfl (hb ▸ e))⟩
theorem Il.fr {S : Nat → Prop} {w w' : World} {v : Value} {L : Its} (h : Il w v L) (hf : Fr S w w') (hS : ∀ b, S b → w.heap.size ≤ b) : Il w' v L := by
  obtain ⟨h0, a, c, rfl, h1⟩ := h
  refine ⟨h0, a, c, rfl, fun i p hp => ?_⟩
  obtain ⟨b1, b2, ad, rfl, c0, c1⟩ := h1 i p hp
  exact ⟨b1, b2, ad, rfl, hf.cell c0 (fun e => by have := hS _ e; have := World.block_lt_of_cell? w _ c0; omega), hf.cell c1 (fun e => by have := hS _ e; have := World.block_lt_of_cell? w _ c1; omega)⟩
theorem Il.sl {w : World} {v : Value} {L : Its} (h : Il w v L) : ∃ a c, v = .slice a L.length c := by
  obtain ⟨_, a, c, e, _⟩ := h
  exact ⟨a, c, e⟩
theorem Il.lt {w : World} {v : Value} {L : Its} (h : Il w v L) (hL : L ≠ []) : ∀ b, v.ownBlock = some b → b < w.heap.size := fun b hb => by
  obtain ⟨_, a, c, rfl, h1⟩ := h
  cases L with
  | nil => exact absurd rfl hL
  | cons p r =>
    obtain ⟨_, _, ad, rfl, c0, _⟩ := h1 0 p rfl
    have := World.block_lt_of_cell? w _ c0
    rw [add_block] at this
    obtain rfl : ad.block = b := (by simpa [Value.ownBlock] using hb)
    exact this
theorem iAll (a : Option Addr) (n c : Nat) (w : World) : Calls Tryz.prog 58 #[.slice a n c] w fun e w' =>
    e = .returned (.func (.func 95) #[] #[.pointer (some ⟨w.heap.size, 0, none⟩)]) ∧ w' = w.alloc (.cells #[.slice a n c] 27) := by
  go_enter Tryz.func58, Tryz.ntmps58
  go_wp2
  go_ret
  exact ⟨rfl, rfl⟩
def encIt (p : Str × Int) : Array Value := #[vS p.1, .int .i64 p.2]
set_option maxRecDepth 100000 in
set_option maxHeartbeats 4000000 in
theorem iAll1 (S : Nat → Prop) (w : World) (Bt : Nat) (v : Value) (L : Its) (hBt : Boxed w Bt 27 v) (h : Il w v L) (n1 : ¬ S Bt) (n2 : L ≠ [] → ∀ b, S b → v.ownBlock ≠ some b) :
    ItX 95 #[.pointer (some ⟨Bt, 0, none⟩)] encIt L S w := by
  intro lp S' J Jx W hW hS' hJ hY hJx h0
  have hBW := boxed_below hBt hW hBt.lt
  have hLW : Il W v L := h.fr (Fr.below (S := fun _ => False) hW) (fun _ h => h.elim)
  have s2 : L ≠ [] → ∀ b, v.ownBlock = some b → ¬ S' b := fun hl b hb e => n2 hl _ ((hS' _ e).2 (h.lt hl b hb)) hb
  have hltW : L ≠ [] → ∀ b, v.ownBlock = some b → b < W.heap.size := fun hl b hb => Nat.lt_of_lt_of_le (h.lt hl b hb) hW.size
  have hcB := hBW.cell
  obtain ⟨a, c, rfl⟩ := h.sl
  obtain ⟨N, hN⟩ : ∃ N, L.length = N := ⟨_, rfl⟩
  have hNb : (N : Int) ≤ 9223372036854775807 := by have := h.1; omega
  have HS := Lib.hid hS'; have HL := Lib.hid hLW; have S2 := Lib.hid s2; have HN := Lib.hid hN; have HLT := Lib.hid hltW
  rw [hN] at hcB S2 HLT HL ⊢
  have hfn : ∀ f, Fence.wide.fn f := fun _ => trivial
  have hdp : Fence.wide.depth.isSome = false := rfl
  clear hBt h n1 n2 hS' hLW hBW s2 hW hN hltW
  refine (callsIn_wide (n := 0)).1 ?_
  refine callsIn_of_wp Tryz.func95 rfl trivial ?_ rfl
  simp only [Tryz.ntmps95, List.size_toArray, List.length_cons, List.length_nil, Nat.reduceAdd, Nat.reduceSub, Array.replicate_succ, Array.replicate_zero, List.push_toArray, List.append_toArray, List.nil_append, List.cons_append]
  gi_wp2_with fail
  gi_loopw [7] (fun i wr => ∃ (k : Nat) (C : Nat → Prop), k ≤ N ∧ i = .int .i64 k ∧ J k C wr ∧ (∀ b, C b → W.heap.size ≤ b ∧ b < wr.heap.size) ∧ Fr (fun b => S' b ∨ C b) W wr) (fun i _ => N - (intOf i).toNat)
  case atStart => exact ⟨0, _, Nat.zero_le _, rfl, h0, fun _ h => False.elim h, Fr.refl _ _⟩
  case round =>
    obtain ⟨k, C, hk, rfl, hJr, hC, hkp⟩ := hrel
    by_cases hlt : k < N
    · obtain ⟨p, hp⟩ : ∃ p, L[k]? = some p := ⟨L[k]'(by rw [HN.out]; exact hlt), List.getElem?_eq_getElem _⟩
      have hne : L ≠ [] := fun e => by rw [e] at hp; simp at hp
      have hLr := HL.out.keep hkp (fun hl b hb e => e.elim (S2.out hl b hb) (fun e => by have := hC _ e; have := HLT.out hl b hb; omega))
      clear hne
      obtain ⟨_, a', c', e, hx⟩ := hLr
      obtain ⟨ok1, ok2, ad, ea, x0, x1⟩ := hx k p hp
      rw [HN.out] at e
      injection e with e1 _ e3
      rw [ea] at e1
      subst e1 e3
      obtain ⟨g, n⟩ := p
      dsimp only at x0 x1 ok1 ok2
      have hJ2 := hJ k C _ _ hJr (frAlloc (B := W.heap.size) (.cells #[vS g, .int .i64 n] 65))
      obtain ⟨fn, tmps, assign, body, hy, hR⟩ := hY k (g, n) C _ hp hJ2
      dsimp only [encIt] at hy
      have hlI : (k : Int) < N := by omega
      have HC := Lib.hid hC; have HK := Lib.hid hkp; have HP := Lib.hid hp
      clear hC hkp hp hJr hJ2 hx ea ok1 ok2
      gi_wp2
      refine hR.mono ?_
      rintro e W3 (⟨rfl, hJ3, hk3⟩ | ⟨rfl, hJx3, _⟩)
      · gi_wp2
        go_roundw
        case rel =>
          refine ⟨k + 1, _, by omega, by go_num, hJ3, ?_, ?_⟩
          · have hs3 := hk3.size
            have hsa : (wr.alloc (.cells #[vS g, .int .i64 n] 65)).heap.size = wr.heap.size + 1 := by simp
            rintro b (e | e)
            · have := HC.out b e; exact ⟨this.1, by omega⟩
            · have := HK.out.size; exact ⟨by omega, e.2⟩
          · exact (((HK.out.alloc _).mono (fun b _ e => e.elim .inl (fun e => .inr (.inl e))))).trans (hk3.mono (fun b _ e => e.elim .inl (fun e => .inr (.inl e))))
        case measure => simp [intOf]; omega
      · gi_wp2
        refine bodyPost_ret (results_none rfl _ _ _) rfl ?_
        refine ⟨⟨_, rfl⟩, .inr ⟨_, _, ?_, hJx3⟩⟩
        have := HN.out
        omega
    · have : k = N := by omega
      subst this
      gi_wp2
      go_end0
      exact ⟨⟨_, rfl⟩, .inl ⟨C, hJr⟩⟩
theorem goodB_bad {s : Str} {k : Nat} (h : k < s.length) (hb : goodC s[k] = false) : goodB s = false := by
  have : s.all goodC = false := by
    refine Bool.eq_false_iff.2 (fun ht => ?_)
    have := List.all_eq_true.1 ht s[k] (List.getElem_mem h)
    rw [hb] at this; cases this
  simp [goodB, this]
set_option maxRecDepth 100000 in
set_option maxHeartbeats 4000000 in
theorem iGood (w : World) (s : Str) (hs : okS s) : Calls Tryz.prog 67 #[vS s] w fun e w' => e = .returned (.bool (goodB s)) ∧ Fr (fun _ => False) w w' := by
  obtain ⟨G, hG⟩ : ∃ G, goodB s = G := ⟨_, rfl⟩
  rw [hG]
  have HG := Lib.hid hG
  obtain ⟨B, hB⟩ : ∃ B, ByteArray.mk s.toArray = B := ⟨_, rfl⟩
  have hsz : B.size = s.length := by rw [← hB]; simp [ByteArray.size]
  have hge : ∀ k (h : k < B.size) (h' : k < s.length), B[k]'h = s[k]'h' := by subst hB; exact fun k h h' => rfl
  have HSZ := Lib.hid hsz; have HGE := Lib.hid hge; have HBB := Lib.hid hB
  have hs : (s.length : Int) ≤ 9223372036854775807 := by unfold okS maxLen at hs; omega
  rw [← hsz] at hs
  unfold vS
  rw [hB]
  clear hG hB hsz hge
  go_enter Tryz.func67, Tryz.ntmps67
  go_wp2_with fail
  go_loopw [4] (fun _ wr => ∃ k : Nat, k ≤ B.size ∧ wr = w.iter B k ∧ ∀ j (h : j < s.length), j < k → goodC s[j] = true) (fun _ wr => B.size - wr.iterPos w.heap.size)
  case atStart => exact ⟨0, Nat.zero_le _, rfl, fun j _ hj => by omega⟩
  case round =>
    obtain ⟨k, hk, rfl, hall⟩ := hrel
    have HA := Lib.hid hall
    clear hall
    by_cases hp : k < B.size
    · have hnx : ∀ ty, (Instr.next (.pointer (some ⟨w.heap.size, 0, none⟩)) true ty).run Tryz.prog (w.iter B k) = _ := fun ty => run_next_any w B k ty hp
      have hkl : k < s.length := by rw [← HSZ.out]; exact hp
      have hc := HGE.out k hp hkl
      obtain ⟨x, hx⟩ : ∃ x : Nat, (B[k]'hp).toNat = x := ⟨_, rfl⟩
      have hno : Hid (goodC s[k] = false → G = false) := Lib.hid (fun h => by rw [← HG.out]; exact goodB_bad hkl h)
      have hgc : Hid (goodC s[k] = ((decide (97 ≤ x) && decide (x ≤ 122)) || (decide (48 ≤ x) && decide (x ≤ 57)) || decide (x = 45))) := Lib.hid (by rw [← hx, hc]; rfl)
      have hF : Hid (∀ p, Fr (fun _ => False) w (w.iter B p)) := Lib.hid (fun p => (Fr.refl _ w).alloc _)
      by_cases ha : x < 128
      · have hd : Utf8.decode B k = (x, 1) := by rw [decode_ascii B k hp (by omega), hx]
        rw [hd] at hnx
        have hstep : Hid (goodC s[k] = true → ∀ j (h : j < s.length), j < k + 1 → goodC s[j] = true) := Lib.hid (fun hg j h hj => by
          by_cases e : j = k
          · subst e; exact hg
          · exact HA.out j h (by omega))
        clear hd hc hx
        rcases (by omega : (97 ≤ x ∧ x ≤ 122) ∨ x < 48 ∧ x ≠ 45 ∨ x = 45 ∨ (48 ≤ x ∧ x ≤ 57) ∨ (57 < x ∧ x < 97) ∨ 122 < x) with h | h | h | h | h | h
        · have hy := Lib.hid (hstep.out (by rw [hgc.out]; simp [h.1, h.2]))
          obtain ⟨h1, h2⟩ := h
          have q1 : ¬ (x : Int) < 97 := by omega
          have q2 : ¬ (122 : Int) < (x : Int) := by omega
          go_wp2_with fail
          go_roundw
          case rel => exact ⟨k + 1, by omega, rfl, hy.out⟩
          case measure => simp; omega
        · have hn := Lib.hid (hno.out (by rw [hgc.out]; simp; omega))
          obtain ⟨h1, h2⟩ := h
          have q1 : (x : Int) < 48 := by omega
          have q2 : ((x : Int) != 45) = true := by simp; omega
          have q3 : (x : Int) < 97 := by omega
          go_wp2_with fail
          go_ret
          exact ⟨by rw [hn.out]; rfl, hF.out _⟩
        · have hy := Lib.hid (hstep.out (by rw [hgc.out]; simp [h]))
          subst h
          go_wp2_with fail
          go_roundw
          case rel => exact ⟨k + 1, by omega, rfl, hy.out⟩
          case measure => simp; omega
        · have hy := Lib.hid (hstep.out (by rw [hgc.out]; simp [h.1, h.2]))
          obtain ⟨h1, h2⟩ := h
          have q1 : ¬ (x : Int) < 48 := by omega
          have q2 : ¬ (57 : Int) < (x : Int) := by omega
          have q3 : (x : Int) < 97 := by omega
          go_wp2_with fail
          go_roundw
          case rel => exact ⟨k + 1, by omega, rfl, hy.out⟩
          case measure => simp; omega
        · have hn := Lib.hid (hno.out (by rw [hgc.out]; simp; omega))
          obtain ⟨h1, h2⟩ := h
          have q1 : ¬ (x : Int) < 48 := by omega
          have q2 : (57 : Int) < (x : Int) := by omega
          have q3 : (x : Int) < 97 := by omega
          have q4 : ((x : Int) != 45) = true := by simp; omega
          go_wp2_with fail
          go_ret
          exact ⟨by rw [hn.out]; rfl, hF.out _⟩
        · have hn := Lib.hid (hno.out (by rw [hgc.out]; simp; omega))
          have q1 : ¬ (x : Int) < 48 := by omega
          have q2 : (57 : Int) < (x : Int) := by omega
          have q3 : ¬ (x : Int) < 97 := by omega
          have q4 : ((x : Int) != 45) = true := by simp; omega
          have q5 : (122 : Int) < (x : Int) := by omega
          go_wp2_with fail
          go_ret
          exact ⟨by rw [hn.out]; rfl, hF.out _⟩
      · obtain ⟨hr1, hr2⟩ := decode_high B k hp (by omega)
        obtain ⟨y, hy⟩ : ∃ y, (Utf8.decode B k).1 = y := ⟨_, rfl⟩
        obtain ⟨z, hz⟩ : ∃ z, (Utf8.decode B k).2 = z := ⟨_, rfl⟩
        have hyl := decode_le B k
        rw [hy, hz] at hnx
        rw [hy] at hr1 hyl
        have hn := Lib.hid (hno.out (by rw [hgc.out]; simp; omega))
        have q1 : ¬ (y : Int) < 48 := by omega
        have q2 : (57 : Int) < (y : Int) := by omega
        have q3 : ¬ (y : Int) < 97 := by omega
        have q4 : ((y : Int) != 45) = true := by simp; omega
        have q5 : (122 : Int) < (y : Int) := by omega
        clear hy hz hc hx hr2 ha
        go_wp2_with fail
        go_ret
        exact ⟨by rw [hn.out]; rfl, hF.out _⟩
    · obtain rfl : k = B.size := by omega
      have hnx : ∀ ty, (Instr.next (.pointer (some ⟨w.heap.size, 0, none⟩)) true ty).run Tryz.prog (w.iter B B.size) = _ := fun ty => run_next_end w B B.size ty hp
      have hF : Hid (∀ p, Fr (fun _ => False) w (w.iter B p)) := Lib.hid (fun p => (Fr.refl _ w).alloc _)
      have hall : Hid (s.all goodC = true) := Lib.hid (List.all_eq_true.2 (fun c hc => by
        obtain ⟨j, hj, rfl⟩ := List.getElem_of_mem hc
        exact HA.out j hj (by rw [HSZ.out]; exact hj)))
      have hGE : Hid (G = (decide (0 < B.size) && decide (B.size ≤ 16))) := Lib.hid (by rw [← HG.out, HSZ.out]; simp [goodB, hall.out])
      have hemp : Hid (B.toList.isEmpty = decide (B.size = 0)) := Lib.hid (by
        rw [← HBB.out]
        cases s <;> simp [ByteArray.size])
      clear hp
      by_cases h0 : B.size = 0
      · have he : B.toList.isEmpty = true := by rw [hemp.out]; simp [h0]
        have hg : Hid (G = false) := Lib.hid (by rw [hGE.out]; simp [h0])
        clear h0
        go_wp2_with fail
        go_ret
        exact ⟨by rw [hg.out]; rfl, hF.out _⟩
      · have he : B.toList.isEmpty = false := by rw [hemp.out]; simp [h0]
        by_cases h16 : B.size ≤ 16
        · have hg : Hid (G = true) := Lib.hid (by rw [hGE.out]; simp; omega)
          have hI : (B.size : Int) ≤ 16 := by omega
          clear h0
          go_wp2_with fail
          go_ret
          exact ⟨by rw [hg.out]; rfl, hF.out _⟩
        · have hg : Hid (G = false) := Lib.hid (by rw [hGE.out]; simp; omega)
          have hI : ¬ (B.size : Int) ≤ 16 := by omega
          clear h0
          go_wp2_with fail
          go_ret
          exact ⟨by rw [hg.out]; rfl, hF.out _⟩
end Go.Proofs.YtogphlnakdnchaaGreat

namespace Go.Proofs.YtogphlnakdnchaaGreat
open Go.RowKit Go.Maps
attribute [local go_sem] Oper.semAt_some
theorem itsOk_cons (last : Str) (p : Str × Int) (r : Its) : itsOk last (p :: r) = (goodB p.1 && decide (1 ≤ p.2) && mayI p.2 && decide (last < p.1) && itsOk p.1 r) := rfl
/-- Two blocks of the call's own are as told, and all else that was there is as it was. -/
structure MyI (w0 w : World) (n0 : Nat) (r : Bool) (last : Str) : Prop where
  res : w.heap[n0]? = some (.cells #[.bool r] 4)
  last : w.heap[n0 + 1]? = some (.cells #[vS last] 9)
  fr : Fr (fun b => n0 ≤ b) w0 w
theorem MyI.fa {B : Nat} {w0 w w' : World} {n0 : Nat} {r : Bool} {last : Str} (h : MyI w0 w n0 r last) (hf : Fa B w w') (hB : w0.heap.size ≤ B) : MyI w0 w' n0 r last :=
  ⟨Fa.cells hf h.res, Fa.cells hf h.last, h.fr.trans' hf (fun b hb e => by have := e.1; omega)⟩
theorem MyI.keep {w0 w w' : World} {n0 : Nat} {r : Bool} {last : Str} (h : MyI w0 w n0 r last) (hf : Fr (fun _ => False) w w') : MyI w0 w' n0 r last :=
  ⟨hf.at_ h.res (fun h => h), hf.at_ h.last (fun h => h), h.fr.trans' hf (fun _ _ e => e.elim)⟩
theorem MyI.putL {w0 w : World} {n0 : Nat} {r : Bool} {last : Str} (h : MyI w0 w n0 r last) (s : Str) : MyI w0 (w.setCell ⟨n0 + 1, 0, none⟩ (vS s)) n0 r s := by
  have hF : Fr (fun b => b = n0 + 1) w (w.setCell ⟨n0 + 1, 0, none⟩ (vS s)) := (Fr.refl (fun b => b = n0 + 1) w).setCell (p := ⟨n0 + 1, 0, none⟩) (fun _ => rfl) _
  exact ⟨hF.at_ h.res (by omega), obj_set h.last 0 _, h.fr.trans' hF (fun b _ e => by omega)⟩
theorem MyI.putR {w0 w : World} {n0 : Nat} {r : Bool} {last : Str} (h : MyI w0 w n0 r last) (b : Bool) : MyI w0 (w.setCell ⟨n0, 0, none⟩ (.bool b)) n0 b last := by
  have hF : Fr (fun b => b = n0) w (w.setCell ⟨n0, 0, none⟩ (.bool b)) := (Fr.refl (fun b => b = n0) w).setCell (p := ⟨n0, 0, none⟩) (fun _ => rfl) _
  exact ⟨obj_set h.res 0 _, hF.at_ h.last (by omega), h.fr.trans' hF (fun b _ e => by omega)⟩
def MyJ (w0 : World) (n0 : Nat) (L : Its) (k : Nat) (_ : Nat → Prop) (W : World) : Prop := ∃ last, MyI w0 W n0 false last ∧ itsOk [] L = itsOk last (L.drop k)
def MyX (w0 : World) (n0 : Nat) (L : Its) (c : Code) (_ : Nat) (_ : Nat → Prop) (W : World) : Prop := c = .ret ∧ itsOk [] L = false ∧ ∃ last, MyI w0 W n0 false last
set_option maxRecDepth 100000 in
set_option maxHeartbeats 8000000 in
theorem iMay (w : World) (v : Value) (L : Its) (h : Il w v L) : Calls Tryz.prog 28 #[v] w fun e w' => e = .returned (.bool (mayL L)) ∧ Fr (fun _ => False) w w' := by
  obtain ⟨n0, hn0⟩ : ∃ n0, w.heap.size = n0 := ⟨_, rfl⟩
  have HS := Lib.hid hn0
  have HL := Lib.hid h
  have hob := h.lt
  have HOB := Lib.hid hob
  have hokl : Hid (∀ (k : Nat) (p : Str × Int), L[k]? = some p → okS p.1) := Lib.hid (fun k p hp => by obtain ⟨_, _, _, _, hx⟩ := h; exact (hx k p hp).1)
  obtain ⟨a, c, rfl⟩ := h.sl
  obtain ⟨N, hN⟩ : ∃ N, L.length = N := ⟨_, rfl⟩
  have HN := Lib.hid hN
  have hNb : (N : Int) ≤ 9223372036854775807 := by have := h.1; omega
  rw [hN] at HL HOB ⊢
  clear h hob hN
  refine (callsIn_wide (n := 0)).1 ?_
  refine callsIn_of_wp_marks Tryz.func28 rfl trivial ?_ rfl
  simp only [Tryz.ntmps28, List.size_toArray, List.length_cons, List.length_nil, Nat.reduceAdd, Nat.reduceSub, Array.replicate_succ, Array.replicate_zero, List.push_toArray, List.append_toArray, List.nil_append, List.cons_append]
  have hfn : ∀ f, Fence.wide.fn f := fun _ => trivial
  have hdp : Fence.wide.depth.isSome = false := rfl
  gi_wp2_with (gi_at_call 58; refine (callsIn_wide.2 (iAll _ _ _ _)).mono ?_; rintro e w1 ⟨rfl, rfl⟩)
  have hI0 : MyI w (((w.alloc (.cells #[.bool false] 4)).alloc (.cells #[vS []] 9)).alloc (.cells #[.slice a N c] 27)) n0 false [] := by
    refine ⟨heap_keep (heap_keep (heap_at hn0.symm _) _) _, heap_keep (heap_at (by simp; omega) _) _, (((Fr.refl _ w).alloc _).alloc _).alloc _⟩
  have hB0 : Boxed (((w.alloc (.cells #[.bool false] 4)).alloc (.cells #[vS []] 9)).alloc (.cells #[.slice a N c] 27)) (n0 + 2) 27 (.slice a N c) := heap_at (by simp; omega) _
  obtain ⟨W0, hW0⟩ : ∃ W0, (((w.alloc (.cells #[.bool false] 4)).alloc (.cells #[vS []] 9)).alloc (.cells #[.slice a N c] 27)) = W0 := ⟨_, rfl⟩
  have hs0 : W0.heap.size = n0 + 3 := by rw [← hW0]; simp; omega
  rw [hW0] at hI0 hB0 ⊢
  have hL0 := HL.out.fr hI0.fr (fun b hb => by omega)
  have HI0 := Lib.hid hI0; have HS0 := Lib.hid hs0
  clear hW0 hI0
  refine rangeX (w0 := W0) (X := L) (S := fun b => b = n0 ∨ b = n0 + 1) rfl (enters_of Tryz.func95 (by kernel_rfl) rfl)
    (iAll1 _ W0 (n0 + 2) _ L hB0 hL0 (by omega) (fun hl b hb e => by have := HOB.out hl b e; omega)) (Below.refl _ _) (fun b hb => by omega) (fun _ => rfl)
    (MyJ w n0 L) (MyX w n0 L)
    (fun k C W W' hs hf => by obtain ⟨l, h1, h2⟩ := hs; exact ⟨l, h1.fa hf (by omega), h2⟩) (fun c k C W W' hs hf => by obtain ⟨e, e2, l, h1⟩ := hs; exact ⟨e, e2, l, h1.fa hf (by omega)⟩)
    ⟨[], HI0.out, rfl⟩ ?round ?done ?stop
  case round =>
    rintro lp k x C W hx hlp hi hr
    dsimp only [encIt]
    gi_wp2
    refine Took.mk (Fr.refl _ _) hi ?_
    rintro Wb ⟨last, hM, hrest⟩ hrb hf hsz hsw hCC _
    have hdr : L.drop k = x :: L.drop (k + 1) := List.drop_eq_getElem?_toList_append |>.trans (by rw [hx]; rfl)
    rw [hdr, itsOk_cons] at hrest
    have hok := hokl.out k x hx
    obtain ⟨g, n⟩ := x
    dsimp only at hrest hok ⊢
    have HM := Lib.hid hM; have HOK := Lib.hid hok
    clear hM hok hi hr hf hrb hdr hx
    by_cases hg : goodB g = true
    · rw [hg, Bool.true_and] at hrest
      by_cases h1 : 1 ≤ n
      · rw [decide_eq_true h1, Bool.true_and] at hrest
        cases hm : mayI n with
        | false =>
          have HNO : Hid (itsOk [] L = false) := Lib.hid (by rw [hrest, hm]; rfl)
          clear hrest
          gi_wp2_with (first
        | (gi_at_call 67; refine (callsIn_wide.2 (iGood _ g HOK.out)).mono ?_; rw [hg]; rintro e w2 ⟨rfl, hf2⟩; have hM2 := HM.out.keep hf2; have HM2 := Lib.hid hM2; have HF2 := Lib.hid hf2; have c0 := cell_obj hM2.last 0 (vS last) rfl; have f0 := obj_frozen hM2.last 0; have cr := cell_obj hM2.res 0 (.bool false) rfl; have fr := obj_frozen hM2.res 0; clear hM2 hf2)
        | (gi_at_call 68; refine (callsIn_wide.2 (kMay _ n)).mono ?_; rw [hm]; rintro e w3 ⟨rfl, rfl⟩))
          refine ⟨(HF2.out.mono (fun _ _ e => e.elim)).setCell (p := ⟨n0, 0, none⟩) (fun _ => .inl (.inl rfl)) _, rfl, HNO.out, last, HM2.out.putR false⟩
        | true =>
          rw [hm, Bool.true_and] at hrest
          rcases str_tri last g with hlt | heq | hgt
          · have HYES : Hid (itsOk [] L = itsOk g (L.drop (k + 1))) := Lib.hid (by rw [hrest, decide_eq_true hlt, Bool.true_and])
            have q1 : Op.bytesLess g last = false := by rw [bytesLess_eq]; simpa using str_asym hlt
            have q2 : (g == last) = false := by
              simp only [beq_eq_false_iff_ne, ne_eq]
              rintro rfl; exact str_irr _ hlt
            clear hrest hlt
            gi_wp2_with (first
        | (gi_at_call 67; refine (callsIn_wide.2 (iGood _ g HOK.out)).mono ?_; rw [hg]; rintro e w2 ⟨rfl, hf2⟩; have hM2 := HM.out.keep hf2; have HM2 := Lib.hid hM2; have HF2 := Lib.hid hf2; have c0 := cell_obj hM2.last 0 (vS last) rfl; have f0 := obj_frozen hM2.last 0; have cr := cell_obj hM2.res 0 (.bool false) rfl; have fr := obj_frozen hM2.res 0; clear hM2 hf2)
        | (gi_at_call 68; refine (callsIn_wide.2 (kMay _ n)).mono ?_; rw [hm]; rintro e w3 ⟨rfl, rfl⟩))
            exact ⟨(HF2.out.mono (fun _ _ e => e.elim)).setCell (p := ⟨n0 + 1, 0, none⟩) (fun _ => .inl (.inr rfl)) _, g, HM2.out.putL g, HYES.out⟩
          · have HNO : Hid (itsOk [] L = false) := Lib.hid (by rw [hrest, heq, decide_eq_false (str_irr g), Bool.false_and])
            have q2 : (g == last) = true := by simp [heq]
            clear hrest heq
            gi_wp2_with (first
        | (gi_at_call 67; refine (callsIn_wide.2 (iGood _ g HOK.out)).mono ?_; rw [hg]; rintro e w2 ⟨rfl, hf2⟩; have hM2 := HM.out.keep hf2; have HM2 := Lib.hid hM2; have HF2 := Lib.hid hf2; have c0 := cell_obj hM2.last 0 (vS last) rfl; have f0 := obj_frozen hM2.last 0; have cr := cell_obj hM2.res 0 (.bool false) rfl; have fr := obj_frozen hM2.res 0; clear hM2 hf2)
        | (gi_at_call 68; refine (callsIn_wide.2 (kMay _ n)).mono ?_; rw [hm]; rintro e w3 ⟨rfl, rfl⟩))
            refine ⟨(HF2.out.mono (fun _ _ e => e.elim)).setCell (p := ⟨n0, 0, none⟩) (fun _ => .inl (.inl rfl)) _, rfl, HNO.out, last, HM2.out.putR false⟩
          · have HNO : Hid (itsOk [] L = false) := Lib.hid (by rw [hrest, decide_eq_false (str_asym hgt), Bool.false_and])
            have q1 : Op.bytesLess g last = true := by rw [bytesLess_eq]; simpa using hgt
            clear hrest hgt
            gi_wp2_with (first
        | (gi_at_call 67; refine (callsIn_wide.2 (iGood _ g HOK.out)).mono ?_; rw [hg]; rintro e w2 ⟨rfl, hf2⟩; have hM2 := HM.out.keep hf2; have HM2 := Lib.hid hM2; have HF2 := Lib.hid hf2; have c0 := cell_obj hM2.last 0 (vS last) rfl; have f0 := obj_frozen hM2.last 0; have cr := cell_obj hM2.res 0 (.bool false) rfl; have fr := obj_frozen hM2.res 0; clear hM2 hf2)
        | (gi_at_call 68; refine (callsIn_wide.2 (kMay _ n)).mono ?_; rw [hm]; rintro e w3 ⟨rfl, rfl⟩))
            refine ⟨(HF2.out.mono (fun _ _ e => e.elim)).setCell (p := ⟨n0, 0, none⟩) (fun _ => .inl (.inl rfl)) _, rfl, HNO.out, last, HM2.out.putR false⟩
      · have HNO : Hid (itsOk [] L = false) := Lib.hid (by rw [hrest, decide_eq_false h1, Bool.false_and, Bool.false_and, Bool.false_and])
        have h1' : n < 1 := by omega
        clear hrest
        gi_wp2_with (first
        | (gi_at_call 67; refine (callsIn_wide.2 (iGood _ g HOK.out)).mono ?_; rw [hg]; rintro e w2 ⟨rfl, hf2⟩; have hM2 := HM.out.keep hf2; have HM2 := Lib.hid hM2; have HF2 := Lib.hid hf2; have c0 := cell_obj hM2.last 0 (vS last) rfl; have f0 := obj_frozen hM2.last 0; have cr := cell_obj hM2.res 0 (.bool false) rfl; have fr := obj_frozen hM2.res 0; clear hM2 hf2)
        | (gi_at_call 68; refine (callsIn_wide.2 (kMay _ n)).mono ?_; rw [hm]; rintro e w3 ⟨rfl, rfl⟩))
        refine ⟨(HF2.out.mono (fun _ _ e => e.elim)).setCell (p := ⟨n0, 0, none⟩) (fun _ => .inl (.inl rfl)) _, rfl, HNO.out, last, HM2.out.putR false⟩
    · have hg : goodB g = false := by simpa using hg
      have HNO : Hid (itsOk [] L = false) := Lib.hid (by rw [hrest, hg]; rfl)
      clear hrest
      gi_wp2_with (first
        | (gi_at_call 67; refine (callsIn_wide.2 (iGood _ g HOK.out)).mono ?_; rw [hg]; rintro e w2 ⟨rfl, hf2⟩; have hM2 := HM.out.keep hf2; have HM2 := Lib.hid hM2; have HF2 := Lib.hid hf2; have c0 := cell_obj hM2.last 0 (vS last) rfl; have f0 := obj_frozen hM2.last 0; have cr := cell_obj hM2.res 0 (.bool false) rfl; have fr := obj_frozen hM2.res 0; clear hM2 hf2)
        | (gi_at_call 68; refine (callsIn_wide.2 (kMay _ n)).mono ?_; rw [hm]; rintro e w3 ⟨rfl, rfl⟩))
      refine ⟨(HF2.out.mono (fun _ _ e => e.elim)).setCell (p := ⟨n0, 0, none⟩) (fun _ => .inl (.inl rfl)) _, rfl, HNO.out, last, HM2.out.putR false⟩
  case stop =>
    rintro D c k C W hD hk ⟨rfl, hF, last, hM⟩ hr hK
    have HM := Lib.hid hM; have HNO := Lib.hid hF
    have hc5 := cell_obj (Fa.cells (frPut (B := n0) (.deferred none) (by omega) hK rfl) hM.res) 0 (.bool false) rfl
    clear hM hF hr
    gi_wp2_with fail
    refine ⟨by simp, .inl ⟨_, _, rfl, run_takeDeferred hK, ?_⟩⟩
    refine ⟨.bool (mayL L), by simp [results, Tryz.results28, go_sem, hc5, mayL, HNO.out], rfl, ?_⟩
    exact (HM.out.fr.putObj (l := D) (fun _ => by omega) _).mono (fun b hb e => by omega)
  case done =>
    rintro D C W hD ⟨last, hM, hrest⟩ hr hK
    have HYES : Hid (itsOk [] L = true) := Lib.hid (by rw [hrest, List.drop_length]; rfl)
    have HM := Lib.hid hM
    have cr := cell_obj hM.res 0 (.bool false) rfl
    have fr := obj_frozen hM.res 0
    have hR5 := (hM.putR (decide ((N : Int) ≤ 16))).res
    have hK5 := (Below.heap_setCell W ⟨n0, 0, none⟩ (.bool (decide ((N : Int) ≤ 16))) D (by simp; omega)).trans hK
    have HR5 := Lib.hid hR5; have HK5 := Lib.hid hK5
    clear hM hrest hr hK hR5 hK5
    gi_wp2_with fail
    have hc5 := cell_obj (Fa.cells (frPut (B := n0) (.deferred none) (by omega) HK5.out rfl) HR5.out) 0 (.bool (decide ((N : Int) ≤ 16))) rfl
    refine ⟨by simp, .inl ⟨_, _, rfl, run_takeDeferred HK5.out, ?_⟩⟩
    refine ⟨.bool (decide ((N : Int) ≤ 16)), by simp [results, Tryz.results28, go_sem, hc5], ?_, ?_⟩
    · have : mayL L = decide ((N : Int) ≤ 16) := by
        unfold mayL
        rw [HYES.out, Bool.true_and, HN.out]
        by_cases h : N ≤ 16
        · rw [decide_eq_true h, decide_eq_true (by omega)]
        · rw [decide_eq_false h, decide_eq_false (by omega)]
      rw [this]
    · exact ((HM.out.putR _).fr.putObj (l := D) (fun _ => by omega) _).mono (fun b hb e => by omega)
end Go.Proofs.YtogphlnakdnchaaGreat

namespace Go.Proofs.YtogphlnakdnchaaGreat
open Go.RowKit Go.Maps
theorem r5May (w : World) (n : Int) : Calls Tryz.prog 84 #[.int .i64 n] w fun e w' => e = .returned (.bool (mayI n)) ∧ w = w' := by
  unfold mayI
  by_cases h1 : 0 ≤ n <;> by_cases h2 : n ≤ 1099511627776
  all_goals
    simp only [h1, h2, decide_true, decide_false, Bool.and_true, Bool.and_false]
    go_enter Tryz.func84, Tryz.ntmps84
    go_wp2
    go_ret
    exact ⟨rfl, rfl⟩
set_option maxRecDepth 100000 in
set_option maxHeartbeats 4000000 in
theorem r6Good (w : World) (s : Str) (hs : okS s) : Calls Tryz.prog 108 #[vS s] w fun e w' => e = .returned (.bool (goodB s)) ∧ w = w' := by
  obtain ⟨G, hG⟩ : ∃ G, goodB s = G := ⟨_, rfl⟩
  rw [hG]
  have HG := Lib.hid hG
  obtain ⟨B, hB⟩ : ∃ B, ByteArray.mk s.toArray = B := ⟨_, rfl⟩
  have hsz : B.size = s.length := by rw [← hB]; simp [ByteArray.size]
  have hge : ∀ k (h : k < B.size) (h' : k < s.length), B[k]'h = s[k]'h' := by subst hB; exact fun k h h' => rfl
  have HSZ := Lib.hid hsz; have HGE := Lib.hid hge; have HBB := Lib.hid hB
  have hs : (s.length : Int) ≤ 9223372036854775807 := by unfold okS maxLen at hs; omega
  rw [← hsz] at hs
  unfold vS
  rw [hB]
  clear hG hB hsz hge
  go_enter Tryz.func108, Tryz.ntmps108
  go_wp2_with fail
  go_loopw [3] (fun i wr => ∃ k : Nat, k ≤ B.size ∧ i = .int .i64 k ∧ wr = w ∧ ∀ j (h : j < s.length), j < k → goodC s[j] = true) (fun i _ => B.size - (intOf i).toNat)
  case atStart => exact ⟨0, Nat.zero_le _, rfl, rfl, fun j _ hj => by omega⟩
  case round =>
    obtain ⟨k, hk, rfl, rfl, hall⟩ := hrel
    have HA := Lib.hid hall
    clear hall
    by_cases hp : k < B.size
    · have hkl : k < s.length := by rw [← HSZ.out]; exact hp
      have hc := HGE.out k hp hkl
      have hpI : (k : Int) < B.size := by omega
      obtain ⟨x, hx⟩ : ∃ x : Nat, (B[k]'hp).toNat = x := ⟨_, rfl⟩
      have hix : ∀ W : World, (Instr.index 9 (.string B) (.int .i64 k)).run Tryz.prog W = .ok (.int .u8 (x : Int)) W := fun W => by
        rw [run_index_string W 9 B .i64 k Tryz.underlying9, dif_pos (by omega)]
        simp only [Int.toNat_natCast, hx]
      have hno : Hid (goodC s[k] = false → G = false) := Lib.hid (fun h => by rw [← HG.out]; exact goodB_bad hkl h)
      have hgc : Hid (goodC s[k] = ((decide (97 ≤ x) && decide (x ≤ 122)) || (decide (48 ≤ x) && decide (x ≤ 57)) || decide (x = 45))) := Lib.hid (by rw [← hx, hc]; rfl)
      have hstep : Hid (goodC s[k] = true → ∀ j (h : j < s.length), j < k + 1 → goodC s[j] = true) := Lib.hid (fun hg j h hj => by
          by_cases e : j = k
          · subst e; exact hg
          · exact HA.out j h (by omega))
      clear hc hx
      rcases (by omega : (97 ≤ x ∧ x ≤ 122) ∨ x < 48 ∧ x ≠ 45 ∨ x = 45 ∨ (48 ≤ x ∧ x ≤ 57) ∨ (57 < x ∧ x < 97) ∨ 122 < x) with h | h | h | h | h | h
      · have hy := Lib.hid (hstep.out (by rw [hgc.out]; simp [h.1, h.2]))
        obtain ⟨h1, h2⟩ := h
        have q1 : (97 : Int) ≤ x := by omega
        have q2 : (x : Int) ≤ 122 := by omega
        go_wp2_with fail
        go_roundw
        case rel => exact ⟨k + 1, by omega, by go_num, trivial, hy.out⟩
        case measure => simp [intOf]; omega
      · have hn := Lib.hid (hno.out (by rw [hgc.out]; simp; omega))
        obtain ⟨h1, h2⟩ := h
        have q1 : ¬ (48 : Int) ≤ x := by omega
        have q2 : ((x : Int) == 45) = false := by simp; omega
        have q3 : ¬ (97 : Int) ≤ x := by omega
        go_wp2_with fail
        go_ret
        exact ⟨by rw [hn.out]; rfl, rfl⟩
      · have hy := Lib.hid (hstep.out (by rw [hgc.out]; simp [h]))
        subst h
        go_wp2_with fail
        go_roundw
        case rel => exact ⟨k + 1, by omega, by go_num, trivial, hy.out⟩
        case measure => simp [intOf]; omega
      · have hy := Lib.hid (hstep.out (by rw [hgc.out]; simp [h.1, h.2]))
        obtain ⟨h1, h2⟩ := h
        have q1 : (48 : Int) ≤ x := by omega
        have q2 : (x : Int) ≤ 57 := by omega
        have q3 : ¬ (97 : Int) ≤ x := by omega
        go_wp2_with fail
        go_roundw
        case rel => exact ⟨k + 1, by omega, by go_num, trivial, hy.out⟩
        case measure => simp [intOf]; omega
      · have hn := Lib.hid (hno.out (by rw [hgc.out]; simp; omega))
        obtain ⟨h1, h2⟩ := h
        have q1 : (48 : Int) ≤ x := by omega
        have q2 : ¬ (x : Int) ≤ 57 := by omega
        have q3 : ¬ (97 : Int) ≤ x := by omega
        have q4 : ((x : Int) == 45) = false := by simp; omega
        go_wp2_with fail
        go_ret
        exact ⟨by rw [hn.out]; rfl, rfl⟩
      · have hn := Lib.hid (hno.out (by rw [hgc.out]; simp; omega))
        have q1 : (48 : Int) ≤ x := by omega
        have q2 : ¬ (x : Int) ≤ 57 := by omega
        have q3 : (97 : Int) ≤ x := by omega
        have q5 : ¬ (x : Int) ≤ 122 := by omega
        have q4 : ((x : Int) == 45) = false := by simp; omega
        go_wp2_with fail
        go_ret
        exact ⟨by rw [hn.out]; rfl, rfl⟩
    · obtain rfl : k = B.size := by omega
      have hg : Hid (G = (decide (0 < B.size) && decide (B.size ≤ 16))) := Lib.hid (by
        rw [← HG.out]
        have : s.all goodC = true := List.all_eq_true.2 (fun c hc => by
          obtain ⟨i, hi, rfl⟩ := List.getElem_of_mem hc
          exact HA.out i hi (by rw [HSZ.out]; exact hi))
        unfold goodB
        rw [this, HSZ.out]; rfl)
      obtain ⟨m, hm⟩ : ∃ m, B.size = m := ⟨_, rfl⟩
      rw [hm] at hg
      rcases (by omega : m < 1 ∨ (1 ≤ m ∧ m ≤ 16) ∨ 16 < m) with h | ⟨h, h'⟩ | h
      · have q1 : ¬ (1 : Int) ≤ m := by omega
        go_wp2_with fail
        go_ret
        exact ⟨by rw [hg.out]; simp; omega, rfl⟩
      · have q1 : (1 : Int) ≤ m := by omega
        have q2 : (m : Int) ≤ 16 := by omega
        go_wp2_with fail
        go_ret
        exact ⟨by rw [hg.out]; simp; omega, rfl⟩
      · have q1 : (1 : Int) ≤ m := by omega
        have q2 : ¬ (m : Int) ≤ 16 := by omega
        go_wp2_with fail
        go_ret
        exact ⟨by rw [hg.out]; simp; omega, rfl⟩
end Go.Proofs.YtogphlnakdnchaaGreat

namespace Go.Proofs.YtogphlnakdnchaaGreat
open Go.RowKit Go.Maps
theorem neq_item (w : World) (p q : Str × Int) : (binOp .neq 65 (.agg #[vS p.1, .int .i64 p.2]) (.agg #[vS q.1, .int .i64 q.2])).run Tryz.prog w = .ok (.bool (!decide (p = q))) w := by
  obtain ⟨a, m⟩ := p
  obtain ⟨b, n⟩ := q
  simp only [Prod.mk.injEq]
  by_cases h1 : a = b <;> by_cases h2 : m = n <;> simp [go_sem, h1, h2]
/-- An item's cells, at its place. -/
theorem Il.at_ {w : World} {a : Option Addr} {n c k : Nat} {L : Its} {p : Str × Int} (h : Il w (.slice a n c) L) (hp : L[k]? = some p) : ∃ ad, a = some ad ∧ okS p.1 ∧ okI p.2 ∧ w.cell? (ad.add (k * 2)) = some (vS p.1) ∧ w.cell? ⟨(ad.add (k * 2)).block, (ad.add (k * 2)).off + 1, none⟩ = some (.int .i64 p.2) := by
  obtain ⟨_, a', c', e, h1⟩ := h
  injection e with e1 _ _
  obtain ⟨x1, x2, ad, x3, x4, x5⟩ := h1 k p hp
  exact ⟨ad, e1.trans x3, x1, x2, x4, x5⟩
set_option maxRecDepth 100000 in
set_option maxHeartbeats 4000000 in
theorem r6Same (w : World) (u v : Value) (A B : Its) (hA : Il w u A) (hB : Il w v B) : Calls Tryz.prog 18 #[u, v] w fun e w' => e = .returned (.bool (decide (A = B))) ∧ ∃ n, w' = w.drewN n := by
  obtain ⟨G, hG⟩ : ∃ G, decide (A = B) = G := ⟨_, rfl⟩
  rw [hG]
  have HG := Lib.hid hG
  clear hG
  obtain ⟨a, c, rfl⟩ := hA.sl
  obtain ⟨b, d, rfl⟩ := hB.sl
  obtain ⟨n, hn⟩ : ∃ n, A.length = n := ⟨_, rfl⟩
  obtain ⟨m, hm⟩ : ∃ m, B.length = m := ⟨_, rfl⟩
  have hnI : (n : Int) ≤ 9223372036854775807 := by have := hA.1; omega
  have hmI : (m : Int) ≤ 9223372036854775807 := by have := hB.1; omega
  have HA := Lib.hid hA; have HB := Lib.hid hB; have HN := Lib.hid hn; have HM := Lib.hid hm
  rw [hn] at HA ⊢
  rw [hm] at HB ⊢
  clear hA hB hn hm
  by_cases hnm : n = m
  · subst hnm
    go_enter Tryz.func18, Tryz.ntmps18
    go_wp2_with fail
    go_loopw [5] (fun i wr => ∃ k e : Nat, k ≤ n ∧ i = .int .i64 k ∧ wr = w.drewN e ∧ ∀ j, j < k → A[j]? = B[j]?) (fun i _ => n - (intOf i).toNat)
    case atStart => exact ⟨0, 0, Nat.zero_le _, rfl, rfl, fun j hj => by omega⟩
    case round =>
      obtain ⟨k, e, hk, rfl, hwr, hall⟩ := hrel
      have HW := Lib.hid hwr; have HALL := Lib.hid hall
      have hAr : Il wr (.slice a n c) A := by rw [hwr]; exact HA.out.fr ((Fr.refl (fun _ => False) w).drewN e) (fun _ h => h.elim)
      have hBr : Il wr (.slice b n d) B := by rw [hwr]; exact HB.out.fr ((Fr.refl (fun _ => False) w).drewN e) (fun _ h => h.elim)
      clear hwr hall
      by_cases hlt : k < n
      · obtain ⟨p, hp⟩ : ∃ p, A[k]? = some p := ⟨A[k]'(by rw [HN.out]; exact hlt), List.getElem?_eq_getElem _⟩
        obtain ⟨q, hq⟩ : ∃ q, B[k]? = some q := ⟨B[k]'(by rw [HM.out]; exact hlt), List.getElem?_eq_getElem _⟩
        obtain ⟨aa, rfl, -, -, p0, p1⟩ := hAr.at_ hp
        obtain ⟨ba, rfl, -, -, q0, q1⟩ := hBr.at_ hq
        have hneq := fun W => neq_item W p q
        have HP := Lib.hid hp; have HQ := Lib.hid hq
        have hltI : (k : Int) < n := by omega
        clear hp hq hAr hBr
        by_cases hpq : p = q
        · rw [decide_eq_true hpq] at hneq
          have HPQ := Lib.hid hpq
          clear hpq
          go_wp2_with fail
          go_quiet (fail)
          go_wp2_with fail
          go_roundw
          case rel => exact ⟨k + 1, _, by omega, by go_num, (by rw [HW.out, World.drewN_drewN]), fun j hj => by
            by_cases e : j = k
            · rw [e, HP.out, HQ.out, HPQ.out]
            · exact HALL.out j (by omega)⟩
          case measure => simp [intOf]; omega
        · rw [decide_eq_false hpq] at hneq
          have hg : Hid (G = false) := Lib.hid (by
            rw [← HG.out]
            refine decide_eq_false (fun e => hpq ?_)
            have := HP.out
            rw [e, HQ.out] at this
            exact (Option.some.inj this).symm)
          clear hpq
          go_wp2_with fail
          go_quiet (fail)
          go_wp2_with fail
          go_ret
          exact ⟨by rw [hg.out]; rfl, _, by rw [HW.out, World.drewN_drewN]⟩
      · obtain rfl : k = n := by omega
        have hg : Hid (G = true) := Lib.hid (by
          rw [← HG.out]
          refine decide_eq_true (List.ext_getElem? (fun j => ?_))
          by_cases h : j < k
          · exact HALL.out j h
          · rw [List.getElem?_eq_none (by rw [HN.out]; omega), List.getElem?_eq_none (by rw [HM.out]; omega)])
        go_wp2_with fail
        go_ret
        exact ⟨by rw [hg.out]; rfl, _, HW.out⟩
  · have hg : Hid (G = false) := Lib.hid (by
      rw [← HG.out]
      refine decide_eq_false (fun e => hnm ?_)
      rw [← HN.out, ← HM.out, e])
    have hne : ((n : Int) != m) = true := by simp; omega
    go_enter Tryz.func18, Tryz.ntmps18
    go_wp2_with fail
    go_ret
    exact ⟨by rw [hg.out]; rfl, 0, rfl⟩
end Go.Proofs.YtogphlnakdnchaaGreat

namespace Go.Proofs.YtogphlnakdnchaaGreat
open Go.RowKit Go.Maps
theorem calls_q {P : Program} {f : FuncId} {args : Array Value} {w : World} {n : Nat} {v : Value} (h : Calls P f args (w.drewN n) fun e w' => e = .returned v ∧ w.drewN n = w') :
    Calls P f args (w.drewN n) fun e w'' => e = .returned v ∧ ∃ m, w'' = w.drewN m := h.mono fun _ _ ⟨he, hm⟩ => ⟨he, n, hm.symm⟩
/-- The good ahead of place k; nothing ahead of the first. -/
def lastOf (L : Its) : Nat → Str
  | 0 => []
  | k + 1 => (L[k]?.map (·.1)).getD []
theorem itsOk_at {L : Its} {k : Nat} {p : Str × Int} (last : Str) (hp : L[k]? = some p) : itsOk last (L.drop k) = (goodB p.1 && decide (1 ≤ p.2) && mayI p.2 && decide (last < p.1) && itsOk p.1 (L.drop (k + 1))) := by
  have : L.drop k = p :: L.drop (k + 1) := by
    rw [List.drop_eq_getElem_cons (List.getElem?_eq_some_iff.1 hp).1]
    rw [(List.getElem?_eq_some_iff.1 hp).2]
  rw [this]; rfl
set_option maxRecDepth 100000 in
set_option maxHeartbeats 8000000 in
theorem r6May (w : World) (v : Value) (L : Its) (hL : Il w v L) : Calls Tryz.prog 78 #[v] w fun e w' => e = .returned (.bool (mayL L)) ∧ ∃ n, w' = w.drewN n := by
  obtain ⟨G, hG⟩ : ∃ G, mayL L = G := ⟨_, rfl⟩
  rw [hG]
  have HG := Lib.hid hG
  clear hG
  obtain ⟨a, c, rfl⟩ := hL.sl
  obtain ⟨n, hn⟩ : ∃ n, L.length = n := ⟨_, rfl⟩
  have hnI : (n : Int) ≤ 9223372036854775807 := by have := hL.1; omega
  have HL := Lib.hid hL; have HN := Lib.hid hn
  rw [hn] at HL ⊢
  clear hL hn
  go_enter Tryz.func78, Tryz.ntmps78
  go_wp2_with fail
  go_loopw [3] (fun i wr => ∃ k e : Nat, k ≤ n ∧ i = .int .i64 k ∧ wr = w.drewN e ∧ itsOk [] L = itsOk (lastOf L k) (L.drop k)) (fun i _ => n - (intOf i).toNat)
  case atStart => exact ⟨0, 0, Nat.zero_le _, rfl, rfl, rfl⟩
  case round =>
    obtain ⟨k, e, hk, rfl, hwr, hall⟩ := hrel
    have HW := Lib.hid hwr; have HALL := Lib.hid hall
    have hLr : Il wr (.slice a n c) L := by rw [hwr]; exact HL.out.fr ((Fr.refl (fun _ => False) w).drewN e) (fun _ h => h.elim)
    clear hwr hall
    by_cases hlt : k < n
    · obtain ⟨p, hp⟩ : ∃ p, L[k]? = some p := ⟨L[k]'(by rw [HN.out]; exact hlt), List.getElem?_eq_getElem _⟩
      obtain ⟨ad, rfl, ok1, ok2, p0, p1⟩ := hLr.at_ hp
      have hstep := itsOk_at (lastOf L k) hp
      have hnext : lastOf L (k + 1) = p.1 := by show (L[k]?.map (·.1)).getD [] = _; rw [hp]; rfl
      have hltI : (k : Int) < n := by omega
      have hbad : ∀ b, (goodB p.1 && decide (1 ≤ p.2) && mayI p.2 && decide (lastOf L k < p.1)) = b → b = false → G = false := fun b hb h => by
        rw [← HG.out]
        unfold mayL
        rw [HALL.out, hstep, hb, h]; rfl
      have hgo : (goodB p.1 && decide (1 ≤ p.2) && mayI p.2 && decide (lastOf L k < p.1)) = true → itsOk [] L = itsOk (lastOf L (k + 1)) (L.drop (k + 1)) := fun hb => by
        rw [HALL.out, hstep, hb, hnext]; rfl
      have HBAD := Lib.hid hbad; have HGO := Lib.hid hgo
      clear hbad hgo hstep hnext
      obtain ⟨g, x⟩ := p
      dsimp only at p0 p1 ok1 ok2 HBAD HGO
      have hGd := r6Good
      have HGd := Lib.hid (fun W => r6Good W g ok1)
      have HMy := Lib.hid (fun W => r5May W x)
      clear hGd
      cases h1 : goodB g with
      | false =>
        rw [h1] at HGd HBAD
        have hg := Lib.hid (HBAD.out _ rfl rfl)
        clear h1
        go_wp2_with fail
        go_big_quiet ((go_at_call 108; exact calls_q (HGd.out _)))
        go_wp2_with fail
        go_ret
        exact ⟨by rw [hg.out]; rfl, _, by rw [HW.out, World.drewN_drewN]⟩
      | true =>
        rw [h1] at HGd HBAD HGO
        have hpos := good_pos h1
        have HPOS := Lib.hid hpos
        clear h1 hpos
        by_cases h2 : x < 1
        · have hd2 : decide (x < 1) = true := decide_eq_true h2
          have hg := Lib.hid (HBAD.out _ rfl (by simp; omega))
          go_wp2_with fail
          go_big_quiet ((go_at_call 108; exact calls_q (HGd.out _)))
          go_wp2_with fail
          go_ret
          exact ⟨by rw [hg.out]; rfl, _, by rw [HW.out, World.drewN_drewN]⟩
        · have hd2 : decide (x < 1) = false := decide_eq_false h2
          cases h3 : mayI x with
          | false =>
            rw [h3] at HMy HBAD
            have hg := Lib.hid (HBAD.out _ rfl (by simp))
            clear h3
            go_wp2_with fail
            go_big_quiet (first | (go_at_call 108; exact calls_q (HGd.out _)) | (go_at_call 84; exact calls_q (HMy.out _)))
            go_wp2_with fail
            go_ret
            exact ⟨by rw [hg.out]; rfl, _, by rw [HW.out, World.drewN_drewN]⟩
          | true =>
            rw [h3] at HMy HBAD HGO
            clear h3
            have hx1 : (decide (1 ≤ x)) = true := by simp; omega
            rw [hx1] at HBAD HGO
            clear hx1
            rcases Nat.eq_zero_or_pos k with h0 | h0
            · have H0 := Lib.hid h0
              have hd3 : decide (0 < k) = false := decide_eq_false (by omega)
              rw [h0] at HGO
              clear h0
              have hy := Lib.hid (HGO.out (by show (true && true && true && decide (([] : Str) < g)) = true; rw [decide_eq_true HPOS.out]; rfl))
              go_wp2_with fail
              go_big_quiet (first | (go_at_call 108; exact calls_q (HGd.out _)) | (go_at_call 84; exact calls_q (HMy.out _)))
              go_wp2_with fail
              go_roundw
              case rel => exact ⟨k + 1, _, by omega, by go_num, (by rw [HW.out, World.drewN_drewN]), by rw [H0.out]; exact hy.out⟩
              case measure => simp [intOf]; omega
            · obtain ⟨j, hj⟩ : ∃ j, k = j + 1 := ⟨k - 1, by omega⟩
              obtain ⟨⟨g', x'⟩, hp'⟩ : ∃ p, L[j]? = some p := ⟨L[j]'(by rw [HN.out]; omega), List.getElem?_eq_getElem _⟩
              obtain ⟨ad', had, -, -, r0, -⟩ := hLr.at_ hp'
              obtain rfl := Option.some.inj had
              have hlast : lastOf L k = g' := by rw [hj]; show (L[j]?.map (·.1)).getD [] = _; rw [hp']; rfl
              rw [hlast] at HBAD HGO
              dsimp only at r0
              clear hp' had hlast hLr
              have hd3 : decide (0 < k) = true := decide_eq_true (by omega)
              have hsub : (k : Int) - 1 = (j : Int) := by omega
              have HJ := Lib.hid hj
              have hjn : (j : Int) < n := by omega
              clear hj h0
              by_cases hlg : g' < g
              · have hy := Lib.hid (HGO.out (by simp [hlg]))
                have q1 : Op.bytesLess g' g = true := by rw [bytesLess_eq]; simpa using hlg
                clear hlg
                go_wp2_with fail
                go_big_quiet (first | (go_at_call 108; exact calls_q (HGd.out _)) | (go_at_call 84; exact calls_q (HMy.out _)))
                go_wp2_with fail
                go_roundw
                case rel => exact ⟨k + 1, _, by omega, by go_num, (by rw [HW.out, World.drewN_drewN]), hy.out⟩
                case measure => simp [intOf]; omega
              · have hg := Lib.hid (HBAD.out _ rfl (by simp [hlg]))
                have q1 : Op.bytesLess g' g = false := by rw [bytesLess_eq]; simpa using hlg
                clear hlg
                go_wp2_with fail
                go_big_quiet (first | (go_at_call 108; exact calls_q (HGd.out _)) | (go_at_call 84; exact calls_q (HMy.out _)))
                go_wp2_with fail
                go_ret
                exact ⟨by rw [hg.out]; rfl, _, by rw [HW.out, World.drewN_drewN]⟩
    · obtain rfl : k = n := by omega
      have hg : Hid (G = decide (k ≤ 16)) := Lib.hid (by
        rw [← HG.out]
        unfold mayL
        rw [HALL.out, List.drop_eq_nil_of_le (by rw [HN.out]; exact Nat.le_refl _), HN.out]; rfl)
      by_cases h : k ≤ 16
      · have hI : (k : Int) ≤ 16 := by omega
        go_wp2_with fail
        go_ret
        exact ⟨by rw [hg.out, decide_eq_true h]; rfl, _, HW.out⟩
      · have hI : ¬ (k : Int) ≤ 16 := by omega
        go_wp2_with fail
        go_ret
        exact ⟨by rw [hg.out, decide_eq_false h]; rfl, _, HW.out⟩
end Go.Proofs.YtogphlnakdnchaaGreat

namespace Go.Proofs.YtogphlnakdnchaaGreat
open Go.RowKit
theorem row_sl {w : World} {base : Nat} {e : TypeId} {size n : Nat} {v : Value} {xs : List Value} (h : w.ownsRow base e size v n xs) : ∃ a c, v = .slice a n c := by
  rcases h.2 with ⟨rfl, rfl⟩ | ⟨g, c, cur, rfl, _⟩
  · exact ⟨_, _, rfl⟩
  · exact ⟨_, _, rfl⟩
theorem own_base {w : World} {base base' : Nat} {e : TypeId} {size n : Nat} {v : Value} {xs : List Value} (h : w.ownsRow base e size v n xs) (hb : base' ≤ base) : w.ownsRow base' e size v n xs := by
  refine ⟨h.1, ?_⟩
  rcases h.2 with h | ⟨g, c, cur, h1, h2, r⟩
  · exact .inl h
  · exact .inr ⟨g, c, cur, h1, Nat.le_trans hb h2, r⟩
/-- A slice's cells: m elements of that size, at A. -/
def Rd (w : World) (size : Nat) (A : Option Addr) (m : Nat) (xs : List Value) : Prop := xs.length = m * size ∧ (0 < m → ∃ ad, A = some ad ∧ ∀ (j : Nat) (u : Value), xs[j]? = some u → w.cell? (ad.add j) = some u)
section
variable {w w' : World} {size m : Nat} {A : Option Addr} {xs : List Value}
theorem Rd.nil (w : World) (size : Nat) (A : Option Addr) : Rd w size A 0 [] := ⟨by simp, fun h => absurd h (by omega)⟩
theorem add_add' (a : Addr) (i j : Nat) : (a.add i).add j = a.add (i + j) := by
  unfold Addr.add
  by_cases hi : i = 0 <;> by_cases hj : j = 0 <;> simp [hi, hj, Nat.add_assoc]
theorem Rd.fr {S : Nat → Prop} (h : Rd w size A m xs) (hf : Fr S w w') (hS : ∀ ad, A = some ad → ¬ S ad.block) : Rd w' size A m xs :=
  ⟨h.1, fun hm => by
    obtain ⟨ad, e, hc⟩ := h.2 hm
    exact ⟨ad, e, fun j u hu => hf.cell (hc j u hu) (by rw [add_block]; exact hS ad e)⟩⟩
theorem Rd.own {base n c : Nat} {e : TypeId} (h : w.ownsRow base e size (.slice A n c) n xs) : Rd w size A n xs := by
  refine ⟨h.1, fun hn => ?_⟩
  obtain ⟨g, cap, hv, _, _⟩ := h.form hn
  have hA : A = some ⟨g, 0, none⟩ := by injection hv
  subst hA
  exact ⟨_, rfl, h.cells (g := g) rfl⟩
theorem Rd.take {k : Nat} (h : Rd w size A m xs) (hk : k ≤ m) : Rd w size A k (xs.take (k * size)) := by
  have hle : k * size ≤ m * size := Nat.mul_le_mul_right _ hk
  refine ⟨by rw [List.length_take, h.1]; omega, fun hp => ?_⟩
  obtain ⟨ad, e, hc⟩ := h.2 (by omega)
  refine ⟨ad, e, fun j u hu => hc j u ?_⟩
  rw [List.getElem?_take] at hu
  split at hu
  · exact hu
  · cases hu
theorem Rd.drop {k : Nat} (h : Rd w size A m xs) (hk : k ≤ m) : Rd w size (A.map fun x => x.add (k * size)) (m - k) (xs.drop (k * size)) := by
  refine ⟨by rw [List.length_drop, h.1, Nat.sub_mul], fun hn => ?_⟩
  obtain ⟨ad, rfl, hc⟩ := h.2 (by omega)
  exact ⟨_, rfl, fun j u hu => by rw [add_add']; exact hc _ u (by rw [← hu, List.getElem?_drop])⟩
theorem Rd.at_ {k : Nat} {u : Value} (h : Rd w size A m xs) (hm : 0 < m) (hk : xs[k]? = some u) : ∃ ad, A = some ad ∧ w.cell? (ad.add k) = some u := by
  obtain ⟨ad, e, hc⟩ := h.2 hm
  exact ⟨ad, e, hc k u hk⟩
variable {P : Program}
theorem run_append_src (base : Nat) (t ty e : TypeId) (i : TypeInfo) (z : Value) (bytes : Nat) (ht : P.underlying t = some (.slice e)) (hi : P.info? e = some i) (hz : i.zero = some z)
    (hsize : i.size = size) (hby : i.bytes = bytes) (hzs : z.cells.size = size) (hsz : 0 < size) (v : Value) (n : Nat) (ys : List Value) (hown : w.ownsRow base e size v n ys)
    (c : Nat) (hr : Rd w size A m xs) (h1 : ∀ u ∈ xs, u.oneCell' = true) (h63 : n + m ≤ maxLen) (hbytes : (n + m) * bytes ≤ 140737488355328) (hbase : base ≤ w.heap.size) :
    ∃ v' w', (Builtin.append_ #[t, t] ty #[v, .slice A m c]).run P w = .ok v' w' ∧ w'.ownsRow base e size v' (n + m) (ys ++ xs) ∧ w.grownBy w' v.ownBlock ∧ (v'.ownBlock = v.ownBlock ∨ v'.ownBlock = some w.heap.size) := by
  cases A with
  | none =>
    obtain rfl : m = 0 := by
      rcases Nat.eq_zero_or_pos m with h | h
      · exact h
      · obtain ⟨_, h, _⟩ := hr.2 h; cases h
    obtain rfl : xs = [] := List.eq_nil_of_length_eq_zero (by simpa using hr.1)
    refine ⟨v, w, ?_, by simpa using hown, World.grownBy.refl w _, .inl rfl⟩
    rcases hown.2 with ⟨rfl, rfl⟩ | ⟨g, cap, cur, rfl, _, _, hnc, _⟩
    · simp [Builtin.append_, run_underlying ht, sizeOf, typeInfo, hi, Builtin.lenOf, Builtin.firstCells]
    · simp [Builtin.append_, run_underlying ht, sizeOf, typeInfo, hi, Builtin.lenOf, Builtin.firstCells, hnc, storeCells]
  | some ad =>
    have hc : ∀ j u, xs[j]? = some u → w.cell? (ad.add j) = some u := by
      intro j u hu
      rcases Nat.eq_zero_or_pos m with h | h
      · subst h
        obtain rfl : xs = [] := List.eq_nil_of_length_eq_zero (by simpa using hr.1)
        cases hu
      · obtain ⟨ad', e, hc⟩ := hr.2 h
        cases e
        exact hc j u hu
    obtain ⟨v', w', a1, a2, a3, _, a5⟩ := run_append_own_at (P := P) w base t ty e i z size bytes ht hi hz hsize hby hzs hsz v n ys hown ad m c xs hr.1 hc h1 h63 hbytes hbase
    exact ⟨v', w', a1, a2, a3, a5⟩
theorem wpList_append_src {ops : Array Oper} {rest : List Oper} {o : Oper} {a : Act} {Q : Exit → Act → World → Prop} (hgd : o.guard = none) (s x : Operand) (t : TypeId)
    (ho : o.op = .call { callee := .builtin .append, args := #[s, x], argTypes := #[t, t] })
    (base : Nat) (e : TypeId) (i : TypeInfo) (z : Value) (bytes : Nat) (ht : P.underlying t = some (.slice e)) (hi : P.info? e = some i) (hz : i.zero = some z)
    (hsize : i.size = size) (hby : i.bytes = bytes) (hzs : z.cells.size = size) (hsz : 0 < size) (v : Value) (n : Nat) (ys : List Value) (hs : a.eval s = v) (hown : w.ownsRow base e size v n ys)
    (c : Nat) (hx : a.eval x = .slice A m c) (hr : Rd w size A m xs) (h1 : ∀ u ∈ xs, u.oneCell' = true) (h63 : n + m ≤ maxLen) (hbytes : (n + m) * bytes ≤ 140737488355328) (hbase : base ≤ w.heap.size)
    (h : ∀ v' w', w'.ownsRow base e size v' (n + m) (ys ++ xs) → w.grownBy w' v.ownBlock → (v'.ownBlock = v.ownBlock ∨ v'.ownBlock = some w.heap.size) → wpList P ops Q rest (a.put o.dst v') w') : wpList P ops Q (o :: rest) a w := by
  refine wpList_plain hgd fun K hK => ?_
  obtain ⟨v', w', hr, h2, h3, h5⟩ := run_append_src (P := P) base t o.type e i z bytes ht hi hz hsize hby hzs hsz v n ys hown c hr h1 h63 hbytes hbase
  unfold Oper.wp execOp
  simp only [ho, resolve, invoke, builtin, Sem.run_bind, Sem.run_pure, Result.andThen_ok, List.map_toArray, List.map_cons, List.map_nil, hs, hx, hr]
  exact hK _ _ (h v' w' h2 h3 h5)
end
end Go.Proofs.YtogphlnakdnchaaGreat

namespace Go.Proofs.YtogphlnakdnchaaGreat
open Go.RowKit
section
variable {w w' : World} {size m : Nat} {A : Option Addr} {xs : List Value} {P : Program}
theorem step_append_src {ops : Array Oper} {o : Oper} {a : Act} {K : Act → World → Prop} {Q : Exit → Act → World → Prop} {E : Prop} (hgd : o.guard = none) (s x : Operand) (t : TypeId)
    (ho : o.op = .call { callee := .builtin .append, args := #[s, x], argTypes := #[t, t] })
    (base : Nat) (e : TypeId) (i : TypeInfo) (z : Value) (bytes : Nat) (ht : P.underlying t = some (.slice e)) (hi : P.info? e = some i) (hz : i.zero = some z)
    (hsize : i.size = size) (hby : i.bytes = bytes) (hzs : z.cells.size = size) (hsz : 0 < size) (v : Value) (n : Nat) (ys : List Value) (hs : a.eval s = v) (hown : w.ownsRow base e size v n ys)
    (c : Nat) (hx : a.eval x = .slice A m c) (hr : Rd w size A m xs) (h1 : ∀ u ∈ xs, u.oneCell' = true) (h63 : n + m ≤ maxLen) (hbytes : (n + m) * bytes ≤ 140737488355328) (hbase : base ≤ w.heap.size)
    (h : ∀ v' w', w'.ownsRow base e size v' (n + m) (ys ++ xs) → w.grownBy w' v.ownBlock → (v'.ownBlock = v.ownBlock ∨ v'.ownBlock = some w.heap.size) → K (a.put o.dst v') w') :
    if Region.wanted o (yielded ops a.tmps) = true then Oper.wp P o a w K Q else E := by
  have hw : Region.wanted o (yielded ops a.tmps) = true := by simp [Region.wanted, hgd]
  rw [if_pos hw]
  obtain ⟨v', w', hr, h2, h3, h5⟩ := run_append_src (P := P) base t o.type e i z bytes ht hi hz hsize hby hzs hsz v n ys hown c hr h1 h63 hbytes hbase
  unfold Oper.wp execOp
  simp only [ho, resolve, invoke, builtin, Sem.run_bind, Sem.run_pure, Result.andThen_ok, List.map_toArray, List.map_cons, List.map_nil, hs, hx, hr]
  exact h v' w' h2 h3 h5
theorem own_none {w : World} {base size : Nat} {t : TypeId} (h : base ≤ w.heap.size) : (w.alloc (.cells #[] t)).ownsRow base t size (.slice (some ⟨w.heap.size, 0, none⟩) 0 0) 0 [] :=
  ⟨by simp, .inr ⟨_, _, _, rfl, h, heap_new _ _, Nat.le_refl _, by unfold maxLen; omega, by simp, by simp⟩⟩
theorem rd_obj {w : World} {g : Nat} {cs : List Value} {t : TypeId} {size : Nat} (h : w.heap[g]? = some (.cells cs.toArray t)) (hs : cs.length = size) : Rd w size (some ⟨g, 0, none⟩) 1 cs :=
  ⟨by omega, fun _ => ⟨_, rfl, fun j u hu => by
    have : (⟨g, 0, none⟩ : Addr).add j = ⟨g, j, none⟩ := by unfold Addr.add; split <;> simp_all
    rw [this]
    exact cell_obj h j u (by simpa using hu)⟩⟩
end
end Go.Proofs.YtogphlnakdnchaaGreat

namespace Go.Proofs.YtogphlnakdnchaaGreat
open Go.RowKit
section
variable {w w' : World} {size base len cap : Nat} {a : Option Addr} {e t : TypeId} {xs : List Value} {P : Program} {i : TypeInfo}
theorem own_len (h : w.ownsRow base e size (.slice a len cap) len xs) : len ≤ cap ∧ cap ≤ 9223372036854775807 := by
  rcases h.2 with ⟨e1, e2⟩ | ⟨g, c, cur, e1, _, _, hnc, hm, _⟩
  · injection e1 with _ h2 h3
    omega
  · injection e1 with _ _ h3
    unfold maxLen at hm
    omega
theorem own_none' {w : World} {base size b : Nat} {t : TypeId} (hb : b = w.heap.size) (h : base ≤ b) : (w.alloc (.cells #[] t)).ownsRow base t size (.slice (some ⟨b, 0, none⟩) 0 0) 0 [] := hb ▸ own_none (hb ▸ h)
theorem sub_take (h : w.ownsRow base e size (.slice a len cap) len xs) (ht : P.underlying t = some (.slice e)) (hi : P.info? e = some i) {j : Nat} (hj : j ≤ len) :
    (∀ W, (Instr.slice t (.slice a len cap) none (some (.int .i64 (j : Int))) none).run P W = .ok (.slice a j cap) W) ∧ Rd w size a j (xs.take (j * size)) := by
  obtain ⟨h1, h2⟩ := own_len h
  refine ⟨fun W => ?_, (Rd.own h).take hj⟩
  have q : (0 : Int) ≤ (j : Int) ∧ (j : Int) ≤ (cap : Int) := by omega
  simp [Instr.slice, Instr.sliceBounds, Instr.sliceBound, run_underlying ht, asIntOf, sizeOf, typeInfo, hi, q, go_sem]
  intro h3; omega
theorem sub_drop (h : w.ownsRow base e size (.slice a len cap) len xs) (ht : P.underlying t = some (.slice e)) (hi : P.info? e = some i) (hs : i.size = size) {j : Nat} (hj : j ≤ len) :
    ∃ A, (∀ W, (Instr.slice t (.slice a len cap) (some (.int .i64 (j : Int))) none none).run P W = .ok (.slice A (len - j) (cap - j)) W) ∧ Rd w size A (len - j) (xs.drop (j * size)) ∧ ∀ ad, A = some ad → ∃ ad', a = some ad' ∧ ad'.block = ad.block := by
  obtain ⟨h1, h2⟩ := own_len h
  refine ⟨if cap = j then a else a.map fun x => x.add (j * size), fun W => ?_, ?_, ?_⟩
  · have q : (0 : Int) ≤ (j : Int) ∧ (j : Int) ≤ (len : Int) := by omega
    simp [Instr.slice, Instr.sliceBounds, Instr.sliceBound, run_underlying ht, asIntOf, sizeOf, typeInfo, hi, hs, q, go_sem]
    intro h3; omega
  · by_cases hc : cap = j
    · obtain rfl : j = len := by omega
      rw [if_pos hc, Nat.sub_self, List.drop_of_length_le (by rw [h.1]; exact Nat.le_refl _)]
      exact Rd.nil _ _ _
    · rw [if_neg hc]
      exact (Rd.own h).drop hj
  · intro ad hA
    split at hA
    · exact ⟨ad, hA, rfl⟩
    · cases a with
      | none => cases hA
      | some ad' =>
        injection hA with hA
        exact ⟨ad', rfl, by rw [← hA, add_block]⟩
end
end Go.Proofs.YtogphlnakdnchaaGreat

namespace Go.Proofs.YtogphlnakdnchaaGreat
open Go.RowKit Go.Maps
theorem kS : KO Tryz.prog 9 ktS := koS Tryz.underlying9
theorem zeroSR (w : World) : (zeroValue 121).run Tryz.prog w = .ok SR.zero.enc w := by kernel_rfl
/-- Object g is a stock that says A, and owns the blocks of TS. -/
structure SA (w : World) (g : Nat) (TS : Nat → Prop) (A : Stk) : Prop where
  ex : ∃ m, w.heap[g]? = some (.cells #[.map (some m)] 102) ∧ Mp Tryz.prog w 9 ktS SR.enc m A ∧ TS m
  own : TS g
  lt : ∀ b, TS b → b < w.heap.size
theorem SA.fr {S TS : Nat → Prop} {w w' : World} {g : Nat} {A : Stk} (h : SA w g TS A) (hf : Fr S w w') (hS : ∀ b, TS b → ¬ S b) : SA w' g TS A := by
  obtain ⟨⟨m, h1, h2, h3⟩, h5, h6⟩ := h
  exact ⟨⟨m, hf.at_ h1 (hS _ h5), hf.mp h2 (hS _ h3), h3⟩, h5, fun b hb => Nat.lt_of_lt_of_le (h6 b hb) hf.size⟩
theorem sNew (w : World) : Calls Tryz.prog 24 #[] w fun e w' => e = .returned (.pointer (some ⟨w.heap.size + 1, 0, none⟩)) ∧ SA w' (w.heap.size + 1) (fun b => b = w.heap.size ∨ b = w.heap.size + 1) [] ∧ Fr (fun _ => False) w w' ∧ w'.heap.size = w.heap.size + 2 := by
  have hmm := @run_makeMap Tryz.prog
  go_enter Tryz.func24, Tryz.ntmps24
  go_wp2
  go_ret
  refine ⟨rfl, ⟨⟨_, heap_at (by simp) _, (Mp.made Tryz.prog w 9 ktS SR.enc).alloc _, .inl rfl⟩, .inr rfl, fun b hb => by simp; omega⟩, ((Fr.refl _ _).alloc _).alloc _, by simp⟩
theorem smade (w : World) (g m : Nat) (hc : w.cell? ⟨g, 0, none⟩ = some (.map (some m))) : Calls Tryz.prog 69 #[.pointer (some ⟨g, 0, none⟩)] w fun e w' => e = .returned (.bool true) ∧ w = w' := by
  have hn := fun (w : World) (r : Option Nat) => run_neq_map_nil (P := Tryz.prog) w 100 _ _ r Tryz.underlying100
  go_enter Tryz.func69, Tryz.ntmps69
  go_wp2
  go_ret
  exact ⟨rfl, rfl⟩
/-- Pointers to a row's numbers. -/
def ptrs (b : Nat) : Array Value := #[.pointer (some ⟨b, 0, none⟩), .pointer (some ⟨b, 1, none⟩), .pointer (some ⟨b, 2, none⟩), .pointer (some ⟨b, 3, none⟩), .pointer (some ⟨b, 4, none⟩), .pointer (some ⟨b, 5, none⟩), .pointer (some ⟨b, 6, none⟩), .pointer (some ⟨b, 7, none⟩), .pointer (some ⟨b, 8, none⟩), .pointer (some ⟨b, 9, none⟩), .pointer (some ⟨b, 10, none⟩)]
set_option maxRecDepth 100000 in
set_option maxHeartbeats 1000000 in
theorem sNumbers (w : World) (b : Nat) : Calls Tryz.prog 91 #[.pointer (some ⟨b, 0, none⟩)] w fun e w' => e = .returned (.agg (ptrs b)) ∧ Fr (fun _ => False) w w' := by
  go_enter Tryz.func91, Tryz.ntmps91
  go_wp2_with fail
  refine wp_region_still_tail 45 (by kernel_rfl) (by kernel_rfl) ?_
  simp only [List.take_succ_cons, List.take_zero, List.drop_succ_cons, List.drop_zero]
  change wpStill _ _ (w.drew.alloc (.cells _ _)) (fun a' => wpList _ _ _ _ a' (w.drew.alloc (.cells _ _))) _ _
  have HF := Lib.hid ((Fr.refl (fun _ => False) w).drew)
  rw [show w.heap.size = w.drew.heap.size from rfl]
  generalize w.drew = V at *
  repeat still_step
  refine wpStill_nil ?_
  go_wp2_with fail
  refine bodyPost_ret (v := .agg (ptrs b)) (by simp [results, Tryz.results91, go_sem, ptrs]) rfl ⟨rfl, ?_⟩
  exact HF.out.alloc _
/-- Row r lies in block b. -/
abbrev RowAt (w : World) (b : Nat) (r : SR) : Prop := w.heap[b]? = some (.cells r.cs 121)
def optP (b : Nat) : Option Nat → Value
  | none => .pointer none
  | some i => .pointer (some ⟨b, i, none⟩)
set_option maxRecDepth 100000 in
set_option maxHeartbeats 1000000 in
theorem sAdd (w : World) (b : Nat) (r : SR) (o : Option Nat) (n : Int) (h : RowAt w b r) (ho : ∀ i, o = some i → i < 11 ∧ okI (r.get i + n)) :
    Calls Tryz.prog 75 #[optP b o, .int .i64 n] w fun e w' => (∃ v, e = .returned v) ∧ RowAt w' b (r.add o n) ∧ Fr (fun x => x = b) w w' := by
  cases o with
  | none =>
    unfold optP
    go_enter Tryz.func75, Tryz.ntmps75
    go_wp2
    go_end0
    exact ⟨⟨_, rfl⟩, h, Fr.refl _ _⟩
  | some i =>
    obtain ⟨hi, h1⟩ := ho i rfl
    unfold okI at h1
    have c0 := cell_obj h i _ (r.cs_get hi)
    have f0 := obj_frozen h i
    have HH := Lib.hid h
    obtain ⟨x, hx⟩ : ∃ x, r.get i = x := ⟨_, rfl⟩
    rw [hx] at c0 h1
    have HX := Lib.hid hx
    clear h ho hx
    unfold optP
    go_enter Tryz.func75, Tryz.ntmps75
    go_wp2
    go_end0
    refine ⟨⟨_, rfl⟩, ?_, (Fr.refl (fun x => x = b) w).setCell (p := ⟨b, i, none⟩) (fun _ => rfl) _⟩
    have := obj_set HH.out i (.int .i64 (x + n))
    rw [r.cs_set hi] at this
    show (w.setCell ⟨b, i, none⟩ (.int .i64 (x + n))).heap[b]? = some (.cells (r.set i (r.get i + n)).cs 121)
    rw [HX.out]
    exact this
set_option maxRecDepth 100000 in
set_option maxHeartbeats 4000000 in
theorem sRoad (w : World) (b : Nat) (k : Int) : Calls Tryz.prog 74 #[.int .i64 k, .pointer (some ⟨b, 0, none⟩)] w fun e w' => e = .returned (.tuple #[optP b (roadF k).1, optP b (roadF k).2.1, optP b (roadF k).2.2]) ∧ ∃ n, w' = w.drewN n := by
  by_cases h1 : k = 1
  · subst h1
    go_enter Tryz.func74, Tryz.ntmps74
    go_wp2_with fail
    go_quiet (fail)
    go_wp2_with fail
    go_ret3
    exact ⟨rfl, _, rfl⟩
  by_cases h2 : k = 2
  · subst h2
    go_enter Tryz.func74, Tryz.ntmps74
    go_wp2_with fail
    go_quiet (fail)
    go_wp2_with fail
    go_ret3
    exact ⟨rfl, _, rfl⟩
  by_cases h3 : k = 3
  · subst h3
    go_enter Tryz.func74, Tryz.ntmps74
    go_wp2_with fail
    go_quiet (fail)
    go_wp2_with fail
    go_ret3
    exact ⟨rfl, _, rfl⟩
  by_cases h4 : k = 4
  · subst h4
    go_enter Tryz.func74, Tryz.ntmps74
    go_wp2_with fail
    go_quiet (fail)
    go_wp2_with fail
    go_ret3
    exact ⟨rfl, _, rfl⟩
  by_cases h5 : k = 5
  · subst h5
    go_enter Tryz.func74, Tryz.ntmps74
    go_wp2_with fail
    go_quiet (fail)
    go_wp2_with fail
    go_ret3
    exact ⟨rfl, _, rfl⟩
  by_cases h6 : k = 6
  · subst h6
    go_enter Tryz.func74, Tryz.ntmps74
    go_wp2_with fail
    go_quiet (fail)
    go_wp2_with fail
    go_ret3
    exact ⟨rfl, _, rfl⟩
  by_cases h7 : k = 7
  · subst h7
    go_enter Tryz.func74, Tryz.ntmps74
    go_wp2_with fail
    go_quiet (fail)
    go_wp2_with fail
    go_ret3
    exact ⟨rfl, _, rfl⟩
  by_cases h8 : k = 8
  · subst h8
    go_enter Tryz.func74, Tryz.ntmps74
    go_wp2_with fail
    go_quiet (fail)
    go_wp2_with fail
    go_ret3
    exact ⟨rfl, _, rfl⟩
  by_cases h9 : k = 9
  · subst h9
    go_enter Tryz.func74, Tryz.ntmps74
    go_wp2_with fail
    go_quiet (fail)
    go_wp2_with fail
    go_ret3
    exact ⟨rfl, _, rfl⟩
  by_cases h10 : k = 10
  · subst h10
    go_enter Tryz.func74, Tryz.ntmps74
    go_wp2_with fail
    go_quiet (fail)
    go_wp2_with fail
    go_ret3
    exact ⟨rfl, _, rfl⟩
  by_cases h11 : k = 11
  · subst h11
    go_enter Tryz.func74, Tryz.ntmps74
    go_wp2_with fail
    go_quiet (fail)
    go_wp2_with fail
    go_ret3
    exact ⟨rfl, _, rfl⟩
  have e : roadF k = (none, none, none) := by simp [roadF, h1, h2, h3, h4, h5, h6, h7, h8, h9, h10, h11]
  rw [e]
  have b1 : (k == 1) = false := by simpa using h1
  have b2 : (k == 2) = false := by simpa using h2
  have b3 : (k == 3) = false := by simpa using h3
  have b4 : (k == 4) = false := by simpa using h4
  have b5 : (k == 5) = false := by simpa using h5
  have b6 : (k == 6) = false := by simpa using h6
  have b7 : (k == 7) = false := by simpa using h7
  have b8 : (k == 8) = false := by simpa using h8
  have b9 : (k == 9) = false := by simpa using h9
  have b10 : (k == 10) = false := by simpa using h10
  have b11 : (k == 11) = false := by simpa using h11
  clear e h1 h2 h3 h4 h5 h6 h7 h8 h9 h10 h11
  go_enter Tryz.func74, Tryz.ntmps74
  go_wp2_with fail
  go_ret3
  exact ⟨rfl, 0, rfl⟩
/-- May a row's number at a place be? -/
def okAt (j : Nat) (x : Int) : Bool := if j < 4 then mayI x else (decide (j = 6) || flowI x)
theorem each_all {r : SR} : r.each = true ↔ ∀ j, j < 11 → okAt j (r.get j) = true := by
  constructor
  · intro h
    simp only [SR.each, Bool.and_eq_true] at h
    obtain ⟨⟨⟨⟨a0, a1⟩, a2⟩, a3⟩, ⟨⟨⟨⟨b0, b1⟩, b2⟩, b3⟩, b4⟩, b5⟩ := h
    intro j hj
    match j, hj with
    | 0, _ => exact a0
    | 1, _ => exact a1
    | 2, _ => exact a2
    | 3, _ => exact a3
    | 4, _ => exact b0
    | 5, _ => exact b1
    | 6, _ => rfl
    | 7, _ => exact b2
    | 8, _ => exact b3
    | 9, _ => exact b4
    | 10, _ => exact b5
  · intro h
    simp only [SR.each, Bool.and_eq_true]
    exact ⟨⟨⟨⟨h 0 (by omega), h 1 (by omega)⟩, h 2 (by omega)⟩, h 3 (by omega)⟩, ⟨⟨⟨⟨h 4 (by omega), h 5 (by omega)⟩, h 7 (by omega)⟩, h 8 (by omega)⟩, h 9 (by omega)⟩, h 10 (by omega)⟩
set_option maxRecDepth 100000 in
theorem idxPtr (w : World) (b : Nat) {k : Nat} (h : k < 11) : (Instr.index 140 (.agg (ptrs b)) (.int .i64 k)).run Tryz.prog w = .ok (.pointer (some ⟨b, k, none⟩)) w := by
  match k, h with
  | 0, _ => exact (by kernel_rfl : (Instr.index 140 (.agg #[.pointer (some ⟨b, 0, none⟩), .pointer (some ⟨b, 1, none⟩), .pointer (some ⟨b, 2, none⟩), .pointer (some ⟨b, 3, none⟩), .pointer (some ⟨b, 4, none⟩), .pointer (some ⟨b, 5, none⟩), .pointer (some ⟨b, 6, none⟩), .pointer (some ⟨b, 7, none⟩), .pointer (some ⟨b, 8, none⟩), .pointer (some ⟨b, 9, none⟩), .pointer (some ⟨b, 10, none⟩)]) (.int .i64 0)).run Tryz.prog w = .ok (.pointer (some ⟨b, 0, none⟩)) w)
  | 1, _ => exact (by kernel_rfl : (Instr.index 140 (.agg #[.pointer (some ⟨b, 0, none⟩), .pointer (some ⟨b, 1, none⟩), .pointer (some ⟨b, 2, none⟩), .pointer (some ⟨b, 3, none⟩), .pointer (some ⟨b, 4, none⟩), .pointer (some ⟨b, 5, none⟩), .pointer (some ⟨b, 6, none⟩), .pointer (some ⟨b, 7, none⟩), .pointer (some ⟨b, 8, none⟩), .pointer (some ⟨b, 9, none⟩), .pointer (some ⟨b, 10, none⟩)]) (.int .i64 1)).run Tryz.prog w = .ok (.pointer (some ⟨b, 1, none⟩)) w)
  | 2, _ => exact (by kernel_rfl : (Instr.index 140 (.agg #[.pointer (some ⟨b, 0, none⟩), .pointer (some ⟨b, 1, none⟩), .pointer (some ⟨b, 2, none⟩), .pointer (some ⟨b, 3, none⟩), .pointer (some ⟨b, 4, none⟩), .pointer (some ⟨b, 5, none⟩), .pointer (some ⟨b, 6, none⟩), .pointer (some ⟨b, 7, none⟩), .pointer (some ⟨b, 8, none⟩), .pointer (some ⟨b, 9, none⟩), .pointer (some ⟨b, 10, none⟩)]) (.int .i64 2)).run Tryz.prog w = .ok (.pointer (some ⟨b, 2, none⟩)) w)
  | 3, _ => exact (by kernel_rfl : (Instr.index 140 (.agg #[.pointer (some ⟨b, 0, none⟩), .pointer (some ⟨b, 1, none⟩), .pointer (some ⟨b, 2, none⟩), .pointer (some ⟨b, 3, none⟩), .pointer (some ⟨b, 4, none⟩), .pointer (some ⟨b, 5, none⟩), .pointer (some ⟨b, 6, none⟩), .pointer (some ⟨b, 7, none⟩), .pointer (some ⟨b, 8, none⟩), .pointer (some ⟨b, 9, none⟩), .pointer (some ⟨b, 10, none⟩)]) (.int .i64 3)).run Tryz.prog w = .ok (.pointer (some ⟨b, 3, none⟩)) w)
  | 4, _ => exact (by kernel_rfl : (Instr.index 140 (.agg #[.pointer (some ⟨b, 0, none⟩), .pointer (some ⟨b, 1, none⟩), .pointer (some ⟨b, 2, none⟩), .pointer (some ⟨b, 3, none⟩), .pointer (some ⟨b, 4, none⟩), .pointer (some ⟨b, 5, none⟩), .pointer (some ⟨b, 6, none⟩), .pointer (some ⟨b, 7, none⟩), .pointer (some ⟨b, 8, none⟩), .pointer (some ⟨b, 9, none⟩), .pointer (some ⟨b, 10, none⟩)]) (.int .i64 4)).run Tryz.prog w = .ok (.pointer (some ⟨b, 4, none⟩)) w)
  | 5, _ => exact (by kernel_rfl : (Instr.index 140 (.agg #[.pointer (some ⟨b, 0, none⟩), .pointer (some ⟨b, 1, none⟩), .pointer (some ⟨b, 2, none⟩), .pointer (some ⟨b, 3, none⟩), .pointer (some ⟨b, 4, none⟩), .pointer (some ⟨b, 5, none⟩), .pointer (some ⟨b, 6, none⟩), .pointer (some ⟨b, 7, none⟩), .pointer (some ⟨b, 8, none⟩), .pointer (some ⟨b, 9, none⟩), .pointer (some ⟨b, 10, none⟩)]) (.int .i64 5)).run Tryz.prog w = .ok (.pointer (some ⟨b, 5, none⟩)) w)
  | 6, _ => exact (by kernel_rfl : (Instr.index 140 (.agg #[.pointer (some ⟨b, 0, none⟩), .pointer (some ⟨b, 1, none⟩), .pointer (some ⟨b, 2, none⟩), .pointer (some ⟨b, 3, none⟩), .pointer (some ⟨b, 4, none⟩), .pointer (some ⟨b, 5, none⟩), .pointer (some ⟨b, 6, none⟩), .pointer (some ⟨b, 7, none⟩), .pointer (some ⟨b, 8, none⟩), .pointer (some ⟨b, 9, none⟩), .pointer (some ⟨b, 10, none⟩)]) (.int .i64 6)).run Tryz.prog w = .ok (.pointer (some ⟨b, 6, none⟩)) w)
  | 7, _ => exact (by kernel_rfl : (Instr.index 140 (.agg #[.pointer (some ⟨b, 0, none⟩), .pointer (some ⟨b, 1, none⟩), .pointer (some ⟨b, 2, none⟩), .pointer (some ⟨b, 3, none⟩), .pointer (some ⟨b, 4, none⟩), .pointer (some ⟨b, 5, none⟩), .pointer (some ⟨b, 6, none⟩), .pointer (some ⟨b, 7, none⟩), .pointer (some ⟨b, 8, none⟩), .pointer (some ⟨b, 9, none⟩), .pointer (some ⟨b, 10, none⟩)]) (.int .i64 7)).run Tryz.prog w = .ok (.pointer (some ⟨b, 7, none⟩)) w)
  | 8, _ => exact (by kernel_rfl : (Instr.index 140 (.agg #[.pointer (some ⟨b, 0, none⟩), .pointer (some ⟨b, 1, none⟩), .pointer (some ⟨b, 2, none⟩), .pointer (some ⟨b, 3, none⟩), .pointer (some ⟨b, 4, none⟩), .pointer (some ⟨b, 5, none⟩), .pointer (some ⟨b, 6, none⟩), .pointer (some ⟨b, 7, none⟩), .pointer (some ⟨b, 8, none⟩), .pointer (some ⟨b, 9, none⟩), .pointer (some ⟨b, 10, none⟩)]) (.int .i64 8)).run Tryz.prog w = .ok (.pointer (some ⟨b, 8, none⟩)) w)
  | 9, _ => exact (by kernel_rfl : (Instr.index 140 (.agg #[.pointer (some ⟨b, 0, none⟩), .pointer (some ⟨b, 1, none⟩), .pointer (some ⟨b, 2, none⟩), .pointer (some ⟨b, 3, none⟩), .pointer (some ⟨b, 4, none⟩), .pointer (some ⟨b, 5, none⟩), .pointer (some ⟨b, 6, none⟩), .pointer (some ⟨b, 7, none⟩), .pointer (some ⟨b, 8, none⟩), .pointer (some ⟨b, 9, none⟩), .pointer (some ⟨b, 10, none⟩)]) (.int .i64 9)).run Tryz.prog w = .ok (.pointer (some ⟨b, 9, none⟩)) w)
  | 10, _ => exact (by kernel_rfl : (Instr.index 140 (.agg #[.pointer (some ⟨b, 0, none⟩), .pointer (some ⟨b, 1, none⟩), .pointer (some ⟨b, 2, none⟩), .pointer (some ⟨b, 3, none⟩), .pointer (some ⟨b, 4, none⟩), .pointer (some ⟨b, 5, none⟩), .pointer (some ⟨b, 6, none⟩), .pointer (some ⟨b, 7, none⟩), .pointer (some ⟨b, 8, none⟩), .pointer (some ⟨b, 9, none⟩), .pointer (some ⟨b, 10, none⟩)]) (.int .i64 10)).run Tryz.prog w = .ok (.pointer (some ⟨b, 10, none⟩)) w)
set_option maxRecDepth 100000 in
set_option maxHeartbeats 4000000 in
theorem sEach (w : World) (b : Nat) (r : SR) (h : RowAt w b r) : Calls Tryz.prog 107 #[.pointer (some ⟨b, 0, none⟩)] w fun e w' => e = .returned (.bool r.each) ∧ Fr (fun _ => False) w w' := by
  have HH := Lib.hid h
  obtain ⟨E, hE⟩ : ∃ E, r.each = E := ⟨_, rfl⟩
  rw [hE]
  have HE := Lib.hid hE
  clear h hE
  go_enter Tryz.func107, Tryz.ntmps107
  go_wp2_with fail
  refine (sNumbers _ _).mono ?_
  rintro e w1 ⟨rfl, hF⟩
  have HR := Lib.hid (hF.at_ HH.out (fun h => h))
  have HF := Lib.hid hF
  obtain ⟨P, hP⟩ : ∃ P, ptrs b = P := ⟨_, rfl⟩
  have HP := Lib.hid hP
  rw [hP]
  clear hF HH hP
  go_wp2_with fail
  go_loop [7, 3, 4] (fun i _ _ => ∃ k : Nat, k ≤ 11 ∧ i = .int .i64 k ∧ ∀ j, j < k → okAt j (r.get j) = true) (fun i _ _ => 11 - (intOf i).toNat)
  case atStart => exact ⟨0, Nat.zero_le _, rfl, fun j hj => by omega⟩
  case round =>
    obtain ⟨k, hk, rfl, hall⟩ := hrel
    have HA := Lib.hid hall
    clear hall
    by_cases hlt : k < 11
    · have hix := idxPtr w1 b hlt
      rw [HP.out] at hix
      have hc := cell_obj HR.out k _ (r.cs_get hlt)
      obtain ⟨x, hx⟩ : ∃ x, r.get k = x := ⟨_, rfl⟩
      rw [hx] at hc
      have HX := Lib.hid hx
      have hlI : (k : Int) < 11 := by omega
      clear hx
      have hno : Hid (okAt k x = false → E = false) := Lib.hid (fun he => by
        rw [← HE.out]
        refine Bool.eq_false_iff.2 (fun ht => ?_)
        have := each_all.1 ht k hlt
        rw [HX.out, he] at this
        cases this)
      have hyes : Hid (okAt k x = true → ∀ j, j < k + 1 → okAt j (r.get j) = true) := Lib.hid (fun he j hj => by
        by_cases e : j = k
        · rw [e, HX.out]; exact he
        · exact HA.out j (by omega))
      by_cases h4 : k < 4
      · have h4I : (k : Int) < 4 := by omega
        cases hm : mayI x with
        | true =>
          have hgo := Lib.hid (hyes.out (by unfold okAt; rw [if_pos h4]; exact hm))
          have hM := Lib.hid (kMay w1 x)
          rw [hm] at hM
          clear hm hno hyes
          go_wp2_with (go_at_call 68; refine hM.out.mono ?_; rintro e w2 ⟨rfl, rfl⟩)
          go_round
          case rel => exact ⟨k + 1, by omega, by go_num, hgo.out⟩
          case measure => simp [intOf]; omega
        | false =>
          have hgo := Lib.hid (hno.out (by unfold okAt; rw [if_pos h4]; exact hm))
          have hM := Lib.hid (kMay w1 x)
          rw [hm] at hM
          clear hm hno hyes
          go_wp2_with (go_at_call 68; refine hM.out.mono ?_; rintro e w2 ⟨rfl, rfl⟩)
          go_ret
          exact ⟨by rw [hgo.out]; rfl, HF.out⟩
      · have h4I : (4 : Int) ≤ k := by omega
        by_cases h6 : k = 6
        · have hgo := Lib.hid (hyes.out (by unfold okAt; rw [if_neg h4]; simp [h6]))
          have h6B : ((k : Int) != 6) = false := by simp; omega
          clear hno hyes h6
          go_wp2_with fail
          go_round
          case rel => exact ⟨k + 1, by omega, by go_num, hgo.out⟩
          case measure => simp [intOf]; omega
        · have h6B : ((k : Int) == 6) = false := by simp; omega
          rcases (by omega : x < 0 ∨ (0 ≤ x ∧ 72057594037927936 < x) ∨ (0 ≤ x ∧ x ≤ 72057594037927936)) with hx | ⟨hx, hx2⟩ | ⟨hx, hx2⟩
          · have hgo := Lib.hid (hno.out (by unfold okAt flowI; rw [if_neg h4]; simp; omega))
            clear hno hyes
            go_wp2_with fail
            go_ret
            exact ⟨by rw [hgo.out]; rfl, HF.out⟩
          · have hgo := Lib.hid (hno.out (by unfold okAt flowI; rw [if_neg h4]; simp; omega))
            clear hno hyes
            go_wp2_with fail
            go_ret
            exact ⟨by rw [hgo.out]; rfl, HF.out⟩
          · have hgo := Lib.hid (hyes.out (by unfold okAt flowI; rw [if_neg h4]; simp; omega))
            clear hno hyes
            go_wp2_with fail
            go_round
            case rel => exact ⟨k + 1, by omega, by go_num, hgo.out⟩
            case measure => simp [intOf]; omega
    · obtain rfl : k = 11 := by omega
      have hgo : Hid (E = true) := Lib.hid (by rw [← HE.out]; exact each_all.2 HA.out)
      go_wp2_with fail
      go_ret
      exact ⟨by rw [hgo.out]; rfl, HF.out⟩
end Go.Proofs.YtogphlnakdnchaaGreat

namespace Go.Proofs.YtogphlnakdnchaaGreat
open Go.RowKit
/-- A world in which all that was there in w lies as it did. -/
structure FrW (w : World) where
  val : World
  fr : Fr (fun _ => False) w val
instance frW_nonempty (w : World) : Nonempty (FrW w) := ⟨⟨w, Fr.refl _ w⟩⟩
theorem FrW.cell {w : World} {p : Addr} {v : Value} (hc : w.cell? p = some v) (X : FrW w) : X.val.cell? p = some v := X.fr.cell hc (fun h => h)
theorem FrW.at_ {w : World} {b : Nat} {o : Obj} (hc : w.heap[b]? = some o) (X : FrW w) : X.val.heap[b]? = some o := X.fr.at_ hc (fun h => h)
theorem wp_region_fr {P : Program} {id : Nat} {Q : Exit → Act → World → Prop} {a : Act} {w : World} {l : List Oper} (hm : P.follows .mixedOrders = true) (hB : Region.lexB .any l.toArray = true)
    (h : wpQuiet P l.toArray (fun w' => ∃ X : FrW w, w' = X.val) (fun a' => ∀ w', (∃ X : FrW w, w' = X.val) → Q .normal a' w') l a) : (Code.region id l.toArray true).wp P Q a w :=
  wp_region_quiet (C := fun w' => ∃ X : FrW w, w' = X.val) hm hB ⟨⟨_, (Fr.refl _ w).drew⟩, rfl⟩ (by simpa using h)
end Go.Proofs.YtogphlnakdnchaaGreat

