/- Texts of this claim, joined: Small helpers of my own for all walks of this seat; Maps of the call's own, as lists of keys and values, rising by key: my own view over the library's 'ownsMap'; Strings as keys of maps, and their order: plainly; stock: a good's numbers, what is done to them, and stocks as lists: plainly; The frame of a step: which old blocks it may have turned. My own relation for all contracts; A step of a thing that owns blocks: what it owns behind it is what it owned, or new; stock: the object; New, made, a row's numbers, each, right, Balanced, road, add; count.May; Ranges over functions: an iterator's contract over a list that is known, and the loop's law; stock: the keys in order, Goods, Fork; A region that draws its order, whose operations only read, and whose calls may lay blocks, but give what does not hang on the world: one walk in the text's order serves (the library's theorem on quiet regions, at the class of all worlds that hold what was there); stock: right, Balanced; stock: Level, Flow, Fork, Count; stock: Count. -/
import Derived.Test.YtclgmnobockfnaaRows
import Derived.WalkKit
import Derived.WalkLawsBesides
import Derived.WalkSpells
import Derived.Lib.Hide
import Derived.Deep.AppendLies
import Derived.Maps.OwnIn
import Derived.Maps.OwnSet
import Derived.Maps.Ext
import Derived.Sort.MapsRangeIn
import Derived.Sort.KeysCollected
import Derived.RangeFuncNested
import Derived.Sort.Walk0
import Derived.Deep.RegionWith
import Derived.Deep.QuietTactic
import Derived.BigQuiet
import Derived.StillTailTactics
import Derived.Deep.RegionHeld3
import Derived.RangeFuncCalls
import Derived.RangeFuncLeaves
import Derived.OwnWalkIn
import Derived.TacticsInMore
import Derived.LoopNIn
import Derived.LoopIn
import Derived.RegionIn
import Derived.Test.YtclgmnobockfnaaShelfC
import Derived.Shelf.Abstract
import Derived.Handy
namespace Go.Proofs.Ytclgmnobockfnaa
open Go.RowKit
theorem ret_int {k : IntKind} {a b : Int} (h : a = b) : Ending.returned (.int k a) = .returned (.int k b) := by rw [h]
theorem ret_bool {a b : Bool} (h : a = b) : Ending.returned (.bool a) = .returned (.bool b) := by rw [h]
theorem ret_val {a b : Value} (h : a = b) : Ending.returned a = .returned b := by rw [h]
theorem val_int {k : IntKind} {a b : Int} (h : a = b) : Value.int k a = .int k b := by rw [h]
theorem val_bool {a b : Bool} (h : a = b) : Value.bool a = .bool b := by rw [h]
theorem run_equalIn_func_nil {P : Program} (w : World) (d : Nat) (t : TypeId) (ps rs : Array TypeId) (b : Bool) (f : Fn) (x y : Array Value) (h : P.underlying t = some (.func ps rs b)) :
    (Op.equalIn (d + 1) t (.func f x y) .nilFunc).run P w = .ok false w := by
  simp [Op.equalIn, run_underlying h]
/-- 'f == nil', f a function that is there. -/
theorem run_eql_func_nil {P : Program} (w : World) (t : TypeId) (ps rs : Array TypeId) (b : Bool) (f : Fn) (x y : Array Value) (h : P.underlying t = some (.func ps rs b)) :
    (binOp .eql t (.func f x y) .nilFunc).run P w = .ok (.bool false) w := by
  simp only [binOp]
  simp [Op.equal, Op.maxDepth, run_equalIn_func_nil w 9999 t ps rs b f x y h]
theorem own_zero {w : World} {base : Nat} {e : TypeId} {size : Nat} {v : Value} {xs : List Value} (h : w.ownsRow base e size v 0 xs) : ∃ a c, v = .slice a 0 c := by
  rcases h.2 with ⟨rfl, _⟩ | ⟨g', cap, cur, rfl, _⟩
  · exact ⟨_, _, rfl⟩
  · exact ⟨_, _, rfl⟩
theorem cell_obj {w : World} {b : Nat} {cs : Array Value} {t : TypeId} (h : w.heap[b]? = some (.cells cs t)) (j : Nat) (v : Value) (hj : cs[j]? = some v) : w.cell? ⟨b, j, none⟩ = some v := by simp [World.cell?, h, hj]
theorem obj_set {w : World} {g : Nat} {cs : Array Value} {t : TypeId} (h : w.heap[g]? = some (.cells cs t)) (j : Nat) (v : Value) : (w.setCell ⟨g, j, none⟩ v).heap[g]? = some (.cells (cs.setIfInBounds j v) t) := by
  obtain ⟨hlt, hk⟩ := Array.getElem?_eq_some_iff.1 h
  show (w.heap.modify g _)[g]? = _
  rw [Array.getElem?_eq_getElem (by rw [Array.size_modify]; exact hlt), Array.getElem_modify_self, hk]
  rfl
theorem obj_frozen {w : World} {g : Nat} {cs : Array Value} {t : TypeId} (h : w.heap[g]? = some (.cells cs t)) (j : Nat) : w.frozen? ⟨g, j, none⟩ = false := by simp [World.frozen?, h]
theorem heap_new (w : World) (o : Obj) : (w.alloc o).heap[w.heap.size]? = some o := by show (w.heap.push o)[w.heap.size]? = _; simp
theorem heap_at {w : World} {b : Nat} (h : b = w.heap.size) (o : Obj) : (w.alloc o).heap[b]? = some o := h ▸ heap_new w o
theorem heap_keep {w : World} {b : Nat} {x : Obj} (h : w.heap[b]? = some x) (o : Obj) : (w.alloc o).heap[b]? = some x := by
  have hb := (Array.getElem?_eq_some_iff.1 h).1
  show (w.heap.push o)[b]? = _
  rw [Array.getElem?_push, if_neg (by omega)]; exact h
end Go.Proofs.Ytclgmnobockfnaa
namespace Go.Proofs.Ytclgmnobockfnaa
open Go.RowKit Go.Maps

/-- Keys of a kind: how they are encoded, how they are told, which they are. -/
structure KT (κ : Type) where
  enc : κ → Value
  lit : κ → Lit
  ok : κ → Prop
structure KO (P : Program) (k : TypeId) {κ : Type} [DecidableEq κ] (T : KT κ) : Prop where
  keyed : Keyed P k
  key : ∀ {x : κ}, T.ok x → keyOf P k (T.enc x) = some (T.lit x)
  back : ∀ {v : Value} {kl : Lit}, keyOf P k v = some kl → ∃ x : κ, T.ok x ∧ v = T.enc x ∧ kl = T.lit x
  same : ∀ x y : κ, (T.lit x).sameKey (T.lit y) = decide (x = y)

def okI (x : Int) : Prop := -9223372036854775808 ≤ x ∧ x ≤ 9223372036854775807
theorem wf_okI {x : Int} : (Lit.int .i64 x).wf = true ↔ okI x := by
  simp [Lit.wf, okI, IntKind.min, IntKind.max, IntKind.signed, IntKind.bits]
def ktI : KT Int where
  enc := .int .i64
  lit := .int .i64
  ok := okI
theorem koI {P : Program} {k : TypeId} (hk : P.underlying k = some (.int .i64)) : KO P k ktI where
  keyed := int_keyed hk
  key h := keyOf_int_mk hk (wf_okI.2 h)
  back {v kl} h := by
    cases v <;> simp [keyOf, hk, mapKey] at h
    obtain ⟨⟨rfl, h1⟩, rfl⟩ := h
    exact ⟨_, wf_okI.1 h1, rfl, rfl⟩
  same x y := by simp [ktI, Lit.sameKey]

def heldR (v : Value) : Option (DataW Value × List MemPlace) := some (.held v, [])
variable {κ ν : Type} [DecidableEq κ]
def insS (lt : κ → κ → Bool) (x : κ × ν) : List (κ × ν) → List (κ × ν)
  | [] => [x]
  | y :: r => if lt x.1 y.1 then x :: y :: r else y :: insS lt x r
def delS (l : List (κ × ν)) (x : κ) : List (κ × ν) := l.filter fun p => !decide (p.1 = x)
def putS (lt : κ → κ → Bool) (l : List (κ × ν)) (x : κ) (v : ν) : List (κ × ν) := insS lt (x, v) (delS l x)
def getS : List (κ × ν) → κ → Option ν
  | [], _ => none
  | p :: r, x => if p.1 = x then some p.2 else getS r x

variable {P : Program} {k : TypeId}
def KT.lt (T : KT κ) (x y : κ) : Bool := (T.lit x).before (T.lit y)
def KT.dat (T : KT κ) (enc : ν → Value) (l : List (κ × ν)) : DataW Value := .map (l.map fun p => (T.lit p.1, .held (enc p.2)))
/-- Block b is a map of keys of kind T, whose entries are l, rising by key. -/
def Mp (P : Program) (w : World) (k : TypeId) (T : KT κ) (enc : ν → Value) (b : Nat) (l : List (κ × ν)) : Prop := ∃ n, w.ownsMap P k heldR b n (T.dat enc l)
variable {T : KT κ}

omit [DecidableEq κ] in
theorem dat_ins (T : KT κ) (enc : ν → Value) (x : κ × ν) (l : List (κ × ν)) :
    DataW.insert (T.lit x.1, .held (enc x.2)) (l.map fun p => (T.lit p.1, .held (enc p.2))) = (insS T.lt x l).map fun p => (T.lit p.1, .held (enc p.2)) := by
  induction l with
  | nil => rfl
  | cons y r ih =>
    show (if (T.lit x.1).before (T.lit y.1) = true then _ else _) = List.map _ (if (T.lit x.1).before (T.lit y.1) = true then _ else _)
    cases (T.lit x.1).before (T.lit y.1)
    · simp only [Bool.false_eq_true, if_false, List.map_cons, ih]
    · simp
theorem dat_del (K : KO P k T) (enc : ν → Value) (x : κ) (l : List (κ × ν)) :
    (l.map fun p => (T.lit p.1, (.held (enc p.2) : DataW Value))).filter (fun p => !p.1.sameKey (T.lit x)) = (delS l x).map fun p => (T.lit p.1, .held (enc p.2)) := by
  unfold delS
  rw [List.filter_map]
  congr 1
  apply List.filter_congr
  intro p _
  simp [K.same]
theorem dat_put (K : KO P k T) (enc : ν → Value) (l : List (κ × ν)) (x : κ) (v : ν) : (T.dat enc l).put (T.lit x) (.held (enc v)) = T.dat enc (putS T.lt l x v) := by
  show DataW.map (DataW.insert _ _) = _
  rw [dat_del K, dat_ins T enc (x, v)]
  rfl
theorem dat_strike (K : KO P k T) (enc : ν → Value) (l : List (κ × ν)) (x : κ) : (T.dat enc l).del (T.lit x) = T.dat enc (delS l x) := by
  show DataW.map _ = _
  rw [dat_del K]
  rfl
theorem dat_at (K : KO P k T) (enc : ν → Value) (x : κ) (z : DataW Value) : ∀ l : List (κ × ν), (T.dat enc l).atKey (T.lit x) z = (match getS l x with | some v => .held (enc v) | none => z)
  | [] => rfl
  | p :: r => by
    have ih := dat_at K enc x z r
    simp only [KT.dat, DataW.atKey] at ih ⊢
    simp only [List.map_cons, List.find?_cons, K.same, getS]
    by_cases h : p.1 = x
    · simp [h]
    · simp only [h, decide_false, if_false]
      exact ih
theorem dat_has (K : KO P k T) (enc : ν → Value) (x : κ) : ∀ l : List (κ × ν), has (T.dat enc l) (T.lit x) = (getS l x).isSome
  | [] => rfl
  | p :: r => by
    have ih := dat_has K enc x r
    simp only [KT.dat, has] at ih ⊢
    simp only [List.map_cons, List.any_cons, K.same, getS]
    by_cases h : p.1 = x
    · simp [h]
    · simp only [h, decide_false, if_false, Bool.false_or]
      exact ih
omit [DecidableEq κ] in
theorem dat_size (T : KT κ) (enc : ν → Value) (l : List (κ × ν)) : Maps.size (T.dat enc l) = l.length := by simp [KT.dat, Maps.size]

variable {w w' : World} {enc : ν → Value} {b : Nat} {l : List (κ × ν)} {t e : TypeId}
omit [DecidableEq κ] in
theorem Mp.made (P : Program) (w : World) (k : TypeId) (T : KT κ) (enc : ν → Value) : Mp P (w.alloc (.map #[] 0)) k T enc w.heap.size ([] : List (κ × ν)) := ⟨0, World.ownsMap_made w P k heldR⟩
omit [DecidableEq κ] in
theorem Mp.lt (h : Mp P w k T enc b l) : b < w.heap.size := h.elim fun _ h => h.lt
omit [DecidableEq κ] in
theorem Mp.kept {row : Option Nat} (h : Mp P w k T enc b l) (hg : w.grownBy w' row) (hne : some b ≠ row) : Mp P w' k T enc b l := h.elim fun n h => ⟨n, h.kept hg hne⟩
omit [DecidableEq κ] in
theorem Mp.at_ (h : Mp P w k T enc b l) (hg : w'.heap[b]? = w.heap[b]?) : Mp P w' k T enc b l := by
  obtain ⟨n, es, clock, hb, r⟩ := h
  exact ⟨n, es, clock, hg.trans hb, r⟩
omit [DecidableEq κ] in
theorem Mp.below {B : Nat} (h : Mp P w k T enc b l) (hg : Below B w w') (hb : b < B) : Mp P w' k T enc b l := h.at_ (hg.block b hb)
omit [DecidableEq κ] in
theorem Mp.alloc (h : Mp P w k T enc b l) (o : Obj) : Mp P (w.alloc o) k T enc b l := h.elim fun n h => ⟨n, h.alloc o⟩
omit [DecidableEq κ] in
theorem Mp.drew (h : Mp P w k T enc b l) : Mp P w.drew k T enc b l := h
omit [DecidableEq κ] in
theorem Mp.drewN (h : Mp P w k T enc b l) (n : Nat) : Mp P (w.drewN n) k T enc b l := h
omit [DecidableEq κ] in
theorem Mp.setCell (h : Mp P w k T enc b l) {a : Addr} (ha : b ≠ a.block) (u : Value) : Mp P (w.setCell a u) k T enc b l := h.elim fun n h => ⟨n, h.setCell ha u⟩
/-- The keys are of their kind, and rise. -/
theorem Mp.ok (h : Mp P w k T enc b l) (K : KO P k T) : (∀ p ∈ l, T.ok p.1) ∧ l.Pairwise (fun p q => T.lt p.1 q.1 = true) := by
  obtain ⟨n, h⟩ := h
  constructor
  · obtain ⟨es, hD, hk⟩ := h.keysOf
    have e1 : l.map (fun p => (T.lit p.1, (.held (enc p.2) : DataW Value))) = es := by injection hD
    intro p hp
    have : (T.lit p.1, (.held (enc p.2) : DataW Value)) ∈ es := by rw [← e1]; exact List.mem_map.2 ⟨p, hp, rfl⟩
    obtain ⟨v, hv⟩ := hk _ this
    obtain ⟨x, hx, _, e2⟩ := K.back hv
    have := K.same p.1 x
    rw [← e2] at this
    have h3 : (T.lit p.1).sameKey (T.lit p.1) = true := by rw [K.same]; simp
    rw [h3] at this
    have : p.1 = x := by simpa using this.symm
    rw [this]; exact hx
  · obtain ⟨es, hD, hs, _⟩ := h.canon K.keyed
    have e1 : l.map (fun p => (T.lit p.1, (.held (enc p.2) : DataW Value))) = es := by injection hD
    rw [← e1, List.pairwise_map] at hs
    exact hs
theorem Mp.look (h : Mp P w k T enc b l) (K : KO P k T) (ht : P.underlying t = some (.map k e)) {z : Value} (hz : (zeroValue e).run P w = .ok z w) {x : κ} (hx : T.ok x) :
    (Instr.lookup t (.map (some b)) (T.enc x) false).run P w = .ok (match getS l x with | some v => enc v | none => z) w := by
  obtain ⟨n, h⟩ := h
  obtain ⟨v, ps, hrun, hv⟩ := h.lookup K.keyed ht hz (zd := .held z) (zp := []) rfl (K.key hx)
  rw [hrun]
  rw [dat_at K] at hv
  unfold heldR at hv
  cases hg : getS l x with
  | none => rw [hg] at hv; simp at hv; rw [hv.1]
  | some u => rw [hg] at hv; simp at hv; rw [hv.1]
theorem Mp.look_ok (h : Mp P w k T enc b l) (K : KO P k T) (ht : P.underlying t = some (.map k e)) {z : Value} (hz : (zeroValue e).run P w = .ok z w) {x : κ} (hx : T.ok x) :
    (Instr.lookup t (.map (some b)) (T.enc x) true).run P w = .ok (.tuple #[match getS l x with | some v => enc v | none => z, .bool (getS l x).isSome]) w := by
  obtain ⟨n, h⟩ := h
  obtain ⟨v, ps, hrun, hv⟩ := h.look_ok K.keyed ht hz (zd := .held z) (zp := []) rfl (K.key hx)
  rw [hrun, dat_has K]
  rw [dat_at K] at hv
  unfold heldR at hv
  cases hg : getS l x with
  | none => rw [hg] at hv; simp at hv; rw [hv.1]
  | some u => rw [hg] at hv; simp at hv; rw [hv.1]
omit [DecidableEq κ] in
theorem Mp.len (h : Mp P w k T enc b l) (ht : P.underlying t = some (.map k e)) (ty : TypeId) : (Builtin.len_ #[t] ty #[.map (some b)]).run P w = .ok (.int .i64 l.length) w := by
  obtain ⟨n, h⟩ := h
  rw [h.len ht ty, dat_size]
omit [DecidableEq κ] in
theorem Mp.owns (h : Mp P w k T enc b l) : w.ownsMap P k heldR b l.length (T.dat enc l) := by
  obtain ⟨n, es, clock, hb, F, hs, hD⟩ := h
  refine ⟨es, clock, hb, F, ?_, hD⟩
  have := congrArg Maps.size hD
  rw [dat_size] at this
  simp [Maps.size, length_sorted] at this
  omega
theorem Mp.store (h : Mp P w k T enc b l) (K : KO P k T) (ht : P.underlying t = some (.map k e)) (hl : l.length < 9223372036854775807) {x : κ} (hx : T.ok x) (v : ν) :
    ∃ w', (Instr.mapUpdate t (.map (some b)) (T.enc x) (enc v)).run P w = .ok () w' ∧ Mp P w' k T enc b (putS T.lt l x v) ∧ w.mapTurned w' b := by
  obtain ⟨w', h1, h2, h3⟩ := h.owns.store K.keyed ht (by unfold maxLen; omega) (K.key hx) (d := .held (enc v)) (ps := []) rfl
  exact ⟨w', h1, ⟨_, by rw [← dat_put K]; exact h2⟩, h3⟩
theorem Mp.drop (h : Mp P w k T enc b l) (K : KO P k T) (ht : P.underlying t = some (.map k e)) {x : κ} (hx : T.ok x) (ty : TypeId) :
    ∃ w', (Builtin.delete_ #[t, k] ty #[.map (some b), T.enc x]).run P w = .ok (.tuple #[]) w' ∧ Mp P w' k T enc b (delS l x) ∧ w.mapTurned w' b := by
  obtain ⟨n, h⟩ := h
  obtain ⟨w', h1, h2, h3⟩ := h.drop K.keyed ht (K.key hx) ty
  exact ⟨w', h1, ⟨_, by rw [← dat_strike K]; exact h2⟩, h3⟩
theorem map_ne_cells {w : World} {κ ν : Type} {P : Program} {k : TypeId} {T : KT κ} {enc : ν → Value} {b g : Nat} {l : List (κ × ν)} {cs : Array Value} {t : TypeId} (h : Mp P w k T enc b l) (hg : w.heap[g]? = some (.cells cs t)) : g ≠ b := by
  rintro rfl
  obtain ⟨_, es, clock, hb, _⟩ := h
  rw [hg] at hb; cases hb
end Go.Proofs.Ytclgmnobockfnaa
namespace Go.Proofs.Ytclgmnobockfnaa
open Go.RowKit Go.Maps
abbrev Str := List UInt8
abbrev vS (s : Str) : Value := .string ⟨s.toArray⟩
theorem bytesBefore_eq : ∀ (x y : Str), bytesBefore x y = decide (x < y)
  | [], [] => by simp [bytesBefore]
  | _ :: _, [] => by simp [bytesBefore]
  | [], _ :: _ => by simp [bytesBefore]
  | a :: x, b :: y => by
    rw [bytesBefore, bytesBefore_eq x y, ← bytesLess_eq, ← bytesLess_eq, Op.bytesLess]
def okS (s : Str) : Prop := s.length ≤ maxLen
def ktS : KT Str where
  enc := vS
  lit := .string
  ok := okS
theorem ktS_lt (a b : Str) : ktS.lt a b = decide (a < b) := bytesBefore_eq a b
theorem koS {P : Program} {k : TypeId} (hk : P.underlying k = some .string) : KO P k ktS where
  keyed := string_keyed hk
  key {x} h := by
    have h : x.length ≤ maxLen := h
    have hs : (ByteArray.mk x.toArray).size ≤ maxLen := by simpa [ByteArray.size] using h
    simp [keyOf, hk, mapKey, ktS, hs]
  back {v kl} h := by
    obtain ⟨x, h1, h2, h3⟩ := keyOf_str hk h
    exact ⟨x, h3, h1, h2⟩
  same x y := by rw [Bool.eq_iff_iff]; simp [ktS, Lit.sameKey]
theorem str_irr (a : Str) : ¬ a < a := List.lt_irrefl a
theorem str_trans {a b c : Str} (h : a < b) (h' : b < c) : a < c := List.lt_trans h h'
theorem str_tri (a b : Str) : a < b ∨ a = b ∨ b < a := by
  by_cases h : a < b
  · exact .inl h
  · by_cases h' : b < a
    · exact .inr (.inr h')
    · exact .inr (.inl (List.le_antisymm h' h))
theorem str_asym {a b : Str} (h : a < b) : ¬ b < a := fun h' => str_irr _ (str_trans h h')
theorem strKeys_dat {ν : Type} (enc : ν → Value) (l : List (Str × ν)) : strKeys (ktS.dat enc l) = l.map (·.1) := by
  simp [KT.dat, strKeys, ktS, strOf]
abbrev RiseS {ν : Type} (l : List (Str × ν)) : Prop := l.Pairwise (fun p q => p.1 < q.1)
theorem riseS_of {ν : Type} {l : List (Str × ν)} (h : l.Pairwise (fun p q => ktS.lt p.1 q.1 = true)) : RiseS l := h.imp (fun {p q} e => by rw [ktS_lt] at e; simpa using e)
theorem strs_sorted {ν : Type} {l : List (Str × ν)} (h : RiseS l) {ss : List Str} (hp : ss.Perm (l.map (·.1))) : ss.mergeSort (fun x y => decide (x ≤ y)) = l.map (·.1) := by
  have hlt : (l.map (·.1)).Pairwise (fun x y : Str => x < y) := by
    rw [List.pairwise_map]
    exact h
  have h1 : (ss.mergeSort (fun x y => decide (x ≤ y))).Pairwise (fun x y => decide (x ≤ y) = true) := List.pairwise_mergeSort (fun a b c h1 h2 => by simp only [decide_eq_true_eq] at *; exact List.le_trans h1 h2) (fun a b => by simp only [Bool.or_eq_true, decide_eq_true_eq]; exact List.le_total a b) ss
  have h2 : (ss.mergeSort (fun x y => decide (x ≤ y))).Perm (l.map (·.1)) := (List.mergeSort_perm ss _).trans hp
  refine h2.eq_of_pairwise (le := fun x y : Str => decide (x ≤ y) = true) (fun a b _ _ h1 h2 => by simp only [decide_eq_true_eq] at *; exact List.le_antisymm h1 h2) h1 (hlt.imp (fun {a b} e => by simp only [decide_eq_true_eq]; exact str_asym e))
/-- How the model's comparisons of strings read. -/
theorem lssS (t : TypeId) (a b : Str) : binOp .lss t (vS a) (vS b) = pure (.bool (decide (a < b))) := by
  rw [binOp_string_lss]; simp [bytesLess_eq]
theorem bytesLessS (a b : Str) : Op.bytesLess (ByteArray.mk a.toArray).toList (ByteArray.mk b.toArray).toList = decide (a < b) := by
  simp [bytesLess_eq]
theorem eqlS (a b : Str) : ((ByteArray.mk a.toArray).toList == (ByteArray.mk b.toArray).toList) = decide (a = b) := by
  rw [Bool.eq_iff_iff]; simp
section
variable {κ ν : Type} [DecidableEq κ]
omit [DecidableEq κ] in
theorem insK_perm (lt : κ → κ → Bool) (x : κ × ν) : ∀ l : List (κ × ν), (insS lt x l).Perm (x :: l)
  | [] => List.Perm.refl _
  | y :: r => by
    show (if lt x.1 y.1 = true then x :: y :: r else y :: insS lt x r).Perm _
    split
    · exact List.Perm.refl _
    · exact ((insK_perm lt x r).cons y).trans (List.Perm.swap x y r)
theorem mem_putK {lt : κ → κ → Bool} {l : List (κ × ν)} {x : κ} {v : ν} {p : κ × ν} : p ∈ putS lt l x v ↔ p = (x, v) ∨ (p ∈ l ∧ p.1 ≠ x) := by
  unfold putS
  rw [(insK_perm lt (x, v) _).mem_iff, List.mem_cons]
  simp [delS]
theorem putK_len (lt : κ → κ → Bool) (l : List (κ × ν)) (x : κ) (v : ν) : (putS lt l x v).length ≤ l.length + 1 := by
  unfold putS
  rw [(insK_perm lt (x, v) _).length_eq, List.length_cons]
  have := List.length_filter_le (fun p : κ × ν => !decide (p.1 = x)) l
  unfold delS
  omega
theorem getK_none {l : List (κ × ν)} {x : κ} : getS l x = none ↔ ∀ p ∈ l, p.1 ≠ x := by
  induction l with
  | nil => simp [getS]
  | cons p r ih =>
    simp only [getS]
    by_cases h : p.1 = x
    · rw [if_pos h]; simp [h]
    · rw [if_neg h, ih]; simp [h]
theorem getK_mem {l : List (κ × ν)} {x : κ} {v : ν} (h : getS l x = some v) : (x, v) ∈ l := by
  induction l with
  | nil => cases h
  | cons p r ih =>
    simp only [getS] at h
    by_cases e : p.1 = x
    · rw [if_pos e] at h
      cases h
      subst e
      simp
    · rw [if_neg e] at h
      exact List.mem_cons_of_mem _ (ih h)
theorem getK_of {l : List (κ × ν)} {x : κ} {v : ν} (hnd : (l.map (·.1)).Nodup) (h : (x, v) ∈ l) : getS l x = some v := by
  induction l with
  | nil => cases h
  | cons p r ih =>
    rw [List.map_cons, List.nodup_cons] at hnd
    simp only [getS]
    rcases List.mem_cons.1 h with rfl | h
    · rw [if_pos rfl]
    · have hne : ¬ p.1 = x := by
        intro e
        exact hnd.1 (by rw [e]; exact List.mem_map.2 ⟨_, h, rfl⟩)
      rw [if_neg hne]
      exact ih hnd.2 h
omit [DecidableEq κ] in
theorem nd_perm {l l' : List (κ × ν)} (h : l.Perm l') (hn : (l'.map (·.1)).Nodup) : (l.map (·.1)).Nodup := (h.map _).nodup_iff.2 hn
theorem putK_nd {lt : κ → κ → Bool} {l : List (κ × ν)} {x : κ} {v : ν} (hn : (l.map (·.1)).Nodup) : ((putS lt l x v).map (·.1)).Nodup := by
  unfold putS
  refine nd_perm (insK_perm lt (x, v) _) ?_
  rw [List.map_cons, List.nodup_cons]
  refine ⟨fun h => ?_, ?_⟩
  · obtain ⟨p, hp, e⟩ := List.mem_map.1 h
    have := (List.mem_filter.1 hp).2
    simp [e] at this
  · exact List.Nodup.sublist (List.Sublist.map _ List.filter_sublist) hn
theorem getK_put {lt : κ → κ → Bool} {l : List (κ × ν)} {x y : κ} {v : ν} (hn : (l.map (·.1)).Nodup) : getS (putS lt l x v) y = if x = y then some v else getS l y := by
  by_cases e : x = y
  · subst e
    rw [if_pos rfl]
    exact getK_of (putK_nd hn) (mem_putK.2 (.inl rfl))
  · rw [if_neg e]
    cases h : getS l y with
    | none =>
      refine getK_none.2 (fun p hp => ?_)
      rcases mem_putK.1 hp with rfl | ⟨hp, -⟩
      · exact e
      · exact getK_none.1 h p hp
    | some u => exact getK_of (putK_nd hn) (mem_putK.2 (.inr ⟨getK_mem h, fun h => e h.symm⟩))
end
theorem riseS_nd {ν : Type} {l : List (Str × ν)} (h : RiseS l) : (l.map (·.1)).Nodup := by
  rw [List.Nodup, List.pairwise_map]
  refine List.Pairwise.imp ?_ h
  intro p q e h
  have e : p.1 < q.1 := e
  rw [h] at e
  exact str_irr _ e
theorem riseS_ins {ν : Type} {x : Str × ν} : ∀ {l : List (Str × ν)}, RiseS l → (∀ p ∈ l, p.1 ≠ x.1) → RiseS (insS ktS.lt x l)
  | [], _, _ => by simp [insS]
  | y :: r, h, hx => by
    obtain ⟨h1, h2⟩ := List.pairwise_cons.1 h
    show RiseS (if ktS.lt x.1 y.1 = true then x :: y :: r else y :: insS ktS.lt x r)
    rw [ktS_lt]
    by_cases hlt : x.1 < y.1
    · rw [if_pos (by simpa using hlt)]
      refine List.pairwise_cons.2 ⟨fun p hp => ?_, h⟩
      rcases List.mem_cons.1 hp with rfl | hp
      · exact hlt
      · exact str_trans hlt (h1 p hp)
    · rw [if_neg (by simpa using hlt)]
      refine List.pairwise_cons.2 ⟨fun p hp => ?_, riseS_ins h2 (fun p hp => hx p (List.mem_cons_of_mem _ hp))⟩
      rcases List.mem_cons.1 ((insK_perm ktS.lt x r).mem_iff.1 hp) with rfl | hp
      · rcases str_tri y.1 p.1 with h | h | h
        · exact h
        · exact absurd h (hx y (by simp))
        · exact absurd h hlt
      · exact h1 p hp
theorem riseS_put {ν : Type} {l : List (Str × ν)} {x : Str} {v : ν} (h : RiseS l) : RiseS (putS ktS.lt l x v) :=
  riseS_ins (h.sublist List.filter_sublist) (fun p hp => by simpa [delS] using (List.mem_filter.1 hp).2)
end Go.Proofs.Ytclgmnobockfnaa
namespace Go.Proofs.Ytclgmnobockfnaa
open Go.RowKit Go.Maps
/-- A good's level and flow. -/
structure SR where
  free : Int
  held : Int
  picked : Int
  aside : Int
  received : Int
  returned : Int
  counted : Int
  came : Int
  shipped : Int
  scrapped : Int
  sent : Int
deriving DecidableEq
def SR.zero : SR := ⟨0, 0, 0, 0, 0, 0, 0, 0, 0, 0, 0⟩
def SR.cs (r : SR) : Array Value := #[.int .i64 r.free, .int .i64 r.held, .int .i64 r.picked, .int .i64 r.aside, .int .i64 r.received, .int .i64 r.returned, .int .i64 r.counted, .int .i64 r.came, .int .i64 r.shipped, .int .i64 r.scrapped, .int .i64 r.sent]
def SR.enc (r : SR) : Value := .agg r.cs
def SR.nums (r : SR) : List Int := [r.free, r.held, r.picked, r.aside, r.received, r.returned, r.counted, r.came, r.shipped, r.scrapped, r.sent]
/-- Is it a count? -/
def mayI (n : Int) : Bool := decide (0 ≤ n) && decide (n ≤ 1099511627776)
def flowI (n : Int) : Bool := decide (0 ≤ n) && decide (n ≤ 72057594037927936)
def SR.each (r : SR) : Bool := mayI r.free && mayI r.held && mayI r.picked && mayI r.aside && (flowI r.received && flowI r.returned && flowI r.came && flowI r.shipped && flowI r.scrapped && flowI r.sent)
def SR.sum (r : SR) : Int := r.free + r.held + r.picked + r.aside
def SR.right (r : SR) : Bool := r.each && mayI r.sum
def SR.flow (r : SR) : Int := r.received + r.returned + r.counted + r.came - r.shipped - r.scrapped - r.sent
def SR.bal (r : SR) : Bool := r.each && (decide (-576460752303423488 ≤ r.counted) && decide (r.counted ≤ 576460752303423488) && decide (r.sum = r.flow))
theorem mayI_iff {n : Int} : mayI n = true ↔ 0 ≤ n ∧ n ≤ 1099511627776 := by simp [mayI]
theorem flowI_iff {n : Int} : flowI n = true ↔ 0 ≤ n ∧ n ≤ 72057594037927936 := by simp [flowI]
/-- The numbers' bounds, written out. -/
structure SRb (r : SR) : Prop where
  a0 : 0 ≤ r.free ∧ r.free ≤ 1099511627776
  a1 : 0 ≤ r.held ∧ r.held ≤ 1099511627776
  a2 : 0 ≤ r.picked ∧ r.picked ≤ 1099511627776
  a3 : 0 ≤ r.aside ∧ r.aside ≤ 1099511627776
  b0 : 0 ≤ r.received ∧ r.received ≤ 72057594037927936
  b1 : 0 ≤ r.returned ∧ r.returned ≤ 72057594037927936
  b2 : 0 ≤ r.came ∧ r.came ≤ 72057594037927936
  b3 : 0 ≤ r.shipped ∧ r.shipped ≤ 72057594037927936
  b4 : 0 ≤ r.scrapped ∧ r.scrapped ≤ 72057594037927936
  b5 : 0 ≤ r.sent ∧ r.sent ≤ 72057594037927936
theorem SR.each_iff {r : SR} : r.each = true ↔ SRb r := by
  simp only [SR.each, Bool.and_eq_true, mayI_iff, flowI_iff]
  exact ⟨fun ⟨⟨⟨⟨a, b⟩, c⟩, d⟩, ⟨⟨⟨⟨e, f⟩, g⟩, h⟩, i⟩, j⟩ => ⟨a, b, c, d, e, f, g, h, i, j⟩, fun ⟨a, b, c, d, e, f, g, h, i, j⟩ => ⟨⟨⟨⟨a, b⟩, c⟩, d⟩, ⟨⟨⟨⟨e, f⟩, g⟩, h⟩, i⟩, j⟩⟩
/-- A good that may be in a stock. -/
structure SRok (r : SR) : Prop where
  b : SRb r
  sum : 0 ≤ r.sum ∧ r.sum ≤ 1099511627776
  bal : r.sum = r.flow
theorem SRok.counted {r : SR} (h : SRok r) : -576460752303423488 ≤ r.counted ∧ r.counted ≤ 576460752303423488 := by
  have h0 := h.bal
  unfold SR.sum SR.flow at h0
  obtain ⟨⟨a0, a1, a2, a3, b0, b1, b2, b3, b4, b5⟩, -, -⟩ := h
  omega
theorem SRok.right {r : SR} (h : SRok r) : r.right = true := by
  unfold SR.right
  rw [Bool.and_eq_true, SR.each_iff, mayI_iff]
  exact ⟨h.b, h.sum⟩
theorem SRok.balB {r : SR} (h : SRok r) : r.bal = true := by
  have h0 := h.counted
  unfold SR.bal
  rw [Bool.and_eq_true, SR.each_iff]
  refine ⟨h.b, ?_⟩
  simp [h0.1, h0.2, h.bal]
theorem SRok.of {r : SR} (h1 : r.right = true) (h2 : r.bal = true) : SRok r := by
  unfold SR.right at h1
  rw [Bool.and_eq_true, SR.each_iff, mayI_iff] at h1
  unfold SR.bal at h2
  simp only [Bool.and_eq_true, decide_eq_true_eq] at h2
  exact ⟨h1.1, h1.2, h2.2.2⟩
theorem SRok.ofR {r : SR} (h1 : r.right = true) (h2 : r.sum = r.flow) : SRok r := by
  unfold SR.right at h1
  rw [Bool.and_eq_true, SR.each_iff, mayI_iff] at h1
  exact ⟨h1.1, h1.2, h2⟩
theorem SRok.zero : SRok SR.zero := by
  refine ⟨⟨?_, ?_, ?_, ?_, ?_, ?_, ?_, ?_, ?_, ?_⟩, ?_, ?_⟩ <;> simp [SR.zero, SR.sum, SR.flow]
/-- A row's number, by its place. -/
def SR.get (r : SR) : Nat → Int
  | 0 => r.free
  | 1 => r.held
  | 2 => r.picked
  | 3 => r.aside
  | 4 => r.received
  | 5 => r.returned
  | 6 => r.counted
  | 7 => r.came
  | 8 => r.shipped
  | 9 => r.scrapped
  | _ => r.sent
def SR.set (r : SR) (i : Nat) (n : Int) : SR :=
  match i with
  | 0 => { r with free := n }
  | 1 => { r with held := n }
  | 2 => { r with picked := n }
  | 3 => { r with aside := n }
  | 4 => { r with received := n }
  | 5 => { r with returned := n }
  | 6 => { r with counted := n }
  | 7 => { r with came := n }
  | 8 => { r with shipped := n }
  | 9 => { r with scrapped := n }
  | _ => { r with sent := n }
def SR.add (r : SR) (o : Option Nat) (n : Int) : SR := match o with
  | none => r
  | some i => r.set i (r.get i + n)
theorem SR.cs_get (r : SR) {i : Nat} (h : i < 11) : r.cs[i]? = some (.int .i64 (r.get i)) := by
  match i, h with
  | 0, _ => rfl
  | 1, _ => rfl
  | 2, _ => rfl
  | 3, _ => rfl
  | 4, _ => rfl
  | 5, _ => rfl
  | 6, _ => rfl
  | 7, _ => rfl
  | 8, _ => rfl
  | 9, _ => rfl
  | 10, _ => rfl
theorem SR.cs_set (r : SR) {i : Nat} (h : i < 11) (n : Int) : r.cs.setIfInBounds i (.int .i64 n) = (r.set i n).cs := by
  match i, h with
  | 0, _ => rfl
  | 1, _ => rfl
  | 2, _ => rfl
  | 3, _ => rfl
  | 4, _ => rfl
  | 5, _ => rfl
  | 6, _ => rfl
  | 7, _ => rfl
  | 8, _ => rfl
  | 9, _ => rfl
  | 10, _ => rfl
theorem SR.nums_get (r : SR) {i : Nat} (h : i < 11) : r.nums[i]? = some (r.get i) := by
  match i, h with
  | 0, _ => rfl
  | 1, _ => rfl
  | 2, _ => rfl
  | 3, _ => rfl
  | 4, _ => rfl
  | 5, _ => rfl
  | 6, _ => rfl
  | 7, _ => rfl
  | 8, _ => rfl
  | 9, _ => rfl
  | 10, _ => rfl
/-- Where a kind takes from, where it goes, which flow it is. -/
def roadF (k : Int) : Option Nat × Option Nat × Option Nat :=
  if k = 1 then (none, some 0, some 4) else
  if k = 2 then (some 0, some 1, none) else
  if k = 3 then (some 1, some 0, none) else
  if k = 4 then (some 1, some 2, none) else
  if k = 5 then (some 2, some 1, none) else
  if k = 6 then (some 2, none, some 8) else
  if k = 7 then (none, some 3, some 5) else
  if k = 8 then (some 3, some 0, none) else
  if k = 9 then (some 3, none, some 9) else
  if k = 10 then (some 0, none, some 10) else
  if k = 11 then (none, some 0, some 7) else (none, none, none)
theorem roadF_lt (k : Int) : (∀ i, (roadF k).1 = some i → i < 4) ∧ (∀ i, (roadF k).2.1 = some i → i < 4) ∧ (∀ i, (roadF k).2.2 = some i → 4 ≤ i ∧ i ≠ 6 ∧ i < 11) := by
  obtain ⟨R, hR⟩ : ∃ R, roadF k = R := ⟨_, rfl⟩
  rw [hR]
  unfold roadF at hR
  by_cases h1 : k = 1
  · rw [if_pos h1] at hR; subst hR; simp
  rw [if_neg h1] at hR
  by_cases h2 : k = 2
  · rw [if_pos h2] at hR; subst hR; simp
  rw [if_neg h2] at hR
  by_cases h3 : k = 3
  · rw [if_pos h3] at hR; subst hR; simp
  rw [if_neg h3] at hR
  by_cases h4 : k = 4
  · rw [if_pos h4] at hR; subst hR; simp
  rw [if_neg h4] at hR
  by_cases h5 : k = 5
  · rw [if_pos h5] at hR; subst hR; simp
  rw [if_neg h5] at hR
  by_cases h6 : k = 6
  · rw [if_pos h6] at hR; subst hR; simp
  rw [if_neg h6] at hR
  by_cases h7 : k = 7
  · rw [if_pos h7] at hR; subst hR; simp
  rw [if_neg h7] at hR
  by_cases h8 : k = 8
  · rw [if_pos h8] at hR; subst hR; simp
  rw [if_neg h8] at hR
  by_cases h9 : k = 9
  · rw [if_pos h9] at hR; subst hR; simp
  rw [if_neg h9] at hR
  by_cases h10 : k = 10
  · rw [if_pos h10] at hR; subst hR; simp
  rw [if_neg h10] at hR
  by_cases h11 : k = 11
  · rw [if_pos h11] at hR; subst hR; simp
  rw [if_neg h11] at hR
  subst hR; simp
def SR.move (r : SR) (k n : Int) : SR := ((r.add (roadF k).1 (-n)).add (roadF k).2.1 n).add (roadF k).2.2 n
/-- What is done keeps a good in balance. -/
theorem SR.move_bal {r : SR} (h : r.sum = r.flow) (k n : Int) : (r.move k n).sum = (r.move k n).flow := by
  unfold SR.sum SR.flow at h ⊢
  obtain ⟨R, hR⟩ : ∃ R, roadF k = R := ⟨_, rfl⟩
  unfold SR.move
  rw [hR]
  unfold roadF at hR
  by_cases h1 : k = 1
  · rw [if_pos h1] at hR; subst hR; simp only [SR.add, SR.set, SR.get]; omega
  rw [if_neg h1] at hR
  by_cases h2 : k = 2
  · rw [if_pos h2] at hR; subst hR; simp only [SR.add, SR.set, SR.get]; omega
  rw [if_neg h2] at hR
  by_cases h3 : k = 3
  · rw [if_pos h3] at hR; subst hR; simp only [SR.add, SR.set, SR.get]; omega
  rw [if_neg h3] at hR
  by_cases h4 : k = 4
  · rw [if_pos h4] at hR; subst hR; simp only [SR.add, SR.set, SR.get]; omega
  rw [if_neg h4] at hR
  by_cases h5 : k = 5
  · rw [if_pos h5] at hR; subst hR; simp only [SR.add, SR.set, SR.get]; omega
  rw [if_neg h5] at hR
  by_cases h6 : k = 6
  · rw [if_pos h6] at hR; subst hR; simp only [SR.add, SR.set, SR.get]; omega
  rw [if_neg h6] at hR
  by_cases h7 : k = 7
  · rw [if_pos h7] at hR; subst hR; simp only [SR.add, SR.set, SR.get]; omega
  rw [if_neg h7] at hR
  by_cases h8 : k = 8
  · rw [if_pos h8] at hR; subst hR; simp only [SR.add, SR.set, SR.get]; omega
  rw [if_neg h8] at hR
  by_cases h9 : k = 9
  · rw [if_pos h9] at hR; subst hR; simp only [SR.add, SR.set, SR.get]; omega
  rw [if_neg h9] at hR
  by_cases h10 : k = 10
  · rw [if_pos h10] at hR; subst hR; simp only [SR.add, SR.set, SR.get]; omega
  rw [if_neg h10] at hR
  by_cases h11 : k = 11
  · rw [if_pos h11] at hR; subst hR; simp only [SR.add, SR.set, SR.get]; omega
  rw [if_neg h11] at hR
  subst hR
  exact h
abbrev Stk := List (Str × SR)
def rowAt (A : Stk) (g : Str) : SR := (getS A g).getD SR.zero
abbrev Its := List (Str × Int)
def goodC (c : UInt8) : Bool := (decide (97 ≤ c.toNat) && decide (c.toNat ≤ 122)) || (decide (48 ≤ c.toNat) && decide (c.toNat ≤ 57)) || decide (c.toNat = 45)
def goodB (s : Str) : Bool := s.all goodC && (decide (0 < s.length) && decide (s.length ≤ 16))
def itsOk : Str → Its → Bool
  | _, [] => true
  | last, p :: r => goodB p.1 && decide (1 ≤ p.2) && mayI p.2 && decide (last < p.1) && itsOk p.1 r
def mayL (l : Its) : Bool := itsOk [] l && decide (l.length ≤ 16)
def doMay (A : Stk) (k : Int) (l : Its) : Int := match (roadF k).1 with
  | none => 0
  | some i => if l.any (fun p => (getS A p.1).isNone) = true then 71 else if l.any (fun p => decide ((rowAt A p.1).get i < p.2)) = true then 51 else 0
def doFold (k : Int) : Stk → Its → Option Stk
  | A, [] => some A
  | A, p :: r => if ((rowAt A p.1).move k p.2).right = true then doFold k (putS ktS.lt A p.1 ((rowAt A p.1).move k p.2)) r else none
def doS (A : Stk) (k : Int) (l : Its) : Int × Stk :=
  if k < 1 ∨ 11 < k then (1, A) else if mayL l = false then (60, A) else if doMay A k l ≠ 0 then (doMay A k l, A) else
  match doFold k A l with
  | none => (50, A)
  | some B => if 64 < B.length then (2, A) else (0, B)
/-- How many more there are, what is wrong, and the stock behind it. -/
def countS (A : Stk) (g : Str) (n : Int) : Int × Int × Stk :=
  if mayI n = false then (0, 1, A) else match getS A g with
  | none => (0, 71, A)
  | some r => if n < r.held then (0, 70, A) else
    let r' := { r with free := r.free + (n - r.held - r.free), counted := r.counted + (n - r.held - r.free) }
    if r'.right = true then (n - r.held - r.free, 0, putS ktS.lt A g r') else (0, 50, A)
def offerS (A : Stk) (l : Its) : Its := l.filterMap fun p => if 0 < min p.2 (rowAt A p.1).free then some (p.1, min p.2 (rowAt A p.1).free) else none
/-- A stock that may be. -/
structure SOk (A : Stk) : Prop where
  rise : RiseS A
  good : ∀ p ∈ A, goodB p.1 = true
  row : ∀ p ∈ A, SRok p.2
  len : A.length ≤ 64
theorem getS_memS {ν : Type} {A : List (Str × ν)} {g : Str} {v : ν} (h : getS A g = some v) : (g, v) ∈ A := by
  induction A with
  | nil => cases h
  | cons p r ih =>
    simp only [getS] at h
    by_cases e : p.1 = g
    · rw [if_pos e] at h
      cases h
      subst e
      simp
    · rw [if_neg e] at h
      exact List.mem_cons_of_mem _ (ih h)
theorem SOk.at_ {A : Stk} (h : SOk A) (g : Str) : SRok (rowAt A g) := by
  show SRok ((getS A g).getD SR.zero)
  cases e : getS A g with
  | none => exact SRok.zero
  | some v => exact h.row _ (getS_memS e)
end Go.Proofs.Ytclgmnobockfnaa
namespace Go.Proofs.Ytclgmnobockfnaa
open Go.RowKit
/-- w' is w, but for the old blocks of S, and for new blocks. -/
structure Fr (S : Nat → Prop) (w w' : World) : Prop where
  os : w'.os = w.os
  tape : w'.tape = w.tape
  output : w'.output = w.output
  size : w.heap.size ≤ w'.heap.size
  same : ∀ b, b < w.heap.size → ¬ S b → w'.heap[b]? = w.heap[b]?
section
variable {S S' : Nat → Prop} {w w' w'' : World}
theorem Fr.refl (S : Nat → Prop) (w : World) : Fr S w w := ⟨rfl, rfl, rfl, Nat.le_refl _, fun _ _ _ => rfl⟩
theorem Fr.trans (h : Fr S w w') (h' : Fr S w' w'') : Fr S w w'' :=
  ⟨h'.os.trans h.os, h'.tape.trans h.tape, h'.output.trans h.output, Nat.le_trans h.size h'.size, fun b hb hs => (h'.same b (Nat.lt_of_lt_of_le hb h.size) hs).trans (h.same b hb hs)⟩
theorem Fr.mono (h : Fr S w w') (hS : ∀ b, b < w.heap.size → S b → S' b) : Fr S' w w' := ⟨h.os, h.tape, h.output, h.size, fun b hb hs => h.same b hb (fun e => hs (hS b hb e))⟩
/-- As 'trans', where the second step may turn new blocks too. -/
theorem Fr.trans' (h : Fr S w w') (h' : Fr S' w' w'') (hS : ∀ b, b < w.heap.size → S' b → S b) : Fr S w w'' :=
  ⟨h'.os.trans h.os, h'.tape.trans h.tape, h'.output.trans h.output, Nat.le_trans h.size h'.size, fun b hb hs => (h'.same b (Nat.lt_of_lt_of_le hb h.size) (fun e => hs (hS b hb e))).trans (h.same b hb hs)⟩
theorem Fr.drew (h : Fr S w w') : Fr S w w'.drew := ⟨h.os, h.tape, h.output, h.size, h.same⟩
theorem Fr.drewN (h : Fr S w w') (n : Nat) : Fr S w (w'.drewN n) := ⟨h.os, h.tape, h.output, h.size, h.same⟩
theorem Fr.grown {row : Option Nat} (h : w.grownBy w' row) (hr : ∀ r, row = some r → r < w.heap.size → S r) : Fr S w w' :=
  ⟨h.os, h.tape, h.output, h.size, fun b hb hs => h.block b hb (fun e => hs (hr b e.symm hb))⟩
theorem Fr.below (h : Below w.heap.size w w') : Fr S w w' := ⟨h.os, h.tape, h.output, h.size, fun b hb _ => h.block b hb⟩
theorem Fr.toBelow {B : Nat} (h : Fr S w w') (hS : ∀ b, S b → B ≤ b) (hB : B ≤ w.heap.size) : Below B w w' :=
  ⟨h.os, h.tape, h.output, h.size, fun b hb => h.same b (by omega) (fun e => by have := hS b e; omega)⟩
theorem Fr.alloc (h : Fr S w w') (o : Obj) : Fr S w (w'.alloc o) := h.trans (Fr.grown (row := none) (World.grownBy_alloc w' o none) (fun _ e => by cases e))
theorem Fr.setCell (h : Fr S w w') {p : Addr} (hp : p.block < w.heap.size → S p.block) (u : Value) : Fr S w (w'.setCell p u) :=
  ⟨h.os, h.tape, h.output, by simpa [World.setCell] using h.size, fun b hb hs => (Below.heap_setCell w' p u b (fun e => hs (by rw [e]; exact hp (by rw [← e]; exact hb)))).trans (h.same b hb hs)⟩
theorem Fr.putObj (h : Fr S w w') {l : Nat} (hl : l < w.heap.size → S l) (o : Obj) : Fr S w (w'.putObj l o) :=
  ⟨h.os, h.tape, h.output, by simpa using h.size, fun b hb hs => (World.putObj_heap_other (fun e => hs (by rw [e]; exact hl (by rw [← e]; exact hb)))).trans (h.same b hb hs)⟩
theorem Fr.turned {b : Nat} (h : w.mapTurned w' b) (hb : S b) : Fr S w w' := Fr.grown h.grown (fun r e _ => by cases e; exact hb)
theorem Fr.at_ {b : Nat} {o : Obj} (h : Fr S w w') (hb : w.heap[b]? = some o) (hs : ¬ S b) : w'.heap[b]? = some o := (h.same b (Array.getElem?_eq_some_iff.1 hb).1 hs).trans hb
theorem Fr.cell {p : Addr} {v : Value} (h : Fr S w w') (hc : w.cell? p = some v) (hs : ¬ S p.block) : w'.cell? p = some v :=
  (World.cell?_of_block (h.same p.block (World.block_lt_of_cell? w _ hc) hs)).trans hc
theorem Fr.box {b : Nat} {t : TypeId} {v : Value} (h : Fr S w w') (hb : Boxed w b t v) (hs : ¬ S b) : Boxed w' b t v := h.at_ hb hs
theorem Fr.mp {κ ν : Type} {k : TypeId} {T : KT κ} {enc : ν → Value} {b : Nat} {l : List (κ × ν)} {P : Program} (h : Fr S w w') (hm : Mp P w k T enc b l) (hs : ¬ S b) : Mp P w' k T enc b l :=
  hm.at_ (h.same b hm.lt hs)
theorem Fr.row {base : Nat} {e : TypeId} {size n : Nat} {v : Value} {xs : List Value} (h : Fr S w w') (ho : w.ownsRow base e size v n xs) (hs : ∀ b, v.ownBlock = some b → ¬ S b) : w'.ownsRow base e size v n xs := by
  refine ⟨ho.1, ?_⟩
  rcases ho.2 with h0 | ⟨g, cap, cur, rfl, hbase, hb, r⟩
  · exact .inl h0
  · exact .inr ⟨g, cap, cur, rfl, hbase, h.at_ hb (hs g rfl), r⟩
/-- A block that is none of the program's own data: a loop's record, an iterator over a map or a string .. -/
def auxObj : Obj → Bool
  | .cells .. | .map .. | .pending .. | .view .. | .number .. | .chan .. | .coro .. | .finalizers .. => false
  | _ => true
def AuxAt (B : Nat) (w : World) (b : Nat) : Prop := B ≤ b ∧ ∃ o, w.heap[b]? = some o ∧ auxObj o = true
/-- Behind it cells and maps are as they were, and what lay below B. -/
abbrev Fa (B : Nat) (w w' : World) : Prop := Fr (AuxAt B w) w w'
theorem Fa.cells {B b : Nat} {cs : Array Value} {t : TypeId} {fr : Nat × Nat} (h : Fa B w w') (hb : w.heap[b]? = some (.cells cs t fr)) : w'.heap[b]? = some (.cells cs t fr) :=
  h.at_ hb (fun ⟨_, o, ho, hx⟩ => by rw [hb] at ho; cases ho; cases hx)
theorem Fa.cell {B : Nat} {p : Addr} {v : Value} (h : Fa B w w') (hc : w.cell? p = some v) : w'.cell? p = some v := by
  refine Fr.cell h hc (fun ⟨_, o, ho, hx⟩ => ?_)
  unfold World.cell? at hc
  rw [ho] at hc
  cases o <;> simp at hc
  cases hx
theorem Fa.box {B b : Nat} {t : TypeId} {v : Value} (h : Fa B w w') (hb : Boxed w b t v) : Boxed w' b t v := Fa.cells h hb
theorem Fa.mp {κ ν : Type} {k : TypeId} {T : KT κ} {enc : ν → Value} {B b : Nat} {l : List (κ × ν)} {P : Program} (h : Fa B w w') (hm : Mp P w k T enc b l) : Mp P w' k T enc b l := by
  obtain ⟨n, es, clock, hb, r⟩ := hm
  exact ⟨n, es, clock, h.at_ hb (fun ⟨_, o, ho, hx⟩ => by rw [hb] at ho; cases ho; cases hx), r⟩
theorem Fa.row {base B : Nat} {e : TypeId} {size n : Nat} {v : Value} {xs : List Value} (h : Fa B w w') (ho : w.ownsRow base e size v n xs) : w'.ownsRow base e size v n xs := by
  refine ⟨ho.1, ?_⟩
  rcases ho.2 with h0 | ⟨g, cap, cur, rfl, hbase, hb, r⟩
  · exact .inl h0
  · exact .inr ⟨g, cap, cur, rfl, hbase, Fa.cells h hb, r⟩
theorem Fa.old {B : Nat} (h : Fa B w' w'') (h0 : Fr S w w') (hB : w.heap.size ≤ B) : Fr S w w'' := h0.trans' h (fun b hb hx => by have := hx.1; omega)
end
end Go.Proofs.Ytclgmnobockfnaa
namespace Go.Proofs.Ytclgmnobockfnaa
open Go.RowKit
def Stp (TS : Nat → Prop) (w w' : World) (TS' : Nat → Prop) : Prop := Fr TS w w' ∧ ∀ b, TS' b → TS b ∨ w.heap.size ≤ b
section
variable {w w' : World} {TS : Nat → Prop}
theorem Stp.refl (h : Fr (fun _ => False) w w') : Stp TS w w' TS := ⟨h.mono (fun _ _ e => e.elim), fun _ e => .inl e⟩
theorem Stp.low {TS TS' : Nat → Prop} {w w' : World} {n : Nat} (hs : Stp TS w w' TS') (hT : ∀ b, TS b → n ≤ b) (hn : n ≤ w.heap.size) : ∀ b, TS' b → n ≤ b := fun b hb => by
  rcases hs.2 b hb with h | h
  · exact hT b h
  · omega
theorem Stp.fr {TS TS' : Nat → Prop} {w0 w w' : World} {n : Nat} (hs : Stp TS w w' TS') (hf : Fr (fun b => n ≤ b) w0 w) (hT : ∀ b, TS b → n ≤ b) : Fr (fun b => n ≤ b) w0 w' := hf.trans' hs.1 (fun b _ e => hT b e)
theorem Stp.trans {TS TS' TS'' : Nat → Prop} {w w' w'' : World} (h : Stp TS w w' TS') (h' : Stp TS' w' w'' TS'') : Stp TS w w'' TS'' :=
  ⟨h.1.trans' h'.1 (fun b hb e => (h.2 b e).elim id (fun e => by omega)), fun b hb => by
    rcases h'.2 b hb with e | e
    · exact h.2 b e
    · exact .inr (Nat.le_trans h.1.size e)⟩
end
end Go.Proofs.Ytclgmnobockfnaa
namespace Go.Proofs.Ytclgmnobockfnaa
open Go.RowKit Go.Maps
theorem kS : KO Try.prog 9 ktS := koS Try.underlying9
theorem zeroSR (w : World) : (zeroValue 69).run Try.prog w = .ok SR.zero.enc w := by kernel_rfl
/-- Object g is a stock that says A, and owns the blocks of TS. -/
structure SA (w : World) (g : Nat) (TS : Nat → Prop) (A : Stk) : Prop where
  ex : ∃ m, w.heap[g]? = some (.cells #[.map (some m)] 64) ∧ Mp Try.prog w 9 ktS SR.enc m A ∧ TS m
  own : TS g
  lt : ∀ b, TS b → b < w.heap.size
theorem SA.fr {S TS : Nat → Prop} {w w' : World} {g : Nat} {A : Stk} (h : SA w g TS A) (hf : Fr S w w') (hS : ∀ b, TS b → ¬ S b) : SA w' g TS A := by
  obtain ⟨⟨m, h1, h2, h3⟩, h5, h6⟩ := h
  exact ⟨⟨m, hf.at_ h1 (hS _ h5), hf.mp h2 (hS _ h3), h3⟩, h5, fun b hb => Nat.lt_of_lt_of_le (h6 b hb) hf.size⟩
theorem sNew (w : World) : Calls Try.prog 10 #[] w fun e w' => e = .returned (.pointer (some ⟨w.heap.size + 1, 0, none⟩)) ∧ SA w' (w.heap.size + 1) (fun b => b = w.heap.size ∨ b = w.heap.size + 1) [] ∧ Fr (fun _ => False) w w' ∧ w'.heap.size = w.heap.size + 2 := by
  have hmm := @run_makeMap Try.prog
  go_enter Try.func10, Try.ntmps10
  go_wp2
  go_ret
  refine ⟨rfl, ⟨⟨_, heap_at (by simp) _, (Mp.made Try.prog w 9 ktS SR.enc).alloc _, .inl rfl⟩, .inr rfl, fun b hb => by simp; omega⟩, ((Fr.refl _ _).alloc _).alloc _, by simp⟩
theorem smade_no (w : World) : Calls Try.prog 31 #[.pointer none] w fun e w' => e = .returned (.bool false) ∧ w = w' := by
  go_enter Try.func31, Try.ntmps31
  go_wp2
  go_ret
  exact ⟨rfl, rfl⟩
theorem smade (w : World) (g m : Nat) (hc : w.cell? ⟨g, 0, none⟩ = some (.map (some m))) : Calls Try.prog 31 #[.pointer (some ⟨g, 0, none⟩)] w fun e w' => e = .returned (.bool true) ∧ w = w' := by
  have hn := fun (w : World) (r : Option Nat) => run_neq_map_nil (P := Try.prog) w 62 _ _ r Try.underlying62
  go_enter Try.func31, Try.ntmps31
  go_wp2
  go_ret
  exact ⟨rfl, rfl⟩
theorem kMay (w : World) (n : Int) : Calls Try.prog 56 #[.int .i64 n] w fun e w' => e = .returned (.bool (mayI n)) ∧ w = w' := by
  unfold mayI
  by_cases h1 : 0 ≤ n <;> by_cases h2 : n ≤ 1099511627776
  all_goals
    simp only [h1, h2, decide_true, decide_false, Bool.and_true, Bool.and_false]
    go_enter Try.func56, Try.ntmps56
    go_wp2
    go_ret
    exact ⟨rfl, rfl⟩
/-- Pointers to a row's numbers. -/
def ptrs (b : Nat) : Array Value := #[.pointer (some ⟨b, 0, none⟩), .pointer (some ⟨b, 1, none⟩), .pointer (some ⟨b, 2, none⟩), .pointer (some ⟨b, 3, none⟩), .pointer (some ⟨b, 4, none⟩), .pointer (some ⟨b, 5, none⟩), .pointer (some ⟨b, 6, none⟩), .pointer (some ⟨b, 7, none⟩), .pointer (some ⟨b, 8, none⟩), .pointer (some ⟨b, 9, none⟩), .pointer (some ⟨b, 10, none⟩)]
set_option maxRecDepth 100000 in
set_option maxHeartbeats 1000000 in
theorem sNumbers (w : World) (b : Nat) : Calls Try.prog 42 #[.pointer (some ⟨b, 0, none⟩)] w fun e w' => e = .returned (.agg (ptrs b)) ∧ Fr (fun _ => False) w w' := by
  go_enter Try.func42, Try.ntmps42
  go_wp2_with fail
  refine wp_region_still_tail 45 (by kernel_rfl) (by kernel_rfl) ?_
  simp only [List.take_succ_cons, List.take_zero, List.drop_succ_cons, List.drop_zero]
  change wpStill _ _ (w.drew.alloc (.cells _ _)) (fun a' => wpList _ _ _ _ a' (w.drew.alloc (.cells _ _))) _ _
  have HF := Lib.hid ((Fr.refl (fun _ => False) w).drew)
  rw [show w.heap.size = w.drew.heap.size from rfl]
  generalize w.drew = V at *
  repeat still_step
  refine wpStill_nil ?_
  go_wp2_with fail
  refine bodyPost_ret (v := .agg (ptrs b)) (by simp [results, Try.results42, go_sem, ptrs]) rfl ⟨rfl, ?_⟩
  exact HF.out.alloc _
/-- Row r lies in block b. -/
abbrev RowAt (w : World) (b : Nat) (r : SR) : Prop := w.heap[b]? = some (.cells r.cs 69)
def optP (b : Nat) : Option Nat → Value
  | none => .pointer none
  | some i => .pointer (some ⟨b, i, none⟩)
set_option maxRecDepth 100000 in
set_option maxHeartbeats 1000000 in
theorem sAdd (w : World) (b : Nat) (r : SR) (o : Option Nat) (n : Int) (h : RowAt w b r) (ho : ∀ i, o = some i → i < 11 ∧ okI (r.get i + n)) :
    Calls Try.prog 37 #[optP b o, .int .i64 n] w fun e w' => (∃ v, e = .returned v) ∧ RowAt w' b (r.add o n) ∧ Fr (fun x => x = b) w w' := by
  cases o with
  | none =>
    unfold optP
    go_enter Try.func37, Try.ntmps37
    go_wp2
    go_end0
    exact ⟨⟨_, rfl⟩, h, Fr.refl _ _⟩
  | some i =>
    obtain ⟨hi, h1⟩ := ho i rfl
    unfold okI at h1
    have c0 := cell_obj h i _ (r.cs_get hi)
    have f0 := obj_frozen h i
    have HH := Lib.hid h
    obtain ⟨x, hx⟩ : ∃ x, r.get i = x := ⟨_, rfl⟩
    rw [hx] at c0 h1
    have HX := Lib.hid hx
    clear h ho hx
    unfold optP
    go_enter Try.func37, Try.ntmps37
    go_wp2
    go_end0
    refine ⟨⟨_, rfl⟩, ?_, (Fr.refl (fun x => x = b) w).setCell (p := ⟨b, i, none⟩) (fun _ => rfl) _⟩
    have := obj_set HH.out i (.int .i64 (x + n))
    rw [r.cs_set hi] at this
    show (w.setCell ⟨b, i, none⟩ (.int .i64 (x + n))).heap[b]? = some (.cells (r.set i (r.get i + n)).cs 69)
    rw [HX.out]
    exact this
set_option maxRecDepth 100000 in
set_option maxHeartbeats 4000000 in
theorem sRoad (w : World) (b : Nat) (k : Int) : Calls Try.prog 36 #[.int .i64 k, .pointer (some ⟨b, 0, none⟩)] w fun e w' => e = .returned (.tuple #[optP b (roadF k).1, optP b (roadF k).2.1, optP b (roadF k).2.2]) ∧ ∃ n, w' = w.drewN n := by
  by_cases h1 : k = 1
  · subst h1
    go_enter Try.func36, Try.ntmps36
    go_wp2_with fail
    go_quiet (fail)
    go_wp2_with fail
    go_ret3
    exact ⟨rfl, _, rfl⟩
  by_cases h2 : k = 2
  · subst h2
    go_enter Try.func36, Try.ntmps36
    go_wp2_with fail
    go_quiet (fail)
    go_wp2_with fail
    go_ret3
    exact ⟨rfl, _, rfl⟩
  by_cases h3 : k = 3
  · subst h3
    go_enter Try.func36, Try.ntmps36
    go_wp2_with fail
    go_quiet (fail)
    go_wp2_with fail
    go_ret3
    exact ⟨rfl, _, rfl⟩
  by_cases h4 : k = 4
  · subst h4
    go_enter Try.func36, Try.ntmps36
    go_wp2_with fail
    go_quiet (fail)
    go_wp2_with fail
    go_ret3
    exact ⟨rfl, _, rfl⟩
  by_cases h5 : k = 5
  · subst h5
    go_enter Try.func36, Try.ntmps36
    go_wp2_with fail
    go_quiet (fail)
    go_wp2_with fail
    go_ret3
    exact ⟨rfl, _, rfl⟩
  by_cases h6 : k = 6
  · subst h6
    go_enter Try.func36, Try.ntmps36
    go_wp2_with fail
    go_quiet (fail)
    go_wp2_with fail
    go_ret3
    exact ⟨rfl, _, rfl⟩
  by_cases h7 : k = 7
  · subst h7
    go_enter Try.func36, Try.ntmps36
    go_wp2_with fail
    go_quiet (fail)
    go_wp2_with fail
    go_ret3
    exact ⟨rfl, _, rfl⟩
  by_cases h8 : k = 8
  · subst h8
    go_enter Try.func36, Try.ntmps36
    go_wp2_with fail
    go_quiet (fail)
    go_wp2_with fail
    go_ret3
    exact ⟨rfl, _, rfl⟩
  by_cases h9 : k = 9
  · subst h9
    go_enter Try.func36, Try.ntmps36
    go_wp2_with fail
    go_quiet (fail)
    go_wp2_with fail
    go_ret3
    exact ⟨rfl, _, rfl⟩
  by_cases h10 : k = 10
  · subst h10
    go_enter Try.func36, Try.ntmps36
    go_wp2_with fail
    go_quiet (fail)
    go_wp2_with fail
    go_ret3
    exact ⟨rfl, _, rfl⟩
  by_cases h11 : k = 11
  · subst h11
    go_enter Try.func36, Try.ntmps36
    go_wp2_with fail
    go_quiet (fail)
    go_wp2_with fail
    go_ret3
    exact ⟨rfl, _, rfl⟩
  have e : roadF k = (none, none, none) := by simp [roadF, h1, h2, h3, h4, h5, h6, h7, h8, h9, h10, h11]
  rw [e]
  have b1 : (k == 1) = false := by simpa using h1
  have b2 : (k == 2) = false := by simpa using h2
  have b3 : (k == 3) = false := by simpa using h3
  have b4 : (k == 4) = false := by simpa using h4
  have b5 : (k == 5) = false := by simpa using h5
  have b6 : (k == 6) = false := by simpa using h6
  have b7 : (k == 7) = false := by simpa using h7
  have b8 : (k == 8) = false := by simpa using h8
  have b9 : (k == 9) = false := by simpa using h9
  have b10 : (k == 10) = false := by simpa using h10
  have b11 : (k == 11) = false := by simpa using h11
  clear e h1 h2 h3 h4 h5 h6 h7 h8 h9 h10 h11
  go_enter Try.func36, Try.ntmps36
  go_wp2_with fail
  go_ret3
  exact ⟨rfl, 0, rfl⟩
/-- May a row's number at a place be? -/
def okAt (j : Nat) (x : Int) : Bool := if j < 4 then mayI x else (decide (j = 6) || flowI x)
theorem each_all {r : SR} : r.each = true ↔ ∀ j, j < 11 → okAt j (r.get j) = true := by
  constructor
  · intro h
    simp only [SR.each, Bool.and_eq_true] at h
    obtain ⟨⟨⟨⟨a0, a1⟩, a2⟩, a3⟩, ⟨⟨⟨⟨b0, b1⟩, b2⟩, b3⟩, b4⟩, b5⟩ := h
    intro j hj
    match j, hj with
    | 0, _ => exact a0
    | 1, _ => exact a1
    | 2, _ => exact a2
    | 3, _ => exact a3
    | 4, _ => exact b0
    | 5, _ => exact b1
    | 6, _ => rfl
    | 7, _ => exact b2
    | 8, _ => exact b3
    | 9, _ => exact b4
    | 10, _ => exact b5
  · intro h
    simp only [SR.each, Bool.and_eq_true]
    exact ⟨⟨⟨⟨h 0 (by omega), h 1 (by omega)⟩, h 2 (by omega)⟩, h 3 (by omega)⟩, ⟨⟨⟨⟨h 4 (by omega), h 5 (by omega)⟩, h 7 (by omega)⟩, h 8 (by omega)⟩, h 9 (by omega)⟩, h 10 (by omega)⟩
set_option maxRecDepth 100000 in
theorem idxPtr (w : World) (b : Nat) {k : Nat} (h : k < 11) : (Instr.index 82 (.agg (ptrs b)) (.int .i64 k)).run Try.prog w = .ok (.pointer (some ⟨b, k, none⟩)) w := by
  match k, h with
  | 0, _ => exact (by kernel_rfl : (Instr.index 82 (.agg #[.pointer (some ⟨b, 0, none⟩), .pointer (some ⟨b, 1, none⟩), .pointer (some ⟨b, 2, none⟩), .pointer (some ⟨b, 3, none⟩), .pointer (some ⟨b, 4, none⟩), .pointer (some ⟨b, 5, none⟩), .pointer (some ⟨b, 6, none⟩), .pointer (some ⟨b, 7, none⟩), .pointer (some ⟨b, 8, none⟩), .pointer (some ⟨b, 9, none⟩), .pointer (some ⟨b, 10, none⟩)]) (.int .i64 0)).run Try.prog w = .ok (.pointer (some ⟨b, 0, none⟩)) w)
  | 1, _ => exact (by kernel_rfl : (Instr.index 82 (.agg #[.pointer (some ⟨b, 0, none⟩), .pointer (some ⟨b, 1, none⟩), .pointer (some ⟨b, 2, none⟩), .pointer (some ⟨b, 3, none⟩), .pointer (some ⟨b, 4, none⟩), .pointer (some ⟨b, 5, none⟩), .pointer (some ⟨b, 6, none⟩), .pointer (some ⟨b, 7, none⟩), .pointer (some ⟨b, 8, none⟩), .pointer (some ⟨b, 9, none⟩), .pointer (some ⟨b, 10, none⟩)]) (.int .i64 1)).run Try.prog w = .ok (.pointer (some ⟨b, 1, none⟩)) w)
  | 2, _ => exact (by kernel_rfl : (Instr.index 82 (.agg #[.pointer (some ⟨b, 0, none⟩), .pointer (some ⟨b, 1, none⟩), .pointer (some ⟨b, 2, none⟩), .pointer (some ⟨b, 3, none⟩), .pointer (some ⟨b, 4, none⟩), .pointer (some ⟨b, 5, none⟩), .pointer (some ⟨b, 6, none⟩), .pointer (some ⟨b, 7, none⟩), .pointer (some ⟨b, 8, none⟩), .pointer (some ⟨b, 9, none⟩), .pointer (some ⟨b, 10, none⟩)]) (.int .i64 2)).run Try.prog w = .ok (.pointer (some ⟨b, 2, none⟩)) w)
  | 3, _ => exact (by kernel_rfl : (Instr.index 82 (.agg #[.pointer (some ⟨b, 0, none⟩), .pointer (some ⟨b, 1, none⟩), .pointer (some ⟨b, 2, none⟩), .pointer (some ⟨b, 3, none⟩), .pointer (some ⟨b, 4, none⟩), .pointer (some ⟨b, 5, none⟩), .pointer (some ⟨b, 6, none⟩), .pointer (some ⟨b, 7, none⟩), .pointer (some ⟨b, 8, none⟩), .pointer (some ⟨b, 9, none⟩), .pointer (some ⟨b, 10, none⟩)]) (.int .i64 3)).run Try.prog w = .ok (.pointer (some ⟨b, 3, none⟩)) w)
  | 4, _ => exact (by kernel_rfl : (Instr.index 82 (.agg #[.pointer (some ⟨b, 0, none⟩), .pointer (some ⟨b, 1, none⟩), .pointer (some ⟨b, 2, none⟩), .pointer (some ⟨b, 3, none⟩), .pointer (some ⟨b, 4, none⟩), .pointer (some ⟨b, 5, none⟩), .pointer (some ⟨b, 6, none⟩), .pointer (some ⟨b, 7, none⟩), .pointer (some ⟨b, 8, none⟩), .pointer (some ⟨b, 9, none⟩), .pointer (some ⟨b, 10, none⟩)]) (.int .i64 4)).run Try.prog w = .ok (.pointer (some ⟨b, 4, none⟩)) w)
  | 5, _ => exact (by kernel_rfl : (Instr.index 82 (.agg #[.pointer (some ⟨b, 0, none⟩), .pointer (some ⟨b, 1, none⟩), .pointer (some ⟨b, 2, none⟩), .pointer (some ⟨b, 3, none⟩), .pointer (some ⟨b, 4, none⟩), .pointer (some ⟨b, 5, none⟩), .pointer (some ⟨b, 6, none⟩), .pointer (some ⟨b, 7, none⟩), .pointer (some ⟨b, 8, none⟩), .pointer (some ⟨b, 9, none⟩), .pointer (some ⟨b, 10, none⟩)]) (.int .i64 5)).run Try.prog w = .ok (.pointer (some ⟨b, 5, none⟩)) w)
  | 6, _ => exact (by kernel_rfl : (Instr.index 82 (.agg #[.pointer (some ⟨b, 0, none⟩), .pointer (some ⟨b, 1, none⟩), .pointer (some ⟨b, 2, none⟩), .pointer (some ⟨b, 3, none⟩), .pointer (some ⟨b, 4, none⟩), .pointer (some ⟨b, 5, none⟩), .pointer (some ⟨b, 6, none⟩), .pointer (some ⟨b, 7, none⟩), .pointer (some ⟨b, 8, none⟩), .pointer (some ⟨b, 9, none⟩), .pointer (some ⟨b, 10, none⟩)]) (.int .i64 6)).run Try.prog w = .ok (.pointer (some ⟨b, 6, none⟩)) w)
  | 7, _ => exact (by kernel_rfl : (Instr.index 82 (.agg #[.pointer (some ⟨b, 0, none⟩), .pointer (some ⟨b, 1, none⟩), .pointer (some ⟨b, 2, none⟩), .pointer (some ⟨b, 3, none⟩), .pointer (some ⟨b, 4, none⟩), .pointer (some ⟨b, 5, none⟩), .pointer (some ⟨b, 6, none⟩), .pointer (some ⟨b, 7, none⟩), .pointer (some ⟨b, 8, none⟩), .pointer (some ⟨b, 9, none⟩), .pointer (some ⟨b, 10, none⟩)]) (.int .i64 7)).run Try.prog w = .ok (.pointer (some ⟨b, 7, none⟩)) w)
  | 8, _ => exact (by kernel_rfl : (Instr.index 82 (.agg #[.pointer (some ⟨b, 0, none⟩), .pointer (some ⟨b, 1, none⟩), .pointer (some ⟨b, 2, none⟩), .pointer (some ⟨b, 3, none⟩), .pointer (some ⟨b, 4, none⟩), .pointer (some ⟨b, 5, none⟩), .pointer (some ⟨b, 6, none⟩), .pointer (some ⟨b, 7, none⟩), .pointer (some ⟨b, 8, none⟩), .pointer (some ⟨b, 9, none⟩), .pointer (some ⟨b, 10, none⟩)]) (.int .i64 8)).run Try.prog w = .ok (.pointer (some ⟨b, 8, none⟩)) w)
  | 9, _ => exact (by kernel_rfl : (Instr.index 82 (.agg #[.pointer (some ⟨b, 0, none⟩), .pointer (some ⟨b, 1, none⟩), .pointer (some ⟨b, 2, none⟩), .pointer (some ⟨b, 3, none⟩), .pointer (some ⟨b, 4, none⟩), .pointer (some ⟨b, 5, none⟩), .pointer (some ⟨b, 6, none⟩), .pointer (some ⟨b, 7, none⟩), .pointer (some ⟨b, 8, none⟩), .pointer (some ⟨b, 9, none⟩), .pointer (some ⟨b, 10, none⟩)]) (.int .i64 9)).run Try.prog w = .ok (.pointer (some ⟨b, 9, none⟩)) w)
  | 10, _ => exact (by kernel_rfl : (Instr.index 82 (.agg #[.pointer (some ⟨b, 0, none⟩), .pointer (some ⟨b, 1, none⟩), .pointer (some ⟨b, 2, none⟩), .pointer (some ⟨b, 3, none⟩), .pointer (some ⟨b, 4, none⟩), .pointer (some ⟨b, 5, none⟩), .pointer (some ⟨b, 6, none⟩), .pointer (some ⟨b, 7, none⟩), .pointer (some ⟨b, 8, none⟩), .pointer (some ⟨b, 9, none⟩), .pointer (some ⟨b, 10, none⟩)]) (.int .i64 10)).run Try.prog w = .ok (.pointer (some ⟨b, 10, none⟩)) w)
set_option maxRecDepth 100000 in
set_option maxHeartbeats 4000000 in
theorem sEach (w : World) (b : Nat) (r : SR) (h : RowAt w b r) : Calls Try.prog 53 #[.pointer (some ⟨b, 0, none⟩)] w fun e w' => e = .returned (.bool r.each) ∧ Fr (fun _ => False) w w' := by
  have HH := Lib.hid h
  obtain ⟨E, hE⟩ : ∃ E, r.each = E := ⟨_, rfl⟩
  rw [hE]
  have HE := Lib.hid hE
  clear h hE
  go_enter Try.func53, Try.ntmps53
  go_wp2_with fail
  refine (sNumbers _ _).mono ?_
  rintro e w1 ⟨rfl, hF⟩
  have HR := Lib.hid (hF.at_ HH.out (fun h => h))
  have HF := Lib.hid hF
  obtain ⟨P, hP⟩ : ∃ P, ptrs b = P := ⟨_, rfl⟩
  have HP := Lib.hid hP
  rw [hP]
  clear hF HH hP
  go_wp2_with fail
  go_loop [7, 3, 4] (fun i _ _ => ∃ k : Nat, k ≤ 11 ∧ i = .int .i64 k ∧ ∀ j, j < k → okAt j (r.get j) = true) (fun i _ _ => 11 - (intOf i).toNat)
  case atStart => exact ⟨0, Nat.zero_le _, rfl, fun j hj => by omega⟩
  case round =>
    obtain ⟨k, hk, rfl, hall⟩ := hrel
    have HA := Lib.hid hall
    clear hall
    by_cases hlt : k < 11
    · have hix := idxPtr w1 b hlt
      rw [HP.out] at hix
      have hc := cell_obj HR.out k _ (r.cs_get hlt)
      obtain ⟨x, hx⟩ : ∃ x, r.get k = x := ⟨_, rfl⟩
      rw [hx] at hc
      have HX := Lib.hid hx
      have hlI : (k : Int) < 11 := by omega
      clear hx
      have hno : Hid (okAt k x = false → E = false) := Lib.hid (fun he => by
        rw [← HE.out]
        refine Bool.eq_false_iff.2 (fun ht => ?_)
        have := each_all.1 ht k hlt
        rw [HX.out, he] at this
        cases this)
      have hyes : Hid (okAt k x = true → ∀ j, j < k + 1 → okAt j (r.get j) = true) := Lib.hid (fun he j hj => by
        by_cases e : j = k
        · rw [e, HX.out]; exact he
        · exact HA.out j (by omega))
      by_cases h4 : k < 4
      · have h4I : (k : Int) < 4 := by omega
        cases hm : mayI x with
        | true =>
          have hgo := Lib.hid (hyes.out (by unfold okAt; rw [if_pos h4]; exact hm))
          have hM := Lib.hid (kMay w1 x)
          rw [hm] at hM
          clear hm hno hyes
          go_wp2_with (go_at_call 56; refine hM.out.mono ?_; rintro e w2 ⟨rfl, rfl⟩)
          go_round
          case rel => exact ⟨k + 1, by omega, by go_num, hgo.out⟩
          case measure => simp [intOf]; omega
        | false =>
          have hgo := Lib.hid (hno.out (by unfold okAt; rw [if_pos h4]; exact hm))
          have hM := Lib.hid (kMay w1 x)
          rw [hm] at hM
          clear hm hno hyes
          go_wp2_with (go_at_call 56; refine hM.out.mono ?_; rintro e w2 ⟨rfl, rfl⟩)
          go_ret
          exact ⟨by rw [hgo.out]; rfl, HF.out⟩
      · have h4I : (4 : Int) ≤ k := by omega
        by_cases h6 : k = 6
        · have hgo := Lib.hid (hyes.out (by unfold okAt; rw [if_neg h4]; simp [h6]))
          have h6B : ((k : Int) != 6) = false := by simp; omega
          clear hno hyes h6
          go_wp2_with fail
          go_round
          case rel => exact ⟨k + 1, by omega, by go_num, hgo.out⟩
          case measure => simp [intOf]; omega
        · have h6B : ((k : Int) == 6) = false := by simp; omega
          rcases (by omega : x < 0 ∨ (0 ≤ x ∧ 72057594037927936 < x) ∨ (0 ≤ x ∧ x ≤ 72057594037927936)) with hx | ⟨hx, hx2⟩ | ⟨hx, hx2⟩
          · have hgo := Lib.hid (hno.out (by unfold okAt flowI; rw [if_neg h4]; simp; omega))
            clear hno hyes
            go_wp2_with fail
            go_ret
            exact ⟨by rw [hgo.out]; rfl, HF.out⟩
          · have hgo := Lib.hid (hno.out (by unfold okAt flowI; rw [if_neg h4]; simp; omega))
            clear hno hyes
            go_wp2_with fail
            go_ret
            exact ⟨by rw [hgo.out]; rfl, HF.out⟩
          · have hgo := Lib.hid (hyes.out (by unfold okAt flowI; rw [if_neg h4]; simp; omega))
            clear hno hyes
            go_wp2_with fail
            go_round
            case rel => exact ⟨k + 1, by omega, by go_num, hgo.out⟩
            case measure => simp [intOf]; omega
    · obtain rfl : k = 11 := by omega
      have hgo : Hid (E = true) := Lib.hid (by rw [← HE.out]; exact each_all.2 HA.out)
      go_wp2_with fail
      go_ret
      exact ⟨by rw [hgo.out]; rfl, HF.out⟩
end Go.Proofs.Ytclgmnobockfnaa
namespace Go.Proofs.Ytclgmnobockfnaa
open Go.RowKit
variable {α : Type}
/-- What a caller keeps between two rounds abides whatever the iterator, and the loop's own record, do. -/
def Ab (B : Nat) (J : World → Prop) : Prop := ∀ W W', J W → Fa B W W' → J W'
/-- A round of loop l: the yield is taken up as a round, which ends in R. -/
abbrev Yd (l : Nat) (args : Array Value) (W : World) (R : Ending → World → Prop) : Prop := YieldAt Fence.wide 0 Try.prog l args W R
/-- The blocks that rounds have made: C, and what has been made from W to W'. -/
def CC (C : Nat → Prop) (W W' : World) (b : Nat) : Prop := C b ∨ (W.heap.size ≤ b ∧ b < W'.heap.size)
/-- THE ITERATOR gf (with what it has captured, lb) GIVES X, one by one, or a part of it if a round says no more; between rounds it reads no block that the rounds may turn (S: the old blocks that they may turn; C: those that rounds have made). -/
def ItX (gf : Nat) (lb : Array Value) (encs : α → Array Value) (X : List α) (S : Nat → Prop) (w : World) : Prop :=
  ∀ (l : Nat) (S' : Nat → Prop) (J Jx : Nat → (Nat → Prop) → World → Prop) (W : World), Below w.heap.size w W → (∀ b, S' b → b < W.heap.size ∧ (b < w.heap.size → S b)) → (∀ k C, Ab W.heap.size (J k C)) →
    (∀ k x C W1, X[k]? = some x → J k C W1 → Yd l (encs x) W1 fun e W' =>
      (e = .returned (.bool true) ∧ J (k + 1) (CC C W1 W') W' ∧ Fr (fun b => S' b ∨ C b) W1 W') ∨ (e = .returned (.bool false) ∧ Jx (k + 1) (CC C W1 W') W' ∧ Fr (fun b => S' b ∨ C b) W1 W')) →
    (∀ k C, Ab W.heap.size (Jx k C)) →
    J 0 (fun _ => False) W →
    Calls Try.prog gf (#[.func (.yield l) #[] #[]] ++ lb) W fun e W' => (∃ v, e = .returned v) ∧ ((∃ C, J X.length C W') ∨ ∃ k C, k ≤ X.length ∧ Jx k C W')
theorem ItX.mono {gf : Nat} {lb : Array Value} {encs : α → Array Value} {X : List α} {S S0 : Nat → Prop} {w : World} (h : ItX gf lb encs X S w) (hS : ∀ b, S0 b → S b) : ItX gf lb encs X S0 w :=
  fun l S' J Jx W hW hS' => h l S' J Jx W hW (fun b hb => ⟨(hS' b hb).1, fun hl => hS b ((hS' b hb).2 hl)⟩)
/-- How a round's body ends: C0: what the rounds had made when this one began, in W0. -/
def bodyEnd (S C0 : Nat → Prop) (W0 : World) (I : Nat → (Nat → Prop) → World → Prop) (Ix : Code → Nat → (Nat → Prop) → World → Prop) (k : Nat) (W : World) : Exit → Act → World → Prop
  | .normal, _, W' => Fr (fun b => S b ∨ CC C0 W0 W b) W W' ∧ I k (CC C0 W0 W') W'
  | .ret, _, W' => Fr (fun b => S b ∨ CC C0 W0 W b) W W' ∧ Ix .ret k (CC C0 W0 W') W'
  | .exit id, _, W' => Fr (fun b => S b ∨ CC C0 W0 W b) W W' ∧ Ix (.exit id) k (CC C0 W0 W') W'
  | .goto t, _, W' => Fr (fun b => S b ∨ CC C0 W0 W b) W W' ∧ Ix (.goto t) k (CC C0 W0 W') W'
  | .panic _, _, _ => False
  | .outgrown, _, _ => False
/-- Behind the assignment to the loop's variables: what the body owes. -/
def Took (w : World) (S C : Nat → Prop) (I : Nat → (Nat → Prop) → World → Prop) (Ix : Code → Nat → (Nat → Prop) → World → Prop) (k l : Nat) (W : World) (body : Code) (a' : Act) (W' : World) : Prop :=
  Fr (fun b => S b ∨ C b) W W' ∧ I k C W' ∧ ∀ Wb, I k C Wb → Fr S w Wb → Fa w.heap.size W' Wb → W.heap.size ≤ Wb.heap.size → w.heap.size ≤ W.heap.size → (∀ b, C b → w.heap.size ≤ b) → (∃ r, Wb.heap[l]? = some (.loop r)) →
    body.wpIn (Fence.wide.inRound l) 0 Try.prog (bodyEnd S C W I Ix (k + 1) Wb) a' Wb
theorem Took.mk {w : World} {S C : Nat → Prop} {I : Nat → (Nat → Prop) → World → Prop} {Ix : Code → Nat → (Nat → Prop) → World → Prop} {k l : Nat} {W : World} {body : Code} {a' : Act} {W' : World}
    (h1 : Fr (fun b => S b ∨ C b) W W') (h2 : I k C W') (h3 : ∀ Wb, I k C Wb → Fr S w Wb → Fa w.heap.size W' Wb → W.heap.size ≤ Wb.heap.size → w.heap.size ≤ W.heap.size → (∀ b, C b → w.heap.size ≤ b) → (∃ r, Wb.heap[l]? = some (.loop r)) →
    body.wpIn (Fence.wide.inRound l) 0 Try.prog (bodyEnd S C W I Ix (k + 1) Wb) a' Wb) : Took w S C I Ix k l W body a' W' := ⟨h1, h2, h3⟩
theorem frAlloc {B : Nat} {w : World} (o : Obj) : Fa B w (w.alloc o) := (Fr.refl _ _).alloc o
theorem frPut {B : Nat} {w : World} {l : Nat} {o : Obj} (o' : Obj) (hB : B ≤ l) (hl : w.heap[l]? = some o) (ho : auxObj o = true) : Fa B w (w.putObj l o') := (Fr.refl _ _).putObj (fun _ => ⟨hB, o, hl, ho⟩) o'
theorem Ab.fr {S : Nat → Prop} {w : World} {B : Nat} (hB : w.heap.size ≤ B) : Ab B (fun W => Fr S w W) := fun _ _ h hf => Fa.old hf h hB
theorem Ab.and {B : Nat} {J J' : World → Prop} (h : Ab B J) (h' : Ab B J') : Ab B (fun W => J W ∧ J' W) := fun W W' hs hf => ⟨h W W' hs.1 hf, h' W W' hs.2 hf⟩
theorem Fa.up {B B' : Nat} {W W' : World} (h : Fa B' W W') (hB : B ≤ B') : Fa B W W' := Fr.mono h fun _ _ ⟨a, b⟩ => ⟨Nat.le_trans hB a, b⟩
/-- **A range over an iterator that gives X**, at the outermost level of a function: the loop's variables may be boxed (W': behind the assignment; Wb: where the body begins). C: the blocks that the rounds have made. -/
theorem rangeX {g : Operand} {ps : Array Tmp} {assign body : Code} {Q : Exit → Act → World → Prop} {a : Act} {w w0 : World} {n : Nat}
    {gf : Nat} {lb : Array Value} (hg : a.eval g = .func (.func gf) #[] lb) (eg : ∀ args w, (callFunc gf args).run Try.prog w = .ok (.enter gf args) w)
    {encs : α → Array Value} {X : List α} {S : Nat → Prop} (hseq : ItX gf lb encs X S w0) (hb0 : Below w0.heap.size w0 w) (hS : ∀ b, S b → b < w.heap.size) (hps : ∀ x, (encs x).size = ps.size)
    (I : Nat → (Nat → Prop) → World → Prop) (Ix : Code → Nat → (Nat → Prop) → World → Prop) (hI : ∀ k C, Ab w.heap.size (I k C)) (hIx : ∀ c k C, Ab w.heap.size (Ix c k C)) (h0 : I 0 (fun _ => False) w)
    (hround : ∀ (l k : Nat) (x : α) (C : Nat → Prop) (W : World), X[k]? = some x → w.heap.size ≤ l → I k C W → Fr S w W →
      assign.wpIn (Fence.wide.inRound l) 0 Try.prog (Exit.then (Took w S C I Ix k l W body) (fun _ _ _ => False)) { tmps := (ps.zip (encs x)).foldl (fun t (p, v) => t.setIfInBounds p v) a.tmps, defers := [] } W)
    (hdone : ∀ (D : Nat) (C : Nat → Prop) (W : World), w.heap.size ≤ D → I X.length C W → Fr S w W → W.heap[D]? = some (.deferred (some [])) → Q .normal { a with defers := { target := .collected D, args := #[] } :: a.defers } W)
    (hstop : ∀ (D : Nat) (c : Code) (k : Nat) (C : Nat → Prop) (W : World), w.heap.size ≤ D → k ≤ X.length → Ix c k C W → Fr S w W → W.heap[D]? = some (.deferred (some [])) →
      c.wpIn Fence.wide n Try.prog Q { a with defers := { target := .collected D, args := #[] } :: a.defers } W) :
    (Code.rangeFunc g ps assign body).wpIn Fence.wide n Try.prog Q a w := by
  refine wpIn_rangeFunc ?_
  intro fn hfn
  obtain ⟨rec, hrec⟩ : ∃ rec : LoopState → Option Code → Loop, rec = fun st pe => { state := st, pending := pe, fn, tmps := a.tmps, params := ps, assign, body, defers := w.heap.size } := ⟨_, rfl⟩
  obtain ⟨W1, hW1⟩ : ∃ W1, (w.alloc (.deferred (some []))).alloc (.loop (rec .ready none)) = W1 := ⟨_, rfl⟩
  have hs1 : W1.heap.size = w.heap.size + 2 := by rw [← hW1]; simp
  have hL1 : W1.heap[w.heap.size + 1]? = some (.loop (rec .ready none)) := by
    rw [← hW1]; have := World.alloc_heap_new (w.alloc (.deferred (some []))) (.loop (rec .ready none)); rwa [World.size_alloc] at this
  have hD1 : W1.heap[w.heap.size]? = some (.deferred (some [])) := by
    rw [← hW1]; exact (Below.heap_alloc _ _ _ (by simp)).trans (World.alloc_heap_new w _)
  have hf1 : Fa w.heap.size w W1 := by rw [← hW1]; exact ((Fr.refl _ _).alloc _).alloc _
  have hr1 : Fr S w W1 := by rw [← hW1]; exact ((Fr.refl _ _).alloc _).alloc _
  have hb1 : Below w0.heap.size w0 W1 := by
    rw [← hW1]; exact hb0.trans ((((Below.refl _ w).alloc (Nat.le_refl _) _).alloc (by simp) _).mono hb0.size)
  refine ⟨w.heap.size + 1, [{ target := .collected w.heap.size, args := #[] }], W1, { target := .fn (.func gf) lb, args := #[.func (.yield (w.heap.size + 1)) #[] #[]] }, W1, gf,
    #[.func (.yield (w.heap.size + 1)) #[] #[]] ++ lb, W1, ?_, ?_, fun _ _ => trivial, ?_, (fun h => by cases h), ?_⟩
  · rw [← hW1, hrec]; exact run_enterLoop_outer _ _ _ _ _
  · simp only [resolve, hg]
    simp [go_sem]
  · simp [invoke, go_sem, eg]
  have hB : w.heap.size ≤ W1.heap.size := by omega
  have hDL : ∀ {st pe A B}, A.heap[w.heap.size + 1]? = some (.loop (rec st pe)) → A.heap[w.heap.size]? = some (.deferred (some [])) → Fa W1.heap.size A B →
      B.heap[w.heap.size + 1]? = some (.loop (rec st pe)) ∧ B.heap[w.heap.size]? = some (.deferred (some [])) := fun hl hd hf =>
    ⟨hf.at_ hl (fun hx => by have := hx.1; omega), hf.at_ hd (fun hx => by have := hx.1; omega)⟩
  refine callsIn_wide.2 ((hseq (w.heap.size + 1) (fun b => S b ∨ b = w.heap.size + 1)
    (fun k C W => I k C W ∧ Fr S w W ∧ (∀ b, C b → w.heap.size + 2 ≤ b) ∧ W.heap[w.heap.size + 1]? = some (.loop (rec .ready none)) ∧ W.heap[w.heap.size]? = some (.deferred (some [])))
    (fun k C W => ∃ c, Ix c k C W ∧ Fr S w W ∧ W.heap[w.heap.size + 1]? = some (.loop (rec .done (some c))) ∧ W.heap[w.heap.size]? = some (.deferred (some [])))
    W1 hb1 ?_ ?_ ?_ ?_ ⟨hI 0 _ _ _ h0 hf1, hr1, fun _ h => h.elim, hL1, hD1⟩).mono ?_)
  · rintro b (h | rfl)
    · have := hS b h
      exact ⟨by omega, fun _ => h⟩
    · exact ⟨by omega, fun h => by have := hb0.size; omega⟩
  · rintro k C A B ⟨hi, hr, hC, hl, hd⟩ hf
    obtain ⟨hl', hd'⟩ := hDL hl hd hf
    exact ⟨hI k C _ _ hi (Fa.up hf hB), Fa.old hf hr hB, hC, hl', hd'⟩
  · -- a round
    rintro k x C W hx ⟨hi, hr, hC, hl, hd⟩
    have hy := run_yield (P := Try.prog) (args := encs x) hl (by rw [hrec]; exact hps x)
    rw [hrec] at hy
    have hltW : w.heap.size + 1 < W.heap.size := (Array.getElem?_eq_some_iff.1 hl).1
    have nS : ∀ (A B : World), W.heap.size ≤ A.heap.size → ¬ (S (w.heap.size + 1) ∨ CC C A B (w.heap.size + 1)) ∧ ¬ (S w.heap.size ∨ CC C A B w.heap.size) := fun A B hA => by
      constructor
      · rintro (e | e | e)
        · have := hS _ e; omega
        · have := hC _ e; omega
        · omega
      · rintro (e | e | e)
        · have := hS _ e; omega
        · have := hC _ e; omega
        · omega
    refine ⟨fn, _, assign, body, hy, roundIn_of_wpIn hfn (wpIn_mono (hround _ k x C W hx (by omega) hi hr) ?_)⟩
    rintro e0 a' Wa h0
    cases e0 with
    | normal => ?_
    | _ => exact h0
    obtain ⟨hra, hia, hbody⟩ := h0
    have hla := hra.at_ hl (fun e => e.elim (fun e => by have := hS _ e; omega) (fun e => by have := hC _ e; omega))
    have hda := hra.at_ hd (fun e => e.elim (fun e => by have := hS _ e; omega) (fun e => by have := hC _ e; omega))
    refine ⟨_, run_beginRound hla (by rw [hrec]), ?_⟩
    obtain ⟨Wb, hWb⟩ : ∃ Wb, Wa.putObj (w.heap.size + 1) (.loop { rec .ready none with state := .busy }) = Wb := ⟨_, rfl⟩
    rw [hWb]
    have hlt : w.heap.size + 1 < Wa.heap.size := (Array.getElem?_eq_some_iff.1 hla).1
    have hszb : Wb.heap.size = Wa.heap.size := by rw [← hWb]; simp
    have hlb : Wb.heap[w.heap.size + 1]? = some (.loop { rec .ready none with state := .busy }) := by rw [← hWb]; exact World.putObj_heap_same hlt
    have hdb : Wb.heap[w.heap.size]? = some (.deferred (some [])) := by rw [← hWb]; exact (World.putObj_heap_other (by omega)).trans hda
    have hfb : Fa w.heap.size Wa Wb := by rw [← hWb]; exact frPut _ (by omega) hla rfl
    have hra' : Fr S w Wa := hr.trans' hra (fun b hb e => e.elim id (fun e => by have := hC _ e; omega))
    have hrb : Fr S w Wb := Fa.old hfb hra' (Nat.le_refl _)
    have hrW : Fr (fun b => (S b ∨ b = w.heap.size + 1) ∨ C b) W Wb := by
      rw [← hWb]; exact (hra.mono (fun b _ h => h.elim (fun h => .inl (.inl h)) .inr)).putObj (fun _ => .inl (.inr rfl)) _
    have hszW : W.heap.size ≤ Wb.heap.size := by rw [hszb]; exact hra.size
    refine wpIn_mono (hbody Wb (hI k C _ _ hia hfb) hrb hfb hszW hr.size (fun b e => by have := hC b e; omega) ⟨_, hlb⟩) ?_
    have fin : ∀ (jump : Option Code) (W3 : World), Fr (fun b => S b ∨ CC C W Wb b) Wb W3 →
        (Instr.endRound (w.heap.size + 1) jump).run Try.prog W3 = .ok (.bool jump.isNone) (W3.putObj (w.heap.size + 1) (.loop (rec (if jump.isNone then .ready else .done) jump))) ∧
        Fa w.heap.size W3 (W3.putObj (w.heap.size + 1) (.loop (rec (if jump.isNone then .ready else .done) jump))) ∧
        Fr S w (W3.putObj (w.heap.size + 1) (.loop (rec (if jump.isNone then .ready else .done) jump))) ∧
        Fr (fun b => (S b ∨ b = w.heap.size + 1) ∨ C b) W (W3.putObj (w.heap.size + 1) (.loop (rec (if jump.isNone then .ready else .done) jump))) ∧
        (∀ b, CC C W W3 b → w.heap.size + 2 ≤ b) ∧ CC C W (W3.putObj (w.heap.size + 1) (.loop (rec (if jump.isNone then .ready else .done) jump))) = CC C W W3 ∧
        (W3.putObj (w.heap.size + 1) (.loop (rec (if jump.isNone then .ready else .done) jump))).heap[w.heap.size + 1]? = some (.loop (rec (if jump.isNone then .ready else .done) jump)) ∧
        (W3.putObj (w.heap.size + 1) (.loop (rec (if jump.isNone then .ready else .done) jump))).heap[w.heap.size]? = some (.deferred (some [])) := fun jump W3 h3 => by
      have hn := nS W Wb (Nat.le_refl _)
      have hl3 := h3.at_ hlb hn.1
      have hd3 := h3.at_ hdb hn.2
      have he := run_endRound (P := Try.prog) jump hl3
      rw [hrec] at he ⊢
      refine ⟨he, frPut _ (by omega) hl3 rfl, ?_, ?_, ?_, ?_, World.putObj_heap_same (Array.getElem?_eq_some_iff.1 hl3).1, (World.putObj_heap_other (by omega)).trans hd3⟩
      · refine (hrb.trans' h3 ?_).putObj (fun h => by omega) _
        rintro b hb (e | e | e)
        · exact e
        · have := hC _ e; omega
        · omega
      · refine (hrW.trans' h3 ?_).putObj (fun _ => .inl (.inr rfl)) _
        rintro b hb (e | e | e)
        · exact .inl (.inl e)
        · exact .inr e
        · omega
      · rintro b (e | e)
        · exact hC _ e
        · omega
      · funext b; simp [CC]
    rintro e a3 W3 hp
    cases e with
    | normal =>
      obtain ⟨h3, hi3⟩ := hp
      obtain ⟨e1, e2, e3, e4, e7, e8, e5, e6⟩ := fin none W3 h3
      exact ⟨_, _, e1, .inl ⟨rfl, ⟨by rw [e8]; exact hI _ _ _ _ hi3 e2, e3, by rw [e8]; exact e7, e5, e6⟩, e4⟩⟩
    | ret =>
      obtain ⟨h3, hi3⟩ := hp
      obtain ⟨e1, e2, e3, e4, e7, e8, e5, e6⟩ := fin (some .ret) W3 h3
      exact ⟨_, _, e1, .inr ⟨rfl, ⟨.ret, by rw [e8]; exact hIx _ _ _ _ _ hi3 e2, e3, e5, e6⟩, e4⟩⟩
    | exit id =>
      obtain ⟨h3, hi3⟩ := hp
      obtain ⟨e1, e2, e3, e4, e7, e8, e5, e6⟩ := fin (some (.exit id)) W3 h3
      exact ⟨_, _, e1, .inr ⟨rfl, ⟨.exit id, by rw [e8]; exact hIx _ _ _ _ _ hi3 e2, e3, e5, e6⟩, e4⟩⟩
    | goto t =>
      obtain ⟨h3, hi3⟩ := hp
      obtain ⟨e1, e2, e3, e4, e7, e8, e5, e6⟩ := fin (some (.goto t)) W3 h3
      exact ⟨_, _, e1, .inr ⟨rfl, ⟨.goto t, by rw [e8]; exact hIx _ _ _ _ _ hi3 e2, e3, e5, e6⟩, e4⟩⟩
    | panic ch => exact hp.elim
    | outgrown => exact hp.elim
  · rintro k C A B ⟨c, hi, hr, hl, hd⟩ hf
    obtain ⟨hl', hd'⟩ := hDL hl hd hf
    exact ⟨c, hIx c k C _ _ hi (Fa.up hf hB), Fa.old hf hr hB, hl', hd'⟩
  · -- behind the iterator
    rintro e W2 ⟨⟨v, rfl⟩, (⟨C, hi, hr, _, hl, hd⟩ | ⟨k, C, hk, c, hi, hr, hl, hd⟩)⟩
    · have he := run_endLoop (P := Try.prog) hl (by rw [hrec]; simp)
      rw [hrec] at he
      exact ⟨none, _, he, hdone _ C _ (Nat.le_refl _) (hI _ _ _ _ hi (frPut _ (by omega) hl rfl)) (hr.putObj (fun h => by omega) _) ((World.putObj_heap_other (by omega)).trans hd)⟩
    · have he := run_endLoop (P := Try.prog) hl (by rw [hrec]; simp)
      rw [hrec] at he
      exact ⟨some c, _, he, hstop _ c k C _ (Nat.le_refl _) hk (hIx c k C _ _ hi (frPut _ (by omega) hl rfl)) (hr.putObj (fun h => by omega) _) ((World.putObj_heap_other (by omega)).trans hd)⟩
def ZI (_ : Nat) (_ : Nat → Prop) (_ : World) : Prop := True
def ZX (_ : Code) (_ : Nat) (_ : Nat → Prop) (_ : World) : Prop := False
theorem boxed_below {B : Nat} {w w' : World} {b : Nat} {t : TypeId} {v : Value} (h : Boxed w b t v) (hb : Below B w w') (h1 : b < B) : Boxed w' b t v := (hb.block b h1).trans h
def encP (p : Int × Int) : Array Value := #[.int .i64 p.1, .int .i64 p.2]
theorem row_slice {w : World} {base : Nat} {e : TypeId} {size n : Nat} {v : Value} {xs : List Value} (h : w.ownsRow base e size v n xs) : ∃ a c, v = .slice a n c := by
  rcases h.2 with ⟨e1, e2⟩ | ⟨_, _, _, e1, _⟩
  · exact ⟨_, _, by rw [e1, e2]⟩
  · exact ⟨_, _, e1⟩
theorem row_addr {w : World} {base : Nat} {e : TypeId} {size n c : Nat} {a : Option Addr} {xs : List Value} (h : w.ownsRow base e size (.slice a n c) n xs) (hn : 0 < n) : ∃ g, a = some ⟨g, 0, none⟩ ∧ base ≤ g ∧ g < w.heap.size := by
  obtain ⟨g, c', e1, h1, h2⟩ := h.form hn
  injection e1 with e1
  exact ⟨g, e1, h1, h2⟩
end Go.Proofs.Ytclgmnobockfnaa
namespace Go.Proofs.Ytclgmnobockfnaa
open Go.RowKit Go.Maps Go.Sort Go.Shelf Go.Proofs
theorem sortsS (m : Nat) : AnyZ.SortsIn Try.prog Try.laysSortedS_ren Fence.wide m :=
  ⟨fun blk off cap ss W hH hblk hsz => callsIn_wide.2 (AnyM.slices_Sort_string Try.laysSortS blk off cap ss W hH hblk hsz),
   fun p cap W => callsIn_wide.2 (AnyM.slices_Sort_string_none Try.laysSortS p cap W)⟩
/-- A map's keys as an iterator, and its sorted row: both contracts, at a map of strings. -/
theorem keysSorted {ν : Type} (w : World) (b : Nat) (enc : ν → Value) (l : List (Str × ν)) (h : Mp Try.prog w 9 ktS enc b l) (hl : (l.length : Int) ≤ 1099511627776) :
    CallsIn Fence.wide 5 Try.prog 66 #[.map (some b)] w (fun e w' => e = .returned (.func (.func 80) #[] #[.pointer (some ⟨w.heap.size, 0, none⟩)]) ∧ w' = w.alloc (.cells #[.map (some b)] 62)) ∧
    CallsIn Fence.wide 5 Try.prog 65 #[.func (.func 80) #[] #[.pointer (some ⟨w.heap.size, 0, none⟩)]] (w.alloc (.cells #[.map (some b)] 62)) (fun e w' => ∃ v, e = .returned v ∧ w'.ownsRow w.heap.size 9 1 v l.length (l.map fun p => vS p.1) ∧ Below w.heap.size w w') := by
  obtain ⟨nn, hown⟩ := id h
  have hord := riseS_of (h.ok (koS Try.underlying9)).2
  have hsz : Maps.size (ktS.dat enc l) = l.length := dat_size ktS enc l
  have hk : strKeys (ktS.dat enc l) = l.map (·.1) := strKeys_dat enc l
  have hsort : ∀ ss : List Str, ss.Perm (l.map (·.1)) → ss.mergeSort (fun x y => decide (x ≤ y)) = l.map (·.1) := fun ss hp => strs_sorted hord hp
  have hbl := hown.lt
  have hseq : SeqGives Fence.wide 2 Try.prog 80 #[.pointer (some ⟨w.heap.size, 0, none⟩)] encStr (fun ss => ss.Perm (strKeys (ktS.dat enc l))) (Maps.size (ktS.dat enc l)) (w.alloc (.cells #[.map (some b)] 62)) :=
    AnyZ.keys_gives (ρ := Try.laysKeysS_ren) { Try.laysKeysS with } Fence.wide _ trivial rfl (by omega) w.heap.size b nn _ _ (by simp) (by simp) (by
      obtain ⟨es, clock, hb, Ft, hs, hD⟩ := hown
      exact ⟨es, clock, (Below.heap_alloc _ _ b hbl).trans hb, Ft, hs, hD⟩)
  refine ⟨AnyZ.keys_in Try.laysKeysS Fence.wide 5 trivial rfl (some b) w, ?_⟩
  have cS := AnyZ.sorted_in Try.laysSortedS Fence.wide 5 trivial trivial trivial trivial rfl (by omega) (sortsS _) (enters_of Try.func79 (by kernel_rfl) rfl) 80 #[.pointer (some ⟨w.heap.size, 0, none⟩)] trivial (enters_of Try.func80 (by kernel_rfl) rfl) _ _ (by rw [hsz]; unfold maxLen; omega) (by rw [hsz]; omega) _ hseq
  change CallsIn _ _ Try.prog 65 _ _ _ at cS
  refine cS.mono ?_
  rintro e w' ⟨v, ss, rfl, hS, hrow, hnil, hb⟩
  rw [hk] at hS
  rw [hsort ss hS] at hrow
  have hlen : ss.length = l.length := by rw [hS.length_eq]; simp
  rw [hlen, List.map_map] at hrow
  exact ⟨v, rfl, ownsRow_base_a hrow (by simp), ((Below.refl _ w).alloc (Nat.le_refl _) _).trans (hb.mono (by simp))⟩
end Go.Proofs.Ytclgmnobockfnaa
namespace Go.Proofs.Ytclgmnobockfnaa
open Go.RowKit
/-- A world in which all that was there in w lies as it did. -/
structure FrW (w : World) where
  val : World
  fr : Fr (fun _ => False) w val
instance frW_nonempty (w : World) : Nonempty (FrW w) := ⟨⟨w, Fr.refl _ w⟩⟩
theorem FrW.cell {w : World} {p : Addr} {v : Value} (hc : w.cell? p = some v) (X : FrW w) : X.val.cell? p = some v := X.fr.cell hc (fun h => h)
theorem FrW.at_ {w : World} {b : Nat} {o : Obj} (hc : w.heap[b]? = some o) (X : FrW w) : X.val.heap[b]? = some o := X.fr.at_ hc (fun h => h)
theorem wp_region_fr {P : Program} {id : Nat} {Q : Exit → Act → World → Prop} {a : Act} {w : World} {l : List Oper} (hm : P.follows .mixedOrders = true) (hB : Region.lexB .any l.toArray = true)
    (h : wpQuiet P l.toArray (fun w' => ∃ X : FrW w, w' = X.val) (fun a' => ∀ w', (∃ X : FrW w, w' = X.val) → Q .normal a' w') l a) : (Code.region id l.toArray true).wp P Q a w :=
  wp_region_quiet (C := fun w' => ∃ X : FrW w, w' = X.val) hm hB ⟨⟨_, (Fr.refl _ w).drew⟩, rfl⟩ (by simpa using h)
end Go.Proofs.Ytclgmnobockfnaa
namespace Go.Proofs.Ytclgmnobockfnaa
open Go.RowKit Go.Maps
theorem sum_wraps {r : SR} (h : SRb r) : IntKind.i64.wrap (r.free + r.held) = r.free + r.held ∧ IntKind.i64.wrap (r.free + r.held + r.picked) = r.free + r.held + r.picked ∧ IntKind.i64.wrap (r.free + r.held + r.picked + r.aside) = r.free + r.held + r.picked + r.aside := by
  obtain ⟨a0, a1, a2, a3, -, -, -, -, -, -⟩ := h
  refine ⟨?_, ?_, ?_⟩ <;> (rw [IntKind.wrap_i64]; omega)
set_option maxRecDepth 100000 in
set_option maxHeartbeats 4000000 in
theorem sRight (w : World) (b : Nat) (r : SR) (h : RowAt w b r) : Calls Try.prog 38 #[.pointer (some ⟨b, 0, none⟩)] w fun e w' => e = .returned (.bool r.right) ∧ Fr (fun _ => False) w w' := by
  have HEv := Lib.hid (fun X : FrW w => sEach X.val b r (X.at_ h))
  cases hE : r.each with
  | false =>
    have e : r.right = false := by simp [SR.right, hE]
    rw [e]
    rw [hE] at HEv
    clear h hE e
    go_enter Try.func38, Try.ntmps38
    go_wp2_with fail
    refine wp_region_fr (by kernel_rfl) (by kernel_rfl) ?_
    repeat (go_big_quiet_step ((go_at_call 53; rename_i X; refine (HEv.out X).mono ?_; rintro e w1 ⟨rfl, hF⟩; exact ⟨rfl, ⟨w1, X.fr.trans hF⟩, rfl⟩)))
    refine wpQuiet_nil ?_
    rintro _ ⟨⟨V, hV⟩, rfl⟩
    go_wp2_with fail
    go_ret
    exact ⟨rfl, hV⟩
  | true =>
    have e : r.right = mayI r.sum := by simp [SR.right, hE]
    rw [e]
    obtain ⟨w1, w2, w3⟩ := sum_wraps (SR.each_iff.1 hE)
    rw [hE] at HEv
    obtain ⟨S, hS⟩ : ∃ S, mayI r.sum = S := ⟨_, rfl⟩
    have HMv := Lib.hid (fun W => kMay W r.sum)
    rw [hS] at HMv ⊢
    unfold SR.sum at HMv
    have p0 := FrW.cell (cell_obj h 0 (.int .i64 r.free) rfl)
    have p1 := FrW.cell (cell_obj h 1 (.int .i64 r.held) rfl)
    have p2 := FrW.cell (cell_obj h 2 (.int .i64 r.picked) rfl)
    have p3 := FrW.cell (cell_obj h 3 (.int .i64 r.aside) rfl)
    clear h hE e hS
    go_enter Try.func38, Try.ntmps38
    go_wp2_with fail
    refine wp_region_fr (by kernel_rfl) (by kernel_rfl) ?_
    repeat (go_big_quiet_step (first | (go_at_call 53; rename_i X; refine (HEv.out X).mono ?_; rintro e w1 ⟨rfl, hF⟩; exact ⟨rfl, ⟨w1, X.fr.trans hF⟩, rfl⟩) | (go_at_call 56; rename_i X; refine (HMv.out _).mono ?_; rintro e w2 ⟨rfl, rfl⟩; exact ⟨rfl, X, rfl⟩)))
    refine wpQuiet_nil ?_
    rintro _ ⟨⟨V, hV⟩, rfl⟩
    go_wp2_with fail
    go_ret
    exact ⟨rfl, hV⟩
def SR.lev (r : SR) : Value := .agg #[.int .i64 r.free, .int .i64 r.held, .int .i64 r.picked, .int .i64 r.aside]
def SR.flo (r : SR) : Value := .agg #[.int .i64 r.received, .int .i64 r.returned, .int .i64 r.counted, .int .i64 r.came, .int .i64 r.shipped, .int .i64 r.scrapped, .int .i64 r.sent]
set_option maxRecDepth 100000 in
set_option maxHeartbeats 4000000 in
theorem sBalanced (w : World) (r : SR) : Calls Try.prog 17 #[r.lev, r.flo] w fun e w' => e = .returned (.bool r.bal) ∧ Fr (fun _ => False) w w' := by
  have hEv := Lib.hid (fun W b (h : RowAt W b r) => sEach W b r h)
  obtain ⟨G, hG⟩ : ∃ G, r.bal = G := ⟨_, rfl⟩
  rw [hG]
  have HG := Lib.hid hG
  clear hG
  have hF0 := Lib.hid ((((Fr.refl (fun _ => False) w).alloc (.cells #[.int .i64 r.free, .int .i64 r.held, .int .i64 r.picked, .int .i64 r.aside] 42)).alloc (.cells #[.int .i64 r.received, .int .i64 r.returned, .int .i64 r.counted, .int .i64 r.came, .int .i64 r.shipped, .int .i64 r.scrapped, .int .i64 r.sent] 44)).alloc (.cells r.cs 69))
  have b0 := heap_keep (heap_keep (heap_new w (.cells #[.int .i64 r.free, .int .i64 r.held, .int .i64 r.picked, .int .i64 r.aside] 42)) (.cells #[.int .i64 r.received, .int .i64 r.returned, .int .i64 r.counted, .int .i64 r.came, .int .i64 r.shipped, .int .i64 r.scrapped, .int .i64 r.sent] 44)) (.cells r.cs 69)
  have b1 : (((w.alloc (.cells #[.int .i64 r.free, .int .i64 r.held, .int .i64 r.picked, .int .i64 r.aside] 42)).alloc (.cells #[.int .i64 r.received, .int .i64 r.returned, .int .i64 r.counted, .int .i64 r.came, .int .i64 r.shipped, .int .i64 r.scrapped, .int .i64 r.sent] 44)).alloc (.cells r.cs 69)).heap[w.heap.size + 1]? = some (.cells #[.int .i64 r.received, .int .i64 r.returned, .int .i64 r.counted, .int .i64 r.came, .int .i64 r.shipped, .int .i64 r.scrapped, .int .i64 r.sent] 44) := heap_keep (heap_at (by simp) _) _
  have b2 : RowAt (((w.alloc (.cells #[.int .i64 r.free, .int .i64 r.held, .int .i64 r.picked, .int .i64 r.aside] 42)).alloc (.cells #[.int .i64 r.received, .int .i64 r.returned, .int .i64 r.counted, .int .i64 r.came, .int .i64 r.shipped, .int .i64 r.scrapped, .int .i64 r.sent] 44)).alloc (.cells r.cs 69)) (w.heap.size + 1 + 1) r := heap_at (by simp) _
  have hEw := Lib.hid (hEv.out _ _ b2)
  have HB0 := Lib.hid b0; have HB1 := Lib.hid b1
  clear b0 b1 b2 hEv
  unfold SR.lev SR.flo
  unfold SR.cs at hF0 hEw HB0 HB1
  obtain ⟨f0, f1, f2, f3, f4, f5, f6, f7, f8, f9, f10⟩ := r
  dsimp only at hF0 hEw HB0 HB1 ⊢
  cases hE : SR.each ⟨f0, f1, f2, f3, f4, f5, f6, f7, f8, f9, f10⟩ with
  | false =>
    have hg : Hid (G = false) := Lib.hid (by rw [← HG.out]; simp [SR.bal, hE])
    rw [hE] at hEw
    clear hE
    go_enter Try.func17, Try.ntmps17
    go_wp2_with (go_at_call 53; refine hEw.out.mono ?_; rintro e w1 ⟨rfl, hF⟩; have HF := Lib.hid hF; clear hF)
    go_ret
    exact ⟨by rw [hg.out]; rfl, hF0.out.trans HF.out⟩
  | true =>
    have hb := SR.each_iff.1 hE
    have hbal : Hid (G = (decide (-576460752303423488 ≤ f6) && decide (f6 ≤ 576460752303423488) && decide (f0 + f1 + f2 + f3 = f4 + f5 + f6 + f7 - f8 - f9 - f10))) := Lib.hid (by rw [← HG.out]; unfold SR.bal; rw [hE]; rfl)
    rw [hE] at hEw
    obtain ⟨a0, a1, a2, a3, c0, c1, c2, c3, c4, c5⟩ := hb
    dsimp only at a0 a1 a2 a3 c0 c1 c2 c3 c4 c5
    obtain ⟨a0, a0'⟩ := a0; obtain ⟨a1, a1'⟩ := a1; obtain ⟨a2, a2'⟩ := a2; obtain ⟨a3, a3'⟩ := a3
    obtain ⟨c0, c0'⟩ := c0; obtain ⟨c1, c1'⟩ := c1; obtain ⟨c2, c2'⟩ := c2; obtain ⟨c3, c3'⟩ := c3; obtain ⟨c4, c4'⟩ := c4; obtain ⟨c5, c5'⟩ := c5
    clear hE
    rcases (by omega : f6 < -576460752303423488 ∨ (-576460752303423488 ≤ f6 ∧ 576460752303423488 < f6) ∨ (-576460752303423488 ≤ f6 ∧ f6 ≤ 576460752303423488)) with h | ⟨h, h'⟩ | ⟨h, h'⟩
    · have hg : Hid (G = false) := Lib.hid (by rw [hbal.out]; simp; omega)
      go_enter Try.func17, Try.ntmps17
      go_wp2_with (go_at_call 53; refine hEw.out.mono ?_; rintro e w1 ⟨rfl, hF⟩; have HF := Lib.hid hF; have q0 := cell_obj (hF.at_ HB1.out (fun h => h)) 2 (.int .i64 f6) rfl; clear hF)
      go_ret
      exact ⟨by rw [hg.out]; rfl, hF0.out.trans HF.out⟩
    · have hg : Hid (G = false) := Lib.hid (by rw [hbal.out]; simp; omega)
      go_enter Try.func17, Try.ntmps17
      go_wp2_with (go_at_call 53; refine hEw.out.mono ?_; rintro e w1 ⟨rfl, hF⟩; have HF := Lib.hid hF; have q0 := cell_obj (hF.at_ HB1.out (fun h => h)) 2 (.int .i64 f6) rfl; clear hF)
      go_ret
      exact ⟨by rw [hg.out]; rfl, hF0.out.trans HF.out⟩
    · have hg : Hid (G = decide (f0 + f1 + f2 + f3 = f4 + f5 + f6 + f7 - f8 - f9 - f10)) := Lib.hid (by rw [hbal.out]; simp [h, h'])
      go_enter Try.func17, Try.ntmps17
      go_wp2_with (go_at_call 53; refine hEw.out.mono ?_; rintro e w1 ⟨rfl, hF⟩; have HF := Lib.hid hF; have x0 := hF.at_ HB0.out (fun h => h); have x1 := hF.at_ HB1.out (fun h => h); have p0 := cell_obj x0 0 (.int .i64 f0) rfl; have p1 := cell_obj x0 1 (.int .i64 f1) rfl; have p2 := cell_obj x0 2 (.int .i64 f2) rfl; have p3 := cell_obj x0 3 (.int .i64 f3) rfl; have q0 := cell_obj x1 0 (.int .i64 f4) rfl; have q1 := cell_obj x1 1 (.int .i64 f5) rfl; have q2 := cell_obj x1 2 (.int .i64 f6) rfl; have q3 := cell_obj x1 3 (.int .i64 f7) rfl; have q4 := cell_obj x1 4 (.int .i64 f8) rfl; have q5 := cell_obj x1 5 (.int .i64 f9) rfl; have q6 := cell_obj x1 6 (.int .i64 f10) rfl; clear hF x0 x1)
      go_ret
      refine ⟨?_, hF0.out.trans HF.out⟩
      rw [hg.out]
      exact ret_bool (a := f0 + f1 + f2 + f3 == f4 + f5 + f6 + f7 - f8 - f9 - f10) (by rw [Bool.eq_iff_iff]; simp)
end Go.Proofs.Ytclgmnobockfnaa
namespace Go.Proofs.Ytclgmnobockfnaa
open Go.RowKit Go.Maps
theorem mp_row {w : World} {m : Nat} {A : Stk} {s : Str} (h : Mp Try.prog w 9 ktS SR.enc m A) (hs : okS s) : (Instr.lookup 62 (.map (some m)) (vS s) false).run Try.prog w = .ok (rowAt A s).enc w := by
  have := h.look kS Try.underlying62 (zeroSR w) (x := s) hs
  unfold rowAt
  cases e : getS A s <;> rw [e] at this <;> exact this
theorem mp_row_ok {w : World} {m : Nat} {A : Stk} {s : Str} (h : Mp Try.prog w 9 ktS SR.enc m A) (hs : okS s) : (Instr.lookup 62 (.map (some m)) (vS s) true).run Try.prog w = .ok (.tuple #[(rowAt A s).enc, .bool (getS A s).isSome]) w := by
  have := h.look_ok kS Try.underlying62 (zeroSR w) (x := s) hs
  unfold rowAt
  cases e : getS A s <;> rw [e] at this <;> exact this
theorem SA.cell {w : World} {g : Nat} {TS : Nat → Prop} {A : Stk} (h : SA w g TS A) : ∃ m, w.cell? ⟨g, 0, none⟩ = some (.map (some m)) ∧ Mp Try.prog w 9 ktS SR.enc m A ∧ TS m := by
  obtain ⟨⟨m, h1, h2, h3⟩, -, -⟩ := h
  exact ⟨m, cell_obj h1 0 _ rfl, h2, h3⟩
set_option maxRecDepth 100000 in
set_option maxHeartbeats 2000000 in
theorem sLevel (w : World) (g : Nat) (TS : Nat → Prop) (A : Stk) (s : Str) (h : SA w g TS A) (hs : okS s) :
    Calls Try.prog 29 #[.pointer (some ⟨g, 0, none⟩), vS s] w fun e w' => e = .returned (rowAt A s).lev ∧ Fr (fun _ => False) w w' := by
  have h1 := h.fr ((Fr.refl (fun _ => False) w).alloc (.cells #[.int .i64 0, .int .i64 0, .int .i64 0, .int .i64 0] 42)) (fun _ _ h => h)
  obtain ⟨m, hc, hm, -⟩ := h1.cell
  have hlk := mp_row hm hs
  have hmd := Lib.hid (smade _ g m hc)
  unfold SR.lev
  unfold SR.enc SR.cs at hlk
  generalize rowAt A s = r at hlk ⊢
  obtain ⟨f0, f1, f2, f3, f4, f5, f6, f7, f8, f9, f10⟩ := r
  dsimp only at hlk ⊢
  have hfl : ∀ W, (Instr.field 69 (.agg #[.int .i64 f0, .int .i64 f1, .int .i64 f2, .int .i64 f3, .int .i64 f4, .int .i64 f5, .int .i64 f6, .int .i64 f7, .int .i64 f8, .int .i64 f9, .int .i64 f10]) 0).run Try.prog W = .ok (.agg #[.int .i64 f0, .int .i64 f1, .int .i64 f2, .int .i64 f3]) W := fun W => by kernel_rfl
  clear h h1 hm
  go_enter Try.func29, Try.ntmps29
  go_wp2_with (go_at_call 31; refine hmd.out.mono ?_; rintro e w' ⟨rfl, rfl⟩)
  go_returns
  exact ⟨rfl, (Fr.refl _ _).alloc _⟩
set_option maxRecDepth 100000 in
set_option maxHeartbeats 2000000 in
theorem sFlow (w : World) (g : Nat) (TS : Nat → Prop) (A : Stk) (s : Str) (h : SA w g TS A) (hs : okS s) :
    Calls Try.prog 30 #[.pointer (some ⟨g, 0, none⟩), vS s] w fun e w' => e = .returned (rowAt A s).flo ∧ Fr (fun _ => False) w w' := by
  have h1 := h.fr ((Fr.refl (fun _ => False) w).alloc (.cells #[.int .i64 0, .int .i64 0, .int .i64 0, .int .i64 0, .int .i64 0, .int .i64 0, .int .i64 0] 44)) (fun _ _ h => h)
  obtain ⟨m, hc, hm, -⟩ := h1.cell
  have hlk := mp_row hm hs
  have hmd := Lib.hid (smade _ g m hc)
  unfold SR.flo
  unfold SR.enc SR.cs at hlk
  generalize rowAt A s = r at hlk ⊢
  obtain ⟨f0, f1, f2, f3, f4, f5, f6, f7, f8, f9, f10⟩ := r
  dsimp only at hlk ⊢
  have hfl : ∀ W, (Instr.field 69 (.agg #[.int .i64 f0, .int .i64 f1, .int .i64 f2, .int .i64 f3, .int .i64 f4, .int .i64 f5, .int .i64 f6, .int .i64 f7, .int .i64 f8, .int .i64 f9, .int .i64 f10]) 1).run Try.prog W = .ok (.agg #[.int .i64 f4, .int .i64 f5, .int .i64 f6, .int .i64 f7, .int .i64 f8, .int .i64 f9, .int .i64 f10]) W := fun W => by kernel_rfl
  clear h h1 hm
  go_enter Try.func30, Try.ntmps30
  go_wp2_with (go_at_call 31; refine hmd.out.mono ?_; rintro e w' ⟨rfl, rfl⟩)
  go_returns
  exact ⟨rfl, (Fr.refl _ _).alloc _⟩
theorem sClone (w : World) (m : Nat) (A : Stk) (h : Mp Try.prog w 9 ktS SR.enc m A) : Calls Try.prog 34 #[.map (some m)] w fun e w' => e = .returned (.map (some w.heap.size)) ∧ Mp Try.prog w' 9 ktS SR.enc w.heap.size A ∧ Below w.heap.size w w' := by
  obtain ⟨n, hown⟩ := h
  have hcon := AnyW.maps_Clone_owns Try.laysCloneS 9 _ m n _ w hown
  change Calls Try.prog 34 _ _ _ at hcon
  refine hcon.mono ?_
  rintro e w' ⟨rfl, h1, _, hB⟩
  exact ⟨rfl, ⟨n, h1⟩, hB⟩
set_option maxRecDepth 100000 in
set_option maxHeartbeats 2000000 in
theorem sFork (w : World) (g : Nat) (TS : Nat → Prop) (A : Stk) (h : SA w g TS A) :
    Calls Try.prog 21 #[.pointer (some ⟨g, 0, none⟩)] w fun e w' => ∃ g' TS', e = .returned (.pointer (some ⟨g', 0, none⟩)) ∧ SA w' g' TS' A ∧ Fr (fun _ => False) w w' ∧ ∀ b, TS' b → w.heap.size ≤ b := by
  obtain ⟨m, hc, hm, -⟩ := h.cell
  have hmd := Lib.hid (smade _ g m hc)
  have hcl := Lib.hid (sClone w m A hm)
  clear h hm
  go_enter Try.func21, Try.ntmps21
  go_wp2_with (first
    | (go_at_call 31; refine hmd.out.mono ?_; rintro e w' ⟨rfl, rfl⟩)
    | (go_at_call 34; refine hcl.out.mono ?_; rintro e w1 ⟨rfl, h1, hB⟩; have H1 := Lib.hid h1; have HB := Lib.hid hB; clear h1 hB))
  go_ret
  have hsz := HB.out.size
  have hlt := H1.out.lt
  refine ⟨_, fun b => b = w.heap.size ∨ b = w1.heap.size, rfl, ⟨⟨_, heap_new _ _, H1.out.alloc _, .inl rfl⟩, .inr rfl, fun b hb => by simp; omega⟩, (Fr.below HB.out).alloc _, fun b hb => by omega⟩
end Go.Proofs.Ytclgmnobockfnaa
namespace Go.Proofs.Ytclgmnobockfnaa
open Go.RowKit Go.Maps
set_option maxRecDepth 100000 in
set_option maxHeartbeats 4000000 in
theorem sCount (w : World) (g : Nat) (TS : Nat → Prop) (A : Stk) (s : Str) (n : Int) (h : SA w g TS A) (hs : okS s) (hA : SOk A) :
    Calls Try.prog 19 #[.pointer (some ⟨g, 0, none⟩), vS s, .int .i64 n] w fun e w' => e = .returned (.tuple #[.int .i64 (countS A s n).1, .int .i64 (countS A s n).2.1]) ∧ SA w' g TS (countS A s n).2.2 ∧ Fr TS w w' := by
  have HSA := Lib.hid h
  have h1 := h.fr ((Fr.refl (fun _ => False) w).alloc (.cells (rowAt A s).cs 69)) (fun _ _ h => h)
  have HS1 := Lib.hid h1
  obtain ⟨m, hc, hm, hTm⟩ := h.cell
  have hlk := mp_row_ok hm hs
  have hmd := Lib.hid (smade _ g m hc)
  have hok := hA.at_ s
  have hMay := Lib.hid (fun W => kMay W n)
  have hHM := Lib.hid hm
  clear h h1 hm
  cases hn : mayI n with
  | false =>
    have e : countS A s n = (0, 1, A) := by simp [countS, hn]
    rw [e]
    rw [hn] at hMay
    dsimp only
    unfold SR.enc at hlk
    obtain ⟨R, hR⟩ : ∃ R, rowAt A s = R := ⟨_, rfl⟩
    rw [hR] at hlk HS1
    unfold SR.cs at hlk HS1
    obtain ⟨B, hB⟩ : ∃ B, (getS A s).isSome = B := ⟨_, rfl⟩
    rw [hB] at hlk
    clear e hn hok hR hB
    go_enter Try.func19, Try.ntmps19
    go_wp2_with (first
      | (go_at_call 31; refine hmd.out.mono ?_; rintro e w' ⟨rfl, rfl⟩)
      | (go_at_call 56; refine (hMay.out _).mono ?_; rintro e w' ⟨rfl, rfl⟩))
    go_ret2
    exact ⟨rfl, HS1.out, (Fr.refl _ _).alloc _⟩
  | true =>
    rw [hn] at hMay
    obtain ⟨n0, n1⟩ := mayI_iff.1 hn
    cases hg : getS A s with
    | none =>
      have e : countS A s n = (0, 71, A) := by simp [countS, hn, hg]
      rw [e]
      rw [hg] at hlk
      dsimp only [Option.isSome] at hlk ⊢
      unfold SR.enc at hlk
      obtain ⟨R, hR⟩ : ∃ R, rowAt A s = R := ⟨_, rfl⟩
      rw [hR] at hlk HS1
      unfold SR.cs at hlk HS1
      clear e hn hok hR hg n0 n1
      go_enter Try.func19, Try.ntmps19
      go_wp2_with (first
        | (go_at_call 31; refine hmd.out.mono ?_; rintro e w' ⟨rfl, rfl⟩)
        | (go_at_call 56; refine (hMay.out _).mono ?_; rintro e w' ⟨rfl, rfl⟩))
      go_ret2
      exact ⟨rfl, HS1.out, (Fr.refl _ _).alloc _⟩
    | some r =>
      have hr : rowAt A s = r := by simp [rowAt, hg]
      rw [hr] at hlk HS1 hok
      rw [hg] at hlk
      dsimp only [Option.isSome] at hlk
      have hcs : countS A s n = (if n < r.held then (0, 70, A) else if (SR.mk (r.free + (n - r.held - r.free)) r.held r.picked r.aside r.received r.returned (r.counted + (n - r.held - r.free)) r.came r.shipped r.scrapped r.sent).right = true then (n - r.held - r.free, 0, putS ktS.lt A s (SR.mk (r.free + (n - r.held - r.free)) r.held r.picked r.aside r.received r.returned (r.counted + (n - r.held - r.free)) r.came r.shipped r.scrapped r.sent)) else (0, 50, A)) := by
        simp only [countS, hn, hg]
        rfl
      rw [hcs]
      have hcb := hok.counted
      obtain ⟨a0, a0'⟩ := hok.b.a0
      obtain ⟨a1, a1'⟩ := hok.b.a1
      obtain ⟨c0, c1⟩ := hcb
      unfold SR.enc SR.cs at hlk
      unfold SR.cs at HS1
      have HOK := Lib.hid hok
      obtain ⟨f0, f1, f2, f3, f4, f5, f6, f7, f8, f9, f10⟩ := r
      dsimp only at hlk HS1 a0 a0' a1 a1' c0 c1 ⊢
      clear hn hcs hr hg hok
      by_cases hlt : n < f1
      · rw [if_pos hlt]
        go_enter Try.func19, Try.ntmps19
        go_wp2_with (first
          | (go_at_call 31; refine hmd.out.mono ?_; rintro e w' ⟨rfl, rfl⟩)
          | (go_at_call 56; refine (hMay.out _).mono ?_; rintro e w' ⟨rfl, rfl⟩))
        go_ret2
        exact ⟨rfl, HS1.out, (Fr.refl _ _).alloc _⟩
      · rw [if_neg hlt]
        have hb2 : RowAt (w.alloc (.cells #[.int .i64 (f0 + (n - f1 - f0)), .int .i64 f1, .int .i64 f2, .int .i64 f3, .int .i64 f4, .int .i64 f5, .int .i64 (f6 + (n - f1 - f0)), .int .i64 f7, .int .i64 f8, .int .i64 f9, .int .i64 f10] 69)) w.heap.size ⟨f0 + (n - f1 - f0), f1, f2, f3, f4, f5, f6 + (n - f1 - f0), f7, f8, f9, f10⟩ := heap_new _ _
        have HRt := Lib.hid (sRight _ _ _ hb2)
        have HB2 := Lib.hid hb2
        obtain ⟨rt, hrt⟩ : ∃ rt, (SR.mk (f0 + (n - f1 - f0)) f1 f2 f3 f4 f5 (f6 + (n - f1 - f0)) f7 f8 f9 f10).right = rt := ⟨_, rfl⟩
        rw [hrt] at HRt ⊢
        have HRT := Lib.hid hrt
        clear hb2 hrt
        cases rt with
        | false =>
          simp only [Bool.false_eq_true, if_false]
          go_enter Try.func19, Try.ntmps19
          go_wp2_with (first
            | (go_at_call 31; refine hmd.out.mono ?_; rintro e w' ⟨rfl, rfl⟩)
            | (go_at_call 56; refine (hMay.out _).mono ?_; rintro e w' ⟨rfl, rfl⟩)
            | (go_at_call 38; refine HRt.out.mono ?_; rintro e w2 ⟨rfl, hF2⟩; have HF2 := Lib.hid hF2; clear hF2))
          go_ret2
          have hF : Fr (fun _ => False) w w2 := ((Fr.refl _ w).alloc _).trans HF2.out
          exact ⟨rfl, HSA.out.fr hF (fun _ _ h => h), hF.mono (fun _ _ h => h.elim)⟩
        | true =>
          simp only [if_true]
          have hg' : w.heap[g]? = some (.cells #[.map (some m)] 64) := by
            obtain ⟨⟨m', e1, e2, e3⟩, -, -⟩ := HSA.out
            have := cell_obj e1 0 _ rfl
            rw [hc] at this
            cases this
            exact e1
          have HG := Lib.hid hg'
          have hgS : TS g := HSA.out.own
          have hst : ∀ W, Fr (fun _ => False) w W → ∃ w', (Instr.mapUpdate 62 (.map (some m)) (vS s) (.agg #[.int .i64 (f0 + (n - f1 - f0)), .int .i64 f1, .int .i64 f2, .int .i64 f3, .int .i64 f4, .int .i64 f5, .int .i64 (f6 + (n - f1 - f0)), .int .i64 f7, .int .i64 f8, .int .i64 f9, .int .i64 f10])).run Try.prog W = .ok () w' ∧ Mp Try.prog w' 9 ktS SR.enc m (putS ktS.lt A s ⟨f0 + (n - f1 - f0), f1, f2, f3, f4, f5, f6 + (n - f1 - f0), f7, f8, f9, f10⟩) ∧ W.mapTurned w' m := fun W hW =>
            (hW.mp hHM.out (fun h => h)).store kS Try.underlying62 (by have := hA.len; omega) hs (SR.mk (f0 + (n - f1 - f0)) f1 f2 f3 f4 f5 (f6 + (n - f1 - f0)) f7 f8 f9 f10)
          have HST := Lib.hid hst
          clear hg' hst
          go_enter Try.func19, Try.ntmps19
          go_wp2_with (first
            | (go_at_call 31; refine hmd.out.mono ?_; rintro e w' ⟨rfl, rfl⟩)
            | (go_at_call 56; refine (hMay.out _).mono ?_; rintro e w' ⟨rfl, rfl⟩)
            | (go_at_call 38; refine HRt.out.mono ?_; rintro e w2 ⟨rfl, hF2⟩; have HF2 := Lib.hid hF2; clear hF2))
          refine wp_region_still_tail 6 (by kernel_rfl) (by kernel_rfl) ?_
          simp only [List.take_succ_cons, List.take_zero, List.drop_succ_cons, List.drop_zero]
          have hF : Fr (fun _ => False) w w2.drew := (((Fr.refl _ w).alloc _).trans HF2.out).drew
          have hB3 : RowAt w2.drew w.heap.size ⟨f0 + (n - f1 - f0), f1, f2, f3, f4, f5, f6 + (n - f1 - f0), f7, f8, f9, f10⟩ := HF2.out.at_ HB2.out (fun h => h)
          change wpStill _ _ w2.drew (fun a' => wpList _ _ _ _ a' w2.drew) _ _
          generalize w2.drew = V at hF hB3 ⊢
          obtain ⟨w5, hst5, hm5, ht5⟩ := HST.out V hF
          have cg := cell_obj (hF.at_ HG.out (fun h => h)) 0 (.map (some m)) rfl
          have d0 := cell_obj hB3 0 (.int .i64 (f0 + (n - f1 - f0))) rfl
          have d1 := cell_obj hB3 1 (.int .i64 f1) rfl
          have d2 := cell_obj hB3 2 (.int .i64 f2) rfl
          have d3 := cell_obj hB3 3 (.int .i64 f3) rfl
          have d4 := cell_obj hB3 4 (.int .i64 f4) rfl
          have d5 := cell_obj hB3 5 (.int .i64 f5) rfl
          have d6 := cell_obj hB3 6 (.int .i64 (f6 + (n - f1 - f0))) rfl
          have d7 := cell_obj hB3 7 (.int .i64 f7) rfl
          have d8 := cell_obj hB3 8 (.int .i64 f8) rfl
          have d9 := cell_obj hB3 9 (.int .i64 f9) rfl
          have d10 := cell_obj hB3 10 (.int .i64 f10) rfl
          have HF := Lib.hid hF; have HM5 := Lib.hid hm5; have HT5 := Lib.hid ht5
          clear hF hB3 hm5 ht5
          repeat still_step
          refine wpStill_nil ?_
          go_wp2_with fail
          go_ret2
          have hF5 : Fr (fun b => b = m) w w5 := (HF.out.mono (fun _ _ h => h.elim)).trans' (Fr.turned (S := fun b => b = m) HT5.out rfl) (fun b _ e => e)
          have hne : g ≠ m := map_ne_cells hHM.out HG.out
          refine ⟨rfl, ⟨⟨m, hF5.at_ HG.out hne, HM5.out, hTm⟩, hgS, fun b hb => Nat.lt_of_lt_of_le (HSA.out.lt b hb) hF5.size⟩, hF5.mono (fun b _ e => e ▸ hTm)⟩
end Go.Proofs.Ytclgmnobockfnaa
