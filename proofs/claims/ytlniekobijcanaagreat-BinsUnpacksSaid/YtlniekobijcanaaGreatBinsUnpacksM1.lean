/- Texts of this claim, joined: Small helpers of my own for all walks of this seat; Maps of the call's own, as lists of keys and values, rising by key: my own view over the library's 'ownsMap'; The frame of a step: which old blocks it may have turned. My own relation for all contracts; Slices of bytes; cells: numbers as bytes: Num; cells.Num: walked; slices.Grow, slices.Concat, slices.Clone at bytes; slices.Concat, slices.Clone at bytes; A step of a thing that owns blocks: what it owns behind it is what it owned, or new; cells.Maker: put, Num, Flag, New, Done; cells.Maker: Num, Flag, Done; slices.Clone; Slices of bytes as strings; their first bytes; cells.First: a number read; cells.Taker: Take, may, fault, Num, Flag, Done; cells.Taker: Flag, Done; what a cell reads as, plainly; What makers put, as states: plainly; cells: what First reads is what Num wrote: plainly; append(row, source...) where the source may be nil, empty or not; rows of cells read out of memory; The document's cells (entrepotref01): digits, Num; The document's cells (entrepotref01): Maker. -/
import Derived.Test.YtlniekobijcanaaGreatRows
import Derived.WalkKit
import Derived.WalkLawsBesides
import Derived.WalkSpells
import Derived.Lib.Hide
import Derived.Deep.AppendLies
import Derived.Maps.OwnIn
import Derived.Maps.OwnSet
import Derived.Maps.Ext
import Derived.Sort.MapsRangeIn
import Derived.Sort.KeysCollected
import Derived.RangeFuncNested
import Derived.Test.YtlniekobijcanaaGreatLen64
import Derived.Maps.AppendAt
import Derived.RangeFuncBox
import Derived.OwnWalk
import Derived.Laws.BitsAllLaws
import Derived.Deep.LoopGhost
import Derived.Deep.RegionWith
import Derived.Deep.QuietTactic
import Derived.BigQuiet
import Derived.Handy
import Derived.Lib.SliceRun
import Derived.Laws.BytesArg
import Derived.Deep.Slices
namespace Go.Proofs.YtlniekobijcanaaGreat
open Go.RowKit
theorem ret_int {k : IntKind} {a b : Int} (h : a = b) : Ending.returned (.int k a) = .returned (.int k b) := by rw [h]
theorem ret_bool {a b : Bool} (h : a = b) : Ending.returned (.bool a) = .returned (.bool b) := by rw [h]
theorem ret_val {a b : Value} (h : a = b) : Ending.returned a = .returned b := by rw [h]
theorem val_int {k : IntKind} {a b : Int} (h : a = b) : Value.int k a = .int k b := by rw [h]
theorem val_bool {a b : Bool} (h : a = b) : Value.bool a = .bool b := by rw [h]
theorem run_equalIn_func_nil {P : Program} (w : World) (d : Nat) (t : TypeId) (ps rs : Array TypeId) (b : Bool) (f : Fn) (x y : Array Value) (h : P.underlying t = some (.func ps rs b)) :
    (Op.equalIn (d + 1) t (.func f x y) .nilFunc).run P w = .ok false w := by
  simp [Op.equalIn, run_underlying h]
/-- 'f == nil', f a function that is there. -/
theorem run_eql_func_nil {P : Program} (w : World) (t : TypeId) (ps rs : Array TypeId) (b : Bool) (f : Fn) (x y : Array Value) (h : P.underlying t = some (.func ps rs b)) :
    (binOp .eql t (.func f x y) .nilFunc).run P w = .ok (.bool false) w := by
  simp only [binOp]
  simp [Op.equal, Op.maxDepth, run_equalIn_func_nil w 9999 t ps rs b f x y h]
theorem own_zero {w : World} {base : Nat} {e : TypeId} {size : Nat} {v : Value} {xs : List Value} (h : w.ownsRow base e size v 0 xs) : ∃ a c, v = .slice a 0 c := by
  rcases h.2 with ⟨rfl, _⟩ | ⟨g', cap, cur, rfl, _⟩
  · exact ⟨_, _, rfl⟩
  · exact ⟨_, _, rfl⟩
theorem cell_obj {w : World} {b : Nat} {cs : Array Value} {t : TypeId} (h : w.heap[b]? = some (.cells cs t)) (j : Nat) (v : Value) (hj : cs[j]? = some v) : w.cell? ⟨b, j, none⟩ = some v := by simp [World.cell?, h, hj]
theorem obj_set {w : World} {g : Nat} {cs : Array Value} {t : TypeId} (h : w.heap[g]? = some (.cells cs t)) (j : Nat) (v : Value) : (w.setCell ⟨g, j, none⟩ v).heap[g]? = some (.cells (cs.setIfInBounds j v) t) := by
  obtain ⟨hlt, hk⟩ := Array.getElem?_eq_some_iff.1 h
  show (w.heap.modify g _)[g]? = _
  rw [Array.getElem?_eq_getElem (by rw [Array.size_modify]; exact hlt), Array.getElem_modify_self, hk]
  rfl
theorem obj_frozen {w : World} {g : Nat} {cs : Array Value} {t : TypeId} (h : w.heap[g]? = some (.cells cs t)) (j : Nat) : w.frozen? ⟨g, j, none⟩ = false := by simp [World.frozen?, h]
theorem heap_new (w : World) (o : Obj) : (w.alloc o).heap[w.heap.size]? = some o := by show (w.heap.push o)[w.heap.size]? = _; simp
theorem heap_at {w : World} {b : Nat} (h : b = w.heap.size) (o : Obj) : (w.alloc o).heap[b]? = some o := h ▸ heap_new w o
theorem heap_keep {w : World} {b : Nat} {x : Obj} (h : w.heap[b]? = some x) (o : Obj) : (w.alloc o).heap[b]? = some x := by
  have hb := (Array.getElem?_eq_some_iff.1 h).1
  show (w.heap.push o)[b]? = _
  rw [Array.getElem?_push, if_neg (by omega)]; exact h
end Go.Proofs.YtlniekobijcanaaGreat
namespace Go.Proofs.YtlniekobijcanaaGreat
open Go.RowKit Go.Maps

/-- Keys of a kind: how they are encoded, how they are told, which they are. -/
structure KT (κ : Type) where
  enc : κ → Value
  lit : κ → Lit
  ok : κ → Prop
structure KO (P : Program) (k : TypeId) {κ : Type} [DecidableEq κ] (T : KT κ) : Prop where
  keyed : Keyed P k
  key : ∀ {x : κ}, T.ok x → keyOf P k (T.enc x) = some (T.lit x)
  back : ∀ {v : Value} {kl : Lit}, keyOf P k v = some kl → ∃ x : κ, T.ok x ∧ v = T.enc x ∧ kl = T.lit x
  same : ∀ x y : κ, (T.lit x).sameKey (T.lit y) = decide (x = y)

def okI (x : Int) : Prop := -9223372036854775808 ≤ x ∧ x ≤ 9223372036854775807
theorem wf_okI {x : Int} : (Lit.int .i64 x).wf = true ↔ okI x := by
  simp [Lit.wf, okI, IntKind.min, IntKind.max, IntKind.signed, IntKind.bits]
def ktI : KT Int where
  enc := .int .i64
  lit := .int .i64
  ok := okI
theorem koI {P : Program} {k : TypeId} (hk : P.underlying k = some (.int .i64)) : KO P k ktI where
  keyed := int_keyed hk
  key h := keyOf_int_mk hk (wf_okI.2 h)
  back {v kl} h := by
    cases v <;> simp [keyOf, hk, mapKey] at h
    obtain ⟨⟨rfl, h1⟩, rfl⟩ := h
    exact ⟨_, wf_okI.1 h1, rfl, rfl⟩
  same x y := by simp [ktI, Lit.sameKey]

def heldR (v : Value) : Option (DataW Value × List MemPlace) := some (.held v, [])
variable {κ ν : Type} [DecidableEq κ]
def insS (lt : κ → κ → Bool) (x : κ × ν) : List (κ × ν) → List (κ × ν)
  | [] => [x]
  | y :: r => if lt x.1 y.1 then x :: y :: r else y :: insS lt x r
def delS (l : List (κ × ν)) (x : κ) : List (κ × ν) := l.filter fun p => !decide (p.1 = x)
def putS (lt : κ → κ → Bool) (l : List (κ × ν)) (x : κ) (v : ν) : List (κ × ν) := insS lt (x, v) (delS l x)
def getS : List (κ × ν) → κ → Option ν
  | [], _ => none
  | p :: r, x => if p.1 = x then some p.2 else getS r x

variable {P : Program} {k : TypeId}
def KT.lt (T : KT κ) (x y : κ) : Bool := (T.lit x).before (T.lit y)
def KT.dat (T : KT κ) (enc : ν → Value) (l : List (κ × ν)) : DataW Value := .map (l.map fun p => (T.lit p.1, .held (enc p.2)))
/-- Block b is a map of keys of kind T, whose entries are l, rising by key. -/
def Mp (P : Program) (w : World) (k : TypeId) (T : KT κ) (enc : ν → Value) (b : Nat) (l : List (κ × ν)) : Prop := ∃ n, w.ownsMap P k heldR b n (T.dat enc l)
variable {T : KT κ}

omit [DecidableEq κ] in
theorem dat_ins (T : KT κ) (enc : ν → Value) (x : κ × ν) (l : List (κ × ν)) :
    DataW.insert (T.lit x.1, .held (enc x.2)) (l.map fun p => (T.lit p.1, .held (enc p.2))) = (insS T.lt x l).map fun p => (T.lit p.1, .held (enc p.2)) := by
  induction l with
  | nil => rfl
  | cons y r ih =>
    show (if (T.lit x.1).before (T.lit y.1) = true then _ else _) = List.map _ (if (T.lit x.1).before (T.lit y.1) = true then _ else _)
    cases (T.lit x.1).before (T.lit y.1)
    · simp only [Bool.false_eq_true, if_false, List.map_cons, ih]
    · simp
theorem dat_del (K : KO P k T) (enc : ν → Value) (x : κ) (l : List (κ × ν)) :
    (l.map fun p => (T.lit p.1, (.held (enc p.2) : DataW Value))).filter (fun p => !p.1.sameKey (T.lit x)) = (delS l x).map fun p => (T.lit p.1, .held (enc p.2)) := by
  unfold delS
  rw [List.filter_map]
  congr 1
  apply List.filter_congr
  intro p _
  simp [K.same]
theorem dat_put (K : KO P k T) (enc : ν → Value) (l : List (κ × ν)) (x : κ) (v : ν) : (T.dat enc l).put (T.lit x) (.held (enc v)) = T.dat enc (putS T.lt l x v) := by
  show DataW.map (DataW.insert _ _) = _
  rw [dat_del K, dat_ins T enc (x, v)]
  rfl
theorem dat_strike (K : KO P k T) (enc : ν → Value) (l : List (κ × ν)) (x : κ) : (T.dat enc l).del (T.lit x) = T.dat enc (delS l x) := by
  show DataW.map _ = _
  rw [dat_del K]
  rfl
theorem dat_at (K : KO P k T) (enc : ν → Value) (x : κ) (z : DataW Value) : ∀ l : List (κ × ν), (T.dat enc l).atKey (T.lit x) z = (match getS l x with | some v => .held (enc v) | none => z)
  | [] => rfl
  | p :: r => by
    have ih := dat_at K enc x z r
    simp only [KT.dat, DataW.atKey] at ih ⊢
    simp only [List.map_cons, List.find?_cons, K.same, getS]
    by_cases h : p.1 = x
    · simp [h]
    · simp only [h, decide_false, if_false]
      exact ih
theorem dat_has (K : KO P k T) (enc : ν → Value) (x : κ) : ∀ l : List (κ × ν), has (T.dat enc l) (T.lit x) = (getS l x).isSome
  | [] => rfl
  | p :: r => by
    have ih := dat_has K enc x r
    simp only [KT.dat, has] at ih ⊢
    simp only [List.map_cons, List.any_cons, K.same, getS]
    by_cases h : p.1 = x
    · simp [h]
    · simp only [h, decide_false, if_false, Bool.false_or]
      exact ih
omit [DecidableEq κ] in
theorem dat_size (T : KT κ) (enc : ν → Value) (l : List (κ × ν)) : Maps.size (T.dat enc l) = l.length := by simp [KT.dat, Maps.size]

variable {w w' : World} {enc : ν → Value} {b : Nat} {l : List (κ × ν)} {t e : TypeId}
omit [DecidableEq κ] in
theorem Mp.made (P : Program) (w : World) (k : TypeId) (T : KT κ) (enc : ν → Value) : Mp P (w.alloc (.map #[] 0)) k T enc w.heap.size ([] : List (κ × ν)) := ⟨0, World.ownsMap_made w P k heldR⟩
omit [DecidableEq κ] in
theorem Mp.lt (h : Mp P w k T enc b l) : b < w.heap.size := h.elim fun _ h => h.lt
omit [DecidableEq κ] in
theorem Mp.kept {row : Option Nat} (h : Mp P w k T enc b l) (hg : w.grownBy w' row) (hne : some b ≠ row) : Mp P w' k T enc b l := h.elim fun n h => ⟨n, h.kept hg hne⟩
omit [DecidableEq κ] in
theorem Mp.at_ (h : Mp P w k T enc b l) (hg : w'.heap[b]? = w.heap[b]?) : Mp P w' k T enc b l := by
  obtain ⟨n, es, clock, hb, r⟩ := h
  exact ⟨n, es, clock, hg.trans hb, r⟩
omit [DecidableEq κ] in
theorem Mp.below {B : Nat} (h : Mp P w k T enc b l) (hg : Below B w w') (hb : b < B) : Mp P w' k T enc b l := h.at_ (hg.block b hb)
omit [DecidableEq κ] in
theorem Mp.alloc (h : Mp P w k T enc b l) (o : Obj) : Mp P (w.alloc o) k T enc b l := h.elim fun n h => ⟨n, h.alloc o⟩
omit [DecidableEq κ] in
theorem Mp.drew (h : Mp P w k T enc b l) : Mp P w.drew k T enc b l := h
omit [DecidableEq κ] in
theorem Mp.drewN (h : Mp P w k T enc b l) (n : Nat) : Mp P (w.drewN n) k T enc b l := h
omit [DecidableEq κ] in
theorem Mp.setCell (h : Mp P w k T enc b l) {a : Addr} (ha : b ≠ a.block) (u : Value) : Mp P (w.setCell a u) k T enc b l := h.elim fun n h => ⟨n, h.setCell ha u⟩
/-- The keys are of their kind, and rise. -/
theorem Mp.ok (h : Mp P w k T enc b l) (K : KO P k T) : (∀ p ∈ l, T.ok p.1) ∧ l.Pairwise (fun p q => T.lt p.1 q.1 = true) := by
  obtain ⟨n, h⟩ := h
  constructor
  · obtain ⟨es, hD, hk⟩ := h.keysOf
    have e1 : l.map (fun p => (T.lit p.1, (.held (enc p.2) : DataW Value))) = es := by injection hD
    intro p hp
    have : (T.lit p.1, (.held (enc p.2) : DataW Value)) ∈ es := by rw [← e1]; exact List.mem_map.2 ⟨p, hp, rfl⟩
    obtain ⟨v, hv⟩ := hk _ this
    obtain ⟨x, hx, _, e2⟩ := K.back hv
    have := K.same p.1 x
    rw [← e2] at this
    have h3 : (T.lit p.1).sameKey (T.lit p.1) = true := by rw [K.same]; simp
    rw [h3] at this
    have : p.1 = x := by simpa using this.symm
    rw [this]; exact hx
  · obtain ⟨es, hD, hs, _⟩ := h.canon K.keyed
    have e1 : l.map (fun p => (T.lit p.1, (.held (enc p.2) : DataW Value))) = es := by injection hD
    rw [← e1, List.pairwise_map] at hs
    exact hs
theorem Mp.look (h : Mp P w k T enc b l) (K : KO P k T) (ht : P.underlying t = some (.map k e)) {z : Value} (hz : (zeroValue e).run P w = .ok z w) {x : κ} (hx : T.ok x) :
    (Instr.lookup t (.map (some b)) (T.enc x) false).run P w = .ok (match getS l x with | some v => enc v | none => z) w := by
  obtain ⟨n, h⟩ := h
  obtain ⟨v, ps, hrun, hv⟩ := h.lookup K.keyed ht hz (zd := .held z) (zp := []) rfl (K.key hx)
  rw [hrun]
  rw [dat_at K] at hv
  unfold heldR at hv
  cases hg : getS l x with
  | none => rw [hg] at hv; simp at hv; rw [hv.1]
  | some u => rw [hg] at hv; simp at hv; rw [hv.1]
theorem Mp.look_ok (h : Mp P w k T enc b l) (K : KO P k T) (ht : P.underlying t = some (.map k e)) {z : Value} (hz : (zeroValue e).run P w = .ok z w) {x : κ} (hx : T.ok x) :
    (Instr.lookup t (.map (some b)) (T.enc x) true).run P w = .ok (.tuple #[match getS l x with | some v => enc v | none => z, .bool (getS l x).isSome]) w := by
  obtain ⟨n, h⟩ := h
  obtain ⟨v, ps, hrun, hv⟩ := h.look_ok K.keyed ht hz (zd := .held z) (zp := []) rfl (K.key hx)
  rw [hrun, dat_has K]
  rw [dat_at K] at hv
  unfold heldR at hv
  cases hg : getS l x with
  | none => rw [hg] at hv; simp at hv; rw [hv.1]
  | some u => rw [hg] at hv; simp at hv; rw [hv.1]
omit [DecidableEq κ] in
theorem Mp.len (h : Mp P w k T enc b l) (ht : P.underlying t = some (.map k e)) (ty : TypeId) : (Builtin.len_ #[t] ty #[.map (some b)]).run P w = .ok (.int .i64 l.length) w := by
  obtain ⟨n, h⟩ := h
  rw [h.len ht ty, dat_size]
omit [DecidableEq κ] in
theorem Mp.owns (h : Mp P w k T enc b l) : w.ownsMap P k heldR b l.length (T.dat enc l) := by
  obtain ⟨n, es, clock, hb, F, hs, hD⟩ := h
  refine ⟨es, clock, hb, F, ?_, hD⟩
  have := congrArg Maps.size hD
  rw [dat_size] at this
  simp [Maps.size, length_sorted] at this
  omega
theorem Mp.store (h : Mp P w k T enc b l) (K : KO P k T) (ht : P.underlying t = some (.map k e)) (hl : l.length < 9223372036854775807) {x : κ} (hx : T.ok x) (v : ν) :
    ∃ w', (Instr.mapUpdate t (.map (some b)) (T.enc x) (enc v)).run P w = .ok () w' ∧ Mp P w' k T enc b (putS T.lt l x v) ∧ w.mapTurned w' b := by
  obtain ⟨w', h1, h2, h3⟩ := h.owns.store K.keyed ht (by unfold maxLen; omega) (K.key hx) (d := .held (enc v)) (ps := []) rfl
  exact ⟨w', h1, ⟨_, by rw [← dat_put K]; exact h2⟩, h3⟩
theorem Mp.drop (h : Mp P w k T enc b l) (K : KO P k T) (ht : P.underlying t = some (.map k e)) {x : κ} (hx : T.ok x) (ty : TypeId) :
    ∃ w', (Builtin.delete_ #[t, k] ty #[.map (some b), T.enc x]).run P w = .ok (.tuple #[]) w' ∧ Mp P w' k T enc b (delS l x) ∧ w.mapTurned w' b := by
  obtain ⟨n, h⟩ := h
  obtain ⟨w', h1, h2, h3⟩ := h.drop K.keyed ht (K.key hx) ty
  exact ⟨w', h1, ⟨_, by rw [← dat_strike K]; exact h2⟩, h3⟩
theorem map_ne_cells {w : World} {κ ν : Type} {P : Program} {k : TypeId} {T : KT κ} {enc : ν → Value} {b g : Nat} {l : List (κ × ν)} {cs : Array Value} {t : TypeId} (h : Mp P w k T enc b l) (hg : w.heap[g]? = some (.cells cs t)) : g ≠ b := by
  rintro rfl
  obtain ⟨_, es, clock, hb, _⟩ := h
  rw [hg] at hb; cases hb
end Go.Proofs.YtlniekobijcanaaGreat
namespace Go.Proofs.YtlniekobijcanaaGreat
open Go.RowKit
/-- w' is w, but for the old blocks of S, and for new blocks. -/
structure Fr (S : Nat → Prop) (w w' : World) : Prop where
  os : w'.os = w.os
  tape : w'.tape = w.tape
  output : w'.output = w.output
  size : w.heap.size ≤ w'.heap.size
  same : ∀ b, b < w.heap.size → ¬ S b → w'.heap[b]? = w.heap[b]?
section
variable {S S' : Nat → Prop} {w w' w'' : World}
theorem Fr.refl (S : Nat → Prop) (w : World) : Fr S w w := ⟨rfl, rfl, rfl, Nat.le_refl _, fun _ _ _ => rfl⟩
theorem Fr.trans (h : Fr S w w') (h' : Fr S w' w'') : Fr S w w'' :=
  ⟨h'.os.trans h.os, h'.tape.trans h.tape, h'.output.trans h.output, Nat.le_trans h.size h'.size, fun b hb hs => (h'.same b (Nat.lt_of_lt_of_le hb h.size) hs).trans (h.same b hb hs)⟩
theorem Fr.mono (h : Fr S w w') (hS : ∀ b, b < w.heap.size → S b → S' b) : Fr S' w w' := ⟨h.os, h.tape, h.output, h.size, fun b hb hs => h.same b hb (fun e => hs (hS b hb e))⟩
/-- As 'trans', where the second step may turn new blocks too. -/
theorem Fr.trans' (h : Fr S w w') (h' : Fr S' w' w'') (hS : ∀ b, b < w.heap.size → S' b → S b) : Fr S w w'' :=
  ⟨h'.os.trans h.os, h'.tape.trans h.tape, h'.output.trans h.output, Nat.le_trans h.size h'.size, fun b hb hs => (h'.same b (Nat.lt_of_lt_of_le hb h.size) (fun e => hs (hS b hb e))).trans (h.same b hb hs)⟩
theorem Fr.drew (h : Fr S w w') : Fr S w w'.drew := ⟨h.os, h.tape, h.output, h.size, h.same⟩
theorem Fr.drewN (h : Fr S w w') (n : Nat) : Fr S w (w'.drewN n) := ⟨h.os, h.tape, h.output, h.size, h.same⟩
theorem Fr.grown {row : Option Nat} (h : w.grownBy w' row) (hr : ∀ r, row = some r → r < w.heap.size → S r) : Fr S w w' :=
  ⟨h.os, h.tape, h.output, h.size, fun b hb hs => h.block b hb (fun e => hs (hr b e.symm hb))⟩
theorem Fr.below (h : Below w.heap.size w w') : Fr S w w' := ⟨h.os, h.tape, h.output, h.size, fun b hb _ => h.block b hb⟩
theorem Fr.toBelow {B : Nat} (h : Fr S w w') (hS : ∀ b, S b → B ≤ b) (hB : B ≤ w.heap.size) : Below B w w' :=
  ⟨h.os, h.tape, h.output, h.size, fun b hb => h.same b (by omega) (fun e => by have := hS b e; omega)⟩
theorem Fr.alloc (h : Fr S w w') (o : Obj) : Fr S w (w'.alloc o) := h.trans (Fr.grown (row := none) (World.grownBy_alloc w' o none) (fun _ e => by cases e))
theorem Fr.setCell (h : Fr S w w') {p : Addr} (hp : p.block < w.heap.size → S p.block) (u : Value) : Fr S w (w'.setCell p u) :=
  ⟨h.os, h.tape, h.output, by simpa [World.setCell] using h.size, fun b hb hs => (Below.heap_setCell w' p u b (fun e => hs (by rw [e]; exact hp (by rw [← e]; exact hb)))).trans (h.same b hb hs)⟩
theorem Fr.putObj (h : Fr S w w') {l : Nat} (hl : l < w.heap.size → S l) (o : Obj) : Fr S w (w'.putObj l o) :=
  ⟨h.os, h.tape, h.output, by simpa using h.size, fun b hb hs => (World.putObj_heap_other (fun e => hs (by rw [e]; exact hl (by rw [← e]; exact hb)))).trans (h.same b hb hs)⟩
theorem Fr.turned {b : Nat} (h : w.mapTurned w' b) (hb : S b) : Fr S w w' := Fr.grown h.grown (fun r e _ => by cases e; exact hb)
theorem Fr.at_ {b : Nat} {o : Obj} (h : Fr S w w') (hb : w.heap[b]? = some o) (hs : ¬ S b) : w'.heap[b]? = some o := (h.same b (Array.getElem?_eq_some_iff.1 hb).1 hs).trans hb
theorem Fr.cell {p : Addr} {v : Value} (h : Fr S w w') (hc : w.cell? p = some v) (hs : ¬ S p.block) : w'.cell? p = some v :=
  (World.cell?_of_block (h.same p.block (World.block_lt_of_cell? w _ hc) hs)).trans hc
theorem Fr.box {b : Nat} {t : TypeId} {v : Value} (h : Fr S w w') (hb : Boxed w b t v) (hs : ¬ S b) : Boxed w' b t v := h.at_ hb hs
theorem Fr.mp {κ ν : Type} {k : TypeId} {T : KT κ} {enc : ν → Value} {b : Nat} {l : List (κ × ν)} {P : Program} (h : Fr S w w') (hm : Mp P w k T enc b l) (hs : ¬ S b) : Mp P w' k T enc b l :=
  hm.at_ (h.same b hm.lt hs)
theorem Fr.row {base : Nat} {e : TypeId} {size n : Nat} {v : Value} {xs : List Value} (h : Fr S w w') (ho : w.ownsRow base e size v n xs) (hs : ∀ b, v.ownBlock = some b → ¬ S b) : w'.ownsRow base e size v n xs := by
  refine ⟨ho.1, ?_⟩
  rcases ho.2 with h0 | ⟨g, cap, cur, rfl, hbase, hb, r⟩
  · exact .inl h0
  · exact .inr ⟨g, cap, cur, rfl, hbase, h.at_ hb (hs g rfl), r⟩
/-- A block that is none of the program's own data: a loop's record, an iterator over a map or a string .. -/
def auxObj : Obj → Bool
  | .cells .. | .map .. | .pending .. | .view .. | .number .. | .chan .. | .coro .. | .finalizers .. => false
  | _ => true
def AuxAt (B : Nat) (w : World) (b : Nat) : Prop := B ≤ b ∧ ∃ o, w.heap[b]? = some o ∧ auxObj o = true
/-- Behind it cells and maps are as they were, and what lay below B. -/
abbrev Fa (B : Nat) (w w' : World) : Prop := Fr (AuxAt B w) w w'
theorem Fa.cells {B b : Nat} {cs : Array Value} {t : TypeId} {fr : Nat × Nat} (h : Fa B w w') (hb : w.heap[b]? = some (.cells cs t fr)) : w'.heap[b]? = some (.cells cs t fr) :=
  h.at_ hb (fun ⟨_, o, ho, hx⟩ => by rw [hb] at ho; cases ho; cases hx)
theorem Fa.cell {B : Nat} {p : Addr} {v : Value} (h : Fa B w w') (hc : w.cell? p = some v) : w'.cell? p = some v := by
  refine Fr.cell h hc (fun ⟨_, o, ho, hx⟩ => ?_)
  unfold World.cell? at hc
  rw [ho] at hc
  cases o <;> simp at hc
  cases hx
theorem Fa.box {B b : Nat} {t : TypeId} {v : Value} (h : Fa B w w') (hb : Boxed w b t v) : Boxed w' b t v := Fa.cells h hb
theorem Fa.mp {κ ν : Type} {k : TypeId} {T : KT κ} {enc : ν → Value} {B b : Nat} {l : List (κ × ν)} {P : Program} (h : Fa B w w') (hm : Mp P w k T enc b l) : Mp P w' k T enc b l := by
  obtain ⟨n, es, clock, hb, r⟩ := hm
  exact ⟨n, es, clock, h.at_ hb (fun ⟨_, o, ho, hx⟩ => by rw [hb] at ho; cases ho; cases hx), r⟩
theorem Fa.row {base B : Nat} {e : TypeId} {size n : Nat} {v : Value} {xs : List Value} (h : Fa B w w') (ho : w.ownsRow base e size v n xs) : w'.ownsRow base e size v n xs := by
  refine ⟨ho.1, ?_⟩
  rcases ho.2 with h0 | ⟨g, cap, cur, rfl, hbase, hb, r⟩
  · exact .inl h0
  · exact .inr ⟨g, cap, cur, rfl, hbase, Fa.cells h hb, r⟩
theorem Fa.old {B : Nat} (h : Fa B w' w'') (h0 : Fr S w w') (hB : w.heap.size ≤ B) : Fr S w w'' := h0.trans' h (fun b hb hx => by have := hx.1; omega)
end
end Go.Proofs.YtlniekobijcanaaGreat
namespace Go.Proofs.YtlniekobijcanaaGreat
open Go.RowKit
/-- Bytes. -/
def Bs (w : World) (v : Value) (bs : List Int) : Prop := bs.length ≤ 9223372036854775807 ∧ ∃ (a : Option Addr) (c : Nat), v = .slice a bs.length c ∧ ∀ (i : Nat) (x : Int), bs[i]? = some x → 0 ≤ x ∧ x < 256 ∧ ∃ ad, a = some ad ∧ w.cell? (ad.add i) = some (.int .u8 x)
theorem Bs.nil (w : World) : Bs w (.slice none 0 0) [] := ⟨by simp, none, 0, rfl, fun i x h => by simp at h⟩
theorem Bs.fr {S : Nat → Prop} {w w' : World} {v : Value} {bs : List Int} (h : Bs w v bs) (hf : Fr S w w') (hS : ∀ b, S b → w.heap.size ≤ b) : Bs w' v bs := by
  obtain ⟨h0, a, c, e, h1⟩ := h
  refine ⟨h0, a, c, e, fun i x hx => ?_⟩
  obtain ⟨b1, b2, ad, e, hc⟩ := h1 i x hx
  exact ⟨b1, b2, ad, e, hf.cell hc (fun hs => by have := hS _ hs; have := World.block_lt_of_cell? w _ hc; omega)⟩
theorem wrapU {x : Int} (h0 : 0 ≤ x) (h1 : x < 18446744073709551616) : IntKind.u64.wrap x = x := by
  show x % 18446744073709551616 = x
  omega
end Go.Proofs.YtlniekobijcanaaGreat
namespace Go.Proofs.YtlniekobijcanaaGreat
open Go.RowKit Go.Maps
theorem infoU8 : (Tryz.prog.info? 5).map (fun i => (i.zero, i.size, i.bytes)) = some (some (.int .u8 0), 1, 1) := by kernel_rfl
/-- k bytes of u, the highest first. -/
def beB (u : Nat) : Nat → List Int
  | 0 => []
  | k + 1 => ((u / 256 ^ k % 256 : Nat) : Int) :: beB u k
def nSz (u : Nat) : Nat := (Lib.bitLen u + 7) / 8
def numH (n : Int) : Int := if n < 0 then 144 else 128
def numU (n : Int) : Nat := if n < 0 then (-1 - n).toNat else n.toNat
/-- A number's cell. -/
def numB (n : Int) : List Int := if 0 ≤ n ∧ n < 128 then [n] else (numH n + nSz (numU n)) :: beB (numU n) (nSz (numU n))
theorem beB_len (u : Nat) : ∀ k, (beB u k).length = k
  | 0 => rfl
  | k + 1 => by simp [beB, beB_len u k]
/-- Bytes as values. -/
def u8s (l : List Int) : List Value := l.map (.int .u8)
/-- Bytes that lie in memory from block B on. -/
def Bn (B : Nat) (w : World) (v : Value) (bs : List Int) : Prop := Bs w v bs ∧ ∀ b, v.ownBlock = some b → B ≤ b
theorem beB_mem {u k : Nat} {x : Int} (h : x ∈ beB u k) : 0 ≤ x ∧ x < 256 := by
  induction k with
  | zero => cases h
  | succ k ih =>
    simp only [beB, List.mem_cons] at h
    rcases h with rfl | h
    · omega
    · exact ih h
theorem nSz_le {u : Nat} (h : u < 18446744073709551616) : nSz u ≤ 8 := by
  have := Lib.bitLen_le u 64 (by omega) h
  unfold nSz; omega
theorem numU_lt {n : Int} (h : okI n) : numU n < 9223372036854775808 := by unfold numU okI at *; split <;> omega
theorem numB_mem {n : Int} (h : okI n) {x : Int} (hx : x ∈ numB n) : 0 ≤ x ∧ x < 256 := by
  unfold numB at hx
  split at hx
  · simp at hx; omega
  · simp only [List.mem_cons] at hx
    rcases hx with rfl | hx
    · have := nSz_le (u := numU n) (by have := numU_lt h; omega)
      unfold numH; split <;> omega
    · exact beB_mem hx
theorem numB_len {n : Int} (h : okI n) : 1 ≤ (numB n).length ∧ (numB n).length ≤ 9 := by
  unfold numB
  split
  · simp
  · have := nSz_le (u := numU n) (by have := numU_lt h; omega)
    simp [beB_len]; omega
/-- A row of the call's own, read as bytes. -/
theorem Bs.own {w : World} {base : Nat} {v : Value} {bs : List Int} (h : w.ownsRow base 5 1 v bs.length (u8s bs)) (hb : ∀ x ∈ bs, 0 ≤ x ∧ x < 256) : Bn base w v bs := by
  rcases Nat.eq_zero_or_pos bs.length with h0 | h0
  · have : bs = [] := List.eq_nil_of_length_eq_zero h0
    subst this
    obtain ⟨hl, h1 | ⟨g, cap, cur, rfl, hbs, hh, hn, hm, hs, ht⟩⟩ := h
    · obtain ⟨rfl, -⟩ := h1
      exact ⟨Bs.nil w, fun b hb => by cases hb⟩
    · exact ⟨⟨by simp, _, cap, rfl, fun i x hx => by simp at hx⟩, fun b hb => by cases hb; exact hbs⟩
  · obtain ⟨g, cap, rfl, hg, hlt⟩ := h.form h0
    refine ⟨⟨?_, _, cap, rfl, fun i x hx => ?_⟩, fun b hb => by cases hb; exact hg⟩
    · obtain ⟨-, h1 | ⟨g', cap', cur, e, _, _, hn, hm, _, _⟩⟩ := h
      · omega
      · have hm : cap' ≤ 9223372036854775807 := hm
        omega
    · have hi := (List.getElem?_eq_some_iff.1 hx).1
      have hmem : x ∈ bs := List.mem_of_getElem? hx
      refine ⟨(hb x hmem).1, (hb x hmem).2, _, rfl, ?_⟩
      have := h.cellAt (g := g) (j := i) (by simpa using hi)
      rw [show (⟨g, 0, none⟩ : Addr).add i = ⟨g, i, none⟩ by simp [Addr.add]; omega, this]
      simp [u8s, hx]
end Go.Proofs.YtlniekobijcanaaGreat
namespace Go.Proofs.YtlniekobijcanaaGreat
open Go.RowKit Go.Maps
theorem beB_get (u : Nat) : ∀ {s k : Nat}, k < s → (beB u s)[k]? = some ((u / 256 ^ (s - 1 - k) % 256 : Nat) : Int)
  | 0, _, h => by omega
  | s + 1, 0, _ => by simp [beB]
  | s + 1, k + 1, h => by
    have := beB_get u (s := s) (k := k) (by omega)
    simp only [beB, List.getElem?_cons_succ]
    rw [this, show s + 1 - 1 - (k + 1) = s - 1 - k by omega]
theorem cClip (w : World) (a : Addr) (n c : Nat) (h : n ≤ c) (hc : c ≤ 9223372036854775807) : Calls Tryz.prog 134 #[.slice (some a) n c] w fun e w' => e = .returned (.slice (some a) n n) ∧ w = w' := by
  go_enter Tryz.func134, Tryz.ntmps134
  go_wp2
  go_ret
  exact ⟨rfl, rfl⟩
theorem pow256 (U m : Nat) : ((U : Int) / 2 ^ (8 * m)) % 256 = ((U / 256 ^ m % 256 : Nat) : Int) := by
  have : (2 : Int) ^ (8 * m) = ((256 ^ m : Nat) : Int) := by
    rw [Int.pow_mul]; simp
  rw [this]; simp
theorem own_cap {w : World} {base : Nat} {e : TypeId} {size n m cap : Nat} {a : Addr} {xs : List Value} (h : w.ownsRow base e size (.slice (some a) n cap) m xs) : n ≤ cap ∧ cap ≤ 9223372036854775807 := by
  rcases h.2 with ⟨h0, _⟩ | ⟨g, c, cur, e1, _, _, h1, h2, _⟩
  · cases h0
  · injection e1 with e2 e3 e4
    subst e3 e4
    exact ⟨h1, h2⟩
theorem Bn.clip {B : Nat} {w : World} {a : Option Addr} {n c c' : Nat} {bs : List Int} (h : Bn B w (.slice a n c) bs) : Bn B w (.slice a n c') bs := by
  obtain ⟨⟨h0, a', c1, e, h1⟩, h2⟩ := h
  injection e with e1 e2 e3
  subst e1 e2
  exact ⟨⟨h0, _, c', rfl, h1⟩, fun b hb => h2 b (by cases a <;> exact hb)⟩
theorem xorOnes (m : Nat) (h : m < 18446744073709551616) : 18446744073709551615 ^^^ m = 18446744073709551615 - m := by
  have h1 := congrArg BitVec.toNat (BitVec.allOnes_xor (x := BitVec.ofNat 64 m))
  rw [BitVec.toNat_xor, BitVec.toNat_not, BitVec.toNat_allOnes, BitVec.toNat_ofNat, Nat.mod_eq_of_lt (by simpa using h)] at h1
  simpa using h1
theorem notU64 {n : Int} (h0 : -9223372036854775808 ≤ n) (h1 : n < 0) : bits BinOp.xor IntKind.u64 IntKind.u64.max (IntKind.u64.wrap n) = ((-1 - n).toNat : Int) := by
  have e1 : IntKind.u64.max = ((18446744073709551615 : Nat) : Int) := by decide
  have e2 : IntKind.u64.wrap n = ((n + 18446744073709551616).toNat : Int) := by
    show n % 18446744073709551616 = _
    omega
  rw [e1, e2, u64_xor_nat _ _ (by omega) (by omega), xorOnes _ (by omega)]
  omega
set_option maxRecDepth 100000 in
set_option maxHeartbeats 2000000 in
theorem cNum (w : World) (n : Int) (hn : okI n) : Calls Tryz.prog 114 #[.int .i64 n] w fun e w' => ∃ v, e = .returned v ∧ Bn w.heap.size w' v (numB n) ∧ Below w.heap.size w w' := by
  obtain ⟨i0, hi', hz0, hz1, hz2⟩ := info_parts infoU8
  have HN := Lib.hid hn
  unfold okI at hn
  by_cases h : 0 ≤ n ∧ n < 128
  · obtain ⟨h0, h1⟩ := h
    have e : numB n = [n] := by unfold numB; rw [if_pos ⟨h0, h1⟩]
    rw [e]
    go_enter Tryz.func114, Tryz.ntmps114
    go_wp2
    go_ret
    exact ⟨_, rfl, Bs.own (w := w.alloc (.cells #[.int .u8 n] 5)) (base := w.heap.size) ⟨by simp [u8s], .inr ⟨_, _, _, rfl, Nat.le_refl _, heap_new _ _, by simp, by decide, by simp, by simp [u8s]⟩⟩ (fun x hx => by simp at hx; omega), (Below.refl _ _).alloc (Nat.le_refl _) _⟩
  · obtain ⟨U, hU⟩ : ∃ U, numU n = U := ⟨_, rfl⟩
    have hU1 := numU_lt HN.out
    have e : numB n = (numH n + nSz U) :: beB U (nSz U) := by unfold numB; rw [if_neg h, hU]
    rw [e]
    rw [hU] at hU1
    obtain ⟨s, hs⟩ : ∃ s, nSz U = s := ⟨_, rfl⟩
    rw [hs]
    have hs8 : s ≤ 8 := by rw [← hs]; exact nSz_le (by omega)
    have hLen := bLen64 (U : Int) w (by omega) (by omega)
    rw [show (U : Int).toNat = U from rfl] at hLen
    obtain ⟨bl, hbl⟩ : ∃ bl, Lib.bitLen U = bl := ⟨_, rfl⟩
    have hbs : (bl + 7) / 8 = s := by rw [← hs, ← hbl]; rfl
    rw [hbl] at hLen
    have hbl64 : bl ≤ 64 := by rw [← hbl]; exact Lib.bitLen_le U 64 (by omega) (by omega)
    have HL := Lib.hid hLen
    clear hLen
    rcases (by omega : n < 0 ∨ 128 ≤ n) with hneg | hpos
    · have hH : numH n = 144 := if_pos hneg
      have hX := notU64 hn.1 hneg
      have hUn : (-1 - n).toNat = U := by rw [← hU]; unfold numU; rw [if_pos hneg]
      rw [hUn] at hX
      rw [hH]
      clear hU hs hbl h e
      go_enter Tryz.func114, Tryz.ntmps114
      go_wp2_with fail
      refine HL.out.mono ?_
      rintro e w' ⟨rfl, hww⟩
      have hww := hww.symm
      subst hww
      go_wp2_with fail
      go_loopw [6, 7] (fun o i wr => ∃ k : Nat, k ≤ s ∧ i = .int .i64 ((s : Int) - 1 - k) ∧ wr.ownsRow w.heap.size 5 1 o (1 + k) (u8s ((144 + (s : Int)) :: (beB U s).take k)) ∧ Below w.heap.size w wr) (fun _ i _ => (intOf i + 1).toNat)
      case atStart =>
        refine ⟨0, by omega, val_int (by omega), ⟨by simp [u8s], .inr ⟨_, _, _, rfl, Nat.le_refl _, heap_new _ _, by simp, by decide, by simp, ?_⟩⟩, (Below.refl _ _).alloc (Nat.le_refl _) _⟩
        simp [u8s]; omega
      case round =>
        obtain ⟨k, hk, rfl, hown, hB⟩ := hrel
        by_cases hks : k < s
        · have HOW := Lib.hid hown; have HBB := Lib.hid hB
          have hBs := hB.size
          clear hown hB
          go_wp2_with (at_builtin; refine wpList_append_own_at _ rfl _ _ 42 rfl w.heap.size 5 i0 (.int .u8 0) 1 1 Tryz.underlying42 hi' hz0 hz1 hz2 rfl (by decide) _ (1 + k) _ rfl (HOW.out.alloc _) ⟨wr.heap.size, 0, none⟩ 1 1 [.int .u8 _] rfl rfl (cell_one_new _ _ _) (by simp [Value.oneCell']) (by unfold maxLen; omega) (by omega) (by simp; omega) ?_; intro v' w1 hown' hgrow _ _)
          go_roundw
          case rel =>
            refine ⟨k + 1, by omega, val_int (by omega), ?_, (HBB.out.alloc hBs _).grown hgrow (by simp; omega) (fun r hr => (HOW.out.lt r hr).1)⟩
            rw [List.take_add_one, beB_get U hks, ← pow256]
            rw [show 1 + (k + 1) = 1 + k + 1 by omega]
            simpa [u8s] using hown'
          case measure => simp [intOf]; omega
        · have hke : k = s := by omega
          subst hke
          obtain ⟨g, cap, rfl, hg, hlt⟩ := hown.form (by omega)
          have HOW := Lib.hid hown; have HBB := Lib.hid hB
          clear hown hB
          go_wp2_with fail
          refine (cClip wr _ _ _ (own_cap HOW.out).1 (own_cap HOW.out).2).mono ?_
          rintro e w3 ⟨rfl, rfl⟩
          go_wp2_with fail
          go_ret
          have hle : (beB U k).take k = beB U k := List.take_of_length_le (by rw [beB_len]; omega)
          have hown := HOW.out
          rw [hle] at hown
          have hl1 : ((144 + (k : Int)) :: beB U k).length = 1 + k := by rw [List.length_cons, beB_len, Nat.add_comm]
          refine ⟨_, rfl, (Bs.own (v := .slice (some ⟨g, 0, none⟩) (1 + k) cap) (bs := (144 + (k : Int)) :: beB U k) (by rw [hl1]; exact hown) (fun x hx => ?_)).clip, HBB.out⟩
          rcases List.mem_cons.1 hx with rfl | hx
          · omega
          · exact beB_mem hx
    · have hH : numH n = 128 := if_neg (by omega)
      have hUn : n = (U : Int) := by rw [← hU]; unfold numU; rw [if_neg (by omega)]; omega
      rw [hH]
      clear hU hs hbl h e HN
      subst hUn
      go_enter Tryz.func114, Tryz.ntmps114
      go_wp2_with fail
      refine HL.out.mono ?_
      rintro e w' ⟨rfl, hww⟩
      have hww := hww.symm
      subst hww
      go_wp2_with fail
      go_loopw [6, 7] (fun o i wr => ∃ k : Nat, k ≤ s ∧ i = .int .i64 ((s : Int) - 1 - k) ∧ wr.ownsRow w.heap.size 5 1 o (1 + k) (u8s ((128 + (s : Int)) :: (beB U s).take k)) ∧ Below w.heap.size w wr) (fun _ i _ => (intOf i + 1).toNat)
      case atStart =>
        refine ⟨0, by omega, val_int (by omega), ⟨by simp [u8s], .inr ⟨_, _, _, rfl, Nat.le_refl _, heap_new _ _, by simp, by decide, by simp, ?_⟩⟩, (Below.refl _ _).alloc (Nat.le_refl _) _⟩
        simp [u8s]; omega
      case round =>
        obtain ⟨k, hk, rfl, hown, hB⟩ := hrel
        by_cases hks : k < s
        · have HOW := Lib.hid hown; have HBB := Lib.hid hB
          have hBs := hB.size
          clear hown hB
          go_wp2_with (at_builtin; refine wpList_append_own_at _ rfl _ _ 42 rfl w.heap.size 5 i0 (.int .u8 0) 1 1 Tryz.underlying42 hi' hz0 hz1 hz2 rfl (by decide) _ (1 + k) _ rfl (HOW.out.alloc _) ⟨wr.heap.size, 0, none⟩ 1 1 [.int .u8 _] rfl rfl (cell_one_new _ _ _) (by simp [Value.oneCell']) (by unfold maxLen; omega) (by omega) (by simp; omega) ?_; intro v' w1 hown' hgrow _ _)
          go_roundw
          case rel =>
            refine ⟨k + 1, by omega, val_int (by omega), ?_, (HBB.out.alloc hBs _).grown hgrow (by simp; omega) (fun r hr => (HOW.out.lt r hr).1)⟩
            rw [List.take_add_one, beB_get U hks, ← pow256]
            rw [show 1 + (k + 1) = 1 + k + 1 by omega]
            simpa [u8s] using hown'
          case measure => simp [intOf]; omega
        · have hke : k = s := by omega
          subst hke
          obtain ⟨g, cap, rfl, hg, hlt⟩ := hown.form (by omega)
          have HOW := Lib.hid hown; have HBB := Lib.hid hB
          clear hown hB
          go_wp2_with fail
          refine (cClip wr _ _ _ (own_cap HOW.out).1 (own_cap HOW.out).2).mono ?_
          rintro e w3 ⟨rfl, rfl⟩
          go_wp2_with fail
          go_ret
          have hle : (beB U k).take k = beB U k := List.take_of_length_le (by rw [beB_len]; omega)
          have hown := HOW.out
          rw [hle] at hown
          have hl1 : ((128 + (k : Int)) :: beB U k).length = 1 + k := by rw [List.length_cons, beB_len, Nat.add_comm]
          refine ⟨_, rfl, (Bs.own (v := .slice (some ⟨g, 0, none⟩) (1 + k) cap) (bs := (128 + (k : Int)) :: beB U k) (by rw [hl1]; exact hown) (fun x hx => ?_)).clip, HBB.out⟩
          rcases List.mem_cons.1 hx with rfl | hx
          · omega
          · exact beB_mem hx
end Go.Proofs.YtlniekobijcanaaGreat
namespace Go.Proofs.YtlniekobijcanaaGreat
open Go.RowKit Go.Maps
theorem run_append_zeros {P : Program} (w : World) (t ty e ti : TypeId) (i : TypeInfo) (z : Value) (ht : P.underlying t = some (.slice e)) (hti : P.underlying ti = some (.int .i64)) (hi : P.info? e = some i) (hz : i.zero = some z) (hby : i.bytes = 1) (hsz : i.size = 1)
    (n : Nat) (h0 : 0 < n) (h63 : n ≤ 1099511627776) :
    (Builtin.append_ #[t, ti] ty #[.slice none 0 0, .int .i64 n]).run P w =
      .ok (.slice (some ⟨w.heap.size, 0, none⟩) n (grownCap w n 0 e)) (w.drew.alloc (.cells (Builtin.zeroCells z.cells n ++ Builtin.zeroCells z.cells (grownCap w n 0 e - n)) e)) := by
  have hn : n ≠ 0 := by omega
  have h63' : ¬ (9223372036854775807 < (n : Int)) := by omega
  have h48' : ¬ (281474976710656 < Builtin.nextslicecap n 0) := by rw [nextslicecap_zero h0]; omega
  have hw : IntKind.i64.wrap (n : Int) = n := by rw [IntKind.wrap_i64]; omega
  have hl : ¬ ((n : Int) < 0) := by omega
  have hl2 : ¬ (281474976710656 < (n : Int)) := by omega
  simp [Builtin.append_, run_underlying ht, run_underlying hti, sizeOf, typeInfo, zeroValue, hi, hz, hby, hsz, asInt, asIntOf, hw, hl, hl2, hn, h63', h48', Question.forced, run_firstCells_none, newRow, grownCap]
theorem wpList_append_zeros {P : Program} (w : World) {ops : Array Oper} {rest : List Oper} {o : Oper} {a : Act} {Q : Exit → Act → World → Prop} (hgd : o.guard = none) (s x : Operand) (t e ti : TypeId)
    (ho : o.op = .call { callee := .builtin .append, args := #[s, x], argTypes := #[t, ti] }) (i : TypeInfo) (z : Value) (ht : P.underlying t = some (.slice e)) (hti : P.underlying ti = some (.int .i64)) (hi : P.info? e = some i) (hz : i.zero = some z) (hby : i.bytes = 1) (hsz : i.size = 1)
    (n : Nat) (h0 : 0 < n) (h63 : n ≤ 1099511627776) (hs : a.eval s = .slice none 0 0) (hx : a.eval x = .int .i64 n)
    (h : wpList P ops Q rest (a.put o.dst (.slice (some ⟨w.heap.size, 0, none⟩) n (grownCap w n 0 e))) (w.drew.alloc (.cells (Builtin.zeroCells z.cells n ++ Builtin.zeroCells z.cells (grownCap w n 0 e - n)) e))) :
    wpList P ops Q (o :: rest) a w := by
  refine wpList_plain hgd fun K hK => ?_
  have hr := run_append_zeros (P := P) w t o.type e ti i z ht hti hi hz hby hsz n h0 h63
  unfold Oper.wp execOp
  simp only [ho, resolve, invoke, builtin, Sem.run_bind, Sem.run_pure, Result.andThen_ok, List.map_toArray, List.map_cons, List.map_nil, hs, hx, hr]
  exact hK _ _ h
theorem zeroCells_size (z : Array Value) (hz : z.size = 1) (n : Nat) : (Builtin.zeroCells z n).size = n := by simp [Builtin.zeroCells, hz]
set_option maxRecDepth 100000 in
theorem cGrow (w : World) (n : Nat) (hn : (n : Int) ≤ 1099511627776) : Calls Tryz.prog 148 #[.slice none 0 0, .int .i64 n] w fun e w' =>
    ∃ v, e = .returned v ∧ w'.ownsRow w.heap.size 5 1 v 0 [] ∧ Below w.heap.size w w' := by
  obtain ⟨i0, hi', hz0, hz1, hz2⟩ := info_parts infoU8
  by_cases h0 : n = 0
  · subst h0
    go_enter Tryz.func148, Tryz.ntmps148
    go_wp2
    go_ret
    exact ⟨_, rfl, World.ownsRow_nil _ _ _ _, Below.refl _ _⟩
  · have hpos : 0 < n := by omega
    have hcap := Lib.hid (grownCap_ge w n 0 5)
    have hcm := Lib.hid (grownCap_le_maxLen w n 0 5 (by unfold maxLen; omega))
    go_enter Tryz.func148, Tryz.ntmps148
    go_wp2_with (at_builtin; refine wpList_append_zeros _ rfl _ _ 42 5 3 rfl i0 (.int .u8 0) Tryz.underlying42 Tryz.underlying3 hi' hz0 hz2 hz1 n hpos (by omega) rfl rfl ?_)
    go_ret
    refine ⟨_, rfl, World.ownsRow_made (w := w.drew) _ _ (Nat.le_refl _) hcm.out ?_, (Below.refl _ w).drew.alloc (Nat.le_refl _) _⟩
    rw [Array.size_append, zeroCells_size _ rfl, zeroCells_size _ rfl]
    have := hcap.out
    omega
end Go.Proofs.YtlniekobijcanaaGreat
namespace Go.Proofs.YtlniekobijcanaaGreat
open Go.RowKit Go.Maps
def Parts (w : World) (v : Value) (L : List (Value × List Int)) : Prop := ∃ a c, v = .slice (some a) L.length c ∧ ∀ i p, L[i]? = some p → w.cell? (a.add i) = some p.1 ∧ Bs w p.1 p.2 ∧ ∃ ad n c, p.1 = .slice (some ad) n c
def catL (L : List (Value × List Int)) : List Int := L.flatMap (·.2)
theorem catL_take {L : List (Value × List Int)} {k : Nat} {p : Value × List Int} (h : L[k]? = some p) : catL (L.take (k + 1)) = catL (L.take k) ++ p.2 := by
  unfold catL
  rw [List.take_add_one, h]; simp
theorem catL_le (L : List (Value × List Int)) (k : Nat) : (catL (L.take k)).length ≤ (catL L).length := by
  have : catL L = catL (L.take k) ++ catL (L.drop k) := by
    unfold catL
    rw [← List.flatMap_append, List.take_append_drop]
  rw [this, List.length_append]; omega
theorem Parts.fr {S : Nat → Prop} {w w' : World} {v : Value} {L : List (Value × List Int)} (h : Parts w v L) (hf : Fr S w w') (hS : ∀ b, S b → w.heap.size ≤ b) : Parts w' v L := by
  obtain ⟨a, c, e, h1⟩ := h
  refine ⟨a, c, e, fun i p hp => ⟨?_, (h1 i p hp).2.1.fr hf hS, (h1 i p hp).2.2⟩⟩
  have hc := (h1 i p hp).1
  exact hf.cell hc (fun hs => by have := hS _ hs; have := World.block_lt_of_cell? w _ hc; omega)
set_option maxRecDepth 100000 in
set_option maxHeartbeats 1000000 in
theorem cConcat (w : World) (v : Value) (L : List (Value × List Int)) (h : Parts w v L) (hl : (L.length : Int) ≤ 1000) (hn : ((catL L).length : Int) ≤ 1099511627776) : Calls Tryz.prog 132 #[v] w fun e w' =>
    ∃ v', e = .returned v' ∧ w'.ownsRow w.heap.size 5 1 v' (catL L).length (u8s (catL L)) ∧ Below w.heap.size w w' := by
  obtain ⟨i0, hi', hz0, hz1, hz2⟩ := info_parts infoU8
  obtain ⟨a, c, rfl, -⟩ := id h
  have HP := Lib.hid h
  clear h
  obtain ⟨ln, hln⟩ : ∃ ln, L.length = ln := ⟨_, rfl⟩
  have HLN := Lib.hid hln
  rw [hln] at hl HP ⊢
  clear hln
  have hle := fun k => catL_le L k
  obtain ⟨tot, htot⟩ : ∃ t, (catL L).length = t := ⟨_, rfl⟩
  have HTOT := Lib.hid htot
  rw [htot] at hn hle ⊢
  have HLE := Lib.hid hle
  clear htot hle
  go_enter Tryz.func132, Tryz.ntmps132
  go_wp2
  go_loopw [3, 11] (fun z i wr => ∃ k : Nat, (k : Int) ≤ ln ∧ z = .int .i64 ((catL (L.take k)).length : Nat) ∧ i = .int .i64 k ∧ wr = w) (fun _ i _ => ln - (intOf i).toNat)
  case atStart => exact ⟨0, by omega, by simp [catL], rfl, rfl⟩
  case round =>
    obtain ⟨k, hk, rfl, rfl, rfl⟩ := hrel
    by_cases hkl : (k : Int) < ln
    · obtain ⟨p, hp⟩ : ∃ p, L[k]? = some p := ⟨L[k]'(by have := HLN.out; omega), List.getElem?_eq_getElem _⟩
      obtain ⟨a', c', e, h1⟩ := HP.out
      have hc := (h1 k p hp).1
      obtain ⟨hb1, ba, bc, hbe, -⟩ := id (h1 k p hp).2.1
      injection e with e1 e2 e3
      cases e1
      have e3 := e3.symm
      subst e3
      have HT := Lib.hid (congrArg List.length (catL_take hp))
      have HLE1 := HLE.out (k + 1)
      rw [HT.out, List.length_append] at HLE1
      rw [hbe] at hc
      obtain ⟨pl, hpl⟩ : ∃ n, p.2.length = n := ⟨_, rfl⟩
      rw [hpl] at hc HLE1 hb1
      obtain ⟨z, hz⟩ : ∃ z, (catL (L.take k)).length = z := ⟨_, rfl⟩
      rw [hz] at HLE1 ⊢
      have HZ := Lib.hid hz; have HPL := Lib.hid hpl
      clear h1 hp hz hpl e2 hbe
      go_wp2
      go_roundw
      case rel => exact ⟨k + 1, by omega, val_int (by rw [HT.out, List.length_append, HZ.out, HPL.out]; omega), by go_num, by trivial⟩
      case measure => simp [intOf]; omega
    · have hke : k = ln := by omega
      have hz : (catL (L.take k)).length = tot := by rw [List.take_of_length_le (by have := HLN.out; omega)]; exact HTOT.out
      rw [hz]
      subst hke
      clear hz
      go_wp2_with fail
      refine (cGrow _ _ hn).mono ?_
      rintro e w1 ⟨v1, rfl, hown, hB⟩
      have HOW := Lib.hid hown; have HBB := Lib.hid hB
      clear hown hB
      go_wp2_with fail
      obtain ⟨W0, rfl⟩ : ∃ W0 : World, W0 = wr := ⟨_, rfl⟩
      go_loopw [6, 27] (fun o i w2 => ∃ j : Nat, (j : Int) ≤ k ∧ i = .int .i64 j ∧ w2.ownsRow W0.heap.size 5 1 o (catL (L.take j)).length (u8s (catL (L.take j))) ∧ Below W0.heap.size W0 w2) (fun _ i _ => k - (intOf i).toNat)
      case atStart => exact ⟨0, by omega, rfl, HOW.out, HBB.out⟩
      case round =>
        obtain ⟨j, hj, rfl, hown2, hB2⟩ := hrel
        by_cases hjl : (j : Int) < k
        · obtain ⟨p, hp⟩ : ∃ p, L[j]? = some p := ⟨L[j]'(by have := HLN.out; omega), List.getElem?_eq_getElem _⟩
          obtain ⟨a', c', e, h1⟩ := HP.out
          have hc := (h1 j p hp).1
          obtain ⟨ad, pl', pc, hpe⟩ := (h1 j p hp).2.2
          obtain ⟨hb1, ba, bc, hbe, hbx⟩ := id (h1 j p hp).2.1
          rw [hpe] at hbe
          injection hbe with g1 g2 g3
          subst g1 g2 g3
          injection e with e1 e2 e3
          cases e1
          have e3 := e3.symm
          subst e3
          rw [hpe] at hc
          have hc2 := (hB2.cell (p := a.add j) (World.block_lt_of_cell? W0 _ hc)).trans hc
          have hT := catL_take hp
          have hLE1 := HLE.out (j + 1)
          rw [hT, List.length_append] at hLE1
          have hnews : ∀ (i : Nat) (u : Value), (u8s p.2)[i]? = some u → wr.cell? (ad.add i) = some u := fun i u hu => by
            unfold u8s at hu
            rw [List.getElem?_map] at hu
            obtain ⟨x, hx, rfl⟩ := Option.map_eq_some_iff.1 hu
            obtain ⟨-, -, ad', e, hcell⟩ := hbx i x hx
            cases e
            exact (hB2.cell (World.block_lt_of_cell? W0 _ hcell)).trans hcell
          have hall : ∀ u ∈ u8s p.2, u.oneCell' = true := fun u hu => by
            unfold u8s at hu
            obtain ⟨x, _, rfl⟩ := List.mem_map.1 hu
            rfl
          have hul : (u8s p.2).length = p.2.length := by simp [u8s]
          have HNEWS := Lib.hid hnews; have HALL := Lib.hid hall; have HUL := Lib.hid hul; have HT := Lib.hid hT; have HO2 := Lib.hid hown2; have HB2 := Lib.hid hB2
          obtain ⟨pl, hpl⟩ : ∃ n, p.2.length = n := ⟨_, rfl⟩
          obtain ⟨z, hz⟩ : ∃ z, (catL (L.take j)).length = z := ⟨_, rfl⟩
          have hBs := hB2.size
          rw [hpl] at hc2 hLE1 HUL
          rw [hz] at hLE1 HO2
          have HPL := Lib.hid hpl; have HZ := Lib.hid hz
          clear hnews hall hul hT hown2 hB2 h1 hp hc hbx e2 hb1 hpl hz hpe
          go_wp2_with (at_builtin; refine wpList_append_own_at _ rfl _ _ 42 rfl W0.heap.size 5 i0 (.int .u8 0) 1 1 Tryz.underlying42 hi' hz0 hz1 hz2 rfl (by decide) _ z _ rfl HO2.out ad pl _ (u8s p.2) rfl (by rw [HUL.out, Nat.mul_one]) HNEWS.out HALL.out (by unfold maxLen; omega) (by omega) hBs ?_; intro v' w5 hown' hgrow _ _)
          go_roundw
          case rel =>
            refine ⟨j + 1, by omega, by go_num, ?_, HB2.out.grown hgrow hBs (fun r hr => (HO2.out.lt r hr).1)⟩
            rw [HT.out, List.length_append, HZ.out, HPL.out]
            unfold u8s at hown' ⊢
            rw [List.map_append]
            exact hown'
          case measure => simp [intOf]; omega
        · have hje : j = k := by omega
          subst hje
          rw [List.take_of_length_le (by have := HLN.out; omega), HTOT.out] at hown2
          go_wp2_with fail
          go_ret
          exact ⟨_, rfl, hown2, hB2⟩
end Go.Proofs.YtlniekobijcanaaGreat
namespace Go.Proofs.YtlniekobijcanaaGreat
open Go.RowKit
def Stp (TS : Nat → Prop) (w w' : World) (TS' : Nat → Prop) : Prop := Fr TS w w' ∧ ∀ b, TS' b → TS b ∨ w.heap.size ≤ b
section
variable {w w' : World} {TS : Nat → Prop}
theorem Stp.refl (h : Fr (fun _ => False) w w') : Stp TS w w' TS := ⟨h.mono (fun _ _ e => e.elim), fun _ e => .inl e⟩
theorem Stp.low {TS TS' : Nat → Prop} {w w' : World} {n : Nat} (hs : Stp TS w w' TS') (hT : ∀ b, TS b → n ≤ b) (hn : n ≤ w.heap.size) : ∀ b, TS' b → n ≤ b := fun b hb => by
  rcases hs.2 b hb with h | h
  · exact hT b h
  · omega
theorem Stp.fr {TS TS' : Nat → Prop} {w0 w w' : World} {n : Nat} (hs : Stp TS w w' TS') (hf : Fr (fun b => n ≤ b) w0 w) (hT : ∀ b, TS b → n ≤ b) : Fr (fun b => n ≤ b) w0 w' := hf.trans' hs.1 (fun b _ e => hT b e)
theorem Stp.trans {TS TS' TS'' : Nat → Prop} {w w' w'' : World} (h : Stp TS w w' TS') (h' : Stp TS' w' w'' TS'') : Stp TS w w'' TS'' :=
  ⟨h.1.trans' h'.1 (fun b hb e => (h.2 b e).elim id (fun e => by omega)), fun b hb => by
    rcases h'.2 b hb with e | e
    · exact h.2 b e
    · exact .inr (Nat.le_trans h.1.size e)⟩
end
end Go.Proofs.YtlniekobijcanaaGreat
namespace Go.Proofs.YtlniekobijcanaaGreat
open Go.RowKit Go.Maps
/-- A maker that holds bs. -/
structure MK (w : World) (g : Nat) (TS : Nat → Prop) (bs : List Int) (long : Bool) : Prop where
  ex : ∃ v, w.heap[g]? = some (.cells #[v, .bool long] 150) ∧ w.ownsRow 0 5 1 v bs.length (u8s bs) ∧ ∀ b, v.ownBlock = some b → TS b ∧ b ≠ g
  own : TS g
  lt : ∀ b, TS b → b < w.heap.size
  len : (bs.length : Int) ≤ 262144
def putB (bs : List Int) (long : Bool) (c : List Int) : List Int := if long = true ∨ 262144 < bs.length + c.length then bs else bs ++ c
def putL (bs : List Int) (long : Bool) (c : List Int) : Bool := long || decide (262144 < bs.length + c.length)
theorem MK.fr {S TS : Nat → Prop} {w w' : World} {g : Nat} {bs : List Int} {long : Bool} (h : MK w g TS bs long) (hf : Fr S w w') (hS : ∀ b, TS b → ¬ S b) : MK w' g TS bs long := by
  obtain ⟨⟨v, h1, h2, h3⟩, h4, h5, h6⟩ := h
  exact ⟨⟨v, hf.at_ h1 (hS _ h4), hf.row h2 (fun b hb => hS _ (h3 b hb).1), h3⟩, h4, fun b hb => Nat.lt_of_lt_of_le (h5 b hb) hf.size, h6⟩
set_option maxRecDepth 100000 in
theorem cMNew (w : World) : Calls Tryz.prog 71 #[] w fun e w' => e = .returned (.pointer (some ⟨w.heap.size, 0, none⟩)) ∧ MK w' w.heap.size (fun b => b = w.heap.size) [] false ∧ Fr (fun _ => False) w w' := by
  go_enter Tryz.func71, Tryz.ntmps71
  go_wp2
  go_ret
  exact ⟨rfl, ⟨⟨_, heap_new _ _, World.ownsRow_nil _ _ _ _, fun b hb => by cases hb⟩, rfl, fun b hb => by simp [hb], by simp⟩, (Fr.refl _ _).alloc _⟩
set_option maxRecDepth 100000 in
set_option maxHeartbeats 1000000 in
theorem cPut (w : World) (g : Nat) (TS : Nat → Prop) (bs : List Int) (long : Bool) (v : Value) (L : List (Value × List Int)) (h : MK w g TS bs long) (hP : Parts w v L) (hl : (L.length : Int) ≤ 1000) (hn : ((catL L).length : Int) ≤ 1099511627776) (hn0 : 0 < (catL L).length) :
    Calls Tryz.prog 113 #[.pointer (some ⟨g, 0, none⟩), v] w fun e w' => e = .returned (.pointer (some ⟨g, 0, none⟩)) ∧ ∃ TS', MK w' g TS' (putB bs long (catL L)) (putL bs long (catL L)) ∧ Stp TS w w' TS' := by
  obtain ⟨i0, hi', hz0, hz1, hz2⟩ := info_parts infoU8
  go_enter Tryz.func113, Tryz.ntmps113
  go_wp2_with fail
  refine (cConcat w v L hP hl hn).mono ?_
  rintro e w1 ⟨v', rfl, hown, hB⟩
  obtain ⟨g', cap, rfl, hg', hlt'⟩ := hown.form hn0
  have hM := h.fr (Fr.below hB) (fun _ _ h => h)
  obtain ⟨⟨vm, h1, h2, h3⟩, h4, h5, h6⟩ := id hM
  have hgw : g < w.heap.size := h.lt g h.own
  have HLT := Lib.hid h.lt; have HGO := Lib.hid h4
  obtain ⟨am, cm, rfl⟩ : ∃ a c, vm = .slice a bs.length c := by
    rcases h2.2 with ⟨e1, e2⟩ | ⟨_, _, _, e1, _⟩
    · exact ⟨_, _, by rw [e1, e2]⟩
    · exact ⟨_, _, e1⟩
  have b0 := cell_obj h1 0 (.slice am bs.length cm) rfl
  have b1 := cell_obj h1 1 (.bool long) rfl
  have f0 := obj_frozen h1 0
  have f1 := obj_frozen h1 1
  obtain ⟨n, hn1⟩ : ∃ n, bs.length = n := ⟨_, rfl⟩
  obtain ⟨k, hk1⟩ : ∃ k, (catL L).length = k := ⟨_, rfl⟩
  rw [hn1] at b0 h6
  rw [hk1] at hn hn0 ⊢
  have HM := Lib.hid hM; have HN := Lib.hid hn1; have HK := Lib.hid hk1; have HB := Lib.hid hB; have HO := Lib.hid hown; have H1 := Lib.hid h1; have H2 := Lib.hid h2; have H3 := Lib.hid h3
  clear h hM h1 h2 h3 h4 h5 hn1 hk1 hB hown hP hl
  have hlong : ∀ (bs' : List Int), (bs'.length : Int) ≤ 262144 → bs' = bs → ∃ TS', MK (w1.setCell ⟨g, 1, none⟩ (.bool true)) g TS' bs' true ∧ Stp TS w (w1.setCell ⟨g, 1, none⟩ (.bool true)) TS' := by
    rintro bs' h1 rfl
    have hF : Fr (fun b => b = g) w1 (w1.setCell ⟨g, 1, none⟩ (.bool true)) := (Fr.refl (fun b => b = g) w1).setCell (p := ⟨g, 1, none⟩) (fun _ => rfl) _
    exact ⟨TS, ⟨⟨_, obj_set H1.out 1 (.bool true), hF.row H2.out (fun b hb => (H3.out b hb).2), H3.out⟩, HGO.out, fun b hb => by have := HLT.out b hb; have := HB.out.size; have := hF.size; omega, h1⟩,
      ((Fr.below HB.out).mono (S := fun _ => False) (S' := TS) (fun _ _ h => h.elim)).trans' hF (fun b _ e => e ▸ HGO.out), fun b hb => .inl hb⟩
  have HLONG := Lib.hid hlong
  clear hlong
  cases long with
  | true =>
    go_wp2_with fail
    go_ret
    have e1 : putB bs true (catL L) = bs := by simp [putB]
    have e2 : putL bs true (catL L) = true := by simp [putL]
    rw [e1, e2]
    exact ⟨rfl, HLONG.out bs (by have := HN.out; omega) rfl⟩
  | false =>
    by_cases ho : 262144 - (n : Int) < k
    · go_wp2_with fail
      go_ret
      have hov : 262144 < bs.length + (catL L).length := by have := HN.out; have := HK.out; omega
      have e1 : putB bs false (catL L) = bs := by simp [putB, hov]
      have e2 : putL bs false (catL L) = true := by simp [putL, hov]
      rw [e1, e2]
      exact ⟨rfl, HLONG.out bs (by have := HN.out; omega) rfl⟩
    · have hno : ¬ 262144 < bs.length + (catL L).length := by have := HN.out; have := HK.out; omega
      have e1 : putB bs false (catL L) = bs ++ catL L := by simp [putB, hno]
      have e2 : putL bs false (catL L) = false := by simp [putL, hno]
      have HE1 := Lib.hid e1; have HE2 := Lib.hid e2; have HNO := Lib.hid hno
      clear HLONG e1 e2 hno
      have hd : decide (262144 - (n : Int) < k) = false := by simpa using ho
      have hF : Fr (fun b => b = g) w1 (w1.setCell ⟨g, 1, none⟩ (.bool false)) := (Fr.refl (fun b => b = g) w1).setCell (p := ⟨g, 1, none⟩) (fun _ => rfl) _
      have hG := obj_set H1.out 1 (.bool false)
      have hrow := hF.row H2.out (fun b hb => (H3.out b hb).2)
      have hrowc := hF.row HO.out (fun b hb => by cases hb; show ¬ g' = g; omega)
      have hnews : ∀ (i : Nat) (u : Value), (u8s (catL L))[i]? = some u → (w1.setCell ⟨g, 1, none⟩ (.bool false)).cell? ((⟨g', 0, none⟩ : Addr).add i) = some u := fun i u hu => by
        have hi := (List.getElem?_eq_some_iff.1 hu).1
        have := hrowc.cellAt (g := g') (j := i) (by simpa [u8s] using hi)
        rw [show (⟨g', 0, none⟩ : Addr).add i = ⟨g', i, none⟩ by simp [Addr.add]; omega, this]
        exact hu
      have hall : ∀ u ∈ u8s (catL L), u.oneCell' = true := fun u hu => by
        unfold u8s at hu
        obtain ⟨x, _, rfl⟩ := List.mem_map.1 hu
        rfl
      have hul : (u8s (catL L)).length = k * 1 := by have := HK.out; simp [u8s]; exact this
      have HNEWS := Lib.hid hnews; have HALL := Lib.hid hall; have HUL := Lib.hid hul; have HROW := Lib.hid hrow; have HG := Lib.hid hG; have HF := Lib.hid hF
      rw [HN.out] at HROW
      clear hnews hall hul hrow hG hF hrowc ho
      have c0 := cell_obj HG.out 0 (.slice am n cm) (by rw [← HN.out]; rfl)
      have h3 := H3.out
      rw [HN.out] at h3
      have HNB := Lib.hid h3
      clear h3
      go_wp2_with (at_builtin; refine wpList_append_own_at _ rfl _ _ 42 rfl 0 5 i0 (.int .u8 0) 1 1 Tryz.underlying42 hi' hz0 hz1 hz2 rfl (by decide) (.slice am n cm) n (u8s bs) rfl HROW.out ⟨g', 0, none⟩ k _ (u8s (catL L)) rfl HUL.out HNEWS.out HALL.out (by unfold maxLen; omega) (by omega) (Nat.zero_le _) ?_; intro v' w5 hown' hgrow _ hat; obtain ⟨g5, cap5, rfl, -, hl5⟩ := hown'.form (by omega); have hG5 := (hgrow.block g (Array.getElem?_eq_some_iff.1 HG.out).1 (fun e => (HNB.out g e.symm).2 rfl)).trans HG.out; have c5 := cell_obj hG5 0 (.slice am n cm) (by rw [← HN.out]; rfl); have f5 := obj_frozen hG5 0)
      go_ret
      rw [HE1.out, HE2.out]
      have hs1 : (w1.setCell ⟨g, 1, none⟩ (.bool false)).heap.size = w1.heap.size := by simp [World.setCell]
      have hat2 : TS g5 ∧ g5 ≠ g ∨ g5 = w1.heap.size := by
        rcases hat with e | e
        · exact .inl (HNB.out g5 e.symm)
        · rw [hs1] at e; exact .inr (by injection e)
      have hBs := HB.out.size
      have hne : g5 ≠ g := by
        rcases hat2 with e | e
        · exact e.2
        · omega
      have hF6 : Fr (fun b => b = g) w5 (w5.setCell ⟨g, 0, none⟩ (.slice (some ⟨g5, 0, none⟩) (n + k) cap5)) := (Fr.refl (fun b => b = g) w5).setCell (p := ⟨g, 0, none⟩) (fun _ => rfl) _
      have hs5 := hgrow.size
      have hs6 := hF6.size
      refine ⟨rfl, fun b => TS b ∨ b = g5, ⟨⟨_, obj_set hG5 0 _, ?_, fun b hb => ?_⟩, .inl HGO.out, ?_, ?_⟩, ?_, ?_⟩
      · have hl : (bs ++ catL L).length = n + k := by rw [List.length_append, HN.out, HK.out]
        rw [hl]
        unfold u8s at hown' ⊢
        rw [List.map_append]
        exact hF6.row hown' (fun b hb => by cases hb; exact hne)
      · cases hb; exact ⟨.inr rfl, hne⟩
      · rintro b (hb | rfl)
        · have := HLT.out b hb; omega
        · omega
      · have := HNO.out; rw [List.length_append]; omega
      · refine ((((Fr.below HB.out).mono (S := fun _ => False) (S' := TS) (fun _ _ h => h.elim)).trans' HF.out (fun b _ e => e ▸ HGO.out)).trans' (Fr.grown (S := fun b => TS b) hgrow (fun r hr _ => (HNB.out r hr).1)) (fun b _ e => e)).trans' hF6 (fun b _ e => e ▸ HGO.out)
      · rintro b (hb | rfl)
        · exact .inl hb
        · rcases hat2 with e | e
          · exact .inl e.1
          · exact .inr (by omega)
end Go.Proofs.YtlniekobijcanaaGreat
namespace Go.Proofs.YtlniekobijcanaaGreat
open Go.RowKit Go.Maps
theorem Bs.at0 {w : World} {v : Value} {bs : List Int} (h : Bs w v bs) (h0 : 0 < bs.length) : ∃ ad c, v = .slice (some ad) bs.length c := by
  obtain ⟨_, a, c, e, h1⟩ := h
  obtain ⟨x, hx⟩ : ∃ x, bs[0]? = some x := ⟨bs[0], List.getElem?_eq_getElem h0⟩
  obtain ⟨_, _, ad, ea, _⟩ := h1 0 x hx
  exact ⟨ad, c, by rw [e, ea]⟩
theorem Parts.one {w : World} {v : Value} {bs : List Int} {B : Nat} (h : Bn B w v bs) (h0 : 0 < bs.length) (b : Nat) (hb : b = w.heap.size) : Parts (w.alloc (.cells #[v] 42)) (.slice (some ⟨b, 0, none⟩) 1 1) [(v, bs)] := by
  subst hb
  obtain ⟨ad, c, e⟩ := h.1.at0 h0
  refine ⟨_, _, rfl, fun i p hp => ?_⟩
  match i, hp with
  | 0, hp =>
    cases hp
    refine ⟨?_, h.1.fr ((Fr.refl (fun _ => False) _).alloc _) (fun _ h => h.elim), ad, _, c, e⟩
    exact cell_obj (heap_new _ _) 0 v rfl
set_option maxRecDepth 100000 in
theorem cMNum (w : World) (g : Nat) (TS : Nat → Prop) (bs : List Int) (long : Bool) (n : Int) (h : MK w g TS bs long) (hn : okI n) :
    Calls Tryz.prog 72 #[.pointer (some ⟨g, 0, none⟩), .int .i64 n] w fun e w' => e = .returned (.pointer (some ⟨g, 0, none⟩)) ∧ ∃ TS', MK w' g TS' (putB bs long (numB n)) (putL bs long (numB n)) ∧ Stp TS w w' TS' := by
  have hl := numB_len hn
  go_enter Tryz.func72, Tryz.ntmps72
  go_wp2_with fail
  refine (cNum w n hn).mono ?_
  rintro e w1 ⟨v, rfl, hb, hB⟩
  obtain ⟨ad, c, rfl⟩ := hb.1.at0 (by omega)
  have hP := Parts.one hb (by omega) w1.heap.size rfl
  have hF : Fr (fun _ => False) w (w1.alloc (.cells #[.slice (some ad) (numB n).length c] 42)) := ((Fr.below hB).mono (fun _ _ h => h)).alloc _
  have hM := h.fr hF (fun _ _ h => h)
  have hcat : catL [(Value.slice (some ad) (numB n).length c, numB n)] = numB n := by simp [catL]
  have HP := Lib.hid hP; have HM := Lib.hid hM; have HF := Lib.hid hF; have HC := Lib.hid hcat; have HL := Lib.hid hl
  clear hb hP hM hF hcat hB h hl
  go_wp2_with fail
  refine (cPut _ g TS bs long _ _ HM.out HP.out (by simp) (by rw [HC.out]; have := HL.out; omega) (by rw [HC.out]; have := HL.out; omega)).mono ?_
  rw [HC.out]
  rintro e w2 ⟨rfl, TS', hM2, hs⟩
  go_wp2_with fail
  go_ret
  exact ⟨rfl, TS', hM2, (Stp.refl HF.out).trans hs⟩
set_option maxRecDepth 100000 in
theorem cClone (w : World) (v : Value) (bs : List Int) (h : Bs w v bs) (hl : (bs.length : Int) ≤ 140737488351232) : Calls Tryz.prog 103 #[v] w fun e w' =>
    ∃ v', e = .returned v' ∧ w'.ownsRow w.heap.size 5 1 v' bs.length (u8s bs) ∧ Below w.heap.size w w' := by
  obtain ⟨i0, hi', hz0, hz1, hz2⟩ := info_parts infoU8
  obtain ⟨hb1, a, c, rfl, hbx⟩ := id h
  obtain ⟨n, hn⟩ : ∃ n, bs.length = n := ⟨_, rfl⟩
  have HN := Lib.hid hn
  rw [hn] at hl hb1 ⊢
  clear hn
  have hq := fun (w : World) (a : Option Addr) (n c n' c' : Nat) => Lib.run_eql_slice_nil (P := Tryz.prog) w 42 _ a n c n' c' Tryz.underlying42
  cases a with
  | none =>
    have h0 : n = 0 := by
      rcases Nat.eq_zero_or_pos n with h0 | h0
      · exact h0
      · obtain ⟨ad, c', e⟩ := h.at0 (by have := HN.out; omega)
        injection e with e _ _; cases e
    subst h0
    have hbe : bs = [] := List.eq_nil_of_length_eq_zero HN.out
    subst hbe
    clear h hbx
    go_enter Tryz.func103, Tryz.ntmps103
    go_wp2_with fail
    go_ret
    exact ⟨_, rfl, World.ownsRow_nil _ _ _ _, Below.refl _ _⟩
  | some ad =>
    have hown : (w.alloc (.cells #[] 5)).ownsRow w.heap.size 5 1 (.slice (some ⟨w.heap.size, 0, none⟩) 0 0) 0 [] := World.ownsRow_made w #[] 0 (Nat.le_refl _) (Nat.zero_le _) rfl
    have hnews : ∀ (i : Nat) (u : Value), (u8s bs)[i]? = some u → (w.alloc (.cells #[] 5)).cell? (ad.add i) = some u := fun i u hu => by
      unfold u8s at hu
      rw [List.getElem?_map] at hu
      obtain ⟨x, hx, rfl⟩ := Option.map_eq_some_iff.1 hu
      obtain ⟨-, -, ad', e, hcell⟩ := hbx i x hx
      cases e
      exact ((Fr.refl (fun _ => False) w).alloc _).cell hcell (fun h => h)
    have hall : ∀ u ∈ u8s bs, u.oneCell' = true := fun u hu => by
      unfold u8s at hu
      obtain ⟨x, _, rfl⟩ := List.mem_map.1 hu
      rfl
    have hul : (u8s bs).length = n * 1 := by have := HN.out; simp [u8s]; exact this
    have HNEWS := Lib.hid hnews; have HALL := Lib.hid hall; have HUL := Lib.hid hul; have HO := Lib.hid hown
    clear hnews hall hul hown hbx h
    go_enter Tryz.func103, Tryz.ntmps103
    go_wp2_with (at_builtin; refine wpList_append_own_at _ rfl _ _ 42 rfl w.heap.size 5 i0 (.int .u8 0) 1 1 Tryz.underlying42 hi' hz0 hz1 hz2 rfl (by decide) (.slice (some ⟨w.heap.size, 0, none⟩) 0 0) 0 [] rfl HO.out ad n _ (u8s bs) rfl HUL.out HNEWS.out HALL.out (by unfold maxLen; omega) (by omega) (by simp) ?_; intro v' w5 hown' hgrow _ hat)
    go_ret
    refine ⟨_, rfl, by simpa using hown', ((Below.refl _ w).alloc (Nat.le_refl _) _).grown hgrow (by simp) (fun r hr => by cases hr; exact Nat.le_refl _)⟩
/-- A maker's end: its bytes anew, or an error. -/
theorem cMDone (w : World) (g : Nat) (TS : Nat → Prop) (bs : List Int) (long : Bool) (h : MK w g TS bs long) (hb : ∀ x ∈ bs, 0 ≤ x ∧ x < 256) :
    Calls Tryz.prog 74 #[.pointer (some ⟨g, 0, none⟩)] w fun e w' => Below w.heap.size w w' ∧ ∃ v, e = .returned (.tuple #[v, .int .i64 (if long then 3 else 0)]) ∧ w'.ownsRow w.heap.size 5 1 v (if long then [] else bs).length (u8s (if long then [] else bs)) := by
  obtain ⟨⟨vm, h1, h2, h3⟩, h4, h5, h6⟩ := id h
  obtain ⟨am, cm, rfl⟩ : ∃ a c, vm = .slice a bs.length c := by
    rcases h2.2 with ⟨e1, e2⟩ | ⟨_, _, _, e1, _⟩
    · exact ⟨_, _, by rw [e1, e2]⟩
    · exact ⟨_, _, e1⟩
  have hBs := (Bs.own h2 hb).1
  have hC := cClone w _ _ hBs (by omega)
  have b0 := cell_obj h1 0 (.slice am bs.length cm) rfl
  have b1 := cell_obj h1 1 (.bool long) rfl
  have HC := Lib.hid hC
  clear h hC hBs h2 h3 hb h4 h5 h1
  cases long with
  | true =>
    go_enter Tryz.func74, Tryz.ntmps74
    go_wp2_with fail
    go_returns
    exact ⟨Below.refl _ _, _, rfl, World.ownsRow_nil _ _ _ _⟩
  | false =>
    go_enter Tryz.func74, Tryz.ntmps74
    go_wp2_with fail
    refine HC.out.mono ?_
    rintro e w1 ⟨v, rfl, hown, hB⟩
    go_wp2_with fail
    go_returns
    exact ⟨hB, v, rfl, hown⟩
end Go.Proofs.YtlniekobijcanaaGreat
namespace Go.Proofs.YtlniekobijcanaaGreat
open Go.RowKit Go.Maps
set_option maxRecDepth 100000 in
theorem Bs.string {w : World} {v : Value} {bs : List Int} (h : Bs w v bs) : (convert 42 9 v).run Tryz.prog w = .ok (.string (strOfNums bs)) w := by
  rcases Nat.eq_zero_or_pos bs.length with h0 | h0
  · have : bs = [] := List.eq_nil_of_length_eq_zero h0
    subst this
    obtain ⟨_, a, c, rfl, _⟩ := h
    cases a with
    | none => exact run_convert_bytes_nil w 42 5 Tryz.underlying42 Tryz.underlying5 _ _ _ Tryz.underlying9
    | some ad =>
      rw [run_convert_bytes_string w 42 9 5 _ _ _ Tryz.underlying42 Tryz.underlying5 Tryz.underlying9]
      have := run_loadCells_list (P := Tryz.prog) w ad [] (fun j v hj => by simp at hj)
      rw [List.length_nil, run_bytesToString w ad 0 c [] (by simpa using this)]
      rfl
  · obtain ⟨ad, c, rfl⟩ := h.at0 h0
    obtain ⟨_, a, c', e, hx⟩ := h
    injection e with e1 _ _
    subst e1
    rw [run_convert_bytes_string w 42 9 5 _ _ _ Tryz.underlying42 Tryz.underlying5 Tryz.underlying9]
    have := run_loadCells_list (P := Tryz.prog) w ad (bs.map (Value.int .u8)) (fun j v hj => by
      rw [List.getElem?_map] at hj
      obtain ⟨x, hx2, rfl⟩ := Option.map_eq_some_iff.1 hj
      obtain ⟨_, _, ad', e, hc⟩ := hx j x hx2
      cases e; exact hc)
    rw [run_bytesToString w ad bs.length c bs (by simpa using this), foldl_push_bytes]
    simp [strOfNums, ByteArray.empty, ByteArray.emptyWithCapacity]
    rfl
theorem strOf_inj {x y : List Int} (hx : ∀ b ∈ x, 0 ≤ b ∧ b < 256) (hy : ∀ b ∈ y, 0 ≤ b ∧ b < 256) (h : strOfNums x = strOfNums y) : x = y := by
  have h1 : x.map (fun n => UInt8.ofNat n.toNat) = y.map (fun n => UInt8.ofNat n.toNat) := by rw [← strOfNums_data, ← strOfNums_data, h]
  induction x generalizing y with
  | nil => cases y with
    | nil => rfl
    | cons b r => simp at h1
  | cons a r ih => cases y with
    | nil => simp at h1
    | cons b s =>
      simp only [List.map_cons, List.cons.injEq] at h1
      have ha := hx a (by simp)
      have hb := hy b (by simp)
      have e := congrArg UInt8.toNat h1.1
      rw [UInt8.toNat_ofNat', UInt8.toNat_ofNat'] at e
      have : a = b := by omega
      rw [this, ih (fun z hz => hx z (by simp [hz])) (fun z hz => hy z (by simp [hz])) ?_ h1.2]
      unfold strOfNums
      rw [h1.2]
theorem strNe {a b : ByteArray} (h : a ≠ b) : (a.toList == b.toList) = false := by
  have : a.toList ≠ b.toList := fun e => by
    rw [ByteArray.toList_eq, ByteArray.toList_eq] at e
    apply h
    cases a; cases b
    simp only [ByteArray.mk.injEq]
    exact Array.toList_inj.1 e
  simpa using this
theorem Bs.take {w : World} {a : Option Addr} {n c k : Nat} {bs : List Int} (h : Bs w (.slice a n c) bs) (hk : k ≤ n) : Bs w (.slice a k c) (bs.take k) := by
  obtain ⟨h0, a', c', e, hx⟩ := h
  injection e with e1 e2 e3
  subst e1 e3
  have hl : (bs.take k).length = k := by rw [List.length_take]; omega
  refine ⟨by omega, a, c, by rw [hl], fun i x hi => ?_⟩
  rw [List.getElem?_take] at hi
  split at hi
  · exact hx i x hi
  · cases hi
end Go.Proofs.YtlniekobijcanaaGreat
namespace Go.Proofs.YtlniekobijcanaaGreat
open Go.RowKit Go.Maps
def dSize (h : Int) : Int := if 144 ≤ h then h - 144 else h - 128
def dTurn (h : Int) : Int := if 144 ≤ h then 18446744073709551615 else 0
def dStep (u c : Int) : Int := bits .or .u64 (IntKind.u64.wrap (u * 256)) c
def dU (l : List Int) : Int := l.foldl dStep 0
def dN (h : Int) (l : List Int) : Int := wrap64 (bits .xor .u64 (dU l) (dTurn h))
/-- The number with whose cell bytes begin. -/
def firstB (bs : List Int) : Option (Int × Nat) :=
  match bs with
  | [] => none
  | h :: r => if h < 128 then some (h, 1) else if 8 < dSize h ∨ (r.length : Int) < dSize h then none
    else if numB (dN h (r.take (dSize h).toNat)) = h :: r.take (dSize h).toNat then some (dN h (r.take (dSize h).toNat), 1 + (dSize h).toNat) else none
theorem dU_succ {l : List Int} {k : Nat} {x : Int} (h : l[k]? = some x) : dU (l.take (k + 1)) = dStep (dU (l.take k)) x := by
  unfold dU
  rw [List.take_add_one, h, List.foldl_append]; rfl
def firstV (o : Option (Int × Nat)) : Value := match o with
  | some (n, k) => .tuple #[.int .i64 n, .int .i64 k, .int .i64 0]
  | none => .tuple #[.int .i64 0, .int .i64 0, .int .i64 10]
set_option maxRecDepth 100000 in
set_option maxHeartbeats 4000000 in
theorem cFirst (w : World) (v : Value) (bs : List Int) (h : Bs w v bs) (hcap : ∀ a n c, v = .slice a n c → n ≤ c) : Calls Tryz.prog 105 #[v] w fun e w' => e = .returned (firstV (firstB bs)) ∧ Below w.heap.size w w' := by
  obtain ⟨hlen, a, c, rfl, hx⟩ := id h
  cases bs with
  | nil =>
    clear h hx
    unfold firstB firstV
    dsimp only
    go_enter Tryz.func105, Tryz.ntmps105
    go_wp2
    go_returns
    exact ⟨rfl, Below.refl _ _⟩
  | cons hd r =>
    obtain ⟨h0, h1, ad, rfl, hc⟩ := hx 0 hd rfl
    have hc0 : w.cell? ad = some (.int .u8 hd) := by have := hc; unfold Addr.add at this; simpa using this
    obtain ⟨n, hn⟩ : ∃ n, r.length = n := ⟨_, rfl⟩
    have HN := Lib.hid hn
    have hl : (hd :: r).length = n + 1 := by rw [List.length_cons, hn]
    rw [hl] at hlen h ⊢
    by_cases hs : hd < 128
    · have e : firstB (hd :: r) = some (hd, 1) := by simp [firstB, hs]
      rw [e]
      unfold firstV
      dsimp only
      clear hx h hl hn e
      go_enter Tryz.func105, Tryz.ntmps105
      go_wp2
      go_returns
      exact ⟨rfl, Below.refl _ _⟩
    · have hcn : n + 1 ≤ c := by rw [← hl]; exact hcap _ _ _ (by rw [hl])
      have hbyte : ∀ x ∈ r, 0 ≤ x ∧ x < 256 := fun x hxr => by
        obtain ⟨i, hi, rfl⟩ := List.getElem_of_mem hxr
        obtain ⟨z0, z1, _⟩ := hx (i + 1) r[i] (by simp)
        exact ⟨z0, z1⟩
      have hcell : ∀ (i : Nat) (x : Int), r[i]? = some x → w.cell? (ad.add (1 + i)) = some (.int .u8 x) := fun i x hi => by
        obtain ⟨_, _, ad', e, hc⟩ := hx (i + 1) x (by simpa using hi)
        cases e
        rw [Nat.add_comm]; exact hc
      have HB := Lib.hid hbyte; have HC := Lib.hid hcell; have HH := Lib.hid h
      obtain ⟨S, hS⟩ : ∃ S, dSize hd = S := ⟨_, rfl⟩
      obtain ⟨T, hT⟩ : ∃ T, dTurn hd = T := ⟨_, rfl⟩
      have HS := Lib.hid hS; have HT := Lib.hid hT
      have hS0 : 0 ≤ S := by rw [← hS]; unfold dSize; split <;> omega
      by_cases hbad : 8 < S ∨ (n : Int) < S
      · have e : firstB (hd :: r) = none := by
          have := HN.out
          simp only [firstB, hs, if_false, hS]
          rw [if_pos (by rw [this]; exact hbad)]
        rw [e]
        unfold firstV
        dsimp only
        clear hbyte hcell hx h hl hn e hT hcap
        rcases (by omega : 8 < S ∨ S ≤ 8 ∧ (n : Int) < S) with hb1 | ⟨hb1, hb2⟩ <;> rcases (by omega : 144 ≤ hd ∨ hd < 144) with hh | hh
        all_goals
          first
          | (have hSe : S = hd - 144 := by rw [← hS]; unfold dSize; rw [if_pos hh])
          | (have hSe : S = hd - 128 := by rw [← hS]; unfold dSize; rw [if_neg (by omega)])
          clear hS hbad
          subst hSe
          go_enter Tryz.func105, Tryz.ntmps105
          go_wp2
          go_returns
          exact ⟨rfl, Below.refl _ _⟩
      · obtain ⟨m, rfl⟩ : ∃ m : Nat, S = m := ⟨S.toNat, by omega⟩
        have hm8 : (m : Int) ≤ 8 := by omega
        have hmn : (m : Int) ≤ n := by omega
        have e : firstB (hd :: r) = if numB (dN hd (r.take m)) = hd :: r.take m then some (dN hd (r.take m), 1 + m) else none := by
          have := HN.out
          simp only [firstB, hs, if_false, hS, Int.toNat_natCast]
          rw [if_neg (by rw [this]; exact hbad)]
        obtain ⟨N, hN⟩ : ∃ N, dN hd (r.take m) = N := ⟨_, rfl⟩
        have hdn : wrap64 (bits .xor .u64 (dU (r.take m)) T) = N := by rw [← hN]; unfold dN; rw [hT]
        have hNk : okI N := by rw [← hN]; unfold dN wrap64 okI; omega
        rw [e, hN]
        have HDN := Lib.hid hdn; have HNK := Lib.hid hNk
        clear hN hNk
        have hl8 : ((r.take m).length : Nat) = m := by rw [List.length_take]; have := HN.out; omega
        have HL8 := Lib.hid hl8
        clear e hdn hx hbyte hcell hl8
        have htake : ∀ (h' : Int), Bs w (.slice (some ad) (n + 1) c) (h' :: r) → Bs w (.slice (some ad) (1 + m) c) (h' :: r.take m) := fun h' hb => by
          have := hb.take (k := 1 + m) (by omega)
          rw [Nat.add_comm 1 m, List.take_succ_cons] at this
          rw [Nat.add_comm 1 m]; exact this
        have HTK := Lib.hid (htake hd h)
        clear htake
        have hbytes : ∀ x ∈ hd :: r.take m, 0 ≤ x ∧ x < 256 := fun x hx => by
          rcases List.mem_cons.1 hx with rfl | hx
          · exact ⟨h0, h1⟩
          · exact HB.out x (List.mem_of_mem_take hx)
        have hiff : strOfNums (numB N) = strOfNums (hd :: r.take m) ↔ numB N = hd :: r.take m := ⟨fun e => strOf_inj (fun x hx => numB_mem HNK.out hx) hbytes e, fun e => by rw [e]⟩
        obtain ⟨sa, hsa⟩ : ∃ x, strOfNums (numB N) = x := ⟨_, rfl⟩
        obtain ⟨sb, hsb⟩ : ∃ x, strOfNums (hd :: r.take m) = x := ⟨_, rfl⟩
        rw [hsa, hsb] at hiff
        have HIFF := Lib.hid hiff; have HSA := Lib.hid hsa; have HSB := Lib.hid hsb
        clear hiff hbytes hsa hsb
        rcases (by omega : 144 ≤ hd ∨ hd < 144) with hh | hh
        · have hde : hd = (m : Int) + 144 := by have := hS; unfold dSize at this; rw [if_pos hh] at this; omega
          have hTe : T = 18446744073709551615 := by rw [← hT]; unfold dTurn; rw [if_pos hh]
          clear hS hT HS HT hbad h hn hl hcap
          subst hTe
          subst hde
          by_cases hc1 : c = 1
          · subst hc1
            rcases Decidable.em (sa = sb) with heq | hne
            · skip
              have hv : (if numB N = ((m : Int) + 144) :: r.take m then some (N, 1 + m) else none) = some (N, 1 + m) := if_pos (HIFF.out.1 heq)
              rw [hv]
              clear hv
              subst heq
              unfold firstV
              dsimp only
              go_enter Tryz.func105, Tryz.ntmps105
              go_wp2_with fail
              go_loopw [8, 41] (fun u i wr => ∃ k : Nat, (k : Int) ≤ m ∧ u = .int .u64 (dU (r.take k)) ∧ i = .int .i64 k ∧ wr = w) (fun _ i _ => m - (intOf i).toNat)
              case atStart => exact ⟨0, by omega, rfl, rfl, rfl⟩
              case round =>
                obtain ⟨k, hk, rfl, rfl, rfl⟩ := hrel
                by_cases hkm : (k : Int) < m
                · exact absurd hkm (by omega)
                · have hke : k = m := by omega
                  subst hke
                  clear hkm hk
                  go_wp2_with fail
                  rw [HDN.out]
                  have hc2 := Lib.hid (cNum wr.drew N HNK.out)
                  have hq0 := (HTK.out.fr (Fr.refl (fun _ => False) _).drew (fun _ h => h.elim)).string
                  rw [HSB.out] at hq0
                  have hb1 : (1 : Int) + (k : Int) ≤ 1 := by omega
                  have hb0 : (0 : Int) ≤ 1 + (k : Int) := by omega
                  have hwr : IntKind.i64.wrap (1 + (k : Int)) = 1 + (k : Int) := by rw [IntKind.wrap_i64]; omega
                  have htn : (1 + (k : Int)).toNat = 1 + k := by omega
                  go_region_with (go_at_call 114; refine hc2.out.mono ?_; rintro e w1 ⟨v, rfl, hb, hB⟩; have hv1 := hb.1.string; rw [HSA.out] at hv1; have hq1 := ((HTK.out.fr (Fr.refl (fun _ => False) _).drew (fun _ h => h.elim)).fr (Fr.below (S := fun _ => False) hB) (fun _ h => h.elim)).string; rw [HSB.out] at hq1; have HBB := Lib.hid hB; clear hb hB)
                  all_goals
                    go_wp2_with fail
                    go_returns
                    exact ⟨rfl, ((Below.refl _ _).drew).trans HBB.out⟩
            · skip
              have hv : (if numB N = ((m : Int) + 144) :: r.take m then some (N, 1 + m) else none) = none := if_neg (fun e => hne (HIFF.out.2 e))
              rw [hv]
              clear hv
              have hbne : (sa.toList == sb.toList) = false := strNe hne
              unfold firstV
              dsimp only
              go_enter Tryz.func105, Tryz.ntmps105
              go_wp2_with fail
              go_loopw [8, 41] (fun u i wr => ∃ k : Nat, (k : Int) ≤ m ∧ u = .int .u64 (dU (r.take k)) ∧ i = .int .i64 k ∧ wr = w) (fun _ i _ => m - (intOf i).toNat)
              case atStart => exact ⟨0, by omega, rfl, rfl, rfl⟩
              case round =>
                obtain ⟨k, hk, rfl, rfl, rfl⟩ := hrel
                by_cases hkm : (k : Int) < m
                · exact absurd hkm (by omega)
                · have hke : k = m := by omega
                  subst hke
                  clear hkm hk
                  go_wp2_with fail
                  rw [HDN.out]
                  have hc2 := Lib.hid (cNum wr.drew N HNK.out)
                  have hq0 := (HTK.out.fr (Fr.refl (fun _ => False) _).drew (fun _ h => h.elim)).string
                  rw [HSB.out] at hq0
                  have hb1 : (1 : Int) + (k : Int) ≤ 1 := by omega
                  have hb0 : (0 : Int) ≤ 1 + (k : Int) := by omega
                  have hwr : IntKind.i64.wrap (1 + (k : Int)) = 1 + (k : Int) := by rw [IntKind.wrap_i64]; omega
                  have htn : (1 + (k : Int)).toNat = 1 + k := by omega
                  go_region_with (go_at_call 114; refine hc2.out.mono ?_; rintro e w1 ⟨v, rfl, hb, hB⟩; have hv1 := hb.1.string; rw [HSA.out] at hv1; have hq1 := ((HTK.out.fr (Fr.refl (fun _ => False) _).drew (fun _ h => h.elim)).fr (Fr.below (S := fun _ => False) hB) (fun _ h => h.elim)).string; rw [HSB.out] at hq1; have HBB := Lib.hid hB; clear hb hB)
                  all_goals
                    go_wp2_with fail
                    go_returns
                    exact ⟨rfl, ((Below.refl _ _).drew).trans HBB.out⟩
          · skip
            rcases Decidable.em (sa = sb) with heq | hne
            · skip
              have hv : (if numB N = ((m : Int) + 144) :: r.take m then some (N, 1 + m) else none) = some (N, 1 + m) := if_pos (HIFF.out.1 heq)
              rw [hv]
              clear hv
              subst heq
              unfold firstV
              dsimp only
              go_enter Tryz.func105, Tryz.ntmps105
              go_wp2_with fail
              go_loopw [8, 41] (fun u i wr => ∃ k : Nat, (k : Int) ≤ m ∧ u = .int .u64 (dU (r.take k)) ∧ i = .int .i64 k ∧ wr = w) (fun _ i _ => m - (intOf i).toNat)
              case atStart => exact ⟨0, by omega, rfl, rfl, rfl⟩
              case round =>
                obtain ⟨k, hk, rfl, rfl, rfl⟩ := hrel
                by_cases hkm : (k : Int) < m
                · obtain ⟨x, hx⟩ : ∃ x, r[k]? = some x := ⟨r[k]'(by have := HN.out; omega), List.getElem?_eq_getElem _⟩
                  have hcx := HC.out k x hx
                  obtain ⟨x0, x1⟩ := HB.out x (List.mem_of_getElem? hx)
                  have hcx : wr.cell? ⟨ad.block, ad.off + 1 + k, none⟩ = some (.int .u8 x) := by
                    rw [← hcx]
                    unfold Addr.add
                    rw [if_neg (by omega)]
                    congr 2; omega
                  have HU := Lib.hid (dU_succ hx)
                  generalize dU (r.take k) = u at *
                  clear hx
                  go_wp2
                  go_roundw
                  case rel => exact ⟨k + 1, by omega, by rw [HU.out]; rfl, by go_num, by trivial⟩
                  case measure => simp [intOf]; omega
                · have hke : k = m := by omega
                  subst hke
                  clear hkm hk
                  go_wp2_with fail
                  rw [HDN.out]
                  have hc2 := Lib.hid (cNum wr.drew N HNK.out)
                  have hq0 := (HTK.out.fr (Fr.refl (fun _ => False) _).drew (fun _ h => h.elim)).string
                  rw [HSB.out] at hq0
                  have hb1 : (1 : Int) + (k : Int) ≤ (c : Int) := by omega
                  have hb0 : (0 : Int) ≤ 1 + (k : Int) := by omega
                  have hb3 : ¬ c = 0 := by omega
                  have hwr : IntKind.i64.wrap (1 + (k : Int)) = 1 + (k : Int) := by rw [IntKind.wrap_i64]; omega
                  have htn : (1 + (k : Int)).toNat = 1 + k := by omega
                  go_region_with (go_at_call 114; refine hc2.out.mono ?_; rintro e w1 ⟨v, rfl, hb, hB⟩; have hv1 := hb.1.string; rw [HSA.out] at hv1; have hq1 := ((HTK.out.fr (Fr.refl (fun _ => False) _).drew (fun _ h => h.elim)).fr (Fr.below (S := fun _ => False) hB) (fun _ h => h.elim)).string; rw [HSB.out] at hq1; have HBB := Lib.hid hB; clear hb hB)
                  all_goals
                    go_wp2_with fail
                    go_returns
                    exact ⟨rfl, ((Below.refl _ _).drew).trans HBB.out⟩
            · skip
              have hv : (if numB N = ((m : Int) + 144) :: r.take m then some (N, 1 + m) else none) = none := if_neg (fun e => hne (HIFF.out.2 e))
              rw [hv]
              clear hv
              have hbne : (sa.toList == sb.toList) = false := strNe hne
              unfold firstV
              dsimp only
              go_enter Tryz.func105, Tryz.ntmps105
              go_wp2_with fail
              go_loopw [8, 41] (fun u i wr => ∃ k : Nat, (k : Int) ≤ m ∧ u = .int .u64 (dU (r.take k)) ∧ i = .int .i64 k ∧ wr = w) (fun _ i _ => m - (intOf i).toNat)
              case atStart => exact ⟨0, by omega, rfl, rfl, rfl⟩
              case round =>
                obtain ⟨k, hk, rfl, rfl, rfl⟩ := hrel
                by_cases hkm : (k : Int) < m
                · obtain ⟨x, hx⟩ : ∃ x, r[k]? = some x := ⟨r[k]'(by have := HN.out; omega), List.getElem?_eq_getElem _⟩
                  have hcx := HC.out k x hx
                  obtain ⟨x0, x1⟩ := HB.out x (List.mem_of_getElem? hx)
                  have hcx : wr.cell? ⟨ad.block, ad.off + 1 + k, none⟩ = some (.int .u8 x) := by
                    rw [← hcx]
                    unfold Addr.add
                    rw [if_neg (by omega)]
                    congr 2; omega
                  have HU := Lib.hid (dU_succ hx)
                  generalize dU (r.take k) = u at *
                  clear hx
                  go_wp2
                  go_roundw
                  case rel => exact ⟨k + 1, by omega, by rw [HU.out]; rfl, by go_num, by trivial⟩
                  case measure => simp [intOf]; omega
                · have hke : k = m := by omega
                  subst hke
                  clear hkm hk
                  go_wp2_with fail
                  rw [HDN.out]
                  have hc2 := Lib.hid (cNum wr.drew N HNK.out)
                  have hq0 := (HTK.out.fr (Fr.refl (fun _ => False) _).drew (fun _ h => h.elim)).string
                  rw [HSB.out] at hq0
                  have hb1 : (1 : Int) + (k : Int) ≤ (c : Int) := by omega
                  have hb0 : (0 : Int) ≤ 1 + (k : Int) := by omega
                  have hb3 : ¬ c = 0 := by omega
                  have hwr : IntKind.i64.wrap (1 + (k : Int)) = 1 + (k : Int) := by rw [IntKind.wrap_i64]; omega
                  have htn : (1 + (k : Int)).toNat = 1 + k := by omega
                  go_region_with (go_at_call 114; refine hc2.out.mono ?_; rintro e w1 ⟨v, rfl, hb, hB⟩; have hv1 := hb.1.string; rw [HSA.out] at hv1; have hq1 := ((HTK.out.fr (Fr.refl (fun _ => False) _).drew (fun _ h => h.elim)).fr (Fr.below (S := fun _ => False) hB) (fun _ h => h.elim)).string; rw [HSB.out] at hq1; have HBB := Lib.hid hB; clear hb hB)
                  all_goals
                    go_wp2_with fail
                    go_returns
                    exact ⟨rfl, ((Below.refl _ _).drew).trans HBB.out⟩
        · have hde : hd = (m : Int) + 128 := by have := hS; unfold dSize at this; rw [if_neg (by omega)] at this; omega
          have hTe : T = 0 := by rw [← hT]; unfold dTurn; rw [if_neg (by omega)]
          clear hS hT HS HT hbad h hn hl hcap
          subst hTe
          subst hde
          by_cases hc1 : c = 1
          · subst hc1
            rcases Decidable.em (sa = sb) with heq | hne
            · skip
              have hv : (if numB N = ((m : Int) + 128) :: r.take m then some (N, 1 + m) else none) = some (N, 1 + m) := if_pos (HIFF.out.1 heq)
              rw [hv]
              clear hv
              subst heq
              unfold firstV
              dsimp only
              go_enter Tryz.func105, Tryz.ntmps105
              go_wp2_with fail
              go_loopw [8, 41] (fun u i wr => ∃ k : Nat, (k : Int) ≤ m ∧ u = .int .u64 (dU (r.take k)) ∧ i = .int .i64 k ∧ wr = w) (fun _ i _ => m - (intOf i).toNat)
              case atStart => exact ⟨0, by omega, rfl, rfl, rfl⟩
              case round =>
                obtain ⟨k, hk, rfl, rfl, rfl⟩ := hrel
                by_cases hkm : (k : Int) < m
                · exact absurd hkm (by omega)
                · have hke : k = m := by omega
                  subst hke
                  clear hkm hk
                  go_wp2_with fail
                  rw [HDN.out]
                  have hc2 := Lib.hid (cNum wr.drew N HNK.out)
                  have hq0 := (HTK.out.fr (Fr.refl (fun _ => False) _).drew (fun _ h => h.elim)).string
                  rw [HSB.out] at hq0
                  have hb1 : (1 : Int) + (k : Int) ≤ 1 := by omega
                  have hb0 : (0 : Int) ≤ 1 + (k : Int) := by omega
                  have hwr : IntKind.i64.wrap (1 + (k : Int)) = 1 + (k : Int) := by rw [IntKind.wrap_i64]; omega
                  have htn : (1 + (k : Int)).toNat = 1 + k := by omega
                  go_region_with (go_at_call 114; refine hc2.out.mono ?_; rintro e w1 ⟨v, rfl, hb, hB⟩; have hv1 := hb.1.string; rw [HSA.out] at hv1; have hq1 := ((HTK.out.fr (Fr.refl (fun _ => False) _).drew (fun _ h => h.elim)).fr (Fr.below (S := fun _ => False) hB) (fun _ h => h.elim)).string; rw [HSB.out] at hq1; have HBB := Lib.hid hB; clear hb hB)
                  all_goals
                    go_wp2_with fail
                    go_returns
                    exact ⟨rfl, ((Below.refl _ _).drew).trans HBB.out⟩
            · skip
              have hv : (if numB N = ((m : Int) + 128) :: r.take m then some (N, 1 + m) else none) = none := if_neg (fun e => hne (HIFF.out.2 e))
              rw [hv]
              clear hv
              have hbne : (sa.toList == sb.toList) = false := strNe hne
              unfold firstV
              dsimp only
              go_enter Tryz.func105, Tryz.ntmps105
              go_wp2_with fail
              go_loopw [8, 41] (fun u i wr => ∃ k : Nat, (k : Int) ≤ m ∧ u = .int .u64 (dU (r.take k)) ∧ i = .int .i64 k ∧ wr = w) (fun _ i _ => m - (intOf i).toNat)
              case atStart => exact ⟨0, by omega, rfl, rfl, rfl⟩
              case round =>
                obtain ⟨k, hk, rfl, rfl, rfl⟩ := hrel
                by_cases hkm : (k : Int) < m
                · exact absurd hkm (by omega)
                · have hke : k = m := by omega
                  subst hke
                  clear hkm hk
                  go_wp2_with fail
                  rw [HDN.out]
                  have hc2 := Lib.hid (cNum wr.drew N HNK.out)
                  have hq0 := (HTK.out.fr (Fr.refl (fun _ => False) _).drew (fun _ h => h.elim)).string
                  rw [HSB.out] at hq0
                  have hb1 : (1 : Int) + (k : Int) ≤ 1 := by omega
                  have hb0 : (0 : Int) ≤ 1 + (k : Int) := by omega
                  have hwr : IntKind.i64.wrap (1 + (k : Int)) = 1 + (k : Int) := by rw [IntKind.wrap_i64]; omega
                  have htn : (1 + (k : Int)).toNat = 1 + k := by omega
                  go_region_with (go_at_call 114; refine hc2.out.mono ?_; rintro e w1 ⟨v, rfl, hb, hB⟩; have hv1 := hb.1.string; rw [HSA.out] at hv1; have hq1 := ((HTK.out.fr (Fr.refl (fun _ => False) _).drew (fun _ h => h.elim)).fr (Fr.below (S := fun _ => False) hB) (fun _ h => h.elim)).string; rw [HSB.out] at hq1; have HBB := Lib.hid hB; clear hb hB)
                  all_goals
                    go_wp2_with fail
                    go_returns
                    exact ⟨rfl, ((Below.refl _ _).drew).trans HBB.out⟩
          · skip
            rcases Decidable.em (sa = sb) with heq | hne
            · skip
              have hv : (if numB N = ((m : Int) + 128) :: r.take m then some (N, 1 + m) else none) = some (N, 1 + m) := if_pos (HIFF.out.1 heq)
              rw [hv]
              clear hv
              subst heq
              unfold firstV
              dsimp only
              go_enter Tryz.func105, Tryz.ntmps105
              go_wp2_with fail
              go_loopw [8, 41] (fun u i wr => ∃ k : Nat, (k : Int) ≤ m ∧ u = .int .u64 (dU (r.take k)) ∧ i = .int .i64 k ∧ wr = w) (fun _ i _ => m - (intOf i).toNat)
              case atStart => exact ⟨0, by omega, rfl, rfl, rfl⟩
              case round =>
                obtain ⟨k, hk, rfl, rfl, rfl⟩ := hrel
                by_cases hkm : (k : Int) < m
                · obtain ⟨x, hx⟩ : ∃ x, r[k]? = some x := ⟨r[k]'(by have := HN.out; omega), List.getElem?_eq_getElem _⟩
                  have hcx := HC.out k x hx
                  obtain ⟨x0, x1⟩ := HB.out x (List.mem_of_getElem? hx)
                  have hcx : wr.cell? ⟨ad.block, ad.off + 1 + k, none⟩ = some (.int .u8 x) := by
                    rw [← hcx]
                    unfold Addr.add
                    rw [if_neg (by omega)]
                    congr 2; omega
                  have HU := Lib.hid (dU_succ hx)
                  generalize dU (r.take k) = u at *
                  clear hx
                  go_wp2
                  go_roundw
                  case rel => exact ⟨k + 1, by omega, by rw [HU.out]; rfl, by go_num, by trivial⟩
                  case measure => simp [intOf]; omega
                · have hke : k = m := by omega
                  subst hke
                  clear hkm hk
                  go_wp2_with fail
                  rw [HDN.out]
                  have hc2 := Lib.hid (cNum wr.drew N HNK.out)
                  have hq0 := (HTK.out.fr (Fr.refl (fun _ => False) _).drew (fun _ h => h.elim)).string
                  rw [HSB.out] at hq0
                  have hb1 : (1 : Int) + (k : Int) ≤ (c : Int) := by omega
                  have hb0 : (0 : Int) ≤ 1 + (k : Int) := by omega
                  have hb3 : ¬ c = 0 := by omega
                  have hwr : IntKind.i64.wrap (1 + (k : Int)) = 1 + (k : Int) := by rw [IntKind.wrap_i64]; omega
                  have htn : (1 + (k : Int)).toNat = 1 + k := by omega
                  go_region_with (go_at_call 114; refine hc2.out.mono ?_; rintro e w1 ⟨v, rfl, hb, hB⟩; have hv1 := hb.1.string; rw [HSA.out] at hv1; have hq1 := ((HTK.out.fr (Fr.refl (fun _ => False) _).drew (fun _ h => h.elim)).fr (Fr.below (S := fun _ => False) hB) (fun _ h => h.elim)).string; rw [HSB.out] at hq1; have HBB := Lib.hid hB; clear hb hB)
                  all_goals
                    go_wp2_with fail
                    go_returns
                    exact ⟨rfl, ((Below.refl _ _).drew).trans HBB.out⟩
            · skip
              have hv : (if numB N = ((m : Int) + 128) :: r.take m then some (N, 1 + m) else none) = none := if_neg (fun e => hne (HIFF.out.2 e))
              rw [hv]
              clear hv
              have hbne : (sa.toList == sb.toList) = false := strNe hne
              unfold firstV
              dsimp only
              go_enter Tryz.func105, Tryz.ntmps105
              go_wp2_with fail
              go_loopw [8, 41] (fun u i wr => ∃ k : Nat, (k : Int) ≤ m ∧ u = .int .u64 (dU (r.take k)) ∧ i = .int .i64 k ∧ wr = w) (fun _ i _ => m - (intOf i).toNat)
              case atStart => exact ⟨0, by omega, rfl, rfl, rfl⟩
              case round =>
                obtain ⟨k, hk, rfl, rfl, rfl⟩ := hrel
                by_cases hkm : (k : Int) < m
                · obtain ⟨x, hx⟩ : ∃ x, r[k]? = some x := ⟨r[k]'(by have := HN.out; omega), List.getElem?_eq_getElem _⟩
                  have hcx := HC.out k x hx
                  obtain ⟨x0, x1⟩ := HB.out x (List.mem_of_getElem? hx)
                  have hcx : wr.cell? ⟨ad.block, ad.off + 1 + k, none⟩ = some (.int .u8 x) := by
                    rw [← hcx]
                    unfold Addr.add
                    rw [if_neg (by omega)]
                    congr 2; omega
                  have HU := Lib.hid (dU_succ hx)
                  generalize dU (r.take k) = u at *
                  clear hx
                  go_wp2
                  go_roundw
                  case rel => exact ⟨k + 1, by omega, by rw [HU.out]; rfl, by go_num, by trivial⟩
                  case measure => simp [intOf]; omega
                · have hke : k = m := by omega
                  subst hke
                  clear hkm hk
                  go_wp2_with fail
                  rw [HDN.out]
                  have hc2 := Lib.hid (cNum wr.drew N HNK.out)
                  have hq0 := (HTK.out.fr (Fr.refl (fun _ => False) _).drew (fun _ h => h.elim)).string
                  rw [HSB.out] at hq0
                  have hb1 : (1 : Int) + (k : Int) ≤ (c : Int) := by omega
                  have hb0 : (0 : Int) ≤ 1 + (k : Int) := by omega
                  have hb3 : ¬ c = 0 := by omega
                  have hwr : IntKind.i64.wrap (1 + (k : Int)) = 1 + (k : Int) := by rw [IntKind.wrap_i64]; omega
                  have htn : (1 + (k : Int)).toNat = 1 + k := by omega
                  go_region_with (go_at_call 114; refine hc2.out.mono ?_; rintro e w1 ⟨v, rfl, hb, hB⟩; have hv1 := hb.1.string; rw [HSA.out] at hv1; have hq1 := ((HTK.out.fr (Fr.refl (fun _ => False) _).drew (fun _ h => h.elim)).fr (Fr.below (S := fun _ => False) hB) (fun _ h => h.elim)).string; rw [HSB.out] at hq1; have HBB := Lib.hid hB; clear hb hB)
                  all_goals
                    go_wp2_with fail
                    go_returns
                    exact ⟨rfl, ((Below.refl _ _).drew).trans HBB.out⟩
end Go.Proofs.YtlniekobijcanaaGreat
namespace Go.Proofs.YtlniekobijcanaaGreat
open Go.RowKit Go.Maps
/-- A taker with bs left. -/
structure TK (w : World) (g : Nat) (TS : Nat → Prop) (bs : List Int) (bad : Bool) : Prop where
  ex : ∃ v, w.heap[g]? = some (.cells #[v, .bool bad] 142) ∧ Bs w v bs ∧ (∀ a n c, v = .slice a n c → n ≤ c) ∧ ∀ b, v.ownBlock = some b → TS b ∧ b ≠ g
  own : TS g
  lt : ∀ b, TS b → b < w.heap.size
theorem Bs.keep {S : Nat → Prop} {w w' : World} {v : Value} {bs : List Int} (h : Bs w v bs) (hf : Fr S w w') (hS : ∀ b, v.ownBlock = some b → ¬ S b) : Bs w' v bs := by
  obtain ⟨h0, a, c, rfl, h1⟩ := h
  refine ⟨h0, a, c, rfl, fun i x hx => ?_⟩
  obtain ⟨b1, b2, ad, rfl, hc⟩ := h1 i x hx
  have hb : (ad.add i).block = ad.block := by unfold Addr.add; split <;> rfl
  exact ⟨b1, b2, ad, rfl, hf.cell hc (fun e => hS ad.block rfl (hb ▸ e))⟩
theorem TK.fr {S TS : Nat → Prop} {w w' : World} {g : Nat} {bs : List Int} {bad : Bool} (h : TK w g TS bs bad) (hf : Fr S w w') (hS : ∀ b, TS b → ¬ S b) : TK w' g TS bs bad := by
  obtain ⟨⟨v, h1, h2, h3, h4⟩, h5, h6⟩ := h
  exact ⟨⟨v, hf.at_ h1 (hS _ h5), h2.keep hf (fun b hb => hS _ (h4 b hb).1), h3, h4⟩, h5, fun b hb => Nat.lt_of_lt_of_le (h6 b hb) hf.size⟩
/-- What a taker's Num gives, and what is left. -/
def numT (bs : List Int) (bad : Bool) (least most : Int) : Int × List Int × Bool :=
  if bad = true then (0, bs, true) else match firstB bs with
    | some (n, k) => if n < least ∨ most < n then (0, bs, true) else (n, bs.drop k, false)
    | none => (0, bs, true)
set_option maxRecDepth 100000 in
theorem cTake (w : World) (v : Value) (bs : List Int) (h : Bs w v bs) (hl : (bs.length : Int) ≤ 140737488351232) (hb : ∀ x ∈ bs, 0 ≤ x ∧ x < 256) : Calls Tryz.prog 62 #[v] w fun e w' =>
    ∃ g TS, e = .returned (.pointer (some ⟨g, 0, none⟩)) ∧ TK w' g TS bs false ∧ Fr (fun _ => False) w w' ∧ ∀ b, TS b → w.heap.size ≤ b := by
  have hC := cClone w v bs h hl
  have HC := Lib.hid hC; have HB := Lib.hid hb
  obtain ⟨_, a, c, rfl, _⟩ := h
  clear hC hb
  go_enter Tryz.func62, Tryz.ntmps62
  go_wp2_with fail
  refine HC.out.mono ?_
  rintro e w1 ⟨v', rfl, hown, hB⟩
  have hBs := Bs.own hown HB.out
  obtain ⟨_, a', c', rfl, _⟩ := id hBs.1
  have hcap : ∀ a n c, Value.slice a' bs.length c' = .slice a n c → n ≤ c := fun a n c e => by
    injection e with e1 e2 e3
    subst e1 e2 e3
    rcases hown.2 with ⟨e, e2⟩ | ⟨g, cap, cur, e, _, _, h1, _⟩
    · omega
    · injection e with _ _ e3
      omega
  have hlt := fun b hb => hown.lt b hb
  have HBS := Lib.hid hBs; have HCAP := Lib.hid hcap; have HLT := Lib.hid hlt; have HBB := Lib.hid hB
  clear hown hBs hcap hlt hB
  go_wp2_with fail
  go_ret
  refine ⟨_, fun b => b = w1.heap.size ∨ (Value.slice a' bs.length c').ownBlock = some b, rfl, ⟨⟨_, heap_new _ _, HBS.out.1.keep ((Fr.refl (fun _ => False) _).alloc _) (fun _ _ h => h), HCAP.out, fun b hb => ⟨.inr hb, ?_⟩⟩, .inl rfl, ?_⟩, ((Fr.below HBB.out).mono (fun _ _ h => h)).alloc _, ?_⟩
  · have := (HLT.out b hb).2; omega
  · rintro b (rfl | hb)
    · simp
    · have := (HLT.out b hb).2; simp; omega
  · rintro b (rfl | hb)
    · exact HBB.out.size
    · exact (HLT.out b hb).1
theorem cMay (w : World) (g : Nat) (TS : Nat → Prop) (bs : List Int) (bad : Bool) (h : TK w g TS bs bad) : Calls Tryz.prog 104 #[.pointer (some ⟨g, 0, none⟩)] w fun e w' => e = .returned (.bool (!bad)) ∧ w = w' := by
  obtain ⟨⟨v, h1, h2, h3, h4⟩, h5, h6⟩ := h
  have b1 := cell_obj h1 1 (.bool bad) rfl
  clear h1 h2 h3 h4 h5 h6
  go_enter Tryz.func104, Tryz.ntmps104
  go_wp2
  go_ret
  exact ⟨rfl, rfl⟩
theorem cFault (w : World) (g : Nat) (TS : Nat → Prop) (bs : List Int) (bad : Bool) (h : TK w g TS bs bad) : Calls Tryz.prog 106 #[.pointer (some ⟨g, 0, none⟩)] w fun e w' => (∃ v, e = .returned v) ∧ TK w' g TS bs true ∧ Fr TS w w' := by
  obtain ⟨⟨v, h1, h2, h3, h4⟩, h5, h6⟩ := h
  have b1 := cell_obj h1 1 (.bool bad) rfl
  have f1 := obj_frozen h1 1
  have H1 := Lib.hid h1; have H2 := Lib.hid h2; have H3 := Lib.hid h3; have H4 := Lib.hid h4; have H5 := Lib.hid h5; have H6 := Lib.hid h6
  clear h1 h2 h3 h4 h5 h6
  go_enter Tryz.func106, Tryz.ntmps106
  go_wp2
  go_end0
  have hF : Fr (fun b => b = g) w (w.setCell ⟨g, 1, none⟩ (.bool true)) := (Fr.refl (fun b => b = g) w).setCell (p := ⟨g, 1, none⟩) (fun _ => rfl) _
  refine ⟨⟨_, rfl⟩, ⟨⟨v, obj_set H1.out 1 (.bool true), H2.out.keep hF (fun b hb => (H4.out b hb).2), H3.out, H4.out⟩, H5.out, fun b hb => by have := H6.out b hb; have := hF.size; omega⟩, hF.mono (fun b _ e => e ▸ H5.out)⟩
theorem Bs.drop {w : World} {a : Option Addr} {n c c' k : Nat} {bs : List Int} (h : Bs w (.slice a n c) bs) (hn : bs.length = n) (hk : k ≤ n) : Bs w (.slice (a.map fun x => x.add k) (n - k) c') (bs.drop k) := by
  obtain ⟨h0, a', c1, e, hx⟩ := h
  injection e with e1 e2 e3
  subst e1
  have hl : (bs.drop k).length = n - k := by rw [List.length_drop, hn]
  refine ⟨by omega, _, c', by rw [hl], fun i x hi => ?_⟩
  rw [List.getElem?_drop] at hi
  obtain ⟨b1, b2, ad, rfl, hc⟩ := hx (k + i) x hi
  exact ⟨b1, b2, _, rfl, by rw [Go.Deep.add_add]; exact hc⟩
theorem Bs.none' (w : World) (a : Option Addr) (c : Nat) : Bs w (.slice a 0 c) [] := ⟨by simp, a, c, rfl, fun i x h => by simp at h⟩
theorem firstB_le {bs : List Int} {n : Int} {k : Nat} (h : firstB bs = some (n, k)) : 1 ≤ k ∧ k ≤ bs.length := by
  cases bs with
  | nil => cases h
  | cons a r =>
    simp only [firstB] at h
    split at h
    · cases h; simp
    · split at h
      · cases h
      · split at h
        · cases h
          rename_i h1 _
          simp only [List.length_cons]
          omega
        · cases h
set_option maxRecDepth 100000 in
set_option maxHeartbeats 1000000 in
theorem cTNum (w : World) (g : Nat) (TS : Nat → Prop) (bs : List Int) (bad : Bool) (least most : Int) (h : TK w g TS bs bad) :
    Calls Tryz.prog 63 #[.pointer (some ⟨g, 0, none⟩), .int .i64 least, .int .i64 most] w fun e w' => e = .returned (.int .i64 (numT bs bad least most).1) ∧ TK w' g TS (numT bs bad least most).2.1 (numT bs bad least most).2.2 ∧ Fr TS w w' := by
  have hM := fun w h => cMay w g TS bs bad h
  have HM := Lib.hid hM; have HT := Lib.hid h
  clear hM
  cases bad with
  | true =>
    clear h
    unfold numT
    go_enter Tryz.func63, Tryz.ntmps63
    go_wp2_with (go_at_call 104; refine (HM.out _ HT.out).mono ?_; rintro e w1 ⟨rfl, rfl⟩)
    go_ret
    exact ⟨rfl, HT.out, Fr.refl _ _⟩
  | false =>
    obtain ⟨⟨v, h1, h2, h3, h4⟩, h5, h6⟩ := id h
    obtain ⟨_, a, c, rfl, _⟩ := id h2
    have b0 := cell_obj h1 0 (.slice a bs.length c) rfl
    have hFi := cFirst w _ bs h2 h3
    have HFI := Lib.hid hFi; have H1 := Lib.hid h1; have H2 := Lib.hid h2; have H3 := Lib.hid h3; have H4 := Lib.hid h4; have H5 := Lib.hid h5; have H6 := Lib.hid h6
    obtain ⟨o, ho⟩ : ∃ o, firstB bs = o := ⟨_, rfl⟩
    rw [ho] at HFI
    have HO := Lib.hid ho
    clear hFi h h1 h2 h3 h4 h5 h6 ho
    cases o with
    | none =>
      have e : numT bs false least most = (0, bs, true) := by simp [numT, HO.out]
      rw [e]
      clear e
      go_enter Tryz.func63, Tryz.ntmps63
      go_wp2_with (go_at_call 104; refine (HM.out _ HT.out).mono ?_; rintro e w1 ⟨rfl, rfl⟩)
      refine HFI.out.mono ?_
      rintro e w2 ⟨rfl, hB⟩
      unfold firstV
      dsimp only
      have HT2 := Lib.hid (HT.out.fr (Fr.below (S := fun _ => False) hB) (fun _ _ h => h)); have HBB := Lib.hid hB
      clear hB
      go_wp2_with fail
      refine (cFault _ _ _ _ _ HT2.out).mono ?_
      rintro e w3 ⟨⟨v, rfl⟩, hT3, hF3⟩
      go_wp2_with fail
      go_ret
      exact ⟨rfl, hT3, ((Fr.below (S := TS) HBB.out)).trans' hF3 (fun _ _ h => h)⟩
    | some p =>
      obtain ⟨n, k⟩ := p
      obtain ⟨hk1, hk2⟩ := firstB_le HO.out
      by_cases hbnd : n < least ∨ most < n
      · have e : numT bs false least most = (0, bs, true) := by simp [numT, HO.out, hbnd]
        rw [e]
        clear e hk1 hk2
        rcases (by omega : n < least ∨ least ≤ n ∧ most < n) with hlo | ⟨hlo, hhi⟩
        all_goals
          clear hbnd
          go_enter Tryz.func63, Tryz.ntmps63
          go_wp2_with (go_at_call 104; refine (HM.out _ HT.out).mono ?_; rintro e w1 ⟨rfl, rfl⟩)
          refine HFI.out.mono ?_
          rintro e w2 ⟨rfl, hB⟩
          unfold firstV
          dsimp only
          have HT2 := Lib.hid (HT.out.fr (Fr.below (S := fun _ => False) hB) (fun _ _ h => h)); have HBB := Lib.hid hB
          clear hB
          go_wp2_with fail
          refine (cFault _ _ _ _ _ HT2.out).mono ?_
          rintro e w3 ⟨⟨v, rfl⟩, hT3, hF3⟩
          go_wp2_with fail
          go_ret
          exact ⟨rfl, hT3, ((Fr.below (S := TS) HBB.out)).trans' hF3 (fun _ _ h => h)⟩
      · have e : numT bs false least most = (n, bs.drop k, false) := by simp only [numT, HO.out, hbnd]; simp
        rw [e]
        have hlo : least ≤ n := by omega
        have hhi : n ≤ most := by omega
        clear e hbnd
        have hcap := H3.out _ _ _ rfl
        obtain ⟨ln, hln⟩ : ∃ ln, bs.length = ln := ⟨_, rfl⟩
        have HLN := Lib.hid hln
        rw [hln] at hk2 hcap b0
        clear hln
        go_enter Tryz.func63, Tryz.ntmps63
        go_wp2_with (go_at_call 104; refine (HM.out _ HT.out).mono ?_; rintro e w1 ⟨rfl, rfl⟩)
        rw [HLN.out] at HFI
        refine HFI.out.mono ?_
        rintro e w2 ⟨rfl, hB⟩
        unfold firstV
        dsimp only
        have hF2 := Fr.below (S := fun _ => False) hB
        have hG2 := hF2.at_ H1.out (fun h => h)
        rw [HLN.out] at hG2
        have c0 := cell_obj hG2 0 (.slice a ln c) rfl
        have f0 := obj_frozen hG2 0
        have HG2 := Lib.hid hG2; have HF2 := Lib.hid hF2
        clear hB hF2 hG2 b0
        have hpost : ∀ v' : Value, Bs w2 v' (bs.drop k) → (∀ a n c, v' = .slice a n c → n ≤ c) → (∀ b, v'.ownBlock = some b → (Value.slice a ln c).ownBlock = some b) →
            TK (w2.setCell ⟨g, 0, none⟩ v') g TS (bs.drop k) false ∧ Fr TS w (w2.setCell ⟨g, 0, none⟩ v') := fun v' hb hc ho => by
          have hF : Fr (fun b => b = g) w2 (w2.setCell ⟨g, 0, none⟩ v') := (Fr.refl (fun b => b = g) w2).setCell (p := ⟨g, 0, none⟩) (fun _ => rfl) _
          have h4 := H4.out
          rw [HLN.out] at h4
          refine ⟨⟨⟨v', obj_set HG2.out 0 v', hb.keep hF (fun b e => (h4 b (ho b e)).2), hc, fun b e => h4 b (ho b e)⟩, H5.out, fun b e => ?_⟩, (HF2.out.mono (fun _ _ h => h.elim)).trans' hF (fun b _ e => e ▸ H5.out)⟩
          have := H6.out b e; have := HF2.out.size; have := hF.size; omega
        have HPOST := Lib.hid hpost
        have hb2 : Bs w2 (.slice a ln c) bs := by have := H2.out.fr HF2.out (fun _ h => h.elim); rw [HLN.out] at this; exact this
        have HB2 := Lib.hid hb2
        clear hpost hb2
        go_wp2_with fail
        · have hck : c = k := by assumption
          have hlk : ln = k := by omega
          go_ret
          refine ⟨rfl, HPOST.out _ ?_ ?_ ?_⟩
          · have e0 : bs.drop k = [] := List.drop_eq_nil_of_le (by rw [HLN.out]; omega)
            rw [e0, show ln - k = 0 by omega]
            exact Bs.none' _ _ _
          · rintro a' n' c' e
            injection e with _ e2 e3
            omega
          · intro b e
            cases a with
            | none => cases e
            | some ad => exact e
        · go_ret
          refine ⟨rfl, HPOST.out _ (HB2.out.drop HLN.out hk2) ?_ ?_⟩
          · rintro a' n' c' e
            injection e with _ e2 e3
            omega
          · intro b e
            cases a with
            | none => cases e
            | some ad =>
              have hb : (ad.add k).block = ad.block := by unfold Addr.add; split <;> rfl
              simp only [Option.map, Value.ownBlock, hb] at e ⊢
              exact e
end Go.Proofs.YtlniekobijcanaaGreat
namespace Go.Proofs.YtlniekobijcanaaGreat
open Go.RowKit Go.Maps
def doneT (bs : List Int) (bad : Bool) : Int := if bad = true ∨ bs ≠ [] then 10 else 0
theorem cTDone (w : World) (g : Nat) (TS : Nat → Prop) (bs : List Int) (bad : Bool) (h : TK w g TS bs bad) :
    Calls Tryz.prog 65 #[.pointer (some ⟨g, 0, none⟩)] w fun e w' => e = .returned (.int .i64 (doneT bs bad)) ∧ w = w' := by
  obtain ⟨⟨v, h1, h2, -, -⟩, -, -⟩ := h
  obtain ⟨hlen, a, c, rfl, -⟩ := id h2
  have b0 := cell_obj h1 0 (.slice a bs.length c) rfl
  have b1 := cell_obj h1 1 (.bool bad) rfl
  clear h1 h2
  cases bad with
  | true =>
    clear b0
    rw [show doneT bs true = 10 by simp [doneT]]
    go_enter Tryz.func65, Tryz.ntmps65
    go_wp2
    go_ret
    exact ⟨rfl, rfl⟩
  | false =>
    cases bs with
    | nil =>
      rw [show doneT [] false = 0 by simp [doneT]]
      go_enter Tryz.func65, Tryz.ntmps65
      go_wp2
      go_ret
      exact ⟨rfl, rfl⟩
    | cons x r =>
      obtain ⟨n, hn⟩ : ∃ n, (x :: r).length = n + 1 := ⟨r.length, rfl⟩
      rw [hn] at b0 hlen
      clear hn
      rw [show doneT (x :: r) false = 10 by simp [doneT]]
      go_enter Tryz.func65, Tryz.ntmps65
      go_wp2
      go_ret
      exact ⟨rfl, rfl⟩
end Go.Proofs.YtlniekobijcanaaGreat
namespace Go.Proofs.YtlniekobijcanaaGreat
open Go.RowKit Go.Maps
theorem bitLen_lt : ∀ (f x : Nat), x < 2 ^ f → x < 2 ^ (Lib.bitLenAux f x)
  | 0, x, h => by simp at h; subst h; simp [Lib.bitLenAux]
  | f + 1, x, h => by
    unfold Lib.bitLenAux
    by_cases h0 : x = 0
    · simp [h0]
    · rw [if_neg h0, Nat.add_comm 1, Nat.pow_succ]
      have := bitLen_lt f (x / 2) (by rw [Nat.pow_succ] at h; omega)
      omega
theorem nSz_lt {u : Nat} (h : u < 18446744073709551616) : u < 256 ^ nSz u := by
  have h1 : u < 2 ^ Lib.bitLen u := bitLen_lt 64 u h
  refine Nat.lt_of_lt_of_le h1 ?_
  rw [show (256 : Nat) = 2 ^ 8 from rfl, ← Nat.pow_mul]
  refine Nat.pow_le_pow_right (by omega) ?_
  unfold nSz; omega
theorem numB_big {n : Int} (h : ¬ (0 ≤ n ∧ n < 128)) : numB n = (numH n + nSz (numU n)) :: beB (numU n) (nSz (numU n)) := by unfold numB; rw [if_neg h]
abbrev Mst := List Int × Bool
def mkP (s : Mst) (c : List Int) : Mst := (putB s.1 s.2 c, putL s.1 s.2 c)
def mkAll (s : Mst) (cs : List (List Int)) : Mst := cs.foldl mkP s
def Byt (l : List Int) : Prop := ∀ x ∈ l, 0 ≤ x ∧ x < 256
theorem numB_one : numB 1 = [1] := by simp [numB]
theorem numB_zero : numB 0 = [0] := by simp [numB]
theorem nSz_of' {u k : Nat} (hk : k ≤ 8) (h : u < 256 ^ k) : nSz u ≤ k := by
  have h2 : u < 2 ^ (8 * k) := by rw [Nat.pow_mul]; exact h
  have := Lib.bitLen_le u (8 * k) (by omega) h2
  unfold nSz; omega
theorem numB_le {n : Int} {k : Nat} (hk : k ≤ 8) (h0 : 0 ≤ n) (h : n < ((256 ^ k : Nat) : Int)) : (numB n).length ≤ k + 1 := by
  by_cases hs : 0 ≤ n ∧ n < 128
  · unfold numB; rw [if_pos hs]; simp
  · rw [numB_big hs]
    have hu : numU n = n.toNat := by unfold numU; rw [if_neg (by omega)]
    have := nSz_of' (u := numU n) hk (by rw [hu]; omega)
    simp [beB_len]; exact this
theorem mkAll_flat : ∀ {cs : List (List Int)} {bs : List Int}, bs.length + cs.flatten.length ≤ 262144 → mkAll (bs, false) cs = (bs ++ cs.flatten, false)
  | [], bs, _ => by simp [mkAll]
  | c :: r, bs, h => by
    rw [List.flatten_cons, List.length_append] at h
    have e : mkP (bs, false) c = (bs ++ c, false) := by
      unfold mkP putB putL
      have : ¬ 262144 < bs.length + c.length := by omega
      simp [this]
    have := mkAll_flat (cs := r) (bs := bs ++ c) (by rw [List.length_append]; omega)
    unfold mkAll at *
    rw [List.foldl_cons, e, this]
    simp
end Go.Proofs.YtlniekobijcanaaGreat
namespace Go.Proofs.YtlniekobijcanaaGreat
open Go.RowKit Go.Maps
theorem or_add (x c : Nat) (hx : x < 72057594037927936) (hc : c < 256) : bits .or .u64 (IntKind.u64.wrap ((x : Int) * 256)) (c : Int) = ((x * 256 + c : Nat) : Int) := by
  have e1 : IntKind.u64.wrap ((x : Int) * 256) = ((x * 256 : Nat) : Int) := by
    show ((x : Int) * 256) % 18446744073709551616 = _
    omega
  rw [e1, u64_or_nat _ _ (by omega) (by omega)]
  congr 1
  have := Nat.two_pow_add_eq_or_of_lt (i := 8) (b := c) (by omega) x
  rw [Nat.mul_comm x 256]
  exact this.symm
/-- The bytes back. -/
theorem dU_beB (u : Nat) : ∀ (k : Nat) (a : Nat), k ≤ 8 → a * 256 ^ k + u % 256 ^ k < 18446744073709551616 → (beB u k).foldl dStep (a : Int) = ((a * 256 ^ k + u % 256 ^ k : Nat) : Int)
  | 0, a, _, _ => by simp [beB, Nat.mod_one]
  | k + 1, a, hk, h => by
    simp only [beB, List.foldl_cons]
    have hpos : 0 < 256 ^ k := Nat.pow_pos (by omega)
    have hsp : u % 256 ^ (k + 1) = (u / 256 ^ k % 256) * 256 ^ k + u % 256 ^ k := by
      rw [Nat.pow_succ, Nat.mod_mul, Nat.add_comm, Nat.mul_comm]
    have hx : a < 72057594037927936 := by
      refine Nat.lt_of_not_le fun hge => ?_
      have h1 : a * 256 ≤ a * 256 ^ (k + 1) := Nat.mul_le_mul_left _ (by rw [Nat.pow_succ]; omega)
      omega
    have e1 : dStep (a : Int) ((u / 256 ^ k % 256 : Nat) : Int) = ((a * 256 + u / 256 ^ k % 256 : Nat) : Int) := or_add a _ hx (Nat.mod_lt _ (by omega))
    rw [e1]
    have e2 : (a * 256 + u / 256 ^ k % 256) * 256 ^ k + u % 256 ^ k = a * 256 ^ (k + 1) + u % 256 ^ (k + 1) := by
      rw [hsp, Nat.pow_succ, Nat.add_mul, Nat.mul_assoc, Nat.mul_comm 256, Nat.add_assoc]
    rw [dU_beB u k _ (by omega) (by rw [e2]; exact h), e2]
theorem dU_num {u : Nat} (h : u < 9223372036854775808) : dU (beB u (nSz u)) = (u : Int) := by
  have hl := nSz_lt (u := u) (by omega)
  have := dU_beB u (nSz u) 0 (nSz_le (by omega)) (by rw [Nat.mod_eq_of_lt hl]; omega)
  rw [Nat.mod_eq_of_lt hl] at this
  simpa [dU] using this
theorem xorOnes' (m : Nat) (h : m < 18446744073709551616) : bits .xor .u64 (m : Int) 18446744073709551615 = ((18446744073709551615 - m : Nat) : Int) := by
  rw [show (18446744073709551615 : Int) = ((18446744073709551615 : Nat) : Int) from rfl, u64_xor_nat _ _ h (by omega), Nat.xor_comm, xorOnes _ h]
theorem xorZero (m : Nat) (h : m < 18446744073709551616) : bits .xor .u64 (m : Int) 0 = (m : Int) := by
  rw [show (0 : Int) = ((0 : Nat) : Int) from rfl, u64_xor_nat _ _ h (by omega)]
  simp
/-- A NUMBER'S CELL IS READ AS THAT NUMBER, whatever follows. -/
theorem firstB_num {n : Int} (hn : okI n) (r : List Int) : firstB (numB n ++ r) = some (n, (numB n).length) := by
  by_cases h : 0 ≤ n ∧ n < 128
  · have e : numB n = [n] := by unfold numB; rw [if_pos h]
    rw [e]
    simp [firstB, h.2]
  · have hU := numU_lt hn
    have hs8 := nSz_le (u := numU n) (by omega)
    have hl : (beB (numU n) (nSz (numU n))).length = nSz (numU n) := beB_len _ _
    have hd := dU_num hU
    have hfull := numB_big h
    rw [hfull]
    obtain ⟨s, hs⟩ : ∃ s, nSz (numU n) = s := ⟨_, rfl⟩
    rw [hs] at hs8 hl hd hfull ⊢
    have hH : dSize (numH n + s) = s ∧ dTurn (numH n + s) = (if n < 0 then 18446744073709551615 else 0) := by
      unfold dSize dTurn numH
      by_cases h0 : n < 0
      · rw [if_pos h0, if_pos (by omega), if_pos (by omega), if_pos h0]; omega
      · rw [if_neg h0, if_neg (by omega), if_neg (by omega), if_neg h0]; omega
    have hge : ¬ numH n + (s : Int) < 128 := by unfold numH; split <;> omega
    have htk : (beB (numU n) s ++ r).take s = beB (numU n) s := by rw [List.take_append_of_le_length (by omega), List.take_of_length_le (by omega)]
    have hN : dN (numH n + s) (beB (numU n) s) = n := by
      unfold dN
      rw [hd, hH.2]
      unfold okI at hn
      by_cases h0 : n < 0
      · rw [if_pos h0, xorOnes' _ (by omega)]
        unfold wrap64 numU
        rw [if_pos h0]
        omega
      · rw [if_neg h0, xorZero _ (by omega)]
        unfold wrap64 numU
        rw [if_neg h0]
        omega
    simp only [List.cons_append, firstB, hge, if_false, hH.1, Int.toNat_natCast, htk, hN]
    rw [if_neg (by simp only [List.length_append, hl]; omega), if_pos hfull]
    simp only [List.length_cons, hl, Nat.add_comm]
/-- What is read begins with that number's cell. -/
theorem firstB_of {bs : List Int} {n : Int} {k : Nat} (h : firstB bs = some (n, k)) (hb : ∀ x ∈ bs, 0 ≤ x ∧ x < 256) : okI n ∧ k = (numB n).length ∧ bs = numB n ++ bs.drop k := by
  cases bs with
  | nil => cases h
  | cons a r =>
    simp only [firstB] at h
    by_cases ha : a < 128
    · rw [if_pos ha] at h
      cases h
      have h0 := (hb n (by simp)).1
      have e : numB n = [n] := by unfold numB; rw [if_pos ⟨h0, ha⟩]
      refine ⟨by unfold okI; omega, by rw [e]; rfl, by rw [e]; rfl⟩
    · rw [if_neg ha] at h
      split at h
      · cases h
      · rename_i hs
        split at h
        · rename_i he
          injection h with h
          injection h with h1 h2
          subst h2
          rw [h1] at he
          have hok : okI n := by rw [← h1]; unfold dN wrap64 okI; omega
          have hS0 : 0 ≤ dSize a := by unfold dSize; split <;> omega
          have hl : (r.take (dSize a).toNat).length = (dSize a).toNat := by rw [List.length_take]; omega
          refine ⟨hok, by rw [he, List.length_cons, hl, Nat.add_comm], ?_⟩
          rw [he, Nat.add_comm, List.drop_succ_cons, List.cons_append, List.take_append_drop]
        · cases h
end Go.Proofs.YtlniekobijcanaaGreat
namespace Go.Proofs.YtlniekobijcanaaGreat
open Go.RowKit
theorem row_sl {w : World} {base : Nat} {e : TypeId} {size n : Nat} {v : Value} {xs : List Value} (h : w.ownsRow base e size v n xs) : ∃ a c, v = .slice a n c := by
  rcases h.2 with ⟨rfl, rfl⟩ | ⟨g, c, cur, rfl, _⟩
  · exact ⟨_, _, rfl⟩
  · exact ⟨_, _, rfl⟩
theorem own_base {w : World} {base base' : Nat} {e : TypeId} {size n : Nat} {v : Value} {xs : List Value} (h : w.ownsRow base e size v n xs) (hb : base' ≤ base) : w.ownsRow base' e size v n xs := by
  refine ⟨h.1, ?_⟩
  rcases h.2 with h | ⟨g, c, cur, h1, h2, r⟩
  · exact .inl h
  · exact .inr ⟨g, c, cur, h1, Nat.le_trans hb h2, r⟩
/-- A slice's cells: m elements of that size, at A. -/
def Rd (w : World) (size : Nat) (A : Option Addr) (m : Nat) (xs : List Value) : Prop := xs.length = m * size ∧ (0 < m → ∃ ad, A = some ad ∧ ∀ (j : Nat) (u : Value), xs[j]? = some u → w.cell? (ad.add j) = some u)
section
variable {w w' : World} {size m : Nat} {A : Option Addr} {xs : List Value}
theorem Rd.nil (w : World) (size : Nat) (A : Option Addr) : Rd w size A 0 [] := ⟨by simp, fun h => absurd h (by omega)⟩
theorem add_block (a : Addr) (n : Nat) : (a.add n).block = a.block := by unfold Addr.add; split <;> rfl
theorem add_add' (a : Addr) (i j : Nat) : (a.add i).add j = a.add (i + j) := by
  unfold Addr.add
  by_cases hi : i = 0 <;> by_cases hj : j = 0 <;> simp [hi, hj, Nat.add_assoc]
theorem Rd.fr {S : Nat → Prop} (h : Rd w size A m xs) (hf : Fr S w w') (hS : ∀ ad, A = some ad → ¬ S ad.block) : Rd w' size A m xs :=
  ⟨h.1, fun hm => by
    obtain ⟨ad, e, hc⟩ := h.2 hm
    exact ⟨ad, e, fun j u hu => hf.cell (hc j u hu) (by rw [add_block]; exact hS ad e)⟩⟩
theorem Rd.own {base n c : Nat} {e : TypeId} (h : w.ownsRow base e size (.slice A n c) n xs) : Rd w size A n xs := by
  refine ⟨h.1, fun hn => ?_⟩
  obtain ⟨g, cap, hv, _, _⟩ := h.form hn
  have hA : A = some ⟨g, 0, none⟩ := by injection hv
  subst hA
  exact ⟨_, rfl, h.cells (g := g) rfl⟩
theorem Rd.take {k : Nat} (h : Rd w size A m xs) (hk : k ≤ m) : Rd w size A k (xs.take (k * size)) := by
  have hle : k * size ≤ m * size := Nat.mul_le_mul_right _ hk
  refine ⟨by rw [List.length_take, h.1]; omega, fun hp => ?_⟩
  obtain ⟨ad, e, hc⟩ := h.2 (by omega)
  refine ⟨ad, e, fun j u hu => hc j u ?_⟩
  rw [List.getElem?_take] at hu
  split at hu
  · exact hu
  · cases hu
theorem Rd.drop {k : Nat} (h : Rd w size A m xs) (hk : k ≤ m) : Rd w size (A.map fun x => x.add (k * size)) (m - k) (xs.drop (k * size)) := by
  refine ⟨by rw [List.length_drop, h.1, Nat.sub_mul], fun hn => ?_⟩
  obtain ⟨ad, rfl, hc⟩ := h.2 (by omega)
  exact ⟨_, rfl, fun j u hu => by rw [add_add']; exact hc _ u (by rw [← hu, List.getElem?_drop])⟩
theorem Rd.at_ {k : Nat} {u : Value} (h : Rd w size A m xs) (hm : 0 < m) (hk : xs[k]? = some u) : ∃ ad, A = some ad ∧ w.cell? (ad.add k) = some u := by
  obtain ⟨ad, e, hc⟩ := h.2 hm
  exact ⟨ad, e, hc k u hk⟩
variable {P : Program}
theorem run_append_src (base : Nat) (t ty e : TypeId) (i : TypeInfo) (z : Value) (bytes : Nat) (ht : P.underlying t = some (.slice e)) (hi : P.info? e = some i) (hz : i.zero = some z)
    (hsize : i.size = size) (hby : i.bytes = bytes) (hzs : z.cells.size = size) (hsz : 0 < size) (v : Value) (n : Nat) (ys : List Value) (hown : w.ownsRow base e size v n ys)
    (c : Nat) (hr : Rd w size A m xs) (h1 : ∀ u ∈ xs, u.oneCell' = true) (h63 : n + m ≤ maxLen) (hbytes : (n + m) * bytes ≤ 140737488355328) (hbase : base ≤ w.heap.size) :
    ∃ v' w', (Builtin.append_ #[t, t] ty #[v, .slice A m c]).run P w = .ok v' w' ∧ w'.ownsRow base e size v' (n + m) (ys ++ xs) ∧ w.grownBy w' v.ownBlock ∧ (v'.ownBlock = v.ownBlock ∨ v'.ownBlock = some w.heap.size) := by
  cases A with
  | none =>
    obtain rfl : m = 0 := by
      rcases Nat.eq_zero_or_pos m with h | h
      · exact h
      · obtain ⟨_, h, _⟩ := hr.2 h; cases h
    obtain rfl : xs = [] := List.eq_nil_of_length_eq_zero (by simpa using hr.1)
    refine ⟨v, w, ?_, by simpa using hown, World.grownBy.refl w _, .inl rfl⟩
    rcases hown.2 with ⟨rfl, rfl⟩ | ⟨g, cap, cur, rfl, _, _, hnc, _⟩
    · simp [Builtin.append_, run_underlying ht, sizeOf, typeInfo, hi, Builtin.lenOf, Builtin.firstCells]
    · simp [Builtin.append_, run_underlying ht, sizeOf, typeInfo, hi, Builtin.lenOf, Builtin.firstCells, hnc, storeCells]
  | some ad =>
    have hc : ∀ j u, xs[j]? = some u → w.cell? (ad.add j) = some u := by
      intro j u hu
      rcases Nat.eq_zero_or_pos m with h | h
      · subst h
        obtain rfl : xs = [] := List.eq_nil_of_length_eq_zero (by simpa using hr.1)
        cases hu
      · obtain ⟨ad', e, hc⟩ := hr.2 h
        cases e
        exact hc j u hu
    obtain ⟨v', w', a1, a2, a3, _, a5⟩ := run_append_own_at (P := P) w base t ty e i z size bytes ht hi hz hsize hby hzs hsz v n ys hown ad m c xs hr.1 hc h1 h63 hbytes hbase
    exact ⟨v', w', a1, a2, a3, a5⟩
theorem wpList_append_src {ops : Array Oper} {rest : List Oper} {o : Oper} {a : Act} {Q : Exit → Act → World → Prop} (hgd : o.guard = none) (s x : Operand) (t : TypeId)
    (ho : o.op = .call { callee := .builtin .append, args := #[s, x], argTypes := #[t, t] })
    (base : Nat) (e : TypeId) (i : TypeInfo) (z : Value) (bytes : Nat) (ht : P.underlying t = some (.slice e)) (hi : P.info? e = some i) (hz : i.zero = some z)
    (hsize : i.size = size) (hby : i.bytes = bytes) (hzs : z.cells.size = size) (hsz : 0 < size) (v : Value) (n : Nat) (ys : List Value) (hs : a.eval s = v) (hown : w.ownsRow base e size v n ys)
    (c : Nat) (hx : a.eval x = .slice A m c) (hr : Rd w size A m xs) (h1 : ∀ u ∈ xs, u.oneCell' = true) (h63 : n + m ≤ maxLen) (hbytes : (n + m) * bytes ≤ 140737488355328) (hbase : base ≤ w.heap.size)
    (h : ∀ v' w', w'.ownsRow base e size v' (n + m) (ys ++ xs) → w.grownBy w' v.ownBlock → (v'.ownBlock = v.ownBlock ∨ v'.ownBlock = some w.heap.size) → wpList P ops Q rest (a.put o.dst v') w') : wpList P ops Q (o :: rest) a w := by
  refine wpList_plain hgd fun K hK => ?_
  obtain ⟨v', w', hr, h2, h3, h5⟩ := run_append_src (P := P) base t o.type e i z bytes ht hi hz hsize hby hzs hsz v n ys hown c hr h1 h63 hbytes hbase
  unfold Oper.wp execOp
  simp only [ho, resolve, invoke, builtin, Sem.run_bind, Sem.run_pure, Result.andThen_ok, List.map_toArray, List.map_cons, List.map_nil, hs, hx, hr]
  exact hK _ _ (h v' w' h2 h3 h5)
end
end Go.Proofs.YtlniekobijcanaaGreat
namespace Go.Proofs.YtlniekobijcanaaGreat
open Go.RowKit Go.Maps
theorem own_new {w : World} {base : Nat} {t : TypeId} (cs : Array Value) (h : base ≤ w.heap.size) (hc : cs.size ≤ 9223372036854775807) : (w.alloc (.cells cs t)).ownsRow base t 1 (.slice (some ⟨w.heap.size, 0, none⟩) cs.size cs.size) cs.size cs.toList :=
  ⟨by simp, .inr ⟨_, _, _, rfl, h, heap_new _ _, Nat.le_refl _, by unfold maxLen; omega, by simp, by rw [List.take_of_length_le (by simp)]⟩⟩
theorem nSz_of {u k : Nat} (hk : k ≤ 8) (h : u < 256 ^ k) : nSz u ≤ k := by
  have h2 : u < 2 ^ (8 * k) := by rw [Nat.pow_mul]; exact h
  have := Lib.bitLen_le u (8 * k) (by omega) h2
  unfold nSz; omega
theorem nSz_more {u k : Nat} (hu : u < 18446744073709551616) (h : 0 < u / 256 ^ k) : k < nSz u := by
  refine Nat.lt_of_not_le fun hge => ?_
  have h1 := nSz_lt hu
  have h2 : 256 ^ nSz u ≤ 256 ^ k := Nat.pow_le_pow_right (by omega) hge
  rw [Nat.div_eq_of_lt (by omega)] at h
  omega
theorem nSz_done {u k : Nat} (hk : k ≤ nSz u) (hu : u < 18446744073709551616) (h : u / 256 ^ k = 0) : k = nSz u := by
  have hp : 0 < 256 ^ k := Nat.pow_pos (by omega)
  have h1 : u < 256 ^ k := by
    rcases Nat.div_eq_zero_iff.1 h with h | h <;> omega
  have := nSz_of (by have := nSz_le hu; omega) h1
  omega
set_option maxRecDepth 100000 in
set_option maxHeartbeats 1000000 in
theorem rDigits (w : World) (U : Nat) (hU : U < 18446744073709551616) : Calls Tryz.prog 135 #[.int .u64 U] w fun e w' => ∃ v, e = .returned v ∧ w'.ownsRow w.heap.size 5 1 v (nSz U) (u8s (beB U (nSz U))) ∧ Below w.heap.size w w' := by
  obtain ⟨i0, hi', hz0, hz1, hz2⟩ := info_parts infoU8
  have HU := Lib.hid hU
  clear hU
  go_enter Tryz.func135, Tryz.ntmps135
  go_wp2_with fail
  go_loopw [0, 3] (fun u o wr => ∃ k : Nat, k ≤ nSz U ∧ u = .int .u64 ((U / 256 ^ k : Nat) : Int) ∧ wr.ownsRow w.heap.size 5 1 o k (u8s (beB U k)) ∧ Below w.heap.size w wr) (fun u _ _ => (intOf u).toNat)
  case atStart => exact ⟨0, Nat.zero_le _, by simp, ⟨rfl, .inl ⟨rfl, rfl⟩⟩, Below.refl _ _⟩
  case round =>
    obtain ⟨k, hk, rfl, hown, hB⟩ := hrel
    have hk8 := nSz_le HU.out
    obtain ⟨q, hq⟩ : ∃ q, U / 256 ^ k = q := ⟨_, rfl⟩
    have hqU : q ≤ U := by rw [← hq]; exact Nat.div_le_self _ _
    have hqb : (q : Int) < 18446744073709551616 := by have := HU.out; omega
    have hq1 : U / 256 ^ (k + 1) = q / 256 := by rw [Nat.pow_succ, ← Nat.div_div_eq_div_mul, hq]
    have hbe : beB U (k + 1) = ((q % 256 : Nat) : Int) :: beB U k := by simp only [beB]; rw [hq]
    have hsz := hB.size
    rw [hq]
    obtain ⟨ao, co, rfl⟩ := row_sl hown
    have HOW := Lib.hid hown; have HBB := Lib.hid hB; have HQ1 := Lib.hid hq1; have HBE := Lib.hid hbe; have HQ := Lib.hid hq
    clear hown hB hq1 hbe hq
    by_cases h0 : 0 < q
    · have hkm := nSz_more HU.out (by rw [HQ.out]; exact h0)
      go_wp2_with (at_builtin; refine wpList_append_src rfl _ _ 42 rfl w.heap.size 5 i0 (.int .u8 0) 1 Tryz.underlying42 hi' hz0 hz1 hz2 rfl (by decide) _ 1 [.int .u8 ((q : Int) % 256)] rfl (own_new #[.int .u8 ((q : Int) % 256)] hsz (by simp)) co rfl ((Rd.own HOW.out).fr ((Fr.refl (fun _ => False) wr).alloc _) (fun _ _ h => h)) (by intro u hu; simp [u8s] at hu; obtain ⟨x, _, rfl⟩ := hu; rfl) (by unfold maxLen; omega) (by omega) (by simp; omega) ?_; intro v' w1 hown' hgrow _)
      go_roundw
      case rel =>
        refine ⟨k + 1, hkm, by rw [HQ1.out]; rfl, ?_, (HBB.out.alloc hsz _).grown hgrow (by simp; omega) (fun r hr => by cases hr; exact hsz)⟩
        rw [HBE.out, Nat.add_comm]
        exact hown'
      case measure => simp [intOf]; omega
    · have hkk : k = nSz U := nSz_done hk HU.out (by rw [HQ.out]; omega)
      obtain rfl : q = 0 := by omega
      go_wp2_with fail
      go_ret
      exact ⟨_, rfl, by have := HOW.out; rw [← hkk]; exact this, HBB.out⟩
theorem own_row_bn {w : World} {base : Nat} {v : Value} {x : Int} {bs : List Int} {n : Nat} (h : w.ownsRow base 5 1 v n ([.int .u8 x] ++ u8s bs)) (hb : ∀ y ∈ x :: bs, 0 ≤ y ∧ y < 256) : Bn base w v (x :: bs) := by
  have hl : n = (x :: bs).length := by have := h.1; simp [u8s] at this; simp; omega
  subst hl
  exact Bs.own (by simpa [u8s] using h) hb
set_option maxRecDepth 100000 in
set_option maxHeartbeats 1000000 in
theorem rNum (w : World) (n : Int) (hn : okI n) : Calls Tryz.prog 122 #[.int .i64 n] w fun e w' => ∃ v, e = .returned v ∧ Bn w.heap.size w' v (numB n) ∧ Below w.heap.size w w' := by
  obtain ⟨i0, hi', hz0, hz1, hz2⟩ := info_parts infoU8
  have HN := Lib.hid hn
  have hmem : Hid (∀ y ∈ numB n, 0 ≤ y ∧ y < 256) := Lib.hid (fun y hy => numB_mem hn hy)
  unfold okI at hn
  by_cases h : 0 ≤ n ∧ n < 128
  · obtain ⟨h0, h1⟩ := h
    have e : numB n = [n] := by unfold numB; rw [if_pos ⟨h0, h1⟩]
    rw [e] at hmem ⊢
    go_enter Tryz.func122, Tryz.ntmps122
    go_wp2
    go_ret
    exact ⟨_, rfl, Bs.own (own_new #[.int .u8 n] (Nat.le_refl _) (by simp)) hmem.out, (Below.refl _ _).alloc (Nat.le_refl _) _⟩
  · have hU1 := numU_lt HN.out
    have e := numB_big h
    rw [e] at hmem ⊢
    have hs8 : nSz (numU n) ≤ 8 := nSz_le (by omega)
    have hD := fun w => rDigits w (numU n) (by omega)
    obtain ⟨U, hU⟩ : ∃ U, numU n = U := ⟨_, rfl⟩
    rw [hU] at hU1 hs8 hD hmem ⊢
    obtain ⟨s, hs⟩ : ∃ s, nSz U = s := ⟨_, rfl⟩
    obtain ⟨dg, hdg⟩ : ∃ dg, beB U s = dg := ⟨_, rfl⟩
    have hdl : dg.length = s := by rw [← hdg, beB_len]
    rw [hs] at hs8 hD hmem ⊢
    rw [hdg] at hD hmem ⊢
    have HD := Lib.hid hD
    have HDL := Lib.hid hdl
    clear hD hs hdg hdl e
    rcases (by omega : n < 0 ∨ 128 ≤ n) with hneg | hpos
    · have hH : numH n = 144 := if_pos hneg
      have hx : -1 - n = (U : Int) := by rw [← hU]; unfold numU; rw [if_pos hneg]; omega
      rw [hH] at hmem ⊢
      clear hU hH h
      go_enter Tryz.func122, Tryz.ntmps122
      obtain ⟨V, hV⟩ : ∃ V : Nat, IntKind.u64.wrap n = (V : Int) := ⟨(n + 18446744073709551616).toNat, by show n % 18446744073709551616 = _; omega⟩
      have hV2 : V < 18446744073709551616 := by have : n % 18446744073709551616 = (V : Int) := hV; omega
      have HV2 := Lib.hid hV2
      clear hV2
      go_wp2_with fail
      refine (rDigits w V HV2.out).mono ?_
      rintro e w1 ⟨v, rfl, -, hB⟩
      have HB1 := Lib.hid hB
      clear hB hV
      have hxw : IntKind.u64.wrap (U : Int) = (U : Int) := by show (U : Int) % 18446744073709551616 = _; omega
      go_wp2_with fail
      refine (HD.out w1).mono ?_
      rintro e w2 ⟨v2, rfl, hown, hB⟩
      obtain ⟨av, cv, rfl⟩ := row_sl hown
      have hBB := HB1.out.trans (hB.mono HB1.out.size)
      have hsz := hBB.size
      have HOW := Lib.hid (own_base hown HB1.out.size); have HB := Lib.hid hBB
      clear hown hB hBB
      go_wp2_with (at_builtin; refine wpList_append_src rfl _ _ 42 rfl w.heap.size 5 i0 (.int .u8 0) 1 Tryz.underlying42 hi' hz0 hz1 hz2 rfl (by decide) _ 1 [.int .u8 (144 + (s : Int))] rfl (own_new #[.int .u8 (144 + (s : Int))] hsz (by simp)) cv rfl ((Rd.own HOW.out).fr ((Fr.refl (fun _ => False) w2).alloc _) (fun _ _ h => h)) (by intro u hu; simp [u8s] at hu; obtain ⟨x, _, rfl⟩ := hu; rfl) (by unfold maxLen; omega) (by omega) (by simp; omega) ?_; intro v' w3 hown' hgrow _)
      go_ret
      exact ⟨_, rfl, own_row_bn hown' hmem.out, (HB.out.alloc hsz _).grown hgrow (by simp; omega) (fun r hr => by cases hr; exact hsz)⟩
    · have hH : numH n = 128 := if_neg (by omega)
      have hx : n = (U : Int) := by rw [← hU]; unfold numU; rw [if_neg (by omega)]; omega
      rw [hH] at hmem ⊢
      clear hU hH h HN
      subst hx
      go_enter Tryz.func122, Tryz.ntmps122
      go_wp2_with fail
      refine (HD.out w).mono ?_
      rintro e w1 ⟨v, rfl, hown, hB⟩
      obtain ⟨av, cv, rfl⟩ := row_sl hown
      have hsz := hB.size
      have HOW := Lib.hid hown; have HB := Lib.hid hB
      clear hown hB
      go_wp2_with (at_builtin; refine wpList_append_src rfl _ _ 42 rfl w.heap.size 5 i0 (.int .u8 0) 1 Tryz.underlying42 hi' hz0 hz1 hz2 rfl (by decide) _ 1 [.int .u8 (128 + (s : Int))] rfl (own_new #[.int .u8 (128 + (s : Int))] hsz (by simp)) cv rfl ((Rd.own HOW.out).fr ((Fr.refl (fun _ => False) w1).alloc _) (fun _ _ h => h)) (by intro u hu; simp [u8s] at hu; obtain ⟨x, _, rfl⟩ := hu; rfl) (by unfold maxLen; omega) (by omega) (by simp; omega) ?_; intro v' w2 hown' hgrow _)
      go_ret
      exact ⟨_, rfl, own_row_bn hown' hmem.out, (HB.out.alloc hsz _).grown hgrow (by simp; omega) (fun r hr => by cases hr; exact hsz)⟩
end Go.Proofs.YtlniekobijcanaaGreat
namespace Go.Proofs.YtlniekobijcanaaGreat
open Go.RowKit Go.Maps
/-- The document's maker at g, whose row lies from block B on. -/
structure RK (w : World) (g B : Nat) (s : List Int × Bool) : Prop where
  ex : ∃ v, w.heap[g]? = some (.cells #[v, .bool s.2] 118) ∧ w.ownsRow B 5 1 v s.1.length (u8s s.1) ∧ ∀ b, v.ownBlock = some b → b ≠ g
  low : B ≤ g
  len : (s.1.length : Int) ≤ 262144
theorem RK.fr {S : Nat → Prop} {w w' : World} {g B : Nat} {s : List Int × Bool} (h : RK w g B s) (hf : Fr S w w') (hS : ∀ b, B ≤ b → ¬ S b) : RK w' g B s := by
  obtain ⟨⟨v, h1, h2, h3⟩, h5, h6⟩ := h
  refine ⟨⟨v, hf.at_ h1 (hS _ h5), hf.row h2 (fun b hb => hS _ ?_), h3⟩, h5, h6⟩
  rcases h2.2 with ⟨rfl, _⟩ | ⟨g', c, cur, rfl, hb', _⟩
  · cases hb
  · cases hb; exact hb'
theorem RK.lt {w : World} {g B : Nat} {s : List Int × Bool} (h : RK w g B s) : g < w.heap.size := by
  obtain ⟨⟨v, h1, -⟩, -⟩ := h
  exact (Array.getElem?_eq_some_iff.1 h1).1
theorem RK.new (w : World) : RK (w.alloc (.cells #[.slice none 0 0, .bool false] 118)) w.heap.size w.heap.size ([], false) :=
  ⟨⟨_, heap_new _ _, World.ownsRow_nil _ _ _ _, fun b hb => by cases hb⟩, Nat.le_refl _, by simp⟩
def mkQ (s : List Int × Bool) (c : List Int) : List Int × Bool := (putB s.1 s.2 c, putL s.1 s.2 c)
set_option maxRecDepth 100000 in
set_option maxHeartbeats 1000000 in
theorem rPut (w : World) (g B : Nat) (s : List Int × Bool) (v : Value) (c : List Int) (h : RK w g B s) (hv : Bs w v c) (hc : (c.length : Int) ≤ 1099511627776) (hB : B ≤ w.heap.size) :
    Calls Tryz.prog 121 #[.pointer (some ⟨g, 0, none⟩), v] w fun e w' => (∃ v, e = .returned v) ∧ RK w' g B (mkQ s c) ∧ Fr (fun b => b = g) w w' := by
  obtain ⟨i0, hi', hz0, hz1, hz2⟩ := info_parts infoU8
  obtain ⟨bs, long⟩ := s
  have HH := Lib.hid h; have HV := Lib.hid hv
  obtain ⟨⟨mv, h1, h2, h3⟩, hlow, hlen⟩ := h
  dsimp only at h1 h2 hlen
  obtain ⟨am, cm, rfl⟩ := row_sl h2
  obtain ⟨_, a, cc, rfl, hcc⟩ := hv
  have hcR : Hid (Rd w 1 a c.length (u8s c)) := Lib.hid ⟨by simp [u8s], fun hp => by
    obtain ⟨x0, hx0⟩ : ∃ x0, c[0]? = some x0 := ⟨c[0], List.getElem?_eq_getElem hp⟩
    obtain ⟨_, _, ad, rfl, _⟩ := hcc 0 x0 hx0
    refine ⟨ad, rfl, fun j u hu => ?_⟩
    simp only [u8s, List.getElem?_map, Option.map_eq_some_iff] at hu
    obtain ⟨x, hx, rfl⟩ := hu
    obtain ⟨_, _, ad', e, hcl⟩ := hcc j x hx
    cases e
    exact hcl⟩
  have b0 := cell_obj h1 0 (.slice am bs.length cm) rfl
  have b1 := cell_obj h1 1 (.bool long) rfl
  have f1 := obj_frozen h1 1
  have f0 := obj_frozen h1 0
  have HO := Lib.hid h1; have HR := Lib.hid h2; have HG := Lib.hid h3
  obtain ⟨n, hn⟩ : ∃ n, bs.length = n := ⟨_, rfl⟩
  obtain ⟨k, hk⟩ : ∃ k, c.length = k := ⟨_, rfl⟩
  have HN := Lib.hid hn; have HK := Lib.hid hk
  rw [hn] at b0 HO HR hlen HG
  rw [hk] at hc hcR ⊢
  have hF1 : Hid (Fr (fun b => b = g) w (w.setCell ⟨g, 1, none⟩ (.bool true))) := Lib.hid ((Fr.refl (fun b => b = g) w).setCell (p := ⟨g, 1, none⟩) (fun _ => rfl) _)
  have hglt : g < w.heap.size := (Array.getElem?_eq_some_iff.1 h1).1
  clear h1 h2 h3 hcc hn hk
  cases long with
  | true =>
    have e : mkQ (bs, true) c = (bs, true) := by simp [mkQ, putB, putL]
    have HE := Lib.hid e
    clear e b0
    go_enter Tryz.func121, Tryz.ntmps121
    go_wp2
    refine bodyPost_ret (results_none rfl _ _ _) rfl ?_
    rw [HE.out]
    refine ⟨⟨_, rfl⟩, ⟨⟨_, obj_set HO.out 1 (.bool true), ?_, HG.out⟩, hlow, by show (bs.length : Int) ≤ _; rw [HN.out]; exact hlen⟩, hF1.out⟩
    show World.ownsRow _ _ _ _ _ bs.length _
    rw [HN.out]
    exact hF1.out.row HR.out (fun b hb => HG.out b hb)
  | false =>
    by_cases hov : 262144 < n + k
    · have e : mkQ (bs, false) c = (bs, true) := by simp [mkQ, putB, putL, HN.out, HK.out, hov]
      have HE := Lib.hid e
      clear e
      go_enter Tryz.func121, Tryz.ntmps121
      go_wp2
      refine bodyPost_ret (results_none rfl _ _ _) rfl ?_
      rw [HE.out]
      refine ⟨⟨_, rfl⟩, ⟨⟨_, obj_set HO.out 1 (.bool true), ?_, HG.out⟩, hlow, by show (bs.length : Int) ≤ _; rw [HN.out]; exact hlen⟩, hF1.out⟩
      show World.ownsRow _ _ _ _ _ bs.length _
      rw [HN.out]
      exact hF1.out.row HR.out (fun b hb => HG.out b hb)
    · have e : mkQ (bs, false) c = (bs ++ c, false) := by simp [mkQ, putB, putL, HN.out, HK.out, hov]
      have HE := Lib.hid e
      clear e hF1
      go_enter Tryz.func121, Tryz.ntmps121
      have hbs1 : ∀ u ∈ u8s bs, u.oneCell' = true := by intro u hu; simp [u8s] at hu; obtain ⟨x, _, rfl⟩ := hu; rfl
      have hcs1 : ∀ u ∈ u8s c, u.oneCell' = true := by intro u hu; simp [u8s] at hu; obtain ⟨x, _, rfl⟩ := hu; rfl
      have HB1 := Lib.hid hbs1; have HC1 := Lib.hid hcs1
      clear hbs1 hcs1
      go_wp2_with (first
        | (at_builtin; refine wpList_append_src rfl (.tmp 23) _ 42 rfl B 5 i0 (.int .u8 0) 1 Tryz.underlying42 hi' hz0 hz1 hz2 rfl (by decide) (.slice (some ⟨w.heap.size, 0, none⟩) 0 0) 0 [] rfl (own_new #[] hB (by simp)) cm rfl ((Rd.own HR.out).fr ((Fr.refl (fun _ => False) w).alloc (.cells #[] 5)) (fun _ _ h => h)) HB1.out (by unfold maxLen; omega) (by omega) (by simp; omega) ?_; intro v1 w1 hown1 hgrow1 hloc1; simp only [Nat.zero_add, List.nil_append] at hown1; obtain ⟨a1, c1, rfl⟩ := row_sl hown1; have hF1 : Hid (Fr (fun _ => False) w w1) := Lib.hid (((Fr.refl (fun _ => False) w).alloc (.cells #[] 5)).trans' (Fr.grown (S := fun b => b = w.heap.size) hgrow1 (fun r hr _ => by cases hr; rfl)) (fun b hb e => by omega)); have hL1 := Lib.hid hloc1; have hO1 := Lib.hid hown1; have hs1 := hF1.out.size; have hcell1 := hF1.out.at_ HO.out (fun h => h); have fr0 := obj_frozen hcell1 0; have ce0 := cell_obj hcell1 0 (.slice am n cm) rfl; clear hcell1 hown1 hgrow1 hloc1)
        | (at_builtin; refine wpList_append_src rfl (.tmp 28) _ 42 rfl B 5 i0 (.int .u8 0) 1 Tryz.underlying42 hi' hz0 hz1 hz2 rfl (by decide) (.slice a1 n c1) n (u8s bs) rfl hO1.out cc rfl (hcR.out.fr hF1.out (fun _ _ h => h)) HC1.out (by unfold maxLen; omega) (by omega) (by omega) ?_; intro v2 w2 hown2 hgrow2 hloc2; obtain ⟨a2, c2, rfl⟩ := row_sl hown2; have hF2 : Hid (Fr (fun _ => False) w w2) := Lib.hid (hF1.out.trans' (Fr.grown (S := fun b => w.heap.size ≤ b) hgrow2 (fun r hr _ => by rcases hL1.out with e | e; (rw [e] at hr; cases hr; exact Nat.le_refl _); (rw [e] at hr; cases hr; simp))) (fun b hb e => by omega)); have hL2 : Hid (∀ b, (Value.slice a2 (n + k) c2).ownBlock = some b → w.heap.size ≤ b) := Lib.hid (by intro b hb; rcases hloc2 with e | e; (rw [e] at hb; rcases hL1.out with e | e; (rw [e] at hb; cases hb; exact Nat.le_refl _); (rw [e] at hb; cases hb; simp)); (rw [e] at hb; cases hb; exact hs1)); have hO2 := Lib.hid hown2; have hcell2 := hF2.out.at_ HO.out (fun h => h); have fr0 := obj_frozen hcell2 0; have ce0 := cell_obj hcell2 0 (.slice am n cm) rfl; clear hcell2 hown2 hgrow2 hloc2))
      go_end0
      rw [HE.out]
      have hF3 : Fr (fun b => b = g) w2 (w2.setCell ⟨g, 0, none⟩ (.slice a2 (n + k) c2)) := (Fr.refl (fun b => b = g) w2).setCell (p := ⟨g, 0, none⟩) (fun _ => rfl) _
      have hl : (bs ++ c).length = n + k := by rw [List.length_append, HN.out, HK.out]
      refine ⟨⟨_, rfl⟩, ⟨⟨_, obj_set (hF2.out.at_ HO.out (fun h => h)) 0 (.slice a2 (n + k) c2), ?_, fun b hb => by have := hL2.out b hb; omega⟩, hlow, by show ((bs ++ c).length : Int) ≤ _; rw [hl]; omega⟩, (hF2.out.mono (fun _ _ e => e.elim)).trans hF3⟩
      show World.ownsRow _ _ _ _ _ (bs ++ c).length (u8s (bs ++ c))
      rw [hl, show u8s (bs ++ c) = u8s bs ++ u8s c by simp [u8s]]
      exact hF3.row hO2.out (fun b hb => by have := hL2.out b hb; omega)
set_option maxRecDepth 100000 in
theorem rMNum (w : World) (g B : Nat) (s : List Int × Bool) (n : Int) (h : RK w g B s) (hn : okI n) (hB : B ≤ w.heap.size) :
    Calls Tryz.prog 81 #[.pointer (some ⟨g, 0, none⟩), .int .i64 n] w fun e w' => (∃ v, e = .returned v) ∧ RK w' g B (mkQ s (numB n)) ∧ Fr (fun b => b = g) w w' := by
  have HH := Lib.hid h; have HN := Lib.hid hn; have hg := h.lt
  clear h hn
  go_enter Tryz.func81, Tryz.ntmps81
  go_wp2_with fail
  refine (rNum w n HN.out).mono ?_
  rintro e w1 ⟨v, rfl, hv, hb⟩
  have HV := Lib.hid hv.1; have HB := Lib.hid hb
  have hs := hb.size
  clear hv hb
  go_wp2_with fail
  refine (rPut w1 g B s v (numB n) (HH.out.fr (Fr.below (S := fun _ => False) HB.out) (fun _ _ h => h)) HV.out (by have := (numB_len HN.out).2; omega) (by omega)).mono ?_
  rintro e w2 ⟨⟨v2, rfl⟩, hk, hf⟩
  have HK := Lib.hid hk; have HF := Lib.hid hf
  clear hk hf
  go_wp2_with fail
  go_end0
  exact ⟨⟨_, rfl⟩, HK.out, (Fr.below HB.out).trans' HF.out (fun b _ e => e)⟩
end Go.Proofs.YtlniekobijcanaaGreat
