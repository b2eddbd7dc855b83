/- Texts of this claim, joined: Small helpers of my own for all walks of this seat; Maps of the call's own, as lists of keys and values, rising by key: my own view over the library's 'ownsMap'; The frame of a step: which old blocks it may have turned. My own relation for all contracts; Timers in the order in which they get due: plain facts on lists; no program in sight; ident.Table: the object, and New, made, isClient, isNumber, client, Mark, Len; crc: bits.RotateLeft64, round, word (written by crc_gen.py); Slices of bytes; crc: word, Mix; ident.Table: Mark, Len, Ask; ident.Table: Ask; ident: maps.DeleteFunc on rows; ident.Table: Low; ident.Table: at nil; Open; ident.Table: Ask, of numbers that may be; ident.Table: Tell; A step of a thing that owns blocks: what it owns behind it is what it owned, or new. -/
import Derived.Test.YtakjiicnbocjeaaRows
import Derived.WalkKit
import Derived.WalkLawsBesides
import Derived.WalkSpells
import Derived.Lib.Hide
import Derived.Deep.AppendLies
import Derived.Maps.OwnIn
import Derived.Maps.OwnSet
import Derived.Maps.Ext
import Derived.Sort.MapsRangeIn
import Derived.Sort.KeysCollected
import Derived.RangeFuncNested
import Derived.Handy
import Derived.StillTailTactics
import Derived.BigQuiet
import Derived.Lib.SlMapFilter
import Derived.Laws.IdiomRangeMap
namespace Go.Proofs.Ytakjiicnbocjeaa
open Go.RowKit
theorem ret_int {k : IntKind} {a b : Int} (h : a = b) : Ending.returned (.int k a) = .returned (.int k b) := by rw [h]
theorem ret_bool {a b : Bool} (h : a = b) : Ending.returned (.bool a) = .returned (.bool b) := by rw [h]
theorem ret_val {a b : Value} (h : a = b) : Ending.returned a = .returned b := by rw [h]
theorem val_int {k : IntKind} {a b : Int} (h : a = b) : Value.int k a = .int k b := by rw [h]
theorem val_bool {a b : Bool} (h : a = b) : Value.bool a = .bool b := by rw [h]
theorem run_equalIn_func_nil {P : Program} (w : World) (d : Nat) (t : TypeId) (ps rs : Array TypeId) (b : Bool) (f : Fn) (x y : Array Value) (h : P.underlying t = some (.func ps rs b)) :
    (Op.equalIn (d + 1) t (.func f x y) .nilFunc).run P w = .ok false w := by
  simp [Op.equalIn, run_underlying h]
/-- 'f == nil', f a function that is there. -/
theorem run_eql_func_nil {P : Program} (w : World) (t : TypeId) (ps rs : Array TypeId) (b : Bool) (f : Fn) (x y : Array Value) (h : P.underlying t = some (.func ps rs b)) :
    (binOp .eql t (.func f x y) .nilFunc).run P w = .ok (.bool false) w := by
  simp only [binOp]
  simp [Op.equal, Op.maxDepth, run_equalIn_func_nil w 9999 t ps rs b f x y h]
theorem own_zero {w : World} {base : Nat} {e : TypeId} {size : Nat} {v : Value} {xs : List Value} (h : w.ownsRow base e size v 0 xs) : ∃ a c, v = .slice a 0 c := by
  rcases h.2 with ⟨rfl, _⟩ | ⟨g', cap, cur, rfl, _⟩
  · exact ⟨_, _, rfl⟩
  · exact ⟨_, _, rfl⟩
theorem cell_obj {w : World} {b : Nat} {cs : Array Value} {t : TypeId} (h : w.heap[b]? = some (.cells cs t)) (j : Nat) (v : Value) (hj : cs[j]? = some v) : w.cell? ⟨b, j, none⟩ = some v := by simp [World.cell?, h, hj]
theorem obj_set {w : World} {g : Nat} {cs : Array Value} {t : TypeId} (h : w.heap[g]? = some (.cells cs t)) (j : Nat) (v : Value) : (w.setCell ⟨g, j, none⟩ v).heap[g]? = some (.cells (cs.setIfInBounds j v) t) := by
  obtain ⟨hlt, hk⟩ := Array.getElem?_eq_some_iff.1 h
  show (w.heap.modify g _)[g]? = _
  rw [Array.getElem?_eq_getElem (by rw [Array.size_modify]; exact hlt), Array.getElem_modify_self, hk]
  rfl
theorem obj_frozen {w : World} {g : Nat} {cs : Array Value} {t : TypeId} (h : w.heap[g]? = some (.cells cs t)) (j : Nat) : w.frozen? ⟨g, j, none⟩ = false := by simp [World.frozen?, h]
theorem heap_new (w : World) (o : Obj) : (w.alloc o).heap[w.heap.size]? = some o := by show (w.heap.push o)[w.heap.size]? = _; simp
theorem heap_at {w : World} {b : Nat} (h : b = w.heap.size) (o : Obj) : (w.alloc o).heap[b]? = some o := h ▸ heap_new w o
theorem heap_keep {w : World} {b : Nat} {x : Obj} (h : w.heap[b]? = some x) (o : Obj) : (w.alloc o).heap[b]? = some x := by
  have hb := (Array.getElem?_eq_some_iff.1 h).1
  show (w.heap.push o)[b]? = _
  rw [Array.getElem?_push, if_neg (by omega)]; exact h
end Go.Proofs.Ytakjiicnbocjeaa
namespace Go.Proofs.Ytakjiicnbocjeaa
open Go.RowKit Go.Maps

/-- Keys of a kind: how they are encoded, how they are told, which they are. -/
structure KT (κ : Type) where
  enc : κ → Value
  lit : κ → Lit
  ok : κ → Prop
structure KO (P : Program) (k : TypeId) {κ : Type} [DecidableEq κ] (T : KT κ) : Prop where
  keyed : Keyed P k
  key : ∀ {x : κ}, T.ok x → keyOf P k (T.enc x) = some (T.lit x)
  back : ∀ {v : Value} {kl : Lit}, keyOf P k v = some kl → ∃ x : κ, T.ok x ∧ v = T.enc x ∧ kl = T.lit x
  same : ∀ x y : κ, (T.lit x).sameKey (T.lit y) = decide (x = y)

def okI (x : Int) : Prop := -9223372036854775808 ≤ x ∧ x ≤ 9223372036854775807
theorem wf_okI {x : Int} : (Lit.int .i64 x).wf = true ↔ okI x := by
  simp [Lit.wf, okI, IntKind.min, IntKind.max, IntKind.signed, IntKind.bits]
def ktI : KT Int where
  enc := .int .i64
  lit := .int .i64
  ok := okI
theorem koI {P : Program} {k : TypeId} (hk : P.underlying k = some (.int .i64)) : KO P k ktI where
  keyed := int_keyed hk
  key h := keyOf_int_mk hk (wf_okI.2 h)
  back {v kl} h := by
    cases v <;> simp [keyOf, hk, mapKey] at h
    obtain ⟨⟨rfl, h1⟩, rfl⟩ := h
    exact ⟨_, wf_okI.1 h1, rfl, rfl⟩
  same x y := by simp [ktI, Lit.sameKey]

def heldR (v : Value) : Option (DataW Value × List MemPlace) := some (.held v, [])
variable {κ ν : Type} [DecidableEq κ]
def insS (lt : κ → κ → Bool) (x : κ × ν) : List (κ × ν) → List (κ × ν)
  | [] => [x]
  | y :: r => if lt x.1 y.1 then x :: y :: r else y :: insS lt x r
def delS (l : List (κ × ν)) (x : κ) : List (κ × ν) := l.filter fun p => !decide (p.1 = x)
def putS (lt : κ → κ → Bool) (l : List (κ × ν)) (x : κ) (v : ν) : List (κ × ν) := insS lt (x, v) (delS l x)
def getS : List (κ × ν) → κ → Option ν
  | [], _ => none
  | p :: r, x => if p.1 = x then some p.2 else getS r x

variable {P : Program} {k : TypeId}
def KT.lt (T : KT κ) (x y : κ) : Bool := (T.lit x).before (T.lit y)
def KT.dat (T : KT κ) (enc : ν → Value) (l : List (κ × ν)) : DataW Value := .map (l.map fun p => (T.lit p.1, .held (enc p.2)))
/-- Block b is a map of keys of kind T, whose entries are l, rising by key. -/
def Mp (P : Program) (w : World) (k : TypeId) (T : KT κ) (enc : ν → Value) (b : Nat) (l : List (κ × ν)) : Prop := ∃ n, w.ownsMap P k heldR b n (T.dat enc l)
variable {T : KT κ}

omit [DecidableEq κ] in
theorem dat_ins (T : KT κ) (enc : ν → Value) (x : κ × ν) (l : List (κ × ν)) :
    DataW.insert (T.lit x.1, .held (enc x.2)) (l.map fun p => (T.lit p.1, .held (enc p.2))) = (insS T.lt x l).map fun p => (T.lit p.1, .held (enc p.2)) := by
  induction l with
  | nil => rfl
  | cons y r ih =>
    show (if (T.lit x.1).before (T.lit y.1) = true then _ else _) = List.map _ (if (T.lit x.1).before (T.lit y.1) = true then _ else _)
    cases (T.lit x.1).before (T.lit y.1)
    · simp only [Bool.false_eq_true, if_false, List.map_cons, ih]
    · simp
theorem dat_del (K : KO P k T) (enc : ν → Value) (x : κ) (l : List (κ × ν)) :
    (l.map fun p => (T.lit p.1, (.held (enc p.2) : DataW Value))).filter (fun p => !p.1.sameKey (T.lit x)) = (delS l x).map fun p => (T.lit p.1, .held (enc p.2)) := by
  unfold delS
  rw [List.filter_map]
  congr 1
  apply List.filter_congr
  intro p _
  simp [K.same]
theorem dat_put (K : KO P k T) (enc : ν → Value) (l : List (κ × ν)) (x : κ) (v : ν) : (T.dat enc l).put (T.lit x) (.held (enc v)) = T.dat enc (putS T.lt l x v) := by
  show DataW.map (DataW.insert _ _) = _
  rw [dat_del K, dat_ins T enc (x, v)]
  rfl
theorem dat_strike (K : KO P k T) (enc : ν → Value) (l : List (κ × ν)) (x : κ) : (T.dat enc l).del (T.lit x) = T.dat enc (delS l x) := by
  show DataW.map _ = _
  rw [dat_del K]
  rfl
theorem dat_at (K : KO P k T) (enc : ν → Value) (x : κ) (z : DataW Value) : ∀ l : List (κ × ν), (T.dat enc l).atKey (T.lit x) z = (match getS l x with | some v => .held (enc v) | none => z)
  | [] => rfl
  | p :: r => by
    have ih := dat_at K enc x z r
    simp only [KT.dat, DataW.atKey] at ih ⊢
    simp only [List.map_cons, List.find?_cons, K.same, getS]
    by_cases h : p.1 = x
    · simp [h]
    · simp only [h, decide_false, if_false]
      exact ih
theorem dat_has (K : KO P k T) (enc : ν → Value) (x : κ) : ∀ l : List (κ × ν), has (T.dat enc l) (T.lit x) = (getS l x).isSome
  | [] => rfl
  | p :: r => by
    have ih := dat_has K enc x r
    simp only [KT.dat, has] at ih ⊢
    simp only [List.map_cons, List.any_cons, K.same, getS]
    by_cases h : p.1 = x
    · simp [h]
    · simp only [h, decide_false, if_false, Bool.false_or]
      exact ih
omit [DecidableEq κ] in
theorem dat_size (T : KT κ) (enc : ν → Value) (l : List (κ × ν)) : Maps.size (T.dat enc l) = l.length := by simp [KT.dat, Maps.size]

variable {w w' : World} {enc : ν → Value} {b : Nat} {l : List (κ × ν)} {t e : TypeId}
omit [DecidableEq κ] in
theorem Mp.made (P : Program) (w : World) (k : TypeId) (T : KT κ) (enc : ν → Value) : Mp P (w.alloc (.map #[] 0)) k T enc w.heap.size ([] : List (κ × ν)) := ⟨0, World.ownsMap_made w P k heldR⟩
omit [DecidableEq κ] in
theorem Mp.lt (h : Mp P w k T enc b l) : b < w.heap.size := h.elim fun _ h => h.lt
omit [DecidableEq κ] in
theorem Mp.kept {row : Option Nat} (h : Mp P w k T enc b l) (hg : w.grownBy w' row) (hne : some b ≠ row) : Mp P w' k T enc b l := h.elim fun n h => ⟨n, h.kept hg hne⟩
omit [DecidableEq κ] in
theorem Mp.at_ (h : Mp P w k T enc b l) (hg : w'.heap[b]? = w.heap[b]?) : Mp P w' k T enc b l := by
  obtain ⟨n, es, clock, hb, r⟩ := h
  exact ⟨n, es, clock, hg.trans hb, r⟩
omit [DecidableEq κ] in
theorem Mp.below {B : Nat} (h : Mp P w k T enc b l) (hg : Below B w w') (hb : b < B) : Mp P w' k T enc b l := h.at_ (hg.block b hb)
omit [DecidableEq κ] in
theorem Mp.alloc (h : Mp P w k T enc b l) (o : Obj) : Mp P (w.alloc o) k T enc b l := h.elim fun n h => ⟨n, h.alloc o⟩
omit [DecidableEq κ] in
theorem Mp.drew (h : Mp P w k T enc b l) : Mp P w.drew k T enc b l := h
omit [DecidableEq κ] in
theorem Mp.drewN (h : Mp P w k T enc b l) (n : Nat) : Mp P (w.drewN n) k T enc b l := h
omit [DecidableEq κ] in
theorem Mp.setCell (h : Mp P w k T enc b l) {a : Addr} (ha : b ≠ a.block) (u : Value) : Mp P (w.setCell a u) k T enc b l := h.elim fun n h => ⟨n, h.setCell ha u⟩
/-- The keys are of their kind, and rise. -/
theorem Mp.ok (h : Mp P w k T enc b l) (K : KO P k T) : (∀ p ∈ l, T.ok p.1) ∧ l.Pairwise (fun p q => T.lt p.1 q.1 = true) := by
  obtain ⟨n, h⟩ := h
  constructor
  · obtain ⟨es, hD, hk⟩ := h.keysOf
    have e1 : l.map (fun p => (T.lit p.1, (.held (enc p.2) : DataW Value))) = es := by injection hD
    intro p hp
    have : (T.lit p.1, (.held (enc p.2) : DataW Value)) ∈ es := by rw [← e1]; exact List.mem_map.2 ⟨p, hp, rfl⟩
    obtain ⟨v, hv⟩ := hk _ this
    obtain ⟨x, hx, _, e2⟩ := K.back hv
    have := K.same p.1 x
    rw [← e2] at this
    have h3 : (T.lit p.1).sameKey (T.lit p.1) = true := by rw [K.same]; simp
    rw [h3] at this
    have : p.1 = x := by simpa using this.symm
    rw [this]; exact hx
  · obtain ⟨es, hD, hs, _⟩ := h.canon K.keyed
    have e1 : l.map (fun p => (T.lit p.1, (.held (enc p.2) : DataW Value))) = es := by injection hD
    rw [← e1, List.pairwise_map] at hs
    exact hs
theorem Mp.look (h : Mp P w k T enc b l) (K : KO P k T) (ht : P.underlying t = some (.map k e)) {z : Value} (hz : (zeroValue e).run P w = .ok z w) {x : κ} (hx : T.ok x) :
    (Instr.lookup t (.map (some b)) (T.enc x) false).run P w = .ok (match getS l x with | some v => enc v | none => z) w := by
  obtain ⟨n, h⟩ := h
  obtain ⟨v, ps, hrun, hv⟩ := h.lookup K.keyed ht hz (zd := .held z) (zp := []) rfl (K.key hx)
  rw [hrun]
  rw [dat_at K] at hv
  unfold heldR at hv
  cases hg : getS l x with
  | none => rw [hg] at hv; simp at hv; rw [hv.1]
  | some u => rw [hg] at hv; simp at hv; rw [hv.1]
theorem Mp.look_ok (h : Mp P w k T enc b l) (K : KO P k T) (ht : P.underlying t = some (.map k e)) {z : Value} (hz : (zeroValue e).run P w = .ok z w) {x : κ} (hx : T.ok x) :
    (Instr.lookup t (.map (some b)) (T.enc x) true).run P w = .ok (.tuple #[match getS l x with | some v => enc v | none => z, .bool (getS l x).isSome]) w := by
  obtain ⟨n, h⟩ := h
  obtain ⟨v, ps, hrun, hv⟩ := h.look_ok K.keyed ht hz (zd := .held z) (zp := []) rfl (K.key hx)
  rw [hrun, dat_has K]
  rw [dat_at K] at hv
  unfold heldR at hv
  cases hg : getS l x with
  | none => rw [hg] at hv; simp at hv; rw [hv.1]
  | some u => rw [hg] at hv; simp at hv; rw [hv.1]
omit [DecidableEq κ] in
theorem Mp.len (h : Mp P w k T enc b l) (ht : P.underlying t = some (.map k e)) (ty : TypeId) : (Builtin.len_ #[t] ty #[.map (some b)]).run P w = .ok (.int .i64 l.length) w := by
  obtain ⟨n, h⟩ := h
  rw [h.len ht ty, dat_size]
omit [DecidableEq κ] in
theorem Mp.owns (h : Mp P w k T enc b l) : w.ownsMap P k heldR b l.length (T.dat enc l) := by
  obtain ⟨n, es, clock, hb, F, hs, hD⟩ := h
  refine ⟨es, clock, hb, F, ?_, hD⟩
  have := congrArg Maps.size hD
  rw [dat_size] at this
  simp [Maps.size, length_sorted] at this
  omega
theorem Mp.store (h : Mp P w k T enc b l) (K : KO P k T) (ht : P.underlying t = some (.map k e)) (hl : l.length < 9223372036854775807) {x : κ} (hx : T.ok x) (v : ν) :
    ∃ w', (Instr.mapUpdate t (.map (some b)) (T.enc x) (enc v)).run P w = .ok () w' ∧ Mp P w' k T enc b (putS T.lt l x v) ∧ w.mapTurned w' b := by
  obtain ⟨w', h1, h2, h3⟩ := h.owns.store K.keyed ht (by unfold maxLen; omega) (K.key hx) (d := .held (enc v)) (ps := []) rfl
  exact ⟨w', h1, ⟨_, by rw [← dat_put K]; exact h2⟩, h3⟩
theorem Mp.drop (h : Mp P w k T enc b l) (K : KO P k T) (ht : P.underlying t = some (.map k e)) {x : κ} (hx : T.ok x) (ty : TypeId) :
    ∃ w', (Builtin.delete_ #[t, k] ty #[.map (some b), T.enc x]).run P w = .ok (.tuple #[]) w' ∧ Mp P w' k T enc b (delS l x) ∧ w.mapTurned w' b := by
  obtain ⟨n, h⟩ := h
  obtain ⟨w', h1, h2, h3⟩ := h.drop K.keyed ht (K.key hx) ty
  exact ⟨w', h1, ⟨_, by rw [← dat_strike K]; exact h2⟩, h3⟩
theorem map_ne_cells {w : World} {κ ν : Type} {P : Program} {k : TypeId} {T : KT κ} {enc : ν → Value} {b g : Nat} {l : List (κ × ν)} {cs : Array Value} {t : TypeId} (h : Mp P w k T enc b l) (hg : w.heap[g]? = some (.cells cs t)) : g ≠ b := by
  rintro rfl
  obtain ⟨_, es, clock, hb, _⟩ := h
  rw [hg] at hb; cases hb
end Go.Proofs.Ytakjiicnbocjeaa
namespace Go.Proofs.Ytakjiicnbocjeaa
open Go.RowKit
/-- w' is w, but for the old blocks of S, and for new blocks. -/
structure Fr (S : Nat → Prop) (w w' : World) : Prop where
  os : w'.os = w.os
  tape : w'.tape = w.tape
  output : w'.output = w.output
  size : w.heap.size ≤ w'.heap.size
  same : ∀ b, b < w.heap.size → ¬ S b → w'.heap[b]? = w.heap[b]?
section
variable {S S' : Nat → Prop} {w w' w'' : World}
theorem Fr.refl (S : Nat → Prop) (w : World) : Fr S w w := ⟨rfl, rfl, rfl, Nat.le_refl _, fun _ _ _ => rfl⟩
theorem Fr.trans (h : Fr S w w') (h' : Fr S w' w'') : Fr S w w'' :=
  ⟨h'.os.trans h.os, h'.tape.trans h.tape, h'.output.trans h.output, Nat.le_trans h.size h'.size, fun b hb hs => (h'.same b (Nat.lt_of_lt_of_le hb h.size) hs).trans (h.same b hb hs)⟩
theorem Fr.mono (h : Fr S w w') (hS : ∀ b, b < w.heap.size → S b → S' b) : Fr S' w w' := ⟨h.os, h.tape, h.output, h.size, fun b hb hs => h.same b hb (fun e => hs (hS b hb e))⟩
/-- As 'trans', where the second step may turn new blocks too. -/
theorem Fr.trans' (h : Fr S w w') (h' : Fr S' w' w'') (hS : ∀ b, b < w.heap.size → S' b → S b) : Fr S w w'' :=
  ⟨h'.os.trans h.os, h'.tape.trans h.tape, h'.output.trans h.output, Nat.le_trans h.size h'.size, fun b hb hs => (h'.same b (Nat.lt_of_lt_of_le hb h.size) (fun e => hs (hS b hb e))).trans (h.same b hb hs)⟩
theorem Fr.drew (h : Fr S w w') : Fr S w w'.drew := ⟨h.os, h.tape, h.output, h.size, h.same⟩
theorem Fr.drewN (h : Fr S w w') (n : Nat) : Fr S w (w'.drewN n) := ⟨h.os, h.tape, h.output, h.size, h.same⟩
theorem Fr.grown {row : Option Nat} (h : w.grownBy w' row) (hr : ∀ r, row = some r → r < w.heap.size → S r) : Fr S w w' :=
  ⟨h.os, h.tape, h.output, h.size, fun b hb hs => h.block b hb (fun e => hs (hr b e.symm hb))⟩
theorem Fr.below (h : Below w.heap.size w w') : Fr S w w' := ⟨h.os, h.tape, h.output, h.size, fun b hb _ => h.block b hb⟩
theorem Fr.toBelow {B : Nat} (h : Fr S w w') (hS : ∀ b, S b → B ≤ b) (hB : B ≤ w.heap.size) : Below B w w' :=
  ⟨h.os, h.tape, h.output, h.size, fun b hb => h.same b (by omega) (fun e => by have := hS b e; omega)⟩
theorem Fr.alloc (h : Fr S w w') (o : Obj) : Fr S w (w'.alloc o) := h.trans (Fr.grown (row := none) (World.grownBy_alloc w' o none) (fun _ e => by cases e))
theorem Fr.setCell (h : Fr S w w') {p : Addr} (hp : p.block < w.heap.size → S p.block) (u : Value) : Fr S w (w'.setCell p u) :=
  ⟨h.os, h.tape, h.output, by simpa [World.setCell] using h.size, fun b hb hs => (Below.heap_setCell w' p u b (fun e => hs (by rw [e]; exact hp (by rw [← e]; exact hb)))).trans (h.same b hb hs)⟩
theorem Fr.putObj (h : Fr S w w') {l : Nat} (hl : l < w.heap.size → S l) (o : Obj) : Fr S w (w'.putObj l o) :=
  ⟨h.os, h.tape, h.output, by simpa using h.size, fun b hb hs => (World.putObj_heap_other (fun e => hs (by rw [e]; exact hl (by rw [← e]; exact hb)))).trans (h.same b hb hs)⟩
theorem Fr.turned {b : Nat} (h : w.mapTurned w' b) (hb : S b) : Fr S w w' := Fr.grown h.grown (fun r e _ => by cases e; exact hb)
theorem Fr.at_ {b : Nat} {o : Obj} (h : Fr S w w') (hb : w.heap[b]? = some o) (hs : ¬ S b) : w'.heap[b]? = some o := (h.same b (Array.getElem?_eq_some_iff.1 hb).1 hs).trans hb
theorem Fr.cell {p : Addr} {v : Value} (h : Fr S w w') (hc : w.cell? p = some v) (hs : ¬ S p.block) : w'.cell? p = some v :=
  (World.cell?_of_block (h.same p.block (World.block_lt_of_cell? w _ hc) hs)).trans hc
theorem Fr.box {b : Nat} {t : TypeId} {v : Value} (h : Fr S w w') (hb : Boxed w b t v) (hs : ¬ S b) : Boxed w' b t v := h.at_ hb hs
theorem Fr.mp {κ ν : Type} {k : TypeId} {T : KT κ} {enc : ν → Value} {b : Nat} {l : List (κ × ν)} {P : Program} (h : Fr S w w') (hm : Mp P w k T enc b l) (hs : ¬ S b) : Mp P w' k T enc b l :=
  hm.at_ (h.same b hm.lt hs)
theorem Fr.row {base : Nat} {e : TypeId} {size n : Nat} {v : Value} {xs : List Value} (h : Fr S w w') (ho : w.ownsRow base e size v n xs) (hs : ∀ b, v.ownBlock = some b → ¬ S b) : w'.ownsRow base e size v n xs := by
  refine ⟨ho.1, ?_⟩
  rcases ho.2 with h0 | ⟨g, cap, cur, rfl, hbase, hb, r⟩
  · exact .inl h0
  · exact .inr ⟨g, cap, cur, rfl, hbase, h.at_ hb (hs g rfl), r⟩
/-- A block that is none of the program's own data: a loop's record, an iterator over a map or a string .. -/
def auxObj : Obj → Bool
  | .cells .. | .map .. | .pending .. | .view .. | .number .. | .chan .. | .coro .. | .finalizers .. => false
  | _ => true
def AuxAt (B : Nat) (w : World) (b : Nat) : Prop := B ≤ b ∧ ∃ o, w.heap[b]? = some o ∧ auxObj o = true
/-- Behind it cells and maps are as they were, and what lay below B. -/
abbrev Fa (B : Nat) (w w' : World) : Prop := Fr (AuxAt B w) w w'
theorem Fa.cells {B b : Nat} {cs : Array Value} {t : TypeId} {fr : Nat × Nat} (h : Fa B w w') (hb : w.heap[b]? = some (.cells cs t fr)) : w'.heap[b]? = some (.cells cs t fr) :=
  h.at_ hb (fun ⟨_, o, ho, hx⟩ => by rw [hb] at ho; cases ho; cases hx)
theorem Fa.cell {B : Nat} {p : Addr} {v : Value} (h : Fa B w w') (hc : w.cell? p = some v) : w'.cell? p = some v := by
  refine Fr.cell h hc (fun ⟨_, o, ho, hx⟩ => ?_)
  unfold World.cell? at hc
  rw [ho] at hc
  cases o <;> simp at hc
  cases hx
theorem Fa.box {B b : Nat} {t : TypeId} {v : Value} (h : Fa B w w') (hb : Boxed w b t v) : Boxed w' b t v := Fa.cells h hb
theorem Fa.mp {κ ν : Type} {k : TypeId} {T : KT κ} {enc : ν → Value} {B b : Nat} {l : List (κ × ν)} {P : Program} (h : Fa B w w') (hm : Mp P w k T enc b l) : Mp P w' k T enc b l := by
  obtain ⟨n, es, clock, hb, r⟩ := hm
  exact ⟨n, es, clock, h.at_ hb (fun ⟨_, o, ho, hx⟩ => by rw [hb] at ho; cases ho; cases hx), r⟩
theorem Fa.row {base B : Nat} {e : TypeId} {size n : Nat} {v : Value} {xs : List Value} (h : Fa B w w') (ho : w.ownsRow base e size v n xs) : w'.ownsRow base e size v n xs := by
  refine ⟨ho.1, ?_⟩
  rcases ho.2 with h0 | ⟨g, cap, cur, rfl, hbase, hb, r⟩
  · exact .inl h0
  · exact .inr ⟨g, cap, cur, rfl, hbase, Fa.cells h hb, r⟩
theorem Fa.old {B : Nat} (h : Fa B w' w'') (h0 : Fr S w w') (hB : w.heap.size ≤ B) : Fr S w w'' := h0.trans' h (fun b hb hx => by have := hx.1; omega)
end
end Go.Proofs.Ytakjiicnbocjeaa
namespace Go.Proofs.Ytakjiicnbocjeaa
abbrev KV := Int × Int
def tlt (p q : KV) : Bool := decide (p.2 < q.2 ∨ (p.2 = q.2 ∧ p.1 < q.1))
theorem tlt_iff {p q : KV} : tlt p q = true ↔ (p.2 < q.2 ∨ (p.2 = q.2 ∧ p.1 < q.1)) := by simp [tlt]
theorem tlt_irrefl (p : KV) : tlt p p = false := by simp [tlt]
theorem tlt_trans {p q r : KV} (h : tlt p q = true) (h' : tlt q r = true) : tlt p r = true := by rw [tlt_iff] at *; omega
theorem tlt_total {p q : KV} (h : tlt p q = false) (h' : tlt q p = false) : p = q := by
  have a : ¬ (tlt p q = true) := by simp [h]
  have b : ¬ (tlt q p = true) := by simp [h']
  rw [tlt_iff] at a b
  obtain ⟨p1, p2⟩ := p; obtain ⟨q1, q2⟩ := q
  simp only [Prod.mk.injEq] at *
  omega
def tIns (x : KV) : List KV → List KV
  | [] => [x]
  | y :: r => if tlt x y then x :: y :: r else y :: tIns x r
def tSet (l : List KV) (k a : Int) : List KV := tIns (k, a) (delS l k)
def TSort (l : List KV) : Prop := l.Pairwise fun p q => tlt p q = true
theorem tIns_perm (x : KV) : ∀ l, (tIns x l).Perm (x :: l)
  | [] => List.Perm.refl _
  | y :: r => by
    unfold tIns
    split
    · exact List.Perm.refl _
    · exact ((tIns_perm x r).cons y).trans (List.Perm.swap x y r)
theorem tIns_sort {x : KV} : ∀ {l : List KV}, TSort l → (∀ p ∈ l, p ≠ x) → TSort (tIns x l)
  | [], _, _ => by simp [tIns, TSort]
  | y :: r, h, hne => by
    unfold tIns
    have hc := List.pairwise_cons.1 h
    split
    · rename_i hxy
      refine List.pairwise_cons.2 ⟨fun p hp => ?_, h⟩
      rcases List.mem_cons.1 hp with rfl | hp
      · exact hxy
      · exact tlt_trans hxy (hc.1 p hp)
    · rename_i hxy
      have hyx : tlt y x = true := by
        cases hh : tlt y x
        · exact absurd (tlt_total hh (by simpa using hxy)) (hne y (by simp))
        · rfl
      refine List.pairwise_cons.2 ⟨fun p hp => ?_, tIns_sort hc.2 fun p hp => hne p (by simp [hp])⟩
      rcases List.mem_cons.1 ((tIns_perm x r).mem_iff.1 hp) with rfl | hp
      · exact hyx
      · exact hc.1 p hp
/-- Two lists in one order, of one make, are one. -/
theorem sorted_one {α : Type} {lt : α → α → Bool} (irr : ∀ x, lt x x = false) (tr : ∀ x y z, lt x y = true → lt y z = true → lt x z = true) :
    ∀ {l l' : List α}, l.Perm l' → l.Pairwise (fun p q => lt p q = true) → l'.Pairwise (fun p q => lt p q = true) → l = l'
  | [], l', hp, _, _ => by simpa using hp.symm
  | x :: r, [], hp, _, _ => by simp at hp
  | x :: r, y :: s, hp, h, h' => by
    have hc := List.pairwise_cons.1 h
    have hc' := List.pairwise_cons.1 h'
    have hxy : x = y := by
      rcases List.mem_cons.1 (hp.mem_iff.1 (List.mem_cons_self : x ∈ x :: r)) with e | hx
      · exact e
      · rcases List.mem_cons.1 (hp.mem_iff.2 (List.mem_cons_self : y ∈ y :: s)) with e | hy
        · exact e.symm
        · have h1 := hc'.1 x hx
          have h2 := hc.1 y hy
          have := tr _ _ _ h1 h2
          rw [irr] at this
          cases this
    subst hxy
    rw [sorted_one irr tr (List.Perm.cons_inv hp) hc.2 hc'.2]
section
variable {ν : Type}
def KeysND (l : List (Int × ν)) : Prop := l.Pairwise fun p q => p.1 ≠ q.1
theorem getS_mem {l : List (Int × ν)} {x : Int} {v : ν} (h : getS l x = some v) : (x, v) ∈ l := by
  induction l with
  | nil => cases h
  | cons p r ih =>
    simp only [getS] at h
    split at h
    · rename_i e
      cases h
      rw [← e]
      exact List.mem_cons_self
    · exact List.mem_cons_of_mem _ (ih h)
theorem getS_of {l : List (Int × ν)} (h : KeysND l) {x : Int} {v : ν} (hm : (x, v) ∈ l) : getS l x = some v := by
  induction l with
  | nil => cases hm
  | cons p r ih =>
    have hc := List.pairwise_cons.1 h
    simp only [getS]
    rcases List.mem_cons.1 hm with rfl | hm
    · simp
    · rw [if_neg (hc.1 _ hm), ih hc.2 hm]
theorem getS_none {l : List (Int × ν)} {x : Int} : getS l x = none ↔ ∀ p ∈ l, p.1 ≠ x := by
  induction l with
  | nil => simp [getS]
  | cons p r ih =>
    simp only [getS]
    split
    · rename_i e; simp [e]
    · rename_i e; simp [e, ih]
theorem KeysND.perm {l l' : List (Int × ν)} (h : KeysND l) (hp : l.Perm l') : KeysND l' := (hp.pairwise_iff (fun {_ _} e => Ne.symm e)).1 h
theorem getS_perm {l l' : List (Int × ν)} (h : KeysND l) (hp : l.Perm l') (x : Int) : getS l x = getS l' x := by
  cases e : getS l x with
  | none => exact (getS_none.2 fun p hp' => getS_none.1 e p (hp.mem_iff.2 hp')).symm
  | some v => exact (getS_of (h.perm hp) (hp.mem_iff.1 (getS_mem e))).symm
theorem delS_perm {l l' : List (Int × ν)} (hp : l.Perm l') (x : Int) : (delS l x).Perm (delS l' x) := hp.filter _
theorem delS_nd {l : List (Int × ν)} (h : KeysND l) (x : Int) : KeysND (delS l x) := List.Pairwise.filter _ h
theorem delS_not {l : List (Int × ν)} {x : Int} {p : Int × ν} (h : p ∈ delS l x) : p.1 ≠ x := by simpa using (List.mem_filter.1 h).2
theorem insS_perm (lt : Int → Int → Bool) (x : Int × ν) : ∀ l, (insS lt x l).Perm (x :: l)
  | [] => List.Perm.refl _
  | y :: r => by
    unfold insS
    split
    · exact List.Perm.refl _
    · exact ((insS_perm lt x r).cons y).trans (List.Perm.swap x y r)
theorem putS_perm (lt : Int → Int → Bool) (l : List (Int × ν)) (x : Int) (v : ν) : (putS lt l x v).Perm ((x, v) :: delS l x) := insS_perm lt _ _
end
/-- l, in the order in which they get due, is X. -/
structure Rp (l X : List KV) : Prop where
  perm : X.Perm l
  sort : TSort X
  nd : KeysND l
theorem Rp.set {l X : List KV} (h : Rp l X) (lt : Int → Int → Bool) (k a : Int) : Rp (putS lt l k a) (tSet X k a) where
  perm := (tIns_perm _ _).trans (((delS_perm h.perm k).cons (k, a)).trans (putS_perm lt l k a).symm)
  sort := tIns_sort (List.Pairwise.filter _ h.sort) fun p hp e => delS_not hp (by rw [e])
  nd := by
    refine KeysND.perm ?_ (putS_perm lt l k a).symm
    exact List.pairwise_cons.2 ⟨fun p hp e => delS_not hp e.symm, delS_nd h.nd k⟩
theorem Rp.del {l X : List KV} (h : Rp l X) (k : Int) : Rp (delS l k) (delS X k) := ⟨delS_perm h.perm k, List.Pairwise.filter _ h.sort, delS_nd h.nd k⟩
theorem Rp.nil : Rp [] [] := ⟨List.Perm.refl _, List.Pairwise.nil, List.Pairwise.nil⟩
theorem Rp.get {l X : List KV} (h : Rp l X) (x : Int) : getS l x = getS X x := getS_perm h.nd h.perm.symm x
theorem Rp.len {l X : List KV} (h : Rp l X) : l.length = X.length := h.perm.length_eq.symm
end Go.Proofs.Ytakjiicnbocjeaa
namespace Go.Proofs.Ytakjiicnbocjeaa
open Go.RowKit Go.Maps
structure Ans where
  c : Int
  n : Int
  code : Int
  k : Int
deriving DecidableEq
def Ans.zero : Ans := ⟨0, 0, 0, 0⟩
def Ans.enc (a : Ans) : Value := .agg #[.int .i64 a.c, .int .i64 a.n, .int .i64 a.code, .int .i64 a.k]
structure RowV where
  mix : Int
  done : Bool
  a : Ans
def RowV.enc (r : RowV) : Value := .agg #[.int .u64 r.mix, .bool r.done, .int .i64 r.a.c, .int .i64 r.a.n, .int .i64 r.a.code, .int .i64 r.a.k]
structure Cl where
  mark : Int
  b : Nat
  rows : List (Int × RowV)
def Cl.enc (x : Cl) : Value := .agg #[.int .i64 x.mark, .map (some x.b)]
theorem idK : KO Try.prog 3 ktI := koI Try.underlying3
theorem zeroRow (w : World) : (zeroValue 73).run Try.prog w = .ok (.agg #[.int .u64 0, .bool false, .int .i64 0, .int .i64 0, .int .i64 0, .int .i64 0]) w := by kernel_rfl
theorem zeroCl (w : World) : (zeroValue 68).run Try.prog w = .ok (.agg #[.int .i64 0, .map none]) w := by kernel_rfl
/-- Block g is a Table whose map is block m, which holds l. -/
structure Tab (w : World) (g m : Nat) (l : List (Int × Cl)) : Prop where
  box : w.heap[g]? = some (.cells #[.map (some m)] 63)
  map : Mp Try.prog w 3 ktI Cl.enc m l
  rows : ∀ p ∈ l, Mp Try.prog w 3 ktI RowV.enc p.2.b p.2.rows
  nb : ∀ p ∈ l, p.2.b ≠ m
  dis : l.Pairwise (fun p q => p.2.b ≠ q.2.b)
section
variable {w w' : World} {g m : Nat} {l : List (Int × Cl)}
theorem Tab.glt (h : Tab w g m l) : g < w.heap.size := (Array.getElem?_eq_some_iff.1 h.box).1
theorem Tab.cell (h : Tab w g m l) : w.cell? ⟨g, 0, none⟩ = some (.map (some m)) := by simp [World.cell?, h.box]
theorem Tab.fr {S : Nat → Prop} (h : Tab w g m l) (hf : Fr S w w') (h1 : ¬ S g) (h2 : ¬ S m) (h3 : ∀ p ∈ l, ¬ S p.2.b) : Tab w' g m l :=
  ⟨hf.at_ h.box h1, hf.mp h.map h2, fun p hp => hf.mp (h.rows p hp) (h3 p hp), h.nb, h.dis⟩
end
theorem iNew (w : World) : Calls Try.prog 9 #[] w fun e w' => e = .returned (.pointer (some ⟨w.heap.size + 1, 0, none⟩)) ∧ Tab w' (w.heap.size + 1) w.heap.size [] ∧ Below w.heap.size w w' ∧ w'.heap.size = w.heap.size + 2 := by
  have hmm := @run_makeMap Try.prog
  go_enter Try.func9, Try.ntmps9
  go_wp2
  go_ret
  refine ⟨rfl, ⟨heap_at (by simp) _, ?_, (fun p hp => by cases hp), (fun p hp => by cases hp), List.Pairwise.nil⟩, ((Below.refl _ _).alloc (Nat.le_refl _) _).alloc (by simp) _, by simp⟩
  exact (Mp.made Try.prog w 3 ktI Cl.enc).alloc _
theorem imade_no (w : World) : Calls Try.prog 24 #[.pointer none] w fun e w' => e = .returned (.bool false) ∧ w = w' := by
  go_enter Try.func24, Try.ntmps24
  go_wp2
  go_ret
  exact ⟨rfl, rfl⟩
theorem imade (w : World) (g m : Nat) (hc : w.cell? ⟨g, 0, none⟩ = some (.map (some m))) : Calls Try.prog 24 #[.pointer (some ⟨g, 0, none⟩)] w fun e w' => e = .returned (.bool true) ∧ w = w' := by
  have hn := fun (w : World) (r : Option Nat) => run_neq_map_nil (P := Try.prog) w 61 _ _ r Try.underlying61
  go_enter Try.func24, Try.ntmps24
  go_wp2
  go_ret
  exact ⟨rfl, rfl⟩
def isCl (c : Int) : Bool := decide (0 ≤ c) && decide (c < 64)
def isNu (n : Int) : Bool := decide (1 ≤ n) && decide (n ≤ 4294967296)
theorem iClient? (w : World) (c : Int) : Calls Try.prog 25 #[.int .i64 c] w fun e w' => e = .returned (.bool (isCl c)) ∧ w = w' := by
  unfold isCl
  by_cases h1 : 0 ≤ c <;> by_cases h2 : c < 64
  all_goals
    go_enter Try.func25, Try.ntmps25
    go_wp2
    go_ret
    exact ⟨ret_bool (by simp; omega), rfl⟩
theorem iNumber? (w : World) (c : Int) : Calls Try.prog 26 #[.int .i64 c] w fun e w' => e = .returned (.bool (isNu c)) ∧ w = w' := by
  unfold isNu
  by_cases h1 : 1 ≤ c <;> by_cases h2 : c ≤ 4294967296
  all_goals
    go_enter Try.func26, Try.ntmps26
    go_wp2
    go_ret
    exact ⟨ret_bool (by simp; omega), rfl⟩
/-- What client gives: the client that is there, or a new one, which is not in the table yet. -/
def Got (w w' : World) (l : List (Int × Cl)) (c : Int) (x : Cl) : Prop := getS l c = some x ∨ (getS l c = none ∧ x.mark = 1 ∧ x.rows = [] ∧ w.heap.size ≤ x.b ∧ x.b < w'.heap.size)
theorem iclient (w : World) (g m : Nat) (l : List (Int × Cl)) (c : Int) (h : Tab w g m l) (hc : okI c) :
    Calls Try.prog 27 #[.pointer (some ⟨g, 0, none⟩), .int .i64 c] w fun e w' => ∃ x : Cl, e = .returned x.enc ∧ Mp Try.prog w' 3 ktI RowV.enc x.b x.rows ∧ Fr (fun _ => False) w w' ∧ Got w w' l c x := by
  have hmm := @run_makeMap Try.prog
  have hcell := h.cell
  have hlk := fun (W : World) (hM : Mp Try.prog W 3 ktI Cl.enc m l) => hM.look_ok idK Try.underlying61 (zeroCl W) hc
  cases hg : getS l c with
  | none =>
    rw [hg] at hlk
    have hm1 := hlk _ (h.map.alloc (.cells #[.int .i64 0, .map none] 68))
    simp only at hm1
    have hm2 : (Instr.lookup 61 (.map (some m)) (.int .i64 c) true).run Try.prog (w.alloc (.cells #[.int .i64 0, .map none] 68)) = .ok (.tuple #[.agg #[.int .i64 0, .map none], .bool false]) _ := hm1
    have hlt := h.glt
    clear hlk hm1
    go_enter Try.func27, Try.ntmps27
    go_wp2
    go_returns
    refine ⟨⟨1, w.heap.size + 1 + 1, []⟩, rfl, ?_, ((Fr.refl _ w).alloc _).alloc _ |>.alloc _, .inr ⟨hg, rfl, rfl, by simp; omega, by simp⟩⟩
    have := Mp.made Try.prog ((w.alloc (.cells #[.int .i64 1, .map (some (w.heap.size + 1 + 1))] 68)).alloc (.cells #[.int .i64 1, .map (some (w.heap.size + 1 + 1))] 68)) 3 ktI RowV.enc
    simpa using this
  | some x =>
    rw [hg] at hlk
    have hm1 := hlk _ (h.map.alloc (.cells #[.int .i64 0, .map none] 68))
    simp only at hm1
    have hm2 : (Instr.lookup 61 (.map (some m)) (.int .i64 c) true).run Try.prog (w.alloc (.cells #[.int .i64 0, .map none] 68)) = .ok (.tuple #[.agg #[.int .i64 x.mark, .map (some x.b)], .bool true]) _ := hm1
    have hlt := h.glt
    clear hlk hm1
    go_enter Try.func27, Try.ntmps27
    go_wp2
    go_returns
    exact ⟨x, rfl, ((h.rows _ (getS_mem hg)).alloc _).alloc _, ((Fr.refl _ w).alloc _).alloc _, .inl hg⟩
end Go.Proofs.Ytakjiicnbocjeaa
namespace Go.Proofs.Ytakjiicnbocjeaa
open Go.RowKit
theorem and63 : ∀ n : Fin 64, bits BinOp.and IntKind.u64 (n.val : Int) 63 = (n.val : Int) := by decide +kernel
theorem and63_of {k : Int} (h0 : 0 ≤ k) (h1 : k < 64) : bits BinOp.and IntKind.u64 k 63 = k := by
  have := and63 ⟨k.toNat, by omega⟩
  simpa [Int.toNat_of_nonneg h0] using this
def rotU (x k : Int) : Int := bits .or .u64 (IntKind.u64.wrap (x * 2 ^ k.toNat)) (x / 2 ^ (64 - k).toNat)
theorem cRot (x k : Int) (w : World) (h0 : 0 ≤ k) (h1 : k < 64) : Calls Try.prog 67 #[.int .u64 x, .int .i64 k] w fun e w' => e = .returned (.int .u64 (rotU x k)) ∧ w = w' := by
  have hb := and63_of h0 h1
  unfold rotU
  go_enter Try.func67, Try.ntmps67
  go_wp2
  go_ret
  exact ⟨rfl, rfl⟩
/-- The four words. -/
structure S4 where
  a : Int
  b : Int
  c : Int
  d : Int
def S4.cs (s : S4) : Array Value := #[.int .u64 s.a, .int .u64 s.b, .int .u64 s.c, .int .u64 s.d]
def rnd (s : S4) : S4 :=
  let a1 := IntKind.u64.wrap (s.a + s.b)
  let c1 := IntKind.u64.wrap (s.c + s.d)
  let b1 := bits .xor .u64 (rotU s.b 13) a1
  let d1 := bits .xor .u64 (rotU s.d 16) c1
  let a2 := rotU a1 32
  let c2 := IntKind.u64.wrap (c1 + b1)
  let a3 := IntKind.u64.wrap (a2 + d1)
  let b2 := bits .xor .u64 (rotU b1 17) c2
  let d2 := bits .xor .u64 (rotU d1 21) a3
  let c3 := rotU c2 32
  ⟨a3, b2, c3, d2⟩
set_option maxRecDepth 100000 in
set_option maxHeartbeats 4000000 in
theorem cRound (w : World) (g : Nat) (s : S4) (hS : w.heap[g]? = some (.cells s.cs 101)) :
    Calls Try.prog 50 #[.pointer (some ⟨g, 0, none⟩)] w fun e w' => e = .returned (.tuple #[]) ∧ w'.heap[g]? = some (.cells (rnd s).cs 101) ∧ Fr (fun b => b = g) w w' := by
  obtain ⟨a, b, c, d⟩ := s
  unfold S4.cs at hS
  dsimp only at hS
  have F0 := Lib.hid (Fr.refl (fun b => b = g) w)
  go_enter Try.func50, Try.ntmps50
  go_wp2_with fail
  refine wp_region_still_tail 11 (by kernel_rfl) (by kernel_rfl) ?_
  simp only [List.take_succ_cons, List.take_zero, List.drop_succ_cons, List.drop_zero]
  change wpStill _ _ w.drew (fun a' => wpList _ _ _ _ a' w.drew) _ _
  have hT : w.drew.heap[g]? = some (.cells #[.int .u64 a, .int .u64 b, .int .u64 c, .int .u64 d] 101) := hS
  have F0' := Lib.hid F0.out.drew
  generalize w.drew = V0 at *
  clear hS F0
  have q0 := cell_obj hT 0 (.int .u64 a) rfl
  have q1 := cell_obj hT 1 (.int .u64 b) rfl
  have q2 := cell_obj hT 2 (.int .u64 c) rfl
  have q3 := cell_obj hT 3 (.int .u64 d) rfl
  have fz := obj_frozen hT 0
  repeat still_step
  refine wpStill_nil ?_
  go_wp2_with fail
  obtain ⟨a1, ha1⟩ : ∃ v : Int, v = IntKind.u64.wrap (a + b) := ⟨_, rfl⟩
  rw [← ha1]
  have Ha1 := Lib.hid ha1
  have h0n : (V0.setCell ⟨g, 0, none⟩ (.int .u64 a1)).heap[g]? = some (.cells #[.int .u64 a1, .int .u64 b, .int .u64 c, .int .u64 d] 101) := obj_set hT 0 _
  have F1 := Lib.hid (F0'.out.setCell (p := ⟨g, 0, none⟩) (fun _ => rfl) (.int .u64 a1))
  generalize V0.setCell ⟨g, 0, none⟩ (.int .u64 a1) = U0 at *
  clear ha1 q0 q1 q2 q3 fz hT F0'
  refine wp_region_still_tail 11 (by kernel_rfl) (by kernel_rfl) ?_
  simp only [List.take_succ_cons, List.take_zero, List.drop_succ_cons, List.drop_zero]
  change wpStill _ _ U0.drew (fun a' => wpList _ _ _ _ a' U0.drew) _ _
  have hT : U0.drew.heap[g]? = some (.cells #[.int .u64 a1, .int .u64 b, .int .u64 c, .int .u64 d] 101) := h0n
  have F1' := Lib.hid F1.out.drew
  generalize U0.drew = V1 at *
  clear h0n F1
  have q0 := cell_obj hT 0 (.int .u64 a1) rfl
  have q1 := cell_obj hT 1 (.int .u64 b) rfl
  have q2 := cell_obj hT 2 (.int .u64 c) rfl
  have q3 := cell_obj hT 3 (.int .u64 d) rfl
  have fz := obj_frozen hT 2
  repeat still_step
  refine wpStill_nil ?_
  go_wp2_with fail
  obtain ⟨c1, hc1⟩ : ∃ v : Int, v = IntKind.u64.wrap (c + d) := ⟨_, rfl⟩
  rw [← hc1]
  have Hc1 := Lib.hid hc1
  have h1n : (V1.setCell ⟨g, 2, none⟩ (.int .u64 c1)).heap[g]? = some (.cells #[.int .u64 a1, .int .u64 b, .int .u64 c1, .int .u64 d] 101) := obj_set hT 2 _
  have F2 := Lib.hid (F1'.out.setCell (p := ⟨g, 2, none⟩) (fun _ => rfl) (.int .u64 c1))
  generalize V1.setCell ⟨g, 2, none⟩ (.int .u64 c1) = U1 at *
  clear hc1 q0 q1 q2 q3 fz hT F1'
  refine wp_region_still_tail 13 (by kernel_rfl) (by kernel_rfl) ?_
  simp only [List.take_succ_cons, List.take_zero, List.drop_succ_cons, List.drop_zero]
  change wpStill _ _ U1.drew (fun a' => wpList _ _ _ _ a' U1.drew) _ _
  have hT : U1.drew.heap[g]? = some (.cells #[.int .u64 a1, .int .u64 b, .int .u64 c1, .int .u64 d] 101) := h1n
  have F2' := Lib.hid F2.out.drew
  generalize U1.drew = V2 at *
  clear h1n F2
  have q0 := cell_obj hT 0 (.int .u64 a1) rfl
  have q1 := cell_obj hT 1 (.int .u64 b) rfl
  have q2 := cell_obj hT 2 (.int .u64 c1) rfl
  have q3 := cell_obj hT 3 (.int .u64 d) rfl
  have fz := obj_frozen hT 1
  repeat (first | still_step | still_call ((cRot _ 13 _ (by omega) (by omega)).mono fun _ _ h => ⟨h.1, h.2.symm⟩))
  refine wpStill_nil ?_
  go_wp2_with fail
  obtain ⟨b1, hb1⟩ : ∃ v : Int, v = bits .xor .u64 (rotU b 13) a1 := ⟨_, rfl⟩
  rw [← hb1]
  have Hb1 := Lib.hid hb1
  have h2n : (V2.setCell ⟨g, 1, none⟩ (.int .u64 b1)).heap[g]? = some (.cells #[.int .u64 a1, .int .u64 b1, .int .u64 c1, .int .u64 d] 101) := obj_set hT 1 _
  have F3 := Lib.hid (F2'.out.setCell (p := ⟨g, 1, none⟩) (fun _ => rfl) (.int .u64 b1))
  generalize V2.setCell ⟨g, 1, none⟩ (.int .u64 b1) = U2 at *
  clear hb1 q0 q1 q2 q3 fz hT F2'
  refine wp_region_still_tail 13 (by kernel_rfl) (by kernel_rfl) ?_
  simp only [List.take_succ_cons, List.take_zero, List.drop_succ_cons, List.drop_zero]
  change wpStill _ _ U2.drew (fun a' => wpList _ _ _ _ a' U2.drew) _ _
  have hT : U2.drew.heap[g]? = some (.cells #[.int .u64 a1, .int .u64 b1, .int .u64 c1, .int .u64 d] 101) := h2n
  have F3' := Lib.hid F3.out.drew
  generalize U2.drew = V3 at *
  clear h2n F3
  have q0 := cell_obj hT 0 (.int .u64 a1) rfl
  have q1 := cell_obj hT 1 (.int .u64 b1) rfl
  have q2 := cell_obj hT 2 (.int .u64 c1) rfl
  have q3 := cell_obj hT 3 (.int .u64 d) rfl
  have fz := obj_frozen hT 3
  repeat (first | still_step | still_call ((cRot _ 16 _ (by omega) (by omega)).mono fun _ _ h => ⟨h.1, h.2.symm⟩))
  refine wpStill_nil ?_
  go_wp2_with fail
  obtain ⟨d1, hd1⟩ : ∃ v : Int, v = bits .xor .u64 (rotU d 16) c1 := ⟨_, rfl⟩
  rw [← hd1]
  have Hd1 := Lib.hid hd1
  have h3n : (V3.setCell ⟨g, 3, none⟩ (.int .u64 d1)).heap[g]? = some (.cells #[.int .u64 a1, .int .u64 b1, .int .u64 c1, .int .u64 d1] 101) := obj_set hT 3 _
  have F4 := Lib.hid (F3'.out.setCell (p := ⟨g, 3, none⟩) (fun _ => rfl) (.int .u64 d1))
  generalize V3.setCell ⟨g, 3, none⟩ (.int .u64 d1) = U3 at *
  clear hd1 q0 q1 q2 q3 fz hT F3'
  have q0 := cell_obj h3n 0 (.int .u64 a1) rfl
  have q1 := cell_obj h3n 1 (.int .u64 b1) rfl
  have q2 := cell_obj h3n 2 (.int .u64 c1) rfl
  have q3 := cell_obj h3n 3 (.int .u64 d1) rfl
  have fz := obj_frozen h3n 0
  go_wp2_with (go_at_call 67; refine (cRot _ 32 _ (by omega) (by omega)).mono ?_; rintro e w' ⟨rfl, rfl⟩)
  obtain ⟨a2, ha2⟩ : ∃ v : Int, v = rotU a1 32 := ⟨_, rfl⟩
  rw [← ha2]
  have Ha2 := Lib.hid ha2
  have h4n : (U3.setCell ⟨g, 0, none⟩ (.int .u64 a2)).heap[g]? = some (.cells #[.int .u64 a2, .int .u64 b1, .int .u64 c1, .int .u64 d1] 101) := obj_set h3n 0 _
  have F5 := Lib.hid (F4.out.setCell (p := ⟨g, 0, none⟩) (fun _ => rfl) (.int .u64 a2))
  generalize U3.setCell ⟨g, 0, none⟩ (.int .u64 a2) = U4 at *
  clear ha2 q0 q1 q2 q3 fz h3n F4
  refine wp_region_still_tail 11 (by kernel_rfl) (by kernel_rfl) ?_
  simp only [List.take_succ_cons, List.take_zero, List.drop_succ_cons, List.drop_zero]
  change wpStill _ _ U4.drew (fun a' => wpList _ _ _ _ a' U4.drew) _ _
  have hT : U4.drew.heap[g]? = some (.cells #[.int .u64 a2, .int .u64 b1, .int .u64 c1, .int .u64 d1] 101) := h4n
  have F5' := Lib.hid F5.out.drew
  generalize U4.drew = V5 at *
  clear h4n F5
  have q0 := cell_obj hT 0 (.int .u64 a2) rfl
  have q1 := cell_obj hT 1 (.int .u64 b1) rfl
  have q2 := cell_obj hT 2 (.int .u64 c1) rfl
  have q3 := cell_obj hT 3 (.int .u64 d1) rfl
  have fz := obj_frozen hT 2
  repeat still_step
  refine wpStill_nil ?_
  go_wp2_with fail
  obtain ⟨c2, hc2⟩ : ∃ v : Int, v = IntKind.u64.wrap (c1 + b1) := ⟨_, rfl⟩
  rw [← hc2]
  have Hc2 := Lib.hid hc2
  have h5n : (V5.setCell ⟨g, 2, none⟩ (.int .u64 c2)).heap[g]? = some (.cells #[.int .u64 a2, .int .u64 b1, .int .u64 c2, .int .u64 d1] 101) := obj_set hT 2 _
  have F6 := Lib.hid (F5'.out.setCell (p := ⟨g, 2, none⟩) (fun _ => rfl) (.int .u64 c2))
  generalize V5.setCell ⟨g, 2, none⟩ (.int .u64 c2) = U5 at *
  clear hc2 q0 q1 q2 q3 fz hT F5'
  refine wp_region_still_tail 11 (by kernel_rfl) (by kernel_rfl) ?_
  simp only [List.take_succ_cons, List.take_zero, List.drop_succ_cons, List.drop_zero]
  change wpStill _ _ U5.drew (fun a' => wpList _ _ _ _ a' U5.drew) _ _
  have hT : U5.drew.heap[g]? = some (.cells #[.int .u64 a2, .int .u64 b1, .int .u64 c2, .int .u64 d1] 101) := h5n
  have F6' := Lib.hid F6.out.drew
  generalize U5.drew = V6 at *
  clear h5n F6
  have q0 := cell_obj hT 0 (.int .u64 a2) rfl
  have q1 := cell_obj hT 1 (.int .u64 b1) rfl
  have q2 := cell_obj hT 2 (.int .u64 c2) rfl
  have q3 := cell_obj hT 3 (.int .u64 d1) rfl
  have fz := obj_frozen hT 0
  repeat still_step
  refine wpStill_nil ?_
  go_wp2_with fail
  obtain ⟨a3, ha3⟩ : ∃ v : Int, v = IntKind.u64.wrap (a2 + d1) := ⟨_, rfl⟩
  rw [← ha3]
  have Ha3 := Lib.hid ha3
  have h6n : (V6.setCell ⟨g, 0, none⟩ (.int .u64 a3)).heap[g]? = some (.cells #[.int .u64 a3, .int .u64 b1, .int .u64 c2, .int .u64 d1] 101) := obj_set hT 0 _
  have F7 := Lib.hid (F6'.out.setCell (p := ⟨g, 0, none⟩) (fun _ => rfl) (.int .u64 a3))
  generalize V6.setCell ⟨g, 0, none⟩ (.int .u64 a3) = U6 at *
  clear ha3 q0 q1 q2 q3 fz hT F6'
  refine wp_region_still_tail 13 (by kernel_rfl) (by kernel_rfl) ?_
  simp only [List.take_succ_cons, List.take_zero, List.drop_succ_cons, List.drop_zero]
  change wpStill _ _ U6.drew (fun a' => wpList _ _ _ _ a' U6.drew) _ _
  have hT : U6.drew.heap[g]? = some (.cells #[.int .u64 a3, .int .u64 b1, .int .u64 c2, .int .u64 d1] 101) := h6n
  have F7' := Lib.hid F7.out.drew
  generalize U6.drew = V7 at *
  clear h6n F7
  have q0 := cell_obj hT 0 (.int .u64 a3) rfl
  have q1 := cell_obj hT 1 (.int .u64 b1) rfl
  have q2 := cell_obj hT 2 (.int .u64 c2) rfl
  have q3 := cell_obj hT 3 (.int .u64 d1) rfl
  have fz := obj_frozen hT 1
  repeat (first | still_step | still_call ((cRot _ 17 _ (by omega) (by omega)).mono fun _ _ h => ⟨h.1, h.2.symm⟩))
  refine wpStill_nil ?_
  go_wp2_with fail
  obtain ⟨b2, hb2⟩ : ∃ v : Int, v = bits .xor .u64 (rotU b1 17) c2 := ⟨_, rfl⟩
  rw [← hb2]
  have Hb2 := Lib.hid hb2
  have h7n : (V7.setCell ⟨g, 1, none⟩ (.int .u64 b2)).heap[g]? = some (.cells #[.int .u64 a3, .int .u64 b2, .int .u64 c2, .int .u64 d1] 101) := obj_set hT 1 _
  have F8 := Lib.hid (F7'.out.setCell (p := ⟨g, 1, none⟩) (fun _ => rfl) (.int .u64 b2))
  generalize V7.setCell ⟨g, 1, none⟩ (.int .u64 b2) = U7 at *
  clear hb2 q0 q1 q2 q3 fz hT F7'
  refine wp_region_still_tail 13 (by kernel_rfl) (by kernel_rfl) ?_
  simp only [List.take_succ_cons, List.take_zero, List.drop_succ_cons, List.drop_zero]
  change wpStill _ _ U7.drew (fun a' => wpList _ _ _ _ a' U7.drew) _ _
  have hT : U7.drew.heap[g]? = some (.cells #[.int .u64 a3, .int .u64 b2, .int .u64 c2, .int .u64 d1] 101) := h7n
  have F8' := Lib.hid F8.out.drew
  generalize U7.drew = V8 at *
  clear h7n F8
  have q0 := cell_obj hT 0 (.int .u64 a3) rfl
  have q1 := cell_obj hT 1 (.int .u64 b2) rfl
  have q2 := cell_obj hT 2 (.int .u64 c2) rfl
  have q3 := cell_obj hT 3 (.int .u64 d1) rfl
  have fz := obj_frozen hT 3
  repeat (first | still_step | still_call ((cRot _ 21 _ (by omega) (by omega)).mono fun _ _ h => ⟨h.1, h.2.symm⟩))
  refine wpStill_nil ?_
  go_wp2_with fail
  obtain ⟨d2, hd2⟩ : ∃ v : Int, v = bits .xor .u64 (rotU d1 21) a3 := ⟨_, rfl⟩
  rw [← hd2]
  have Hd2 := Lib.hid hd2
  have h8n : (V8.setCell ⟨g, 3, none⟩ (.int .u64 d2)).heap[g]? = some (.cells #[.int .u64 a3, .int .u64 b2, .int .u64 c2, .int .u64 d2] 101) := obj_set hT 3 _
  have F9 := Lib.hid (F8'.out.setCell (p := ⟨g, 3, none⟩) (fun _ => rfl) (.int .u64 d2))
  generalize V8.setCell ⟨g, 3, none⟩ (.int .u64 d2) = U8 at *
  clear hd2 q0 q1 q2 q3 fz hT F8'
  have q0 := cell_obj h8n 0 (.int .u64 a3) rfl
  have q1 := cell_obj h8n 1 (.int .u64 b2) rfl
  have q2 := cell_obj h8n 2 (.int .u64 c2) rfl
  have q3 := cell_obj h8n 3 (.int .u64 d2) rfl
  have fz := obj_frozen h8n 2
  go_wp2_with (go_at_call 67; refine (cRot _ 32 _ (by omega) (by omega)).mono ?_; rintro e w' ⟨rfl, rfl⟩)
  obtain ⟨c3, hc3⟩ : ∃ v : Int, v = rotU c2 32 := ⟨_, rfl⟩
  rw [← hc3]
  have Hc3 := Lib.hid hc3
  have h9n : (U8.setCell ⟨g, 2, none⟩ (.int .u64 c3)).heap[g]? = some (.cells #[.int .u64 a3, .int .u64 b2, .int .u64 c3, .int .u64 d2] 101) := obj_set h8n 2 _
  have F10 := Lib.hid (F9.out.setCell (p := ⟨g, 2, none⟩) (fun _ => rfl) (.int .u64 c3))
  generalize U8.setCell ⟨g, 2, none⟩ (.int .u64 c3) = U9 at *
  clear hc3 q0 q1 q2 q3 fz h8n F9
  go_end0
  refine ⟨rfl, ?_, F10.out⟩
  rw [h9n]
  unfold rnd S4.cs
  simp only [← Ha1.out, ← Hc1.out, ← Hb1.out, ← Hd1.out, ← Ha2.out, ← Hc2.out, ← Ha3.out, ← Hb2.out, ← Hd2.out, ← Hc3.out]
end Go.Proofs.Ytakjiicnbocjeaa
namespace Go.Proofs.Ytakjiicnbocjeaa
open Go.RowKit
/-- Bytes. -/
def Bs (w : World) (v : Value) (bs : List Int) : Prop := bs.length ≤ 9223372036854775807 ∧ ∃ (a : Option Addr) (c : Nat), v = .slice a bs.length c ∧ ∀ (i : Nat) (x : Int), bs[i]? = some x → 0 ≤ x ∧ x < 256 ∧ ∃ ad, a = some ad ∧ w.cell? (ad.add i) = some (.int .u8 x)
theorem Bs.nil (w : World) : Bs w (.slice none 0 0) [] := ⟨by simp, none, 0, rfl, fun i x h => by simp at h⟩
theorem Bs.fr {S : Nat → Prop} {w w' : World} {v : Value} {bs : List Int} (h : Bs w v bs) (hf : Fr S w w') (hS : ∀ b, S b → w.heap.size ≤ b) : Bs w' v bs := by
  obtain ⟨h0, a, c, e, h1⟩ := h
  refine ⟨h0, a, c, e, fun i x hx => ?_⟩
  obtain ⟨b1, b2, ad, e, hc⟩ := h1 i x hx
  exact ⟨b1, b2, ad, e, hf.cell hc (fun hs => by have := hS _ hs; have := World.block_lt_of_cell? w _ hc; omega)⟩
theorem wrapU {x : Int} (h0 : 0 ≤ x) (h1 : x < 18446744073709551616) : IntKind.u64.wrap x = x := by
  show x % 18446744073709551616 = x
  omega
end Go.Proofs.Ytakjiicnbocjeaa
namespace Go.Proofs.Ytakjiicnbocjeaa
open Go.RowKit
def wrd (s : S4) (m : Int) : S4 :=
  let r := rnd (rnd { s with d := bits .xor .u64 s.d m })
  { r with a := bits .xor .u64 r.a m }
set_option maxHeartbeats 1000000 in
theorem cWord (w : World) (g : Nat) (s : S4) (m : Int) (hS : w.heap[g]? = some (.cells s.cs 101)) :
    Calls Try.prog 49 #[.pointer (some ⟨g, 0, none⟩), .int .u64 m] w fun e w' => e = .returned (.tuple #[]) ∧ w'.heap[g]? = some (.cells (wrd s m).cs 101) ∧ Fr (fun b => b = g) w w' := by
  obtain ⟨a, b, c, d⟩ := s
  have q3 := cell_obj hS 3 (.int .u64 d) rfl
  have fz := obj_frozen hS 3
  have h1 : (w.setCell ⟨g, 3, none⟩ (.int .u64 (bits .xor .u64 d m))).heap[g]? = some (.cells (S4.cs ⟨a, b, c, bits .xor .u64 d m⟩) 101) := obj_set hS 3 _
  have F1 := (Fr.refl (fun b => b = g) w).setCell (p := ⟨g, 3, none⟩) (fun _ => rfl) (.int .u64 (bits .xor .u64 d m))
  clear hS
  obtain ⟨s', hs'⟩ : ∃ s', wrd ⟨a, b, c, d⟩ m = s' := ⟨_, rfl⟩
  rw [hs']
  have HW := Lib.hid hs'
  clear hs'
  go_enter Try.func49, Try.ntmps49
  go_wp2_with fail
  have HF1 := Lib.hid F1
  generalize w.setCell ⟨g, 3, none⟩ (.int .u64 (bits .xor .u64 d m)) = w1 at *
  clear F1 q3 fz
  refine (cRound w1 g _ h1).mono ?_
  rintro e w2 ⟨rfl, h2, F2⟩
  have HF2 := Lib.hid (HF1.out.trans F2)
  clear h1 F2 HF1
  go_wp2_with fail
  refine (cRound w2 g _ h2).mono ?_
  rintro e w3 ⟨rfl, h3, F3⟩
  have HF3 := Lib.hid (HF2.out.trans F3)
  clear h2 F3 HF2
  unfold wrd at HW
  dsimp only at HW
  generalize rnd (rnd ⟨a, b, c, bits .xor .u64 d m⟩) = s3 at *
  obtain ⟨a', b', c', d'⟩ := s3
  have q0 := cell_obj h3 0 (.int .u64 a') rfl
  have fz := obj_frozen h3 0
  have H4 := Lib.hid (obj_set h3 0 (.int .u64 (bits .xor .u64 a' m)))
  have HF4 := Lib.hid (HF3.out.setCell (p := ⟨g, 0, none⟩) (fun _ => rfl) (.int .u64 (bits .xor .u64 a' m)))
  clear h3 HF3
  go_wp2_with fail
  go_end0
  exact ⟨rfl, HW.out ▸ H4.out, HF4.out⟩
def rndN : Nat → S4 → S4
  | 0, s => s
  | k + 1, s => rnd (rndN k s)
def mixStep (st : S4 × Int) (i : Nat) (c : Int) : S4 × Int :=
  let m := bits .or .u64 st.2 (IntKind.u64.wrap (c * 2 ^ (8 * (i % 8))))
  if i % 8 = 7 then (wrd st.1 m, 0) else (st.1, m)
def mixFrom (st : S4 × Int) : Nat → List Int → S4 × Int
  | _, [] => st
  | i, c :: r => mixFrom (mixStep st i c) (i + 1) r
def mixS (seal_ : Int) : S4 := ⟨bits .xor .u64 seal_ 8317987319222330741, 368457802846855779, bits .xor .u64 seal_ 7816392313619706465, 1519701440043968637⟩
def mixEnd (st : S4 × Int) (n : Nat) : Int :=
  let s := wrd st.1 (bits .or .u64 st.2 (IntKind.u64.wrap ((n : Int) * 2 ^ 56)))
  let t := rnd (rnd (rnd (rnd { s with c := bits .xor .u64 s.c 255 })))
  bits .xor .u64 (bits .xor .u64 (bits .xor .u64 t.a t.b) t.c) t.d
def mixF (seal_ : Int) (bs : List Int) : Int := mixEnd (mixFrom (mixS seal_, 0) 0 bs) bs.length
theorem mixFrom_snoc {st : S4 × Int} {l : List Int} {c : Int} : ∀ {i : Nat}, mixFrom st i (l ++ [c]) = mixStep (mixFrom st i l) (i + l.length) c := by
  induction l generalizing st with
  | nil => intro i; rfl
  | cons x r ih =>
    intro i
    simp only [List.cons_append, mixFrom, List.length_cons]
    rw [ih, show i + 1 + r.length = i + (r.length + 1) from by omega]
set_option maxRecDepth 100000 in
set_option maxHeartbeats 2000000 in
theorem cMix (w : World) (sl : Int) (v : Value) (bs : List Int) (h : Bs w v bs) :
    Calls Try.prog 28 #[.int .u64 sl, v] w fun e w' => e = .returned (.int .u64 (mixF sl bs)) ∧ Below w.heap.size w w' := by
  obtain ⟨hlen, a, c, rfl, -⟩ := id h
  obtain ⟨n, hn⟩ : ∃ n : Nat, bs.length = n := ⟨_, rfl⟩
  unfold mixF
  rw [hn] at hlen ⊢
  have HN := Lib.hid hn; have HB := Lib.hid h
  clear hn h
  obtain ⟨y, hy⟩ : ∃ y, mixEnd (mixFrom (mixS sl, 0) 0 bs) n = y := ⟨_, rfl⟩
  rw [hy]
  have HY := Lib.hid hy
  clear hy
  have h0 := heap_new w (.cells (mixS sl).cs 101)
  have F0 := (Fr.refl (fun b => b = w.heap.size) w).alloc (.cells (mixS sl).cs 101)
  have HH0 := Lib.hid h0; have HF0 := Lib.hid F0
  clear h0 F0
  unfold mixS S4.cs at HH0 HF0
  dsimp only at HH0 HF0
  go_enter Try.func28, Try.ntmps28
  go_wp2_with fail
  obtain ⟨g, hg⟩ : ∃ g : Nat, w.heap.size = g := ⟨_, rfl⟩
  rw [hg] at HH0 HF0 ⊢
  have HG := Lib.hid hg
  generalize w.alloc (.cells #[.int .u64 (bits .xor .u64 sl 8317987319222330741), .int .u64 368457802846855779, .int .u64 (bits .xor .u64 sl 7816392313619706465), .int .u64 1519701440043968637] 101) = w1 at *
  clear hg
  go_loopw [6, 17] (fun m i wr => ∃ k : Nat, (k : Int) ≤ n ∧ i = .int .i64 k ∧ m = .int .u64 (mixFrom (mixS sl, 0) 0 (bs.take k)).2 ∧ wr.heap[g]? = some (.cells (mixFrom (mixS sl, 0) 0 (bs.take k)).1.cs 101) ∧ Fr (fun b => b = g) w wr) (fun _ i _ => n - (intOf i).toNat)
  case atStart => exact ⟨0, by omega, rfl, rfl, HH0.out, HF0.out⟩
  case round =>
    obtain ⟨k, hk, rfl, rfl, hS, hF⟩ := hrel
    clear HH0 HF0
    by_cases hkn : (k : Int) < n
    · obtain ⟨x, hx⟩ : ∃ x, bs[k]? = some x := ⟨bs[k]'(by have := HN.out; omega), List.getElem?_eq_getElem _⟩
      have htk : bs.take (k + 1) = bs.take k ++ [x] := by rw [List.take_add_one, hx]; rfl
      have hst := mixFrom_snoc (st := (mixS sl, 0)) (l := bs.take k) (c := x) (i := 0)
      rw [← htk, List.length_take, Nat.min_eq_left (by have := HN.out; omega), Nat.zero_add] at hst
      have HST := Lib.hid hst
      clear hst htk
      obtain ⟨h0, h1, ad, rfl, hcx⟩ : 0 ≤ x ∧ x < 256 ∧ ∃ ad, a = some ad ∧ wr.cell? (ad.add k) = some (.int .u8 x) := by
        obtain ⟨_, a', c', e, hb⟩ := HB.out.fr hF (fun b e => by have := HG.out; omega)
        injection e with e1
        obtain ⟨b1, b2, ad, e2, hc⟩ := hb k x hx
        exact ⟨b1, b2, ad, e1.trans e2, hc⟩
      generalize mixFrom (mixS sl, 0) 0 (bs.take k) = st at *
      obtain ⟨s1, m1⟩ := st
      have HF := Lib.hid hF; have HS := Lib.hid hS
      clear hF hS hx
      have ht : (k : Int).tmod 8 = ((k % 8 : Nat) : Int) := by rw [Int.tmod_eq_emod_of_nonneg (by omega)]; omega
      have hr : k % 8 < 8 := Nat.mod_lt _ (by omega)
      obtain ⟨r, hr'⟩ : ∃ r : Nat, k % 8 = r := ⟨_, rfl⟩
      rw [hr'] at ht hr
      have HR := Lib.hid hr'
      clear hr'
      by_cases h7 : r = 7
      · subst h7
        go_wp2_with fail
        refine (cWord wr g s1 _ HS.out).mono ?_
        rintro e w2 ⟨rfl, h2, F2⟩
        have H2 := Lib.hid h2
        have HF2 := Lib.hid (HF.out.trans F2)
        clear h2 F2 HF HS
        go_wp2_with fail
        go_roundw
        case rel =>
          refine ⟨k + 1, by omega, by go_num, ?_, ?_, HF2.out⟩
          · rw [HST.out]; simp [mixStep, HR.out]
          · rw [HST.out]
            have hw : IntKind.u64.wrap (x * 72057594037927936) = x * 72057594037927936 := wrapU (by omega) (by omega)
            simp only [mixStep, HR.out, if_true, show (8 * 7 : Nat) = 56 from rfl, show (2 : Int) ^ 56 = 72057594037927936 from by decide, hw]
            exact H2.out
        case measure => simp [intOf]; omega
      · go_wp2_with fail
        go_roundw
        case rel =>
          refine ⟨k + 1, by omega, by go_num, ?_, ?_, HF.out⟩
          · rw [HST.out]; simp [mixStep, HR.out, h7]
          · rw [HST.out]; simp only [mixStep, HR.out, if_neg h7]; exact HS.out
        case measure => simp [intOf]; omega
    · have hkk : n = k := by omega
      subst hkk
      have htk : bs.take n = bs := by rw [← HN.out, List.take_length]
      rw [htk] at hS ⊢
      have HF := Lib.hid hF
      clear htk hF
      generalize mixFrom (mixS sl, 0) 0 bs = st at *
      obtain ⟨s1, m1⟩ := st
      have HS := Lib.hid hS
      clear hS
      unfold mixEnd at HY
      dsimp only at HY
      rw [show (2 : Int) ^ 56 = 72057594037927936 from by decide] at HY
      go_wp2_with fail
      refine (cWord wr g s1 _ HS.out).mono ?_
      rintro e w2 ⟨rfl, h2, F2⟩
      have HF2 := Lib.hid (HF.out.trans F2)
      clear F2 HF HS
      generalize wrd s1 (bits .or .u64 m1 (IntKind.u64.wrap (n * 72057594037927936))) = s2 at *
      obtain ⟨a2, b2, c2, d2⟩ := s2
      have q2 := cell_obj h2 2 (.int .u64 c2) rfl
      have fz := obj_frozen h2 2
      have H3 : Hid ((w2.setCell ⟨g, 2, none⟩ (.int .u64 (bits .xor .u64 c2 255))).heap[g]? = some (.cells (S4.cs ⟨a2, b2, bits .xor .u64 c2 255, d2⟩) 101)) := Lib.hid (obj_set h2 2 _)
      have HF3 := Lib.hid (HF2.out.setCell (p := ⟨g, 2, none⟩) (fun _ => rfl) (.int .u64 (bits .xor .u64 c2 255)))
      clear h2 HF2
      dsimp only at HY
      go_wp2_with fail
      generalize w2.setCell ⟨g, 2, none⟩ (.int .u64 (bits .xor .u64 c2 255)) = w3 at *
      generalize (⟨a2, b2, bits .xor .u64 c2 255, d2⟩ : S4) = s3 at *
      clear q2 fz
      go_loopw [52] (fun i wr' => ∃ k : Nat, (k : Int) ≤ 4 ∧ i = .int .i64 k ∧ wr'.heap[g]? = some (.cells (rndN k s3).cs 101) ∧ Fr (fun b => b = g) w wr') (fun i _ => 4 - (intOf i).toNat)
      case atStart => exact ⟨0, by omega, rfl, H3.out, HF3.out⟩
      case round =>
        obtain ⟨k, hk4, rfl, hS, hF⟩ := hrel
        have HS := Lib.hid hS; have HF := Lib.hid hF
        clear hS hF H3 HF3
        by_cases h4 : (k : Int) < 4
        · go_wp2_with fail
          refine (cRound _ g _ HS.out).mono ?_
          rintro e w5 ⟨rfl, h5, F5⟩
          have H5 := Lib.hid h5
          have HF5 := Lib.hid (HF.out.trans F5)
          clear h5 F5 HS HF
          go_wp2_with fail
          go_roundw
          case rel => exact ⟨k + 1, by omega, by go_num, H5.out, HF5.out⟩
          case measure => simp [intOf]; omega
        · have hk4' : k = 4 := by omega
          subst hk4'
          unfold rndN rndN rndN rndN rndN at HS
          generalize rnd (rnd (rnd (rnd s3))) = s5 at *
          obtain ⟨a5, b5, c5, d5⟩ := s5
          have q0 := cell_obj HS.out 0 (.int .u64 a5) rfl
          have q1 := cell_obj HS.out 1 (.int .u64 b5) rfl
          have q2 := cell_obj HS.out 2 (.int .u64 c5) rfl
          have q3 := cell_obj HS.out 3 (.int .u64 d5) rfl
          dsimp only at HY
          clear HS
          go_wp2_with fail
          go_quiet (fail)
          go_wp2_with fail
          go_ret
          exact ⟨ret_val (by rw [← HY.out]; rfl), (HF.out.drewN _).toBelow (fun b e => by have := HG.out; omega) (by have := HG.out; omega)⟩
end Go.Proofs.Ytakjiicnbocjeaa
namespace Go.Proofs.Ytakjiicnbocjeaa
open Go.RowKit Go.Maps
abbrev Rows := List (Int × RowV)
/-- What a table says: of each client its mark and rows. -/
abbrev Tbl := List (Int × (Int × Rows))
def absl (l : List (Int × Cl)) : Tbl := l.map fun p => (p.1, (p.2.mark, p.2.rows))
theorem absl_get (l : List (Int × Cl)) (c : Int) : getS (absl l) c = (getS l c).map fun x => (x.mark, x.rows) := by
  induction l with
  | nil => rfl
  | cons p r ih =>
    simp only [absl, List.map_cons, getS] at ih ⊢
    by_cases e : p.1 = c
    · simp [e]
    · simp only [e, if_false]; exact ih
theorem absl_del (l : List (Int × Cl)) (c : Int) : absl (delS l c) = delS (absl l) c := by
  simp only [absl, delS, List.filter_map]; rfl
theorem absl_ins (lt : Int → Int → Bool) (p : Int × Cl) (l : List (Int × Cl)) : absl (insS lt p l) = insS lt (p.1, (p.2.mark, p.2.rows)) (absl l) := by
  induction l with
  | nil => rfl
  | cons q r ih =>
    simp only [insS, absl, List.map_cons] at ih ⊢
    split
    · rfl
    · simp only [List.map_cons, ih]
theorem absl_put (lt : Int → Int → Bool) (l : List (Int × Cl)) (c : Int) (x : Cl) : absl (putS lt l c x) = putS lt (absl l) c (x.mark, x.rows) := by
  unfold putS; rw [absl_ins, absl_del]
/-- A client as it is. -/
def cli (A : Tbl) (c : Int) : Int × Rows := (getS A c).getD (1, [])
theorem Got.cli {w w' : World} {l : List (Int × Cl)} {c : Int} {x : Cl} (h : Got w w' l c x) : cli (absl l) c = (x.mark, x.rows) := by
  unfold Go.Proofs.Ytakjiicnbocjeaa.cli
  rw [absl_get]
  rcases h with h | ⟨h, h1, h2, _⟩
  · rw [h]; rfl
  · rw [h, h1, h2]; rfl
theorem clField0 (w : World) (a b : Value) : (Instr.field 68 (.agg #[a, b]) 0).run Try.prog w = .ok a w := by kernel_rfl
theorem clField1 (w : World) (a b : Value) : (Instr.field 68 (.agg #[a, b]) 1).run Try.prog w = .ok b w := by kernel_rfl
theorem iMark_no (w : World) (c : Int) : Calls Try.prog 15 #[.pointer none, .int .i64 c] w fun e w' => e = .returned (.int .i64 0) ∧ w = w' := by
  go_enter Try.func15, Try.ntmps15
  go_wp2_with (go_at_call 24; refine (imade_no _).mono ?_; rintro e w' ⟨rfl, rfl⟩)
  go_ret
  exact ⟨rfl, rfl⟩
def markM (A : Tbl) (c : Int) : Int := if isCl c then (cli A c).1 else 0
set_option maxRecDepth 100000 in
theorem iMark (w : World) (g m : Nat) (l : List (Int × Cl)) (c : Int) (h : Tab w g m l) (hc : okI c) :
    Calls Try.prog 15 #[.pointer (some ⟨g, 0, none⟩), .int .i64 c] w fun e w' => e = .returned (.int .i64 (markM (absl l) c)) ∧ Fr (fun _ => False) w w' := by
  have hcell := h.cell
  have HC := Lib.hid (iClient? w c)
  have HX := Lib.hid (iclient w g m l c h hc)
  unfold markM
  have hf0 := clField0
  clear h
  cases hi : isCl c with
  | false =>
    rw [hi] at HC
    go_enter Try.func15, Try.ntmps15
    go_wp2_with (first
      | (go_at_call 24; refine (imade _ g m hcell).mono ?_; rintro e w' ⟨rfl, rfl⟩)
      | (go_at_call 25; refine HC.out.mono ?_; rintro e w' ⟨rfl, rfl⟩))
    go_ret
    exact ⟨rfl, Fr.refl _ _⟩
  | true =>
    rw [hi] at HC
    go_enter Try.func15, Try.ntmps15
    go_wp2_with (first
      | (go_at_call 24; refine (imade _ g m hcell).mono ?_; rintro e w' ⟨rfl, rfl⟩)
      | (go_at_call 25; refine HC.out.mono ?_; rintro e w' ⟨rfl, rfl⟩)
      | (go_at_call 27; refine HX.out.mono ?_; rintro e w1 ⟨⟨mk, b, rows⟩, rfl, -, hf, hgot⟩; have HGO := Lib.hid hgot.cli; clear hgot; unfold Cl.enc))
    go_ret
    exact ⟨ret_int (by rw [HGO.out]), hf⟩
theorem iLen_no (w : World) (c : Int) : Calls Try.prog 14 #[.pointer none, .int .i64 c] w fun e w' => e = .returned (.int .i64 0) ∧ w = w' := by
  go_enter Try.func14, Try.ntmps14
  go_wp2_with (go_at_call 24; refine (imade_no _).mono ?_; rintro e w' ⟨rfl, rfl⟩)
  go_ret
  exact ⟨rfl, rfl⟩
def lenM (A : Tbl) (c : Int) : Int := ((getS A c).map fun x => (x.2.length : Int)).getD 0
theorem iLen (w : World) (g m : Nat) (l : List (Int × Cl)) (c : Int) (h : Tab w g m l) (hc : okI c) :
    Calls Try.prog 14 #[.pointer (some ⟨g, 0, none⟩), .int .i64 c] w fun e w' => e = .returned (.int .i64 (lenM (absl l) c)) ∧ w = w' := by
  have hcell := h.cell
  have hlk := h.map.look idK Try.underlying61 (zeroCl w) hc
  have hf1 := clField1
  unfold lenM
  rw [absl_get]
  cases hg : getS l c with
  | none =>
    rw [hg] at hlk
    have hl2 : (Instr.lookup 61 (.map (some m)) (.int .i64 c) false).run Try.prog w = .ok (.agg #[.int .i64 0, .map none]) w := hlk
    clear hlk hg
    go_enter Try.func14, Try.ntmps14
    go_wp2_with (go_at_call 24; refine (imade _ g m hcell).mono ?_; rintro e w' ⟨rfl, rfl⟩)
    go_ret
    exact ⟨rfl, rfl⟩
  | some x =>
    rw [hg] at hlk
    have hl2 : (Instr.lookup 61 (.map (some m)) (.int .i64 c) false).run Try.prog w = .ok (.agg #[.int .i64 x.mark, .map (some x.b)]) w := hlk
    have hln := (h.rows _ (getS_mem hg)).len Try.underlying66 3
    clear hlk hg
    go_enter Try.func14, Try.ntmps14
    go_wp2_with (go_at_call 24; refine (imade _ g m hcell).mono ?_; rintro e w' ⟨rfl, rfl⟩)
    go_ret
    exact ⟨rfl, rfl⟩
end Go.Proofs.Ytakjiicnbocjeaa
namespace Go.Proofs.Ytakjiicnbocjeaa
open Go.RowKit Go.Maps
theorem mem_putS {ν : Type} {lt : Int → Int → Bool} {l : List (Int × ν)} {x : Int} {v : ν} {p : Int × ν} : p ∈ putS lt l x v ↔ p = (x, v) ∨ p ∈ delS l x := by
  rw [(putS_perm lt l x v).mem_iff]; simp
theorem mem_delS {ν : Type} {l : List (Int × ν)} {x : Int} {p : Int × ν} : p ∈ delS l x ↔ p ∈ l ∧ p.1 ≠ x := by
  simp [delS]
theorem pw_ne {α : Type} {f : α → Nat} : ∀ {l : List α}, (l.Pairwise fun p q => f p ≠ f q) → ∀ {p q : α}, p ∈ l → q ∈ l → p ≠ q → f p ≠ f q
  | [], _, _, _, h, _, _ => by cases h
  | a :: r, h, p, q, hp, hq, hne => by
    obtain ⟨h1, h2⟩ := List.pairwise_cons.1 h
    rcases List.mem_cons.1 hp with e1 | hp'
    · rcases List.mem_cons.1 hq with e2 | hq'
      · exact absurd (e1.trans e2.symm) hne
      · rw [e1]; exact h1 q hq'
    · rcases List.mem_cons.1 hq with e2 | hq'
      · rw [e2]; exact (h1 p hp').symm
      · exact pw_ne h2 hp' hq' hne
section
variable {w w' : World} {g m : Nat} {l : List (Int × Cl)}
theorem Tab.others (h : Tab w g m l) {c : Int} {x : Cl} (hx : Got w w' l c x) {p : Int × Cl} (hp : p ∈ delS l c) : p.2.b ≠ x.b := by
  obtain ⟨h1, h2⟩ := mem_delS.1 hp
  rcases hx with hx | ⟨_, _, _, hb, _⟩
  · exact pw_ne (f := fun p => p.2.b) h.dis h1 (getS_mem hx) (fun e => h2 (by rw [e]))
  · have := (h.rows p h1).lt; omega
theorem Tab.other_m (h : Tab w g m l) {c : Int} {x : Cl} (hx : Got w w' l c x) : x.b ≠ m := by
  rcases hx with hx | ⟨_, _, _, hb, _⟩
  · exact h.nb _ (getS_mem hx)
  · have := h.map.lt; omega
theorem Tab.other_g (h : Tab w g m l) {c : Int} {x : Cl} (hx : Got w w' l c x) : x.b ≠ g := by
  rcases hx with hx | ⟨_, _, _, hb, _⟩
  · exact (map_ne_cells (h.rows _ (getS_mem hx)) h.box).symm
  · have := h.glt; omega
/-- A client is put: its rows lie in a block of its own. -/
theorem Tab.put (h : Tab w g m l) {c : Int} {y : Cl} {S : Nat → Prop} (hf : Fr S w w') (hg : ¬ S g) (hS : ∀ b, S b → b = m ∨ b = y.b) (hm : Mp Try.prog w' 3 ktI Cl.enc m (putS ktI.lt l c y)) (hr : Mp Try.prog w' 3 ktI RowV.enc y.b y.rows)
    (hym : y.b ≠ m) (hyo : ∀ p ∈ delS l c, p.2.b ≠ y.b) : Tab w' g m (putS ktI.lt l c y) := by
  refine ⟨hf.at_ h.box hg, hm, ?_, ?_, ?_⟩
  · intro p hp
    rcases mem_putS.1 hp with rfl | hp
    · exact hr
    · have hpl := (mem_delS.1 hp).1
      refine hf.mp (h.rows p hpl) (fun e => ?_)
      rcases hS _ e with e | e
      · exact h.nb p hpl e
      · exact hyo p hp e
  · intro p hp
    rcases mem_putS.1 hp with rfl | hp
    · exact hym
    · exact h.nb p (mem_delS.1 hp).1
  · rw [(putS_perm ktI.lt l c y).pairwise_iff (fun {_ _} e => Ne.symm e)]
    refine List.pairwise_cons.2 ⟨fun p hp e => hyo p hp e.symm, List.Pairwise.filter _ h.dis⟩
end
/-- What Ask says: the verdict, the answer, whether the number is new. -/
def askM (x : Int × Rows) (n mix : Int) : Int × Ans × Bool :=
  if n < x.1 then (5, Ans.zero, false)
  else match getS x.2 n with
    | some r => if r.mix ≠ mix then (4, Ans.zero, false) else if r.done then (3, r.a, false) else (2, Ans.zero, false)
    | none => if 128 ≤ x.2.length then (6, Ans.zero, false) else (1, Ans.zero, true)
theorem iAsk_arg (w : World) (g m : Nat) (l : List (Int × Cl)) (c n : Int) (v : Value) (h : Tab w g m l) (hc : (isCl c && isNu n) = false) :
    Calls Try.prog 11 #[.pointer (some ⟨g, 0, none⟩), .int .i64 c, .int .i64 n, v] w fun e w' => e = .returned (.tuple #[.int .i64 0, Ans.zero.enc]) ∧ Fr (fun _ => False) w w' := by
  have hcell := (h.fr ((Fr.refl (fun _ => False) w).alloc (.cells #[.int .i64 0, .int .i64 0, .int .i64 0, .int .i64 0] 31)) (fun h => h) (fun h => h) (fun _ _ h => h)).cell
  have HC := Lib.hid (fun w => iClient? w c)
  have HN := Lib.hid (fun w => iNumber? w n)
  unfold Ans.zero Ans.enc
  clear h
  cases hi : isCl c with
  | false =>
    rw [hi] at HC
    clear hc hi
    go_enter Try.func11, Try.ntmps11
    go_wp2_with (first
      | (go_at_call 24; refine (imade _ g m hcell).mono ?_; rintro e w' ⟨rfl, rfl⟩)
      | (go_at_call 25; refine (HC.out _).mono ?_; rintro e w' ⟨rfl, rfl⟩))
    go_returns
    exact ⟨rfl, (Fr.refl _ _).alloc _⟩
  | true =>
    have hn : isNu n = false := by rw [hi] at hc; simpa using hc
    rw [hi] at HC
    rw [hn] at HN
    clear hc hi hn
    go_enter Try.func11, Try.ntmps11
    go_wp2_with (first
      | (go_at_call 24; refine (imade _ g m hcell).mono ?_; rintro e w' ⟨rfl, rfl⟩)
      | (go_at_call 25; refine (HC.out _).mono ?_; rintro e w' ⟨rfl, rfl⟩)
      | (go_at_call 26; refine (HN.out _).mono ?_; rintro e w' ⟨rfl, rfl⟩))
    go_returns
    exact ⟨rfl, (Fr.refl _ _).alloc _⟩
end Go.Proofs.Ytakjiicnbocjeaa
namespace Go.Proofs.Ytakjiicnbocjeaa
open Go.RowKit Go.Maps
/-- The closure: is a number below the mark? -/
theorem iLow1 (w : World) (B : Nat) (mk n : Int) (r : RowV) (hB : w.cell? ⟨B, 0, none⟩ = some (.int .i64 mk)) :
    Calls Try.prog 30 #[.int .i64 n, r.enc, .pointer (some ⟨B, 0, none⟩)] w fun e w' => e = .returned (.bool (decide (n < mk))) ∧ w' = w.alloc (.cells #[.int .u64 r.mix, .bool r.done, .int .i64 r.a.c, .int .i64 r.a.n, .int .i64 r.a.code, .int .i64 r.a.k] 73) := by
  have hlt : B < w.heap.size := World.block_lt_of_cell? w _ hB
  unfold RowV.enc
  go_enter Try.func30, Try.ntmps30
  go_wp2
  go_ret
  exact ⟨rfl, rfl⟩
/-- An entry that came out of a range is one of the list's. -/
theorem came {P : Program} {k : TypeId} {κ ν : Type} [DecidableEq κ] {T : KT κ} {enc : ν → Value} (K : KO P k T) {l : List (κ × ν)} {x : κ} {v : Value} (h : ∀ zd, (T.dat enc l).atKey (T.lit x) zd = .held v) : ∃ r, getS l x = some r ∧ v = enc r := by
  have h0 := h .nil
  rw [dat_at K] at h0
  cases hg : getS l x with
  | none => rw [hg] at h0; cases h0
  | some r => rw [hg] at h0; injection h0 with h0; exact ⟨r, rfl, h0.symm⟩
def litBelow (mk : Int) : Lit → DataW Value → Bool
  | .int _ n, _ => decide (n < mk)
  | _, _ => false
theorem Fk_dat (mk : Int) (l : Rows) (left : Lit → Bool) : Fk (litBelow mk) (l.map fun p => (Lit.int .i64 p.1, (.held p.2.enc : DataW Value))) left = ktI.dat RowV.enc (l.filter fun p => !decide (p.1 < mk) || left (.int .i64 p.1)) := by
  unfold Fk KT.dat
  rw [List.filter_map]
  rfl
set_option maxRecDepth 100000 in
set_option maxHeartbeats 4000000 in
theorem mDelete (w : World) (b B : Nat) (l : Rows) (mk : Int) (hm : Mp Try.prog w 3 ktI RowV.enc b l) (hB : w.heap[B]? = some (.cells #[.int .i64 mk] 3)) :
    Calls Try.prog 29 #[.map (some b), .func (.func 30) #[] #[.pointer (some ⟨B, 0, none⟩)]] w fun e w' =>
      e = .returned (.tuple #[]) ∧ Mp Try.prog w' 3 ktI RowV.enc b (l.filter fun p => !decide (p.1 < mk)) ∧ Fr (fun x => x = b) w w' := by
  obtain ⟨n, hown⟩ := hm
  have hBb : B ≠ b := map_ne_cells ⟨n, hown⟩ hB
  have K : Keyed Try.prog 3 := idK.keyed
  obtain ⟨es0, hes, hap, hkeys⟩ := hown.entries K
  have hes' : es0 = l.map fun p => (Lit.int .i64 p.1, (.held p.2.enc : DataW Value)) := by injection hes with h; exact h.symm
  have HB := Lib.hid hB
  have HAP := Lib.hid hap
  have HKY := Lib.hid hkeys
  rw [hes] at hown
  clear hB hap hkeys hes
  go_enter Try.func29, Try.ntmps29
  go_wp2_with (at_range; refine wpList_range_own _ rfl _ 66 rfl 3 73 K Try.underlying66 heldR b n _ rfl hown ?_; intro w0 hrg0 hg0 hs0)
  go_frame
  have HE := Lib.hid hes'
  clear hes'
  go_loopw [] (fun wr => ∃ (left : Lit → Bool) (cnt : Nat), wr.ranges Try.prog 3 heldR b w.heap.size n (Fk (litBelow mk) es0 left) left cnt ∧ Fr (fun x => x = b) w wr)
    (fun wr => wr.rangeLeft b w.heap.size)
  case atStart => exact ⟨_, _, by rw [Fk_start HKY.out]; exact hrg0, Fr.grown hg0 (fun _ e => by cases e)⟩
  case round =>
    obtain ⟨left, cnt, hrg, hF⟩ := hrel
    clear hrg0 hg0 hs0
    have HF := Lib.hid hF
    clear hF
    go_wp2_with (at_next; refine wpList_next_ranges _ rfl _ rfl 3 K heldR id id (fun key _ _ => ⟨key, rfl⟩) (fun v _ _ => ⟨v, rfl⟩) b w.heap.size n _ _ _ rfl hrg ?_ ?_)
    · intro _ hl0
      go_wp2
      go_end0
      refine ⟨rfl, ⟨n, ?_⟩, HF.out⟩
      have ho := hrg.owns
      rw [HE.out, Fk_dat] at ho
      have : (l.filter fun p => !decide (p.1 < mk) || left (.int .i64 p.1)) = l.filter fun p => !decide (p.1 < mk) := List.filter_congr (fun p _ => by simp [hl0])
      rw [this] at ho
      exact ho
    · intro x c kl yd yp w1 cnt1 hkey hlx hv hat hrg1 hlt hg1 hs1 hen
      obtain ⟨xi, hok, hx, hkl⟩ := idK.back hkey
      have hx' : x = .int .i64 xi := hx
      have hkl' : kl = .int .i64 xi := hkl
      clear hkl
      subst hx' hkl'
      have hy : yd = .held c := by simp only [heldR, id] at hv; injection hv with hv; injection hv with hv _; exact hv.symm
      subst hy
      have hat2 := hat
      rw [HE.out, Fk_dat] at hat2
      obtain ⟨r, -, rfl⟩ := came idK hat2
      have HG1 := Lib.hid hg1; have HRG := Lib.hid hrg1; have HAT := Lib.hid hat; have HLX := Lib.hid hlx
      have HF1 := Lib.hid (HF.out.trans' (Fr.grown (S := fun z => z = w.heap.size) hg1 (fun _ e _ => by injection e with e; exact e.symm)) (fun b hb e => by omega))
      have hen' : (Instr.entry (.pointer (some ⟨w.heap.size, 0, none⟩))).run Try.prog w1 = .ok (.tuple #[.int .i64 xi, .agg #[.int .u64 r.mix, .bool r.done, .int .i64 r.a.c, .int .i64 r.a.n, .int .i64 r.a.code, .int .i64 r.a.k]]) w1 := hen
      clear hat hat2 hlx hg1 hrg1 hen hv hs1 hkey hx
      go_wp2_with fail
      have hcell := cell_obj ((HF1.out.alloc (.cells #[.int .u64 r.mix, .bool r.done, .int .i64 r.a.c, .int .i64 r.a.n, .int .i64 r.a.code, .int .i64 r.a.k] 73)).at_ HB.out hBb) 0 (.int .i64 mk) rfl
      refine (iLow1 _ B mk xi r hcell).mono ?_
      rintro e w2 ⟨rfl, rfl⟩
      have hrg2 := (HRG.out.alloc (.cells #[.int .u64 r.mix, .bool r.done, .int .i64 r.a.c, .int .i64 r.a.n, .int .i64 r.a.code, .int .i64 r.a.k] 73)).alloc (.cells #[.int .u64 r.mix, .bool r.done, .int .i64 r.a.c, .int .i64 r.a.n, .int .i64 r.a.code, .int .i64 r.a.k] 73)
      have HF2 := Lib.hid ((HF1.out.alloc (.cells #[.int .u64 r.mix, .bool r.done, .int .i64 r.a.c, .int .i64 r.a.n, .int .i64 r.a.code, .int .i64 r.a.k] 73)).alloc (.cells #[.int .u64 r.mix, .bool r.done, .int .i64 r.a.c, .int .i64 r.a.n, .int .i64 r.a.code, .int .i64 r.a.k] 73))
      have hkey : keyOf Try.prog 3 (.int .i64 xi) = some (.int .i64 xi) := idK.key hok
      have HLE := Lib.hid hrg.left_eq
      clear hcell HF1 HRG hen' hrg
      by_cases hbl : xi < mk
      · go_wp2_with (at_delete; refine wpList_delete_ranges _ rfl _ _ 66 3 rfl 73 K Try.underlying66 heldR b w.heap.size n _ _ _ rfl hrg2 _ _ rfl hkey ?_; intro w3 cnt3 hrg3 hle hturn; go_frame)
        rw [strike_twice] at hrg3
        go_roundw
        case rel =>
          refine ⟨fun z => left z && !z.sameKey (.int .i64 xi), cnt3, ?_, HF2.out.trans' (Fr.turned (S := fun x => x = b) hturn rfl) (fun _ _ e => e)⟩
          rw [← Fk_struck HAP.out (K.key hkey) HLX.out (by simp [litBelow, hbl]) HAT.out]
          exact hrg3
        case measure => rw [hrg3.left_eq, HLE.out]; omega
      · go_wp2_with fail
        go_roundw
        case rel =>
          refine ⟨fun z => left z && !z.sameKey (.int .i64 xi), cnt1, ?_, HF2.out⟩
          rw [← Fk_stays HAP.out (K.key hkey) HLX.out (by simp [litBelow, hbl]) HAT.out]
          exact hrg2
        case measure => rw [hrg2.left_eq, HLE.out]; exact hlt
end Go.Proofs.Ytakjiicnbocjeaa
namespace Go.Proofs.Ytakjiicnbocjeaa
open Go.RowKit Go.Maps
def lowOk (c mark : Int) : Bool := isCl c && decide (1 ≤ mark) && decide (mark ≤ 4294967297)
theorem iLow_no (w : World) (c mark : Int) : Calls Try.prog 13 #[.pointer none, .int .i64 c, .int .i64 mark] w fun e w' => e = .returned (.int .i64 6) ∧ Fr (fun _ => False) w w' := by
  go_enter Try.func13, Try.ntmps13
  go_wp2_with (go_at_call 24; refine (imade_no _).mono ?_; rintro e w' ⟨rfl, rfl⟩)
  go_ret
  exact ⟨rfl, (Fr.refl _ _).alloc _⟩
set_option maxRecDepth 100000 in
theorem iLow_arg (w : World) (g m : Nat) (l : List (Int × Cl)) (c mark : Int) (h : Tab w g m l) (ha : lowOk c mark = false) :
    Calls Try.prog 13 #[.pointer (some ⟨g, 0, none⟩), .int .i64 c, .int .i64 mark] w fun e w' => e = .returned (.int .i64 1) ∧ Fr (fun _ => False) w w' := by
  have hcell := (h.fr ((Fr.refl (fun _ => False) w).alloc (.cells #[.int .i64 mark] 3)) (fun h => h) (fun h => h) (fun _ _ h => h)).cell
  have HC := Lib.hid (fun w => iClient? w c)
  unfold lowOk at ha
  clear h
  have hcase : isCl c = false ∨ isCl c = true ∧ mark < 1 ∨ isCl c = true ∧ 1 ≤ mark ∧ 4294967297 < mark := by
    cases h1 : isCl c <;> simp [h1] at ha ⊢
    omega
  clear ha
  rcases hcase with h1 | ⟨h1, h3⟩ | ⟨h1, h3, h4⟩
  all_goals
    rw [h1] at HC
    clear h1
    go_enter Try.func13, Try.ntmps13
    go_wp2_with (first
      | (go_at_call 24; refine (imade _ g m hcell).mono ?_; rintro e w' ⟨rfl, rfl⟩)
      | (go_at_call 25; refine (HC.out _).mono ?_; rintro e w' ⟨rfl, rfl⟩))
    go_ret
    exact ⟨rfl, (Fr.refl _ _).alloc _⟩
def lowBad (rows : Rows) (mark : Int) : Bool := rows.any fun p => decide (p.1 < mark) && !p.2.done
theorem mp_nd {w : World} {b : Nat} {ν : Type} {enc : ν → Value} {l : List (Int × ν)} (h : Mp Try.prog w 3 ktI enc b l) : KeysND l :=
  (h.ok idK).2.imp (fun {p q} e e2 => by
    have e : ktI.lt p.1 q.1 = true := e
    have : decide (p.1 < q.1) = true := e
    rw [e2] at this; simp at this)
set_option maxRecDepth 100000 in
set_option maxHeartbeats 8000000 in
theorem iLow (w : World) (g m : Nat) (l : List (Int × Cl)) (c mark : Int) (h : Tab w g m l) (ha : lowOk c mark = true) (hl : l.length < 9223372036854775807) :
    Calls Try.prog 13 #[.pointer (some ⟨g, 0, none⟩), .int .i64 c, .int .i64 mark] w fun e w' => ∃ x w1, Got w w1 l c x ∧
      ((lowBad x.rows mark = true ∧ e = .returned (.int .i64 80) ∧ Fr (fun _ => False) w w') ∨
       (lowBad x.rows mark = false ∧ e = .returned (.int .i64 0) ∧ ¬ x.mark < mark ∧ Fr (fun _ => False) w w') ∨
       (lowBad x.rows mark = false ∧ e = .returned (.int .i64 0) ∧ x.mark < mark ∧ Tab w' g m (putS ktI.lt l c ⟨mark, x.b, x.rows.filter fun p => !decide (p.1 < mark)⟩) ∧ Fr (fun b => b = m ∨ b = x.b) w w' ∧ (x.b < w.heap.size → getS l c = some x) ∧ x.b < w'.heap.size)) := by
  have hh : isCl c = true ∧ 1 ≤ mark ∧ mark ≤ 4294967297 := by unfold lowOk at ha; simpa [and_assoc] using ha
  obtain ⟨hi, h1, h2⟩ := hh
  have hco : okI c := by unfold isCl at hi; simp at hi; unfold okI; omega
  have hf1 := (Fr.refl (fun _ => False) w).alloc (.cells #[.int .i64 mark] 3)
  have hT1 := h.fr hf1 (fun h => h) (fun h => h) (fun _ _ h => h)
  have hcell := hT1.cell
  have HX := Lib.hid (iclient _ g m l c hT1 hco)
  have HC := Lib.hid (fun w => iClient? w c)
  rw [hi] at HC
  have HT := Lib.hid h; have HO1 := Lib.hid (heap_new w (.cells #[.int .i64 mark] 3))
  clear hi hf1 hT1 h ha
  go_enter Try.func13, Try.ntmps13
  go_wp2_with (first
    | (go_at_call 24; refine (imade _ g m hcell).mono ?_; rintro e w' ⟨rfl, rfl⟩)
    | (go_at_call 25; refine (HC.out _).mono ?_; rintro e w' ⟨rfl, rfl⟩))
  refine HX.out.mono ?_
  rintro e w3 ⟨⟨mk, xb, rows⟩, rfl, hr3, hf3, hg2⟩
  unfold Cl.enc
  dsimp only at hr3 ⊢
  have hro3 := hf3.at_ HO1.out (fun h => h)
  have hF3 : Fr (fun _ => False) w w3 := ((Fr.refl _ w).alloc _).trans hf3
  have hG3 : Got w w3 l c ⟨mk, xb, rows⟩ := by
    rcases hg2 with h | ⟨h1, h2, h3, h4, h5⟩
    · exact .inl h
    · exact .inr ⟨h1, h2, h3, by simp at h4 ⊢; omega, h5⟩
  have hros : w.heap.size < w3.heap.size := (Array.getElem?_eq_some_iff.1 hro3).1
  have HG := Lib.hid hG3; have HF := Lib.hid hF3; have HR := Lib.hid hr3; have HO := Lib.hid hro3
  clear hg2 hf3 hG3 hF3 hr3 hro3 HX HC hcell HO1
  obtain ⟨n, hown⟩ := HR.out.alloc (.cells #[.int .i64 mk, .map (some xb)] 68)
  have K : Keyed Try.prog 3 := idK.keyed
  go_wp2_with (at_range; refine wpList_range_own _ rfl _ 66 rfl 3 73 K Try.underlying66 heldR xb n _ rfl hown ?_; intro w0 hrg0 hg0 hs0)
  go_frame
  obtain ⟨R, hR⟩ : ∃ R : Nat, (w3.alloc (.cells #[.int .i64 mk, .map (some xb)] 68)).heap.size = R := ⟨_, rfl⟩
  have hR2 : R = w3.heap.size + 1 := by rw [← hR]; simp
  rw [hR] at hrg0 ⊢
  subst hR2
  have hF0 : Fr (fun _ => False) w w0 := (HF.out.alloc _).trans (Fr.grown hg0 (fun _ e => by cases e))
  have hM0 : w0.heap[w.heap.size]? = some (.cells #[.int .i64 mark] 3) := (hg0.block _ (by simp; omega) (by simp)).trans (heap_keep HO.out _)
  have hT0 : w0.heap[w3.heap.size]? = some (.cells #[.int .i64 mk, .map (some xb)] 68) := (hg0.block _ (by simp) (by simp)).trans (heap_new _ _)
  have HN := Lib.hid (mp_nd HR.out)
  have HF0 := Lib.hid hF0; have HM0 := Lib.hid hM0; have HT0 := Lib.hid hT0; have HRG0 := Lib.hid hrg0
  clear hR hg0 hs0 hF0 hM0 hT0 hown hrg0
  go_loopw [] (fun wr => ∃ (left : Lit → Bool) (cnt : Nat), wr.ranges Try.prog 3 heldR xb (w3.heap.size + 1) n (ktI.dat RowV.enc rows) left cnt ∧ Fr (fun _ => False) w wr ∧ wr.heap[w.heap.size]? = some (.cells #[.int .i64 mark] 3) ∧ wr.heap[w3.heap.size]? = some (.cells #[.int .i64 mk, .map (some xb)] 68) ∧ (∀ p ∈ rows, left (.int .i64 p.1) = false → ¬ (p.1 < mark ∧ p.2.done = false)))
    (fun wr => wr.rangeLeft xb (w3.heap.size + 1))
  case atStart =>
    refine ⟨_, _, HRG0.out, HF0.out, HM0.out, HT0.out, fun p hp hl0 => ?_⟩
    have : Maps.has (ktI.dat RowV.enc rows) (.int .i64 p.1) = true := by
      have := dat_has idK RowV.enc p.1 rows
      rw [show (ktI.lit p.1) = .int .i64 p.1 from rfl] at this
      rw [this, getS_of HN.out hp]; rfl
    rw [this] at hl0; cases hl0
  case round =>
    obtain ⟨left, cnt, hrg, hF, hM, hT7, hseen⟩ := hrel
    have HF1 := Lib.hid hF; have HM1 := Lib.hid hM; have HT1 := Lib.hid hT7; have HS := Lib.hid hseen; have HRG := Lib.hid hrg
    clear hF hM hT7 hseen HF0 HM0 HT0 HRG0
    go_wp2_with (at_next; refine wpList_next_ranges _ rfl _ rfl 3 K heldR id id (fun key _ _ => ⟨key, rfl⟩) (fun v _ _ => ⟨v, rfl⟩) xb (w3.heap.size + 1) n _ _ _ rfl hrg ?_ ?_)
    · intro _ hl0
      have HA := Lib.hid (show lowBad rows mark = false by
        unfold lowBad
        rw [List.any_eq_false]
        intro p hp
        have := HS.out p hp (hl0 _)
        cases hd : p.2.done <;> simp [hd] at this ⊢
        omega)
      have u0 := cell_obj HM1.out 0 (.int .i64 mark) rfl
      have u1 := cell_obj HT1.out 0 (.int .i64 mk) rfl
      have u2 := cell_obj HT1.out 1 (.map (some xb)) rfl
      by_cases hmm : mk < mark
      · go_wp2_with fail
        refine (mDelete wr xb w.heap.size rows mark ⟨n, hrg.owns⟩ HM1.out).mono ?_
        rintro e w6 ⟨rfl, hr6, F6⟩
        have nm : m ≠ xb := fun e => (HT.out.other_m HG.out) e.symm
        have ng : g ≠ xb := fun e => (HT.out.other_g HG.out) e.symm
        have ng2 : g ≠ m := map_ne_cells HT.out.map HT.out.box
        have no : w.heap.size ≠ xb := map_ne_cells HR.out HO.out
        have n7 : w3.heap.size ≠ xb := fun e => by have := HR.out.lt; omega
        have hTr := HT.out.fr HF1.out (fun h => h) (fun h => h) (fun _ _ h => h)
        have hg6 := F6.at_ hTr.box ng
        have hm6 := F6.mp hTr.map nm
        have hM6 := F6.at_ HM1.out no
        have hT6 := F6.at_ HT1.out n7
        obtain ⟨w7, hst7, hm7, ht7⟩ := hm6.drew.store idK Try.underlying61 hl hco ⟨mark, xb, rows.filter fun p => !decide (p.1 < mark)⟩
        have hst7' : (Instr.mapUpdate 61 (.map (some m)) (.int .i64 c) (.agg #[.int .i64 mark, .map (some xb)])).run Try.prog w6.drew = .ok () w7 := hst7
        have F67 : Fr (fun b => b = m) w6 w7 := ((Fr.refl _ w6).drew).trans (Fr.turned ht7 rfl)
        have HR7 := Lib.hid (F67.mp hr6 (fun e => nm e.symm))
        have HF7 : Hid (Fr (fun b => b = m ∨ b = xb) w w7) := Lib.hid ((((HF1.out.mono (fun _ _ h => h.elim)).trans' F6 (fun b _ e => .inr e))).trans' F67 (fun b _ e => .inl e))
        have HM7 := Lib.hid hm7
        clear hst7 hm6 hm7 F67 F6 hr6 hTr hrg u0 u1 u2
        go_wp2_with fail
        refine wp_region_still_tail 9 (by kernel_rfl) (by kernel_rfl) ?_
        simp only [List.take_succ_cons, List.take_zero, List.drop_succ_cons, List.drop_zero]
        change wpStill _ _ w6.drew (fun a' => wpList _ _ _ _ a' w6.drew) _ _
        have hg6' : w6.drew.heap[g]? = _ := hg6
        have hM6' : w6.drew.heap[w.heap.size]? = _ := hM6
        have hT6' : w6.drew.heap[w3.heap.size]? = _ := hT6
        generalize w6.drew = V at *
        have u0 := cell_obj hg6' 0 (.map (some m)) rfl
        have u1 := cell_obj hM6' 0 (.int .i64 mark) rfl
        have u2 := cell_obj hT6' 1 (.map (some xb)) rfl
        clear hg6 hM6 hT6 hg6' hM6' hT6' ht7
        repeat still_step
        refine wpStill_nil ?_
        go_wp2_with fail
        go_ret
        refine ⟨⟨mk, xb, rows⟩, ⟨w3, HG.out⟩, .inr (.inr ⟨HA.out, rfl, hmm, ?_, HF7.out, ?_, HR7.out.lt⟩)⟩
        · exact HT.out.put HF7.out (fun e => e.elim ng2 ng) (fun b e => e) HM7.out HR7.out (fun e => nm e.symm) (fun p hp => HT.out.others HG.out hp)
        · intro hx
          rcases HG.out with h | ⟨_, _, _, h4, _⟩
          · exact h
          · have : w.heap.size ≤ xb := h4
            have : xb < w.heap.size := hx
            omega
      · go_wp2_with fail
        go_ret
        exact ⟨⟨mk, xb, rows⟩, ⟨w3, HG.out⟩, .inr (.inl ⟨HA.out, rfl, hmm, HF1.out⟩)⟩
    · intro x c' kl yd yp w1 cnt1 hkey hlx hv hat hrg1 hlt hg1 hs1 hen
      obtain ⟨xi, hok, hx, hkl⟩ := idK.back hkey
      have hx' : x = .int .i64 xi := hx
      have hkl' : kl = .int .i64 xi := hkl
      clear hkl
      subst hx' hkl'
      have hy : yd = .held c' := by simp only [heldR, id] at hv; injection hv with hv; injection hv with hv _; exact hv.symm
      subst hy
      obtain ⟨r, hgr, rfl⟩ := came idK hat
      have hen' : (Instr.entry (.pointer (some ⟨w3.heap.size + 1, 0, none⟩))).run Try.prog w1 = .ok (.tuple #[.int .i64 xi, .agg #[.int .u64 r.mix, .bool r.done, .int .i64 r.a.c, .int .i64 r.a.n, .int .i64 r.a.code, .int .i64 r.a.k]]) w1 := hen
      have hR3 : w.heap.size ≠ w3.heap.size + 1 ∧ w3.heap.size ≠ w3.heap.size + 1 := by omega
      have hM1 := (hg1.block w.heap.size (Array.getElem?_eq_some_iff.1 HM1.out).1 (by intro e; injection e with e; omega)).trans HM1.out
      have hT1 := (hg1.block w3.heap.size (Array.getElem?_eq_some_iff.1 HT1.out).1 (by intro e; injection e with e; omega)).trans HT1.out
      have hF1 : Fr (fun _ => False) w w1 := HF1.out.trans' (Fr.grown (S := fun z => z = w3.heap.size + 1) hg1 (fun _ e _ => by injection e with e; exact e.symm)) (fun b hb e => by omega)
      have hlo : w.heap.size < w1.heap.size := (Array.getElem?_eq_some_iff.1 hM1).1
      have u0 := cell_obj hM1 0 (.int .i64 mark) rfl
      have HGR := Lib.hid hgr; have HM2 := Lib.hid hM1; have HT2 := Lib.hid hT1; have HF2 := Lib.hid hF1; have HRG2 := Lib.hid hrg1
      have HLE := Lib.hid HRG.out.left_eq
      clear hat hlx hg1 hrg1 hen hv hs1 hkey hx hgr hM1 hT1 hF1 hrg HRG
      obtain ⟨rm, rd, ⟨ac, an, acode, ak⟩⟩ := r
      dsimp only at hen'
      by_cases hbl : xi < mark
      · cases rd with
        | false =>
          go_wp2_with fail
          go_ret
          exact ⟨⟨mk, xb, rows⟩, ⟨w3, HG.out⟩, .inl ⟨List.any_eq_true.2 ⟨_, getS_mem HGR.out, by simp [hbl]⟩, rfl, HF2.out.alloc _⟩⟩
        | true =>
          go_wp2_with fail
          go_roundw
          case rel =>
            refine ⟨_, cnt1, HRG2.out.alloc _, HF2.out.alloc _, heap_keep HM2.out _, heap_keep HT2.out _, fun p hp hlf => ?_⟩
            by_cases hpx : p.1 = xi
            · have hgp := getS_of HN.out hp
              rw [hpx, HGR.out] at hgp
              injection hgp with hgp
              rintro ⟨e1, e2⟩
              rw [← hgp] at e2
              first | (cases e2; done) | omega
            · refine HS.out p hp ?_
              have hlf' : (left (.int .i64 p.1) && !(Lit.int .i64 p.1).sameKey (.int .i64 xi)) = false := hlf
              have : (Lit.int .i64 p.1).sameKey (.int .i64 xi) = false := by simp [Lit.sameKey, hpx]
              rw [this] at hlf'
              simpa using hlf'
          case measure => rw [(HRG2.out.alloc _).left_eq, HLE.out]; exact hlt
      · go_wp2_with fail
        go_roundw
        case rel =>
          refine ⟨_, cnt1, HRG2.out.alloc _, HF2.out.alloc _, heap_keep HM2.out _, heap_keep HT2.out _, fun p hp hlf => ?_⟩
          by_cases hpx : p.1 = xi
          · have hgp := getS_of HN.out hp
            rw [hpx, HGR.out] at hgp
            injection hgp with hgp
            rintro ⟨e1, e2⟩
            rw [← hgp] at e2
            first | (cases e2; done) | omega
          · refine HS.out p hp ?_
            have hlf' : (left (.int .i64 p.1) && !(Lit.int .i64 p.1).sameKey (.int .i64 xi)) = false := hlf
            have : (Lit.int .i64 p.1).sameKey (.int .i64 xi) = false := by simp [Lit.sameKey, hpx]
            rw [this] at hlf'
            simpa using hlf'
        case measure => rw [(HRG2.out.alloc _).left_eq, HLE.out]; exact hlt
end Go.Proofs.Ytakjiicnbocjeaa
namespace Go.Proofs.Ytakjiicnbocjeaa
open Go.RowKit Go.Maps
theorem iAsk_no (w : World) (c n : Int) (v : Value) : Calls Try.prog 11 #[.pointer none, .int .i64 c, .int .i64 n, v] w fun e w' => e = .returned (.tuple #[.int .i64 0, Ans.zero.enc]) ∧ Fr (fun _ => False) w w' := by
  unfold Ans.zero Ans.enc
  go_enter Try.func11, Try.ntmps11
  go_wp2_with (go_at_call 24; refine (imade_no _).mono ?_; rintro e w' ⟨rfl, rfl⟩)
  go_returns
  exact ⟨rfl, (Fr.refl _ _).alloc _⟩
theorem iOpen (p : Option Addr) (w : World) : Calls Try.prog 16 #[.pointer p] w fun e w' =>
    e = .returned (.func (.func 31) #[] #[.pointer (some ⟨w.heap.size, 0, none⟩)]) ∧ w' = w.alloc (.cells #[.pointer p] 23) := by
  go_enter Try.func16, Try.ntmps16
  go_wp2
  go_ret
  exact ⟨rfl, rfl⟩
end Go.Proofs.Ytakjiicnbocjeaa
namespace Go.Proofs.Ytakjiicnbocjeaa
open Go.RowKit Go.Maps
theorem genW {Q : World → Prop} {W : World} (P : World → Prop) (h : P W) (k : ∀ W', P W' → Q W') : Q W := k W h
/-- The table behind an Ask. -/
def askL (l : List (Int × Cl)) (c : Int) (x : Cl) (n mix : Int) : List (Int × Cl) := putS ktI.lt l c ⟨x.mark, x.b, putS ktI.lt x.rows n ⟨mix, false, Ans.zero⟩⟩
set_option maxRecDepth 100000 in
set_option maxHeartbeats 12000000 in
theorem iAsk (w : World) (g m : Nat) (l : List (Int × Cl)) (c n : Int) (v : Value) (bs : List Int) (h : Tab w g m l) (hi : isCl c = true) (hj : isNu n = true) (hb : Bs w v bs) (hl : l.length < 9223372036854775807) :
    Calls Try.prog 11 #[.pointer (some ⟨g, 0, none⟩), .int .i64 c, .int .i64 n, v] w fun e w' =>
      ∃ x w1, Got w w1 l c x ∧ e = .returned (.tuple #[.int .i64 (askM (x.mark, x.rows) n (mixF 7 bs)).1, (askM (x.mark, x.rows) n (mixF 7 bs)).2.1.enc]) ∧
        (((askM (x.mark, x.rows) n (mixF 7 bs)).2.2 = false ∧ Fr (fun _ => False) w w') ∨ ((askM (x.mark, x.rows) n (mixF 7 bs)).2.2 = true ∧ Tab w' g m (askL l c x n (mixF 7 bs)) ∧ Fr (fun b => b = m ∨ b = x.b) w w' ∧ (x.b < w.heap.size → getS l c = some x) ∧ x.b < w'.heap.size)) := by
  have hco : okI c := by unfold isCl at hi; simp at hi; unfold okI; omega
  have hno : okI n := by unfold isNu at hj; simp at hj; unfold okI; omega
  have hf1 := (Fr.refl (fun _ => False) w).alloc (.cells #[.int .i64 0, .int .i64 0, .int .i64 0, .int .i64 0] 31)
  have hT1 := h.fr hf1 (fun h => h) (fun h => h) (fun _ _ h => h)
  have hB1 := hb.fr hf1 (fun _ h => h.elim)
  have hcell := hT1.cell
  have HX := Lib.hid (iclient _ g m l c hT1 hco)
  have HC := Lib.hid (fun w => iClient? w c)
  have HN := Lib.hid (fun w => iNumber? w n)
  have ho := heap_new w (.cells #[.int .i64 0, .int .i64 0, .int .i64 0, .int .i64 0] 31)
  rw [hi] at HC
  rw [hj] at HN
  have HT := Lib.hid h; have HB := Lib.hid hb
  clear hi hj hf1 hT1 hB1 h hb ho
  generalize hmx : mixF 7 bs = mx
  have HMX : Hid (∀ W, Bs W v bs → Calls Try.prog 28 #[.int .u64 7, v] W fun e w' => e = .returned (.int .u64 mx) ∧ Below W.heap.size W w') := Lib.hid (fun W hW => hmx ▸ cMix W 7 v bs hW)
  clear hmx
  go_enter Try.func11, Try.ntmps11
  go_wp2_with (first
    | (go_at_call 24; refine (imade _ g m hcell).mono ?_; rintro e w' ⟨rfl, rfl⟩)
    | (go_at_call 25; refine (HC.out _).mono ?_; rintro e w' ⟨rfl, rfl⟩)
    | (go_at_call 26; refine (HN.out _).mono ?_; rintro e w' ⟨rfl, rfl⟩))
  refine HX.out.mono ?_
  rintro e w2 ⟨⟨mk, xb, rows⟩, rfl, hr2, hf2, hg2⟩
  unfold Cl.enc
  dsimp only at hr2 ⊢
  clear HX HC HN hcell
  have hro : (w.alloc (.cells #[.int .i64 0, .int .i64 0, .int .i64 0, .int .i64 0] 31)).heap[w.heap.size]? = _ := heap_new w _
  have hro2 := hf2.at_ hro (fun h => h)
  have hF2 : Fr (fun _ => False) w w2 := ((Fr.refl _ w).alloc _).trans hf2
  have hG2 : Got w w2 l c ⟨mk, xb, rows⟩ := by
    rcases hg2 with h | ⟨h1, h2, h3, h4, h5⟩
    · exact .inl h
    · exact .inr ⟨h1, h2, h3, by simp at h4 ⊢; omega, h5⟩
  have hxl := hr2.lt
  clear hg2 hf2 hro
  go_wp2_with fail
  refine (HMX.out w2 (HB.out.fr hF2 (fun _ h => h.elim))).mono ?_
  rintro e w3 ⟨rfl, hb3⟩
  have hr3 := hr2.below hb3 hxl
  have hro3 := (hb3.block _ (by have := hF2.size; have := (Array.getElem?_eq_some_iff.1 hro2).1; omega)).trans hro2
  have hF3 : Fr (fun _ => False) w w3 := hF2.trans (Fr.below hb3)
  have hG3 : Got w w3 l c ⟨mk, xb, rows⟩ := by
    rcases hG2 with h | ⟨h1, h2, h3, h4, h5⟩
    · exact .inl h
    · exact .inr ⟨h1, h2, h3, h4, Nat.lt_of_lt_of_le h5 hb3.size⟩
  have hT3 := HT.out.fr hF3 (fun h => h) (fun h => h) (fun _ _ h => h)
  have hxl3 := hr3.lt
  clear hr2 hro2 hF2 hG2 hxl hb3 HMX HB
  have HG := Lib.hid hG3; have HF := Lib.hid hF3; have HR := Lib.hid hr3; have HT3 := Lib.hid hT3; have HO := Lib.hid hro3
  have hlk := (hr3.alloc (.cells #[.int .i64 mk, .map (some xb)] 68)).look_ok idK Try.underlying66 (zeroRow _) hno
  clear hG3 hF3 hr3 hT3 hro3
  have hros : w.heap.size < w3.heap.size := (Array.getElem?_eq_some_iff.1 HO.out).1
  have z0 := cell_obj HO.out 0 (.int .i64 0) rfl
  have z1 := cell_obj HO.out 1 (.int .i64 0) rfl
  have z2 := cell_obj HO.out 2 (.int .i64 0) rfl
  have z3 := cell_obj HO.out 3 (.int .i64 0) rfl
  have y0 := obj_frozen HO.out 0
  have y1 := obj_frozen HO.out 1
  have y2 := obj_frozen HO.out 2
  have y3 := obj_frozen HO.out 3
  cases hg : getS rows n with
  | none =>
    rw [hg] at hlk
    have hl2 : (Instr.lookup 66 (.map (some xb)) (.int .i64 n) true).run Try.prog (w3.alloc (.cells #[.int .i64 mk, .map (some xb)] 68)) = .ok (.tuple #[.agg #[.int .u64 0, .bool false, .int .i64 0, .int .i64 0, .int .i64 0, .int .i64 0], .bool false]) _ := hlk
    clear hlk
    have hln := ((HR.out.alloc (.cells #[.int .i64 mk, .map (some xb)] 68)).alloc (.cells #[.int .u64 0, .bool false, .int .i64 0, .int .i64 0, .int .i64 0, .int .i64 0] 73)).len Try.underlying66 3
    by_cases hmk : n < mk
    · have HA := Lib.hid (show askM (mk, rows) n mx = (5, Ans.zero, false) by simp [askM, hmk])
      clear hg hln
      go_wp2_with fail
      refine genW (Q := fun W => bodyPost Try.prog Try.f11 _ Exit.ret _ W) (fun W => W.heap[w.heap.size]? = some (.cells #[.int .i64 0, .int .i64 0, .int .i64 0, .int .i64 0] 31) ∧ Fr (fun _ => False) w W) ⟨heap_keep (heap_keep (obj_set (obj_set (obj_set (obj_set HO.out 0 (.int .i64 0)) 1 (.int .i64 0)) 2 (.int .i64 0)) 3 (.int .i64 0)) _) _, (by repeat (first | exact HF.out | apply Fr.alloc | refine Fr.setCell ?_ (fun h => (Nat.lt_irrefl _ h).elim) _))⟩ ?_
      rintro WF ⟨hWF, hFF⟩
      have k0 := cell_obj hWF 0 (.int .i64 0) rfl
      have k1 := cell_obj hWF 1 (.int .i64 0) rfl
      have k2 := cell_obj hWF 2 (.int .i64 0) rfl
      have k3 := cell_obj hWF 3 (.int .i64 0) rfl
      refine bodyPost_ret (by simp [results, Try.results11, go_sem, k0, k1, k2, k3]; rfl) rfl ?_
      exact ⟨⟨mk, xb, rows⟩, w3, HG.out, by rw [HA.out]; rfl, .inl ⟨by rw [HA.out], hFF⟩⟩
    · obtain ⟨rn, hrn⟩ : ∃ rn : Nat, rows.length = rn := ⟨_, rfl⟩
      rw [hrn] at hln
      by_cases h128 : (128 : Int) ≤ rn
      · have HA := Lib.hid (show askM (mk, rows) n mx = (6, Ans.zero, false) by simp only [askM, hmk, hg, if_false]; rw [if_pos (by omega)])
        clear hg hrn
        go_wp2_with fail
        refine genW (Q := fun W => bodyPost Try.prog Try.f11 _ Exit.ret _ W) (fun W => W.heap[w.heap.size]? = some (.cells #[.int .i64 0, .int .i64 0, .int .i64 0, .int .i64 0] 31) ∧ Fr (fun _ => False) w W) ⟨heap_keep (heap_keep (obj_set (obj_set (obj_set (obj_set HO.out 0 (.int .i64 0)) 1 (.int .i64 0)) 2 (.int .i64 0)) 3 (.int .i64 0)) _) _, (by repeat (first | exact HF.out | apply Fr.alloc | refine Fr.setCell ?_ (fun h => (Nat.lt_irrefl _ h).elim) _))⟩ ?_
        rintro WF ⟨hWF, hFF⟩
        have k0 := cell_obj hWF 0 (.int .i64 0) rfl
        have k1 := cell_obj hWF 1 (.int .i64 0) rfl
        have k2 := cell_obj hWF 2 (.int .i64 0) rfl
        have k3 := cell_obj hWF 3 (.int .i64 0) rfl
        refine bodyPost_ret (by simp [results, Try.results11, go_sem, k0, k1, k2, k3]; rfl) rfl ?_
        exact ⟨⟨mk, xb, rows⟩, w3, HG.out, by rw [HA.out]; rfl, .inl ⟨by rw [HA.out], hFF⟩⟩
      · have HA := Lib.hid (show askM (mk, rows) n mx = (1, Ans.zero, true) by simp only [askM, hmk, hg, if_false]; rw [if_neg (by omega)])
        have hr5 := ((HR.out.alloc (.cells #[.int .i64 mk, .map (some xb)] 68)).alloc (.cells #[.int .u64 0, .bool false, .int .i64 0, .int .i64 0, .int .i64 0, .int .i64 0] 73))
        obtain ⟨w6, hst, hr6, ht6⟩ := hr5.store idK Try.underlying66 (by omega) hno ⟨mx, false, Ans.zero⟩
        have hst' : (Instr.mapUpdate 66 (.map (some xb)) (.int .i64 n) (.agg #[.int .u64 mx, .bool false, .int .i64 0, .int .i64 0, .int .i64 0, .int .i64 0])).run Try.prog ((w3.alloc (.cells #[.int .i64 mk, .map (some xb)] 68)).alloc (.cells #[.int .u64 0, .bool false, .int .i64 0, .int .i64 0, .int .i64 0, .int .i64 0] 73)) = .ok () w6 := hst
        clear hst hg hrn
        go_wp2_with fail
        have nm : m ≠ xb := fun e => (HT.out.other_m HG.out) e.symm
        have ng : g ≠ xb := fun e => (HT.out.other_g HG.out) e.symm
        have no : w.heap.size ≠ xb := map_ne_cells HR.out HO.out
        have no2 : w.heap.size ≠ m := map_ne_cells HT3.out.map HO.out
        have ng2 : g ≠ m := map_ne_cells HT.out.map HT.out.box
        have F6 : Fr (fun b => b = m ∨ b = xb) w w6 := ((((HF.out.mono (fun _ _ h => h.elim)).alloc _).alloc _)).trans' (Fr.turned (S := fun b => b = xb) ht6 rfl) (fun b _ e => .inr e)
        have F36 : Fr (fun b => b = xb) w3 w6 := (((Fr.refl _ w3).alloc _).alloc _).trans (Fr.turned ht6 rfl)
        have hg6 := F36.at_ HT3.out.box ng
        have hm6 := F36.mp HT3.out.map nm
        have ho6 := F36.at_ HO.out no
        have ht10 : w6.heap[w3.heap.size]? = some (.cells #[.int .i64 mk, .map (some xb)] 68) := (Fr.turned (S := fun b => b = xb) ht6 rfl).at_ (heap_keep (heap_new _ _) _) (fun e => by have := HR.out.lt; omega)
        obtain ⟨w7, hst7, hm7, ht7⟩ := hm6.drew.store idK Try.underlying61 hl hco ⟨mk, xb, putS ktI.lt rows n ⟨mx, false, Ans.zero⟩⟩
        have hst7' : (Instr.mapUpdate 61 (.map (some m)) (.int .i64 c) (.agg #[.int .i64 mk, .map (some xb)])).run Try.prog w6.drew = .ok () w7 := hst7
        have F67 : Fr (fun b => b = m) w6 w7 := ((Fr.refl _ w6).drew).trans (Fr.turned ht7 rfl)
        have ho7 := F67.at_ ho6 no2
        have hr7 := F67.mp hr6 (fun e => nm e.symm)
        have F7 := F6.trans' F67 (fun b _ e => .inl e)
        have HM7 := Lib.hid hm7; have HR7 := Lib.hid hr7; have HF7 := Lib.hid F7; have HO7 := Lib.hid ho7
        clear hst7 hst' hl2 F6 F36 hm6 ho6 hm7 hr7 F7 ht6 hr6 F67
        refine wp_region_still_tail 6 (by kernel_rfl) (by kernel_rfl) ?_
        simp only [List.take_succ_cons, List.take_zero, List.drop_succ_cons, List.drop_zero]
        change wpStill _ _ w6.drew (fun a' => wpList _ _ _ _ a' w6.drew) _ _
        have hg6' : w6.drew.heap[g]? = _ := hg6
        have ht10' : w6.drew.heap[w3.heap.size]? = _ := ht10
        generalize w6.drew = V at *
        have u0 := cell_obj hg6' 0 (.map (some m)) rfl
        have u1 := cell_obj ht10' 0 (.int .i64 mk) rfl
        have u2 := cell_obj ht10' 1 (.map (some xb)) rfl
        clear hg6 hg6' ht10 ht10' ht7
        repeat still_step
        refine wpStill_nil ?_
        have z0 := cell_obj ho7 0 (.int .i64 0) rfl
        have z1 := cell_obj ho7 1 (.int .i64 0) rfl
        have z2 := cell_obj ho7 2 (.int .i64 0) rfl
        have z3 := cell_obj ho7 3 (.int .i64 0) rfl
        have y0 := obj_frozen ho7 0
        have y1 := obj_frozen ho7 1
        have y2 := obj_frozen ho7 2
        have y3 := obj_frozen ho7 3
        clear ho7
        go_wp2_with fail
        refine genW (Q := fun W => bodyPost Try.prog Try.f11 _ Exit.ret _ W) (fun W => W.heap[w.heap.size]? = some (.cells #[.int .i64 0, .int .i64 0, .int .i64 0, .int .i64 0] 31) ∧ Fr (fun b => b = m ∨ b = xb) w W ∧ Mp Try.prog W 3 ktI Cl.enc m (putS ktI.lt l c ⟨mk, xb, putS ktI.lt rows n ⟨mx, false, Ans.zero⟩⟩) ∧ Mp Try.prog W 3 ktI RowV.enc xb (putS ktI.lt rows n ⟨mx, false, Ans.zero⟩))
          ⟨obj_set (obj_set (obj_set (obj_set HO7.out 0 (.int .i64 0)) 1 (.int .i64 0)) 2 (.int .i64 0)) 3 (.int .i64 0), (by repeat (first | exact HF7.out | refine Fr.setCell ?_ (fun h => (Nat.lt_irrefl _ h).elim) _)), (by repeat (first | exact HM7.out | refine Mp.setCell ?_ (fun e => no2 e.symm) _)), (by repeat (first | exact HR7.out | refine Mp.setCell ?_ (fun e => no e.symm) _))⟩ ?_
        rintro WF ⟨hWF, hFF, hMM, hRR⟩
        have k0 := cell_obj hWF 0 (.int .i64 0) rfl
        have k1 := cell_obj hWF 1 (.int .i64 0) rfl
        have k2 := cell_obj hWF 2 (.int .i64 0) rfl
        have k3 := cell_obj hWF 3 (.int .i64 0) rfl
        refine bodyPost_ret (by simp [results, Try.results11, go_sem, k0, k1, k2, k3]; rfl) rfl ?_
        refine ⟨⟨mk, xb, rows⟩, w3, HG.out, by rw [HA.out]; rfl, .inr ⟨by rw [HA.out], ?_, hFF, ?_, hRR.lt⟩⟩
        · exact HT.out.put hFF (fun e => e.elim ng2 ng) (fun b e => e) hMM hRR (fun e => nm e.symm) (fun p hp => HT.out.others HG.out hp)
        · intro hx
          rcases HG.out with h | ⟨_, _, _, h4, _⟩
          · exact h
          · have : w.heap.size ≤ xb := h4
            have : xb < w.heap.size := hx
            omega
  | some r =>
    rw [hg] at hlk
    have hl2 : (Instr.lookup 66 (.map (some xb)) (.int .i64 n) true).run Try.prog (w3.alloc (.cells #[.int .i64 mk, .map (some xb)] 68)) = .ok (.tuple #[.agg #[.int .u64 r.mix, .bool r.done, .int .i64 r.a.c, .int .i64 r.a.n, .int .i64 r.a.code, .int .i64 r.a.k], .bool true]) _ := hlk
    clear hlk
    obtain ⟨rm, rd, ⟨ac, an, acode, ak⟩⟩ := r
    dsimp only at hl2
    by_cases hmk : n < mk
    · have HA := Lib.hid (show askM (mk, rows) n mx = (5, Ans.zero, false) by simp [askM, hmk])
      clear hg
      go_wp2_with fail
      refine genW (Q := fun W => bodyPost Try.prog Try.f11 _ Exit.ret _ W) (fun W => W.heap[w.heap.size]? = some (.cells #[.int .i64 0, .int .i64 0, .int .i64 0, .int .i64 0] 31) ∧ Fr (fun _ => False) w W) ⟨heap_keep (heap_keep (obj_set (obj_set (obj_set (obj_set HO.out 0 (.int .i64 0)) 1 (.int .i64 0)) 2 (.int .i64 0)) 3 (.int .i64 0)) _) _, (by repeat (first | exact HF.out | apply Fr.alloc | refine Fr.setCell ?_ (fun h => (Nat.lt_irrefl _ h).elim) _))⟩ ?_
      rintro WF ⟨hWF, hFF⟩
      have k0 := cell_obj hWF 0 (.int .i64 0) rfl
      have k1 := cell_obj hWF 1 (.int .i64 0) rfl
      have k2 := cell_obj hWF 2 (.int .i64 0) rfl
      have k3 := cell_obj hWF 3 (.int .i64 0) rfl
      refine bodyPost_ret (by simp [results, Try.results11, go_sem, k0, k1, k2, k3]; rfl) rfl ?_
      exact ⟨⟨mk, xb, rows⟩, w3, HG.out, by rw [HA.out]; rfl, .inl ⟨by rw [HA.out], hFF⟩⟩
    · by_cases hmix : rm = mx
      · subst hmix
        cases rd with
        | true =>
          have HA := Lib.hid (show askM (mk, rows) n rm = (3, ⟨ac, an, acode, ak⟩, false) by simp [askM, hmk, hg])
          clear hg
          go_wp2_with fail
          refine wp_region_still_tail 3 (by kernel_rfl) (by kernel_rfl) ?_
          simp only [List.take_succ_cons, List.take_zero, List.drop_succ_cons, List.drop_zero]
          change wpStill _ _ ((w3.alloc (.cells #[.int .i64 mk, .map (some xb)] 68)).alloc (.cells #[.int .u64 rm, .bool true, .int .i64 ac, .int .i64 an, .int .i64 acode, .int .i64 ak] 73)).drew (fun a' => wpList _ _ _ _ a' ((w3.alloc (.cells #[.int .i64 mk, .map (some xb)] 68)).alloc (.cells #[.int .u64 rm, .bool true, .int .i64 ac, .int .i64 an, .int .i64 acode, .int .i64 ak] 73)).drew) _ _
          have hb : ((w3.alloc (.cells #[.int .i64 mk, .map (some xb)] 68)).alloc (.cells #[.int .u64 rm, .bool true, .int .i64 ac, .int .i64 an, .int .i64 acode, .int .i64 ak] 73)).drew.heap[w3.heap.size + 1]? = some (.cells #[.int .u64 rm, .bool true, .int .i64 ac, .int .i64 an, .int .i64 acode, .int .i64 ak] 73) := heap_at (by simp) _
          have ho : ((w3.alloc (.cells #[.int .i64 mk, .map (some xb)] 68)).alloc (.cells #[.int .u64 rm, .bool true, .int .i64 ac, .int .i64 an, .int .i64 acode, .int .i64 ak] 73)).drew.heap[w.heap.size]? = some (.cells #[.int .i64 0, .int .i64 0, .int .i64 0, .int .i64 0] 31) := heap_keep (heap_keep HO.out _) _
          have hf : Fr (fun _ => False) w ((w3.alloc (.cells #[.int .i64 mk, .map (some xb)] 68)).alloc (.cells #[.int .u64 rm, .bool true, .int .i64 ac, .int .i64 an, .int .i64 acode, .int .i64 ak] 73)).drew := ((HF.out.alloc _).alloc _).drew
          generalize ((w3.alloc (.cells #[.int .i64 mk, .map (some xb)] 68)).alloc (.cells #[.int .u64 rm, .bool true, .int .i64 ac, .int .i64 an, .int .i64 acode, .int .i64 ak] 73)).drew = V at *
          have b2 := cell_obj hb 2 (.int .i64 ac) rfl
          have b3 := cell_obj hb 3 (.int .i64 an) rfl
          have b4 := cell_obj hb 4 (.int .i64 acode) rfl
          have b5 := cell_obj hb 5 (.int .i64 ak) rfl
          have z0 := cell_obj ho 0 (.int .i64 0) rfl
          have z1 := cell_obj ho 1 (.int .i64 0) rfl
          have z2 := cell_obj ho 2 (.int .i64 0) rfl
          have z3 := cell_obj ho 3 (.int .i64 0) rfl
          have y0 := obj_frozen ho 0
          have y1 := obj_frozen ho 1
          have y2 := obj_frozen ho 2
          have y3 := obj_frozen ho 3
          have HOV := Lib.hid ho; have HFV := Lib.hid hf
          clear ho hf hb hl2
          repeat still_step
          refine wpStill_nil ?_
          go_wp2_with fail
          refine genW (Q := fun W => bodyPost Try.prog Try.f11 _ Exit.ret _ W) (fun W => W.heap[w.heap.size]? = some (.cells #[.int .i64 ac, .int .i64 an, .int .i64 acode, .int .i64 ak] 31) ∧ Fr (fun _ => False) w W) ⟨obj_set (obj_set (obj_set (obj_set HOV.out 0 (.int .i64 ac)) 1 (.int .i64 an)) 2 (.int .i64 acode)) 3 (.int .i64 ak), (by repeat (first | exact HFV.out | refine Fr.setCell ?_ (fun h => (Nat.lt_irrefl _ h).elim) _))⟩ ?_
          rintro WF ⟨hWF, hFF⟩
          have k0 := cell_obj hWF 0 (.int .i64 ac) rfl
          have k1 := cell_obj hWF 1 (.int .i64 an) rfl
          have k2 := cell_obj hWF 2 (.int .i64 acode) rfl
          have k3 := cell_obj hWF 3 (.int .i64 ak) rfl
          refine bodyPost_ret (by simp [results, Try.results11, go_sem, k0, k1, k2, k3]; rfl) rfl ?_
          exact ⟨⟨mk, xb, rows⟩, w3, HG.out, by rw [HA.out]; rfl, .inl ⟨by rw [HA.out], hFF⟩⟩
        | false =>
          have HA := Lib.hid (show askM (mk, rows) n rm = (2, Ans.zero, false) by simp [askM, hmk, hg])
          clear hg
          go_wp2_with fail
          refine genW (Q := fun W => bodyPost Try.prog Try.f11 _ Exit.ret _ W) (fun W => W.heap[w.heap.size]? = some (.cells #[.int .i64 0, .int .i64 0, .int .i64 0, .int .i64 0] 31) ∧ Fr (fun _ => False) w W) ⟨heap_keep (heap_keep (obj_set (obj_set (obj_set (obj_set HO.out 0 (.int .i64 0)) 1 (.int .i64 0)) 2 (.int .i64 0)) 3 (.int .i64 0)) _) _, (by repeat (first | exact HF.out | apply Fr.alloc | refine Fr.setCell ?_ (fun h => (Nat.lt_irrefl _ h).elim) _))⟩ ?_
          rintro WF ⟨hWF, hFF⟩
          have k0 := cell_obj hWF 0 (.int .i64 0) rfl
          have k1 := cell_obj hWF 1 (.int .i64 0) rfl
          have k2 := cell_obj hWF 2 (.int .i64 0) rfl
          have k3 := cell_obj hWF 3 (.int .i64 0) rfl
          refine bodyPost_ret (by simp [results, Try.results11, go_sem, k0, k1, k2, k3]; rfl) rfl ?_
          exact ⟨⟨mk, xb, rows⟩, w3, HG.out, by rw [HA.out]; rfl, .inl ⟨by rw [HA.out], hFF⟩⟩
      · have HA := Lib.hid (show askM (mk, rows) n mx = (4, Ans.zero, false) by simp [askM, hmk, hg, hmix])
        clear hg
        go_wp2_with fail
        refine genW (Q := fun W => bodyPost Try.prog Try.f11 _ Exit.ret _ W) (fun W => W.heap[w.heap.size]? = some (.cells #[.int .i64 0, .int .i64 0, .int .i64 0, .int .i64 0] 31) ∧ Fr (fun _ => False) w W) ⟨heap_keep (heap_keep (obj_set (obj_set (obj_set (obj_set HO.out 0 (.int .i64 0)) 1 (.int .i64 0)) 2 (.int .i64 0)) 3 (.int .i64 0)) _) _, (by repeat (first | exact HF.out | apply Fr.alloc | refine Fr.setCell ?_ (fun h => (Nat.lt_irrefl _ h).elim) _))⟩ ?_
        rintro WF ⟨hWF, hFF⟩
        have k0 := cell_obj hWF 0 (.int .i64 0) rfl
        have k1 := cell_obj hWF 1 (.int .i64 0) rfl
        have k2 := cell_obj hWF 2 (.int .i64 0) rfl
        have k3 := cell_obj hWF 3 (.int .i64 0) rfl
        refine bodyPost_ret (by simp [results, Try.results11, go_sem, k0, k1, k2, k3]; rfl) rfl ?_
        exact ⟨⟨mk, xb, rows⟩, w3, HG.out, by rw [HA.out]; rfl, .inl ⟨by rw [HA.out], hFF⟩⟩
end Go.Proofs.Ytakjiicnbocjeaa
namespace Go.Proofs.Ytakjiicnbocjeaa
open Go.RowKit Go.Maps
theorem genW2 {Q : World → Prop} {W : World} (P : World → Prop) (h : P W) (k : ∀ W', P W' → Q W') : Q W := k W h
/-- What Tell says, of a client's rows: the error, and whether the row is turned. -/
def tellM (x : Int × Rows) (n : Int) : Int :=
  match getS x.2 n with
  | none => 4
  | some r => if r.done then 5 else 0
def tellOk (a : Ans) : Bool := isCl a.c && isNu a.n && decide (0 ≤ a.code) && decide (a.code ≤ 1000)
theorem iTell_arg (w : World) (g m : Nat) (l : List (Int × Cl)) (a : Ans) (h : Tab w g m l) (ha : tellOk a = false) :
    Calls Try.prog 12 #[.pointer (some ⟨g, 0, none⟩), a.enc] w fun e w' => e = .returned (.int .i64 1) ∧ Fr (fun _ => False) w w' := by
  have hcell := (h.fr ((Fr.refl (fun _ => False) w).alloc (.cells #[.int .i64 a.c, .int .i64 a.n, .int .i64 a.code, .int .i64 a.k] 31)) (fun h => h) (fun h => h) (fun _ _ h => h)).cell
  have HC := Lib.hid (fun w => iClient? w a.c)
  have HN := Lib.hid (fun w => iNumber? w a.n)
  obtain ⟨c, n, code, k⟩ := a
  unfold tellOk at ha
  unfold Ans.enc
  dsimp only at *
  clear h
  have hcase : isCl c = false ∨ isCl c = true ∧ isNu n = false ∨ isCl c = true ∧ isNu n = true ∧ code < 0 ∨ isCl c = true ∧ isNu n = true ∧ 0 ≤ code ∧ 1000 < code := by
    cases h1 : isCl c <;> cases h2 : isNu n <;> simp [h1, h2] at ha ⊢
    omega
  clear ha
  rcases hcase with h1 | ⟨h1, h2⟩ | ⟨h1, h2, h3⟩ | ⟨h1, h2, h3, h4⟩
  all_goals
    try rw [h1] at HC
    try rw [h2] at HN
    try clear h1
    try clear h2
    go_enter Try.func12, Try.ntmps12
    go_wp2_with (first
      | (go_at_call 24; refine (imade _ g m hcell).mono ?_; rintro e w' ⟨rfl, rfl⟩)
      | (go_at_call 25; refine (HC.out _).mono ?_; rintro e w' ⟨rfl, rfl⟩)
      | (go_at_call 26; refine (HN.out _).mono ?_; rintro e w' ⟨rfl, rfl⟩))
    go_ret
    exact ⟨rfl, (Fr.refl _ _).alloc _⟩
theorem iTell_no (w : World) (a : Ans) : Calls Try.prog 12 #[.pointer none, a.enc] w fun e w' => e = .returned (.int .i64 6) ∧ Fr (fun _ => False) w w' := by
  unfold Ans.enc
  go_enter Try.func12, Try.ntmps12
  go_wp2_with (go_at_call 24; refine (imade_no _).mono ?_; rintro e w' ⟨rfl, rfl⟩)
  go_ret
  exact ⟨rfl, (Fr.refl _ _).alloc _⟩
/-- The rows behind a Tell. -/
def tellR (rows : Rows) (a : Ans) : Rows := match getS rows a.n with
  | some r => putS ktI.lt rows a.n ⟨r.mix, true, a⟩
  | none => rows
set_option maxRecDepth 100000 in
set_option maxHeartbeats 2000000 in
theorem iTell (w : World) (g m : Nat) (l : List (Int × Cl)) (a : Ans) (h : Tab w g m l) (ha : tellOk a = true) (hlen : ∀ p ∈ l, p.2.rows.length < 9223372036854775807) :
    Calls Try.prog 12 #[.pointer (some ⟨g, 0, none⟩), a.enc] w fun e w' => ∃ x w1, Got w w1 l a.c x ∧ e = .returned (.int .i64 (tellM (x.mark, x.rows) a.n)) ∧
      ((tellM (x.mark, x.rows) a.n ≠ 0 ∧ Fr (fun _ => False) w w') ∨ (tellM (x.mark, x.rows) a.n = 0 ∧ getS l a.c = some x ∧ Mp Try.prog w' 3 ktI RowV.enc x.b (tellR x.rows a) ∧ Fr (fun b => b = x.b) w w')) := by
  have hh : isCl a.c = true ∧ isNu a.n = true ∧ 0 ≤ a.code ∧ a.code ≤ 1000 := by
    unfold tellOk at ha; simpa [and_assoc] using ha
  obtain ⟨c, n, code, k⟩ := a
  dsimp only at *
  obtain ⟨hi, hj, h0, h1⟩ := hh
  have hco : okI c := by unfold isCl at hi; simp at hi; unfold okI; omega
  have hno : okI n := by unfold isNu at hj; simp at hj; unfold okI; omega
  have hf1 := (Fr.refl (fun _ => False) w).alloc (.cells #[.int .i64 c, .int .i64 n, .int .i64 code, .int .i64 k] 31)
  have hT1 := h.fr hf1 (fun h => h) (fun h => h) (fun _ _ h => h)
  have hcell := hT1.cell
  have HX := Lib.hid (iclient _ g m l c hT1 hco)
  have HC := Lib.hid (fun w => iClient? w c)
  have HN := Lib.hid (fun w => iNumber? w n)
  have ho := heap_new w (.cells #[.int .i64 c, .int .i64 n, .int .i64 code, .int .i64 k] 31)
  rw [hi] at HC
  rw [hj] at HN
  have HT := Lib.hid h; have HO1 := Lib.hid ho
  have HL : Hid (∀ x w3, Got w w3 l c x → x.rows.length < 9223372036854775807) := Lib.hid (fun x w3 hg => by
    rcases hg with hg | ⟨_, _, h3, _⟩
    · exact hlen _ (getS_mem hg)
    · rw [h3]; simp)
  clear hlen
  clear hi hj hf1 hT1 h ho ha
  unfold Ans.enc
  dsimp only
  go_enter Try.func12, Try.ntmps12
  go_wp2_with (first
    | (go_at_call 24; refine (imade _ g m hcell).mono ?_; rintro e w' ⟨rfl, rfl⟩)
    | (go_at_call 25; refine (HC.out _).mono ?_; rintro e w' ⟨rfl, rfl⟩)
    | (go_at_call 26; refine (HN.out _).mono ?_; rintro e w' ⟨rfl, rfl⟩))
  refine HX.out.mono ?_
  rintro e w3 ⟨⟨mk, xb, rows⟩, rfl, hr3, hf3, hg2⟩
  unfold Cl.enc
  dsimp only at hr3 ⊢
  have hro3 := hf3.at_ HO1.out (fun h => h)
  have hF3 : Fr (fun _ => False) w w3 := ((Fr.refl _ w).alloc _).trans hf3
  have hG3 : Got w w3 l c ⟨mk, xb, rows⟩ := by
    rcases hg2 with h | ⟨h1, h2, h3, h4, h5⟩
    · exact .inl h
    · exact .inr ⟨h1, h2, h3, by simp at h4 ⊢; omega, h5⟩
  have hlk := (hr3.alloc (.cells #[.int .i64 mk, .map (some xb)] 68)).look_ok idK Try.underlying66 (zeroRow _) hno
  have hros : w.heap.size < w3.heap.size := (Array.getElem?_eq_some_iff.1 hro3).1
  have z0 := cell_obj hro3 0 (.int .i64 c) rfl
  have z1 := cell_obj hro3 1 (.int .i64 n) rfl
  have z2 := cell_obj hro3 2 (.int .i64 code) rfl
  have z3 := cell_obj hro3 3 (.int .i64 k) rfl
  have HG := Lib.hid hG3; have HF := Lib.hid hF3; have HR := Lib.hid hr3; have HO := Lib.hid hro3
  clear hg2 hf3 hG3 hF3 hr3 hro3 HX HC HN hcell HO1
  cases hg : getS rows n with
  | none =>
    rw [hg] at hlk
    have hl2 : (Instr.lookup 66 (.map (some xb)) (.int .i64 n) true).run Try.prog (w3.alloc (.cells #[.int .i64 mk, .map (some xb)] 68)) = .ok (.tuple #[.agg #[.int .u64 0, .bool false, .int .i64 0, .int .i64 0, .int .i64 0, .int .i64 0], .bool false]) _ := hlk
    have HA := Lib.hid (show tellM (mk, rows) n = 4 by simp [tellM, hg])
    clear hlk hg
    go_wp2_with fail
    go_ret
    exact ⟨⟨mk, xb, rows⟩, w3, HG.out, ret_int (by rw [HA.out]), .inl ⟨by rw [HA.out]; decide, (HF.out.alloc _).alloc _⟩⟩
  | some r =>
    rw [hg] at hlk
    obtain ⟨rm, rd, ⟨ac, an, acode, ak⟩⟩ := r
    have hl2 : (Instr.lookup 66 (.map (some xb)) (.int .i64 n) true).run Try.prog (w3.alloc (.cells #[.int .i64 mk, .map (some xb)] 68)) = .ok (.tuple #[.agg #[.int .u64 rm, .bool rd, .int .i64 ac, .int .i64 an, .int .i64 acode, .int .i64 ak], .bool true]) _ := hlk
    clear hlk
    cases rd with
    | true =>
      have HA := Lib.hid (show tellM (mk, rows) n = 5 by simp [tellM, hg])
      clear hg
      go_wp2_with fail
      go_ret
      exact ⟨⟨mk, xb, rows⟩, w3, HG.out, ret_int (by rw [HA.out]), .inl ⟨by rw [HA.out]; decide, (HF.out.alloc _).alloc _⟩⟩
    | false =>
      have HA := Lib.hid (show tellM (mk, rows) n = 0 by simp [tellM, hg])
      have HGS : Hid (∀ w3, Got w w3 l c ⟨mk, xb, rows⟩ → getS l c = some ⟨mk, xb, rows⟩) := Lib.hid (fun w3 h => by
        rcases h with h | ⟨_, _, h3, _⟩
        · exact h
        · have : rows = [] := h3
          rw [this] at hg; cases hg)
      have HA2 := Lib.hid (show tellR rows ⟨c, n, code, k⟩ = putS ktI.lt rows n ⟨rm, true, ⟨c, n, code, k⟩⟩ by simp [tellR, hg])
      clear hg
      go_wp2_with fail
      go_region
      obtain ⟨w6, hst, hr6, ht6⟩ := ((HR.out.alloc (.cells #[.int .i64 mk, .map (some xb)] 68)).alloc (.cells #[.int .u64 rm, .bool true, .int .i64 c, .int .i64 n, .int .i64 code, .int .i64 k] 73)).drew.store idK Try.underlying66 (by have := HL.out _ w3 HG.out; exact this) hno ⟨rm, true, ⟨c, n, code, k⟩⟩
      have hst' : (Instr.mapUpdate 66 (.map (some xb)) (.int .i64 n) (.agg #[.int .u64 rm, .bool true, .int .i64 c, .int .i64 n, .int .i64 code, .int .i64 k])).run Try.prog ((w3.alloc (.cells #[.int .i64 mk, .map (some xb)] 68)).alloc (.cells #[.int .u64 rm, .bool true, .int .i64 c, .int .i64 n, .int .i64 code, .int .i64 k] 73)).drew = .ok () w6 := hst
      have F6 : Fr (fun b => b = xb) w w6 := ((((HF.out.mono (fun _ _ h => h.elim)).alloc _).alloc _).drew).trans' (Fr.turned (S := fun b => b = xb) ht6 rfl) (fun b _ e => e)
      have HF6 := Lib.hid F6; have HR6 := Lib.hid hr6
      clear hst hl2 F6 hr6 ht6
      go_wp2_with fail
      go_ret
      refine ⟨⟨mk, xb, rows⟩, w3, HG.out, ret_int (by rw [HA.out]), .inr ⟨by rw [HA.out], HGS.out w3 HG.out, ?_, HF6.out⟩⟩
      rw [HA2.out]; exact HR6.out
end Go.Proofs.Ytakjiicnbocjeaa
namespace Go.Proofs.Ytakjiicnbocjeaa
open Go.RowKit
def Stp (TS : Nat → Prop) (w w' : World) (TS' : Nat → Prop) : Prop := Fr TS w w' ∧ ∀ b, TS' b → TS b ∨ w.heap.size ≤ b
section
variable {w w' : World} {TS : Nat → Prop}
theorem Stp.refl (h : Fr (fun _ => False) w w') : Stp TS w w' TS := ⟨h.mono (fun _ _ e => e.elim), fun _ e => .inl e⟩
theorem Stp.low {TS TS' : Nat → Prop} {w w' : World} {n : Nat} (hs : Stp TS w w' TS') (hT : ∀ b, TS b → n ≤ b) (hn : n ≤ w.heap.size) : ∀ b, TS' b → n ≤ b := fun b hb => by
  rcases hs.2 b hb with h | h
  · exact hT b h
  · omega
theorem Stp.fr {TS TS' : Nat → Prop} {w0 w w' : World} {n : Nat} (hs : Stp TS w w' TS') (hf : Fr (fun b => n ≤ b) w0 w) (hT : ∀ b, TS b → n ≤ b) : Fr (fun b => n ≤ b) w0 w' := hf.trans' hs.1 (fun b _ e => hT b e)
theorem Stp.trans {TS TS' TS'' : Nat → Prop} {w w' w'' : World} (h : Stp TS w w' TS') (h' : Stp TS' w' w'' TS'') : Stp TS w w'' TS'' :=
  ⟨h.1.trans' h'.1 (fun b hb e => (h.2 b e).elim id (fun e => by omega)), fun b hb => by
    rcases h'.2 b hb with e | e
    · exact h.2 b e
    · exact .inr (Nat.le_trans h.1.size e)⟩
end
end Go.Proofs.Ytakjiicnbocjeaa
