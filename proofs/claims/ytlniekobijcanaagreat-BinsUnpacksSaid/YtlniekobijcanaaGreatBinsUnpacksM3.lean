/- Texts of this claim, joined: Arguments opened to cells: structs of ints by value, slices of structs of ints; Arguments of whatever structs, opened to their leaves: structs and arrays laid flat; what a leaf is; Slices of structs, whatever they hold: each element's cells, and what else holds of it; A region that draws its order, whose operations only read, and whose calls may lay blocks, but give what does not hang on the world: one walk in the text's order serves (the library's theorem on quiet regions, at the class of all worlds that hold what was there); bins: a bin, its room, how well it takes a good; Plain: the first place where a test holds; bins: a floor; made, find (slices.IndexFunc by wip/tools/idxf.py); slices.Clone on items; bins: Left, In; bins: Of; slices.DeleteFunc at structs: what its walk asks: clear over cells; a row that is turned while it is read; slices.DeleteFunc at api.Item, under bins.with's closure (printed by wip/tools/dfx.py); cmp.isNaN, Compare, Or at int (as XBackC has them, for seats that do not build it); bins.apart; slices.SortFunc on a row of the call's own, under a comparison that may lay blocks: what the row owns behind it; slices.SortFunc on a row of the call's own whose elements are structs, under a comparison that may lay blocks; bins: with; append(row, source...) at a step of a region that draws its order; bins: with, whole; items.Take. -/
import Derived.Test.YtlniekobijcanaaGreatBinsUnpacksM1
import Derived.Test.YtlniekobijcanaaGreatBinsUnpacksM2
import Derived.Lib.SmallJoins
import Derived.Deep.Slices
import Derived.Deep.Fields
import Derived.ChangeSame
import Derived.BigQuiet
import Derived.Deep.QuietTactic
import Derived.Lib.Hide
import Derived.Handy
import Derived.Lib.SliceRun
import Derived.StillTailTactics
import Derived.Shelf.SlSortCmp.NoneTotal
import Derived.Test.YtlniekobijcanaaGreatShelfE
import Derived.Deep.RegionHeld3
namespace Go.Proofs.YtlniekobijcanaaGreat
open Go.Joins Go.ChangeShapes Go.WideShapes Go.RowKit Go.Deep
section
variable {H : Type} {enc : TypeId × Value → H} {P : Program} {w : World} {base : Nat} {spare : Nat → Bool} {held : Bool}
theorem open_ops3 {ti : TypeId} {r : Reach} {b0 : Nat} {t : TypeId} {f0 f1 f2 : Field} {v : Value} {d : DataW H} {p : List MemPlace} (hs : P.underlying t = some (.struct #[f0, f1, f2])) (ti1 : P.underlying ti = some (.int .i64)) (hf : f0.type = ti ∧ f1.type = ti ∧ f2.type = ti)
    (hone : oneCellFields P #[f0, f1, f2] = true) (hC : P.cellsOf t = 3)
    (hv : Value.okWide P w r b0 t v) (h : DataW.Trod enc P w base spare held t v d p) : ∃ a b c, v = .agg #[.int .i64 a, .int .i64 b, .int .i64 c] ∧ okI a ∧ okI b ∧ okI c := by
  obtain ⟨v0, v1, v2, y0, y1, y2, n, rfl, -, -, h0, h1, h2⟩ := open_agg3 hs hone hC hv h
  obtain ⟨e0, e1, e2⟩ := hf
  rw [e0] at h0; rw [e1] at h1; rw [e2] at h2
  obtain ⟨a, ha, -, wa⟩ := DataW.trod_int ti1 h0
  obtain ⟨b, hb, -, wb⟩ := DataW.trod_int ti1 h1
  obtain ⟨c, hc, -, wc⟩ := DataW.trod_int ti1 h2
  injection ha with ha _; injection hb with hb _; injection hc with hc _
  subst ha hb hc
  exact ⟨a, b, c, rfl, wf_okI.1 wa, wf_okI.1 wb, wf_okI.1 wc⟩
theorem open_slice_fields {t e : TypeId} {fs : Array Field} {fuel : Nat} {cs : List Value} {x : DataW H × List MemPlace} (ht : P.underlying t = some (.slice e)) (he : P.underlying e = some (.struct fs))
    (hone : oneCellFields P fs = true) (hC : P.cellsOf e = fs.size) (h : DataW.trod enc P w base spare held fuel t cs = some x) :
    (cs = [.slice none 0 0] ∧ x = (.nil, [])) ∨
    ∃ (a : Addr) (len cap m : Nat) (D : Nat → DataW H) (Pl : Nat → List MemPlace), cs = [.slice (some a) len cap] ∧ base ≤ a.block ∧ len ≤ cap ∧ cap ≤ maxLen ∧ m = (if spare a.block then cap else len) ∧
      x = (.slice ((List.range len).map D) ((List.range (m - len)).map fun j => D (len + j)), MemPlace.row a (m * fs.size) ++ (List.range m).flatMap Pl) ∧
      ∀ i, i < m → ∃ (ys : List (DataW H × List MemPlace)) (n : Nat), D i = .agg (ys.map (·.1)) ∧ Pl i = ys.flatMap (·.2) ∧ ys.length = fs.size ∧
        ∀ (j : Nat) (f : Field), fs[j]? = some f → ∃ (v : Value) (y : DataW H × List MemPlace), w.cell? (a.add (i * fs.size + j)) = some v ∧ ys[j]? = some y ∧ DataW.trod enc P w base spare held n f.type [v] = some y := by
  rcases open_slice ht h with h0 | ⟨a, len, cap, m, n, D, Pl, hcs, hb, hl, hm, hmm, hx, hi⟩
  · exact .inl h0
  · refine .inr ⟨a, len, cap, m, D, Pl, hcs, hb, hl, hm, hmm, by rw [hC] at hx; exact hx, fun i him => ?_⟩
    obtain ⟨cs', hc, ht'⟩ := hi i him
    rw [hC] at hc
    obtain ⟨ys, n', hn', hy, hlen, hyl, hf⟩ := DataW.trod_struct he ht'
    obtain ⟨_, hcl, hat⟩ := World.cells?_some hc
    simp only [Prod.mk.injEq] at hy
    refine ⟨ys, n', hy.1, hy.2, hyl, fun j f hj => ?_⟩
    obtain ⟨ho, hk⟩ := hone_of hone j f hj
    have hjl : j < fs.size := (Array.getElem?_eq_some_iff.1 hj).1
    have hcell := hat j hjl
    have hv : cs'[j]? = some (cs'[j]'(by omega)) := List.getElem?_eq_getElem (by omega)
    have h1 := hf j f hj
    rw [ho, hk] at h1
    have hone' : (cs'.drop j).take 1 = [cs'[j]'(by omega)] := by
      rw [List.drop_eq_getElem_cons (by omega)]
      rfl
    rw [hone'] at h1
    have hys : ys[j]? = some (ys[j]'(by omega)) := List.getElem?_eq_getElem (by omega)
    refine ⟨_, _, ?_, hys, h1.trans hys⟩
    rw [← Go.Deep.add_add, hcell, hv]
/-- A slice of structs of k ints: its cells, row by row. -/
def SlI (w : World) (v : Value) (k : Nat) (L : List (List Int)) : Prop :=
  (v = .slice none 0 0 ∧ L = []) ∨ ∃ (a : Addr) (cap : Nat), v = .slice (some a) L.length cap ∧ L.length ≤ cap ∧ cap ≤ maxLen ∧
    ∀ i r, L[i]? = some r → r.length = k ∧ (∀ x ∈ r, okI x) ∧ ∀ (j : Nat) (x : Int), r[j]? = some x → w.cell? (a.add (i * k + j)) = some (.int .i64 x)
theorem open_slI {ti : TypeId} {r : Reach} {b0 : Nat} {t e : TypeId} {fs : Array Field} {v : Value} {d : DataW H} {p : List MemPlace} (ht : P.underlying t = some (.slice e)) (he : P.underlying e = some (.struct fs))
    (ti1 : P.underlying ti = some (.int .i64)) (hf0 : (fs.toList.all fun f => decide (f.type = ti)) = true) (hone : oneCellFields P fs = true) (hC : P.cellsOf e = fs.size)
    (hv : Value.okWide P w r b0 t v) (h : DataW.Trod enc P w base spare held t v d p) : ∃ L, SlI w v fs.size L := by
  have hf : ∀ (j : Nat) (f : Field), fs[j]? = some f → f.type = ti := fun j f h => by simpa using List.all_eq_true.1 hf0 f (by have := Array.mem_of_getElem? h; simpa using this)
  obtain ⟨fuel, h⟩ := h
  have hvs : ∃ a l c, v = .slice a l c := okWide_slice ht hv
  obtain ⟨a0, l0, c0, rfl⟩ := hvs
  rcases open_slice_fields ht he hone hC h with ⟨h0, _⟩ | ⟨a, len, cap, m, D, Pl, hcs, hb, hl, hm, hmm, hx, hi⟩
  · have h0' : Value.slice a0 l0 c0 = .slice none 0 0 := by simpa [Value.cells] using h0
    exact ⟨[], .inl ⟨h0', rfl⟩⟩
  · have h0' : Value.slice a0 l0 c0 = .slice (some a) len cap := by simpa [Value.cells] using hcs
    have hlm : len ≤ m := by rw [hmm]; split <;> omega
    have key : ∀ i, i < len → ∃ r : List Int, r.length = fs.size ∧ (∀ x ∈ r, okI x) ∧ ∀ (j : Nat) (x : Int), r[j]? = some x → w.cell? (a.add (i * fs.size + j)) = some (.int .i64 x) := by
      intro i hil
      obtain ⟨ys, n, -, -, -, hcell⟩ := hi i (by omega)
      have hone1 : ∀ j, j < fs.size → ∃ x, okI x ∧ w.cell? (a.add (i * fs.size + j)) = some (.int .i64 x) := by
        intro j hj
        obtain ⟨v, y, hc, -, hy⟩ := hcell j fs[j] (by simp [hj])
        rw [hf j fs[j] (by simp [hj])] at hy
        obtain ⟨x, hx, -, wx⟩ := DataW.trod_int ti1 hy
        injection hx with hx _
        subst hx
        exact ⟨x, wf_okI.1 wx, hc⟩
      obtain ⟨X, hX⟩ := choose_lt (α := Int) (p := fun j x => okI x ∧ w.cell? (a.add (i * fs.size + j)) = some (.int .i64 x)) hone1
      refine ⟨(List.range fs.size).map X, by simp, ?_, ?_⟩
      · intro x hx
        obtain ⟨j, hj, rfl⟩ := List.mem_map.1 hx
        exact (hX j (by simpa using hj)).1
      · intro j x hx
        rw [List.getElem?_map] at hx
        obtain ⟨j', hj', rfl⟩ := Option.map_eq_some_iff.1 hx
        obtain ⟨hlt, hj2⟩ := List.getElem?_eq_some_iff.1 hj'
        rw [List.getElem_range] at hj2
        subst hj2
        exact (hX j (by simpa using hlt)).2
    obtain ⟨R, hR⟩ := choose_lt (α := List Int) (p := fun i r => r.length = fs.size ∧ (∀ x ∈ r, okI x) ∧ ∀ (j : Nat) (x : Int), r[j]? = some x → w.cell? (a.add (i * fs.size + j)) = some (.int .i64 x)) key
    have h0' := h0'
    injection h0' with e1 e2 e3
    subst e1 e2 e3
    refine ⟨(List.range l0).map R, .inr ⟨a, c0, by simp, by simpa using hl, hm, ?_⟩⟩
    intro i r hr
    rw [List.getElem?_map] at hr
    obtain ⟨i', hi', rfl⟩ := Option.map_eq_some_iff.1 hr
    obtain ⟨hlt, hj2⟩ := List.getElem?_eq_some_iff.1 hi'
    rw [List.getElem_range] at hj2
    subst hj2
    exact hR i (by simpa using hlt)
theorem SlI.len {v : Value} {k : Nat} {L : List (List Int)} (h : SlI w v k L) : L.length ≤ maxLen ∧ ∃ a c, v = .slice a L.length c := by
  rcases h with ⟨rfl, rfl⟩ | ⟨a, cap, rfl, h1, h2, -⟩
  · exact ⟨Nat.zero_le _, _, _, rfl⟩
  · exact ⟨by omega, _, _, rfl⟩
theorem add_field (a : Addr) (n j : Nat) : a.add (n + (j + 1)) = ⟨(a.add n).block, (a.add n).off + (j + 1), none⟩ := by
  rw [← Go.Deep.add_add]; rfl
theorem SlI.some {a0 : Option Addr} {n c k i : Nat} {L : List (List Int)} {r : List Int} (h : SlI w (.slice a0 n c) k L) (hr : L[i]? = .some r) : ∃ a, a0 = .some a := by
  rcases h with ⟨_, rfl⟩ | ⟨a, cap, e, _⟩
  · simp at hr
  · injection e with e1 _ _
    exact ⟨a, e1⟩
theorem SlI.row {a : Addr} {n c k i : Nat} {L : List (List Int)} {r : List Int} (h : SlI w (.slice (.some a) n c) k L) (hr : L[i]? = .some r) : r.length = k ∧ (∀ x ∈ r, okI x) ∧
    (∀ x, r[0]? = .some x → w.cell? (a.add (i * k)) = .some (.int .i64 x)) ∧ ∀ (j : Nat) (x : Int), r[j + 1]? = .some x → w.cell? ⟨(a.add (i * k)).block, (a.add (i * k)).off + (j + 1), none⟩ = .some (.int .i64 x) := by
  rcases h with ⟨_, rfl⟩ | ⟨a', cap, e, _, _, h3⟩
  · simp at hr
  · injection e with e1 _ _
    injection e1 with e1
    subst e1
    obtain ⟨g1, g2, g3⟩ := h3 i r hr
    exact ⟨g1, g2, fun x hx => g3 0 x hx, fun j x hx => by rw [← add_field]; exact g3 (j + 1) x hx⟩
theorem SlI.below {w' : World} {v : Value} {k : Nat} {L : List (List Int)} (h : SlI w v k L) (hk : 0 < k) (hb : Below w.heap.size w w') : SlI w' v k L := by
  rcases h with ⟨rfl, rfl⟩ | ⟨a, cap, rfl, h1, h2, h3⟩
  · exact .inl ⟨rfl, rfl⟩
  · refine .inr ⟨a, cap, rfl, h1, h2, fun i r hr => ⟨(h3 i r hr).1, (h3 i r hr).2.1, fun j x hx => ?_⟩⟩
    have hc := (h3 i r hr).2.2 j x hx
    have hlt : (a.add (i * k + j)).block < w.heap.size := by
      refine Nat.lt_of_not_le fun hle => ?_
      simp [World.cell?, Array.getElem?_eq_none hle] at hc
    simp only [World.cell?, hb.block _ hlt] at hc ⊢
    exact hc
end
end Go.Proofs.YtlniekobijcanaaGreat
namespace Go.Proofs.YtlniekobijcanaaGreat
open Go.ChangeShapes Go.WideShapes Go.RowKit Go.Deep
/-- A type's leaves: structs and arrays laid flat. -/
def leaves (P : Program) : Nat → TypeId → List TypeId
  | 0, t => [t]
  | n + 1, t => match P.underlying t with
    | some (.struct fs) => fs.toList.flatMap fun f => leaves P n f.type
    | some (.array m e) => (List.range m).flatMap fun _ => leaves P n e
    | _ => [t]
def offsOk (P : Program) (n : Nat) : List Field → Nat → Bool
  | [], _ => true
  | f :: r, off => f.offset == off && P.cellsOf f.type == (leaves P n f.type).length && offsOk P n r (off + (leaves P n f.type).length)
def flatOk (P : Program) : Nat → TypeId → Bool
  | 0, t => P.cellsOf t == 1
  | n + 1, t => P.cellsOf t == (leaves P (n + 1) t).length && match P.underlying t with
    | some (.struct fs) => offsOk P n fs.toList 0 && fs.toList.all fun f => flatOk P n f.type
    | some (.array _ e) => P.cellsOf e == (leaves P n e).length && flatOk P n e
    | _ => true
section
variable {H : Type} {enc : TypeId × Value → H} {P : Program} {w : World} {base : Nat} {spare : Nat → Bool} {held : Bool}
/-- The leaves lie in these cells. -/
def Leafs (enc : TypeId × Value → H) (P : Program) (w : World) (base : Nat) (spare : Nat → Bool) (held : Bool) (ts : List TypeId) (cs : List Value) : Prop :=
  ∀ (j : Nat) (t : TypeId), ts[j]? = some t → ∃ (v : Value) (n : Nat) (y : DataW H × List MemPlace), cs[j]? = some v ∧ DataW.trod enc P w base spare held n t [v] = some y
theorem Leafs.nil {cs : List Value} : Leafs enc P w base spare held [] cs := fun j t h => by simp at h
theorem Leafs.append {ts us : List TypeId} {cs : List Value} (h : Leafs enc P w base spare held ts (cs.take ts.length)) (h' : Leafs enc P w base spare held us (cs.drop ts.length)) : Leafs enc P w base spare held (ts ++ us) cs := by
  intro j t hj
  by_cases hl : j < ts.length
  · rw [List.getElem?_append_left hl] at hj
    obtain ⟨v, n, y, h1, h2⟩ := h j t hj
    rw [List.getElem?_take, if_pos hl] at h1
    exact ⟨v, n, y, h1, h2⟩
  · rw [List.getElem?_append_right (by omega)] at hj
    obtain ⟨v, n, y, h1, h2⟩ := h' _ t hj
    rw [List.getElem?_drop, show ts.length + (j - ts.length) = j by omega] at h1
    exact ⟨v, n, y, h1, h2⟩
theorem leafs_fields {n : Nat} : ∀ {fs : List Field} {off : Nat} {cs : List Value}, offsOk P n fs off = true → (∀ f ∈ fs, Leafs enc P w base spare held (leaves P n f.type) ((cs.drop f.offset).take (P.cellsOf f.type))) →
    Leafs enc P w base spare held (fs.flatMap fun f => leaves P n f.type) (cs.drop off)
  | [], _, _, _, _ => Leafs.nil
  | f :: r, off, cs, h, hf => by
    simp only [offsOk, Bool.and_eq_true, beq_iff_eq] at h
    obtain ⟨⟨h1, h2⟩, h3⟩ := h
    simp only [List.flatMap_cons]
    refine Leafs.append ?_ ?_
    · have := hf f (by simp)
      rw [h1, h2] at this
      exact this
    · rw [List.drop_drop]
      exact leafs_fields h3 (fun g hg => hf g (by simp [hg]))
theorem leafs_array {n : Nat} {e : TypeId} (he : P.cellsOf e = (leaves P n e).length) : ∀ {m k : Nat} {cs : List Value}, (∀ i, i < m → Leafs enc P w base spare held (leaves P n e) ((cs.drop ((k + i) * P.cellsOf e)).take (P.cellsOf e))) →
    Leafs enc P w base spare held ((List.range m).flatMap fun _ => leaves P n e) (cs.drop (k * P.cellsOf e))
  | 0, _, _, _ => Leafs.nil
  | m + 1, k, cs, hf => by
    rw [List.range_succ_eq_map, List.flatMap_cons, List.flatMap_map]
    refine Leafs.append ?_ ?_
    · have := hf 0 (by omega)
      rw [Nat.add_zero, he] at this
      rw [he]; exact this
    · rw [List.drop_drop, ← he]
      have := leafs_array he (m := m) (k := k + 1) (cs := cs) (fun i hi => by have := hf (i + 1) (by omega); rw [show k + 1 + i = k + (i + 1) by omega]; exact this)
      rw [show (k + 1) * P.cellsOf e = k * P.cellsOf e + P.cellsOf e by rw [Nat.succ_mul]] at this
      exact this
theorem flat_len {α : Type} (l : List α) : ∀ m : Nat, ((List.range m).flatMap fun _ => l).length = m * l.length
  | 0 => by simp
  | m + 1 => by rw [List.range_succ, List.flatMap_append, List.length_append, flat_len l m, Nat.succ_mul]; simp
theorem leafs_one {t : TypeId} {fuel : Nat} {cs : List Value} {x : DataW H × List MemPlace} (hl : cs.length = 1) (h : DataW.trod enc P w base spare held fuel t cs = some x) : Leafs enc P w base spare held [t] cs := by
  intro j t' hj
  match j, hj with
  | 0, hj =>
    cases hj
    match cs, hl with
    | [v], _ => exact ⟨v, fuel, x, rfl, h⟩
/-- WHATEVER IS READ IS READ LEAF BY LEAF. -/
theorem leafs_of : ∀ {n : Nat} {t : TypeId} {fuel : Nat} {cs : List Value} {x : DataW H × List MemPlace}, flatOk P n t = true → cs.length = P.cellsOf t → DataW.trod enc P w base spare held fuel t cs = some x →
    Leafs enc P w base spare held (leaves P n t) cs
  | 0, t, fuel, cs, x, hok, hl, h => by
    simp only [flatOk, beq_iff_eq] at hok
    exact leafs_one (by rw [hl, hok]) h
  | n + 1, t, fuel, cs, x, hok, hl, h => by
    simp only [flatOk, Bool.and_eq_true, beq_iff_eq] at hok
    obtain ⟨hc, hok⟩ := hok
    unfold leaves at hc ⊢
    cases hu : P.underlying t with
    | none => 
      rw [hu] at hc
      exact leafs_one (by rw [hl, hc]; rfl) h
    | some u =>
      rw [hu] at hc hok
      cases u with
      | struct fs =>
        simp only [Bool.and_eq_true] at hok
        obtain ⟨xs, m, _, _, hlen, hxl, hf⟩ := DataW.trod_struct hu h
        have := leafs_fields (enc := enc) (w := w) (base := base) (spare := spare) (held := held) (cs := cs) hok.1 (fun f hfm => by
          obtain ⟨i, hi, hi2⟩ := List.getElem_of_mem hfm
          have h1 := hf i f (by simp at hi; rw [Array.getElem?_eq_getElem hi]; simpa using hi2)
          have hi' : i < xs.length := by simp at hi; omega
          rw [List.getElem?_eq_getElem hi'] at h1
          refine leafs_of (n := n) (List.all_eq_true.1 hok.2 f hfm) ?_ h1
          have hsz : ∀ (l : List Field) (off : Nat), offsOk P n l off = true → ∀ g ∈ l, off ≤ g.offset ∧ g.offset + P.cellsOf g.type ≤ off + (l.flatMap fun f => leaves P n f.type).length := by
            intro l
            induction l with
            | nil => intro _ _ g hg; cases hg
            | cons a r ih =>
              intro off ho g hg
              simp only [offsOk, Bool.and_eq_true, beq_iff_eq] at ho
              simp only [List.flatMap_cons, List.length_append]
              rcases List.mem_cons.1 hg with rfl | hg
              · omega
              · have := ih _ ho.2 g hg
                omega
          have := hsz _ _ hok.1 f hfm
          simp only at hc
          rw [List.length_take, List.length_drop]
          omega)
        simpa using this
      | array m e =>
        simp only [Bool.and_eq_true, beq_iff_eq] at hok
        obtain ⟨xs, k, _, _, hlen, hxl, hf⟩ := DataW.trod_array hu h
        have := leafs_array (enc := enc) (w := w) (base := base) (spare := spare) (held := held) (cs := cs) (m := m) (k := 0) hok.1 (fun i hi => by
          have h1 := hf i hi
          rw [List.getElem?_eq_getElem (by omega)] at h1
          rw [Nat.zero_add]
          refine leafs_of (n := n) hok.2 ?_ h1
          rw [List.length_take, List.length_drop]
          have hcc : cs.length = m * P.cellsOf e := by
            rw [hl, hc, hok.1]
            exact flat_len _ _
          have : (i + 1) * P.cellsOf e ≤ m * P.cellsOf e := Nat.mul_le_mul_right _ hi
          rw [Nat.succ_mul] at this
          omega)
        simpa using this
      | _ => exact leafs_one (by rw [hl, hc]; rfl) h
/-- What a leaf is. -/
theorem leaf_int {t : TypeId} {k : IntKind} {n : Nat} {v : Value} {y : DataW H × List MemPlace} (ht : P.underlying t = some (.int k)) (h : DataW.trod enc P w base spare held n t [v] = some y) : ∃ x, v = .int k x ∧ (Lit.int k x).wf = true := by
  obtain ⟨x, e, _, hw⟩ := DataW.trod_int ht h
  injection e with e _
  exact ⟨x, e, hw⟩
theorem leaf_i64 {t : TypeId} {n : Nat} {v : Value} {y : DataW H × List MemPlace} (ht : P.underlying t = some (.int .i64)) (h : DataW.trod enc P w base spare held n t [v] = some y) : ∃ x, v = .int .i64 x ∧ okI x := by
  obtain ⟨x, e, hw⟩ := leaf_int ht h
  exact ⟨x, e, wf_okI.1 hw⟩
theorem leaf_bool {t : TypeId} {n : Nat} {v : Value} {y : DataW H × List MemPlace} (ht : P.underlying t = some .bool) (h : DataW.trod enc P w base spare held n t [v] = some y) : ∃ b, v = .bool b := by
  obtain ⟨x, e, _⟩ := DataW.trod_bool ht h
  injection e with e _
  exact ⟨x, e⟩
/-- A slice of whatever: its elements' leaves lie in cells. -/
def Sl (enc : TypeId × Value → H) (P : Program) (w : World) (base : Nat) (spare : Nat → Bool) (held : Bool) (ts : List TypeId) (v : Value) (n : Nat) : Prop :=
  n ≤ maxLen ∧ ((v = .slice none 0 0 ∧ n = 0) ∨ ∃ (a : Addr) (cap : Nat), v = .slice (some a) n cap ∧ n ≤ cap ∧ base ≤ a.block ∧ ∀ i, i < n → ∀ (j : Nat) (t : TypeId), ts[j]? = some t →
    ∃ (u : Value) (m : Nat) (y : DataW H × List MemPlace), w.cell? (a.add (i * ts.length + j)) = some u ∧ DataW.trod enc P w base spare held m t [u] = some y)
theorem leaf_slice {t e : TypeId} {d n : Nat} {v : Value} {y : DataW H × List MemPlace} (ht : P.underlying t = some (.slice e)) (hok : flatOk P d e = true) (hc : P.cellsOf e = (leaves P d e).length) (h : DataW.trod enc P w base spare held n t [v] = some y) :
    ∃ len, Sl enc P w base spare held (leaves P d e) v len := by
  rcases open_slice ht h with ⟨h0, _⟩ | ⟨a, len, cap, m, k, D, Pl, hcs, hb, hl, hm, hmm, _, hi⟩
  · injection h0 with h0 _
    exact ⟨0, Nat.zero_le _, .inl ⟨h0, rfl⟩⟩
  · injection hcs with hcs _
    refine ⟨len, by omega, .inr ⟨a, cap, hcs, hl, hb, fun i hil j tj hj => ?_⟩⟩
    have hlm : len ≤ m := by rw [hmm]; split <;> omega
    obtain ⟨cs', hcells, htr⟩ := hi i (by omega)
    obtain ⟨_, hlen, hcell⟩ := World.cells?_some hcells
    obtain ⟨u, m', y', h1, h2⟩ := leafs_of hok hlen htr j tj hj
    refine ⟨u, m', y', ?_, h2⟩
    have hjl : j < P.cellsOf e := by rw [hc]; exact (List.getElem?_eq_some_iff.1 hj).1
    rw [← hc, ← Go.Deep.add_add, hcell j hjl, h1]
theorem Sl.form {ts : List TypeId} {v : Value} {n : Nat} (h : Sl enc P w base spare held ts v n) : n ≤ maxLen ∧ ∃ a c, v = .slice a n c := by
  rcases h with ⟨h0, ⟨rfl, rfl⟩ | ⟨a, cap, rfl, -⟩⟩
  · exact ⟨h0, _, _, rfl⟩
  · exact ⟨h0, _, _, rfl⟩
end
end Go.Proofs.YtlniekobijcanaaGreat
namespace Go.Proofs.YtlniekobijcanaaGreat
open Go.ChangeShapes Go.WideShapes Go.RowKit Go.Maps
section
variable {α : Type} {k : Nat} {cs : α → Array Value} {ok : World → α → Prop}
/-- A slice of things of k cells: L. -/
def Sq (k : Nat) (cs : α → Array Value) (ok : World → α → Prop) (w : World) (v : Value) (L : List α) : Prop :=
  L.length ≤ maxLen ∧ ∃ a cap, v = .slice a L.length cap ∧ ∀ (i : Nat) (r : α), L[i]? = some r → ok w r ∧ ∃ ad, a = some ad ∧ ∀ (j : Nat) (u : Value), (cs r)[j]? = some u → w.cell? (ad.add (i * k + j)) = some u
/-- What holds of an element goes on to hold where nothing old is turned. -/
def Keeps (ok : World → α → Prop) : Prop := ∀ ⦃S : Nat → Prop⦄ ⦃w w' : World⦄ ⦃r : α⦄, ok w r → Fr S w w' → (∀ b, S b → w.heap.size ≤ b) → ok w' r
theorem keeps_true {p : α → Prop} : Keeps (fun _ => p) := fun _ _ _ _ h _ _ => h
theorem Sq.fr {S : Nat → Prop} {w w' : World} {v : Value} {L : List α} (hk : Keeps ok) (h : Sq k cs ok w v L) (hf : Fr S w w') (hS : ∀ b, S b → w.heap.size ≤ b) : Sq k cs ok w' v L := by
  obtain ⟨h0, a, cap, e, h1⟩ := h
  refine ⟨h0, a, cap, e, fun i r hr => ?_⟩
  obtain ⟨ho, ad, e2, hc⟩ := h1 i r hr
  refine ⟨hk ho hf hS, ad, e2, fun j u hu => ?_⟩
  have := hc j u hu
  exact hf.cell this (fun hs => by have := hS _ hs; have := World.block_lt_of_cell? w _ ‹w.cell? _ = _›; omega)
theorem Sq.fr0 {w w' : World} {v : Value} {L : List α} (hk : Keeps ok) (h : Sq k cs ok w v L) (hf : Fr (fun _ => False) w w') : Sq k cs ok w' v L := h.fr hk hf (fun _ h => h.elim)
theorem Sq.sl {w : World} {v : Value} {L : List α} (h : Sq k cs ok w v L) : ∃ a c, v = .slice a L.length c := by
  obtain ⟨_, a, c, e, _⟩ := h
  exact ⟨a, c, e⟩
theorem Sq.len {w : World} {v : Value} {L : List α} (h : Sq k cs ok w v L) : (L.length : Int) ≤ 9223372036854775807 := by
  have := h.1
  unfold maxLen at this
  omega
theorem Sq.okm {w : World} {v : Value} {L : List α} (h : Sq k cs ok w v L) {r : α} (hr : r ∈ L) : ok w r := by
  obtain ⟨i, hi⟩ := List.getElem?_of_mem hr
  obtain ⟨_, _, _, _, h1⟩ := h
  exact (h1 i r hi).1
theorem Sq.at_ {w : World} {a : Option Addr} {n c i : Nat} {L : List α} {r : α} (h : Sq k cs ok w (.slice a n c) L) (hr : L[i]? = some r) : ∃ ad, a = some ad ∧ ok w r ∧
    (∀ u, (cs r)[0]? = some u → w.cell? (ad.add (i * k)) = some u) ∧ ∀ (j : Nat) (u : Value), (cs r)[j + 1]? = some u → w.cell? ⟨(ad.add (i * k)).block, (ad.add (i * k)).off + (j + 1), none⟩ = some u := by
  obtain ⟨h0, a', cap, e, h1⟩ := h
  injection e with e1 _ _
  obtain ⟨ho, ad, e2, hc⟩ := h1 i r hr
  exact ⟨ad, e1.trans e2, ho, fun u hu => hc 0 u hu, fun j u hu => by rw [← add_field]; exact hc (j + 1) u hu⟩
theorem Sq.lt {w : World} {v : Value} {L : List α} (hcs : ∀ r, 0 < (cs r).size) (h : Sq k cs ok w v L) (hL : L ≠ []) : ∀ b, v.ownBlock = some b → b < w.heap.size := fun b hb => by
  obtain ⟨_, a, c, rfl, h1⟩ := h
  cases L with
  | nil => exact absurd rfl hL
  | cons p r =>
    obtain ⟨_, ad, rfl, hc⟩ := h1 0 p rfl
    have h2 := hc 0 _ (Array.getElem?_eq_getElem (hcs p))
    have := World.block_lt_of_cell? w _ h2
    have hb2 : (ad.add (0 * k + 0)).block = ad.block := by rw [Nat.zero_mul]; rfl
    rw [hb2] at this
    obtain rfl : ad.block = b := (by simpa [Value.ownBlock] using hb)
    exact this
theorem Sq.nil {w : World} {a : Option Addr} {c : Nat} : Sq k cs ok w (.slice a 0 c) [] := ⟨Nat.zero_le _, a, c, rfl, fun i r hr => by simp at hr⟩
/-- An element's cells in one list. -/
def flat (cs : α → Array Value) (L : List α) : List Value := L.flatMap fun r => (cs r).toList
theorem flat_app (L M : List α) : flat cs (L ++ M) = flat cs L ++ flat cs M := by simp [flat]
theorem flat_len1 (hcs : ∀ r, (cs r).size = k) (L : List α) : (flat cs L).length = L.length * k := by
  induction L with
  | nil => simp [flat]
  | cons q r ih =>
    have e : flat cs (q :: r) = (cs q).toList ++ flat cs r := by simp [flat]
    rw [e, List.length_append, ih, List.length_cons, Nat.succ_mul, Array.length_toList, hcs]; omega
theorem flat_at (hcs : ∀ r, (cs r).size = k) : ∀ {L : List α} {i : Nat} {r : α}, L[i]? = some r → ∀ (j : Nat) (u : Value), (cs r)[j]? = some u → (flat cs L)[i * k + j]? = some u
  | q :: L, 0, r, h, j, u, hu => by
    cases h
    have e : flat cs (q :: L) = (cs q).toList ++ flat cs L := by simp [flat]
    have hj := (Array.getElem?_eq_some_iff.1 hu).1
    rw [e, Nat.zero_mul, Nat.zero_add, List.getElem?_append_left (by simpa using hj)]
    simpa using hu
  | q :: L, i + 1, r, h, j, u, hu => by
    have e : flat cs (q :: L) = (cs q).toList ++ flat cs L := by simp [flat]
    have ih := flat_at hcs (L := L) (i := i) (r := r) (by simpa using h) j u hu
    have hl : (cs q).toList.length = k := by rw [Array.length_toList, hcs]
    rw [e, List.getElem?_append_right (by rw [hl, Nat.succ_mul]; omega), hl, Nat.succ_mul, show i * k + k + j - k = i * k + j by omega]
    exact ih
theorem flat_take (hcs : ∀ r, (cs r).size = k) (L : List α) (i : Nat) : flat cs (L.take i) = (flat cs L).take (i * k) := by
  induction L generalizing i with
  | nil => simp [flat]
  | cons q r ih =>
    cases i with
    | zero => simp [flat]
    | succ i =>
      have e : flat cs (q :: r) = (cs q).toList ++ flat cs r := by simp [flat]
      have e2 : flat cs (q :: r.take i) = (cs q).toList ++ flat cs (r.take i) := by simp [flat]
      have hl : (cs q).toList.length = k := by rw [Array.length_toList, hcs]
      rw [List.take_succ_cons, e, e2, ih, List.take_append, hl, List.take_of_length_le (l := (cs q).toList) (i := (i + 1) * k) (by rw [hl, Nat.succ_mul]; omega), Nat.succ_mul, show i * k + k - k = i * k by omega]
theorem flat_drop (hcs : ∀ r, (cs r).size = k) (L : List α) (i : Nat) : flat cs (L.drop i) = (flat cs L).drop (i * k) := by
  induction L generalizing i with
  | nil => simp [flat]
  | cons q r ih =>
    cases i with
    | zero => simp [flat]
    | succ i =>
      have e : flat cs (q :: r) = (cs q).toList ++ flat cs r := by simp [flat]
      have hl : (cs q).toList.length = k := by rw [Array.length_toList, hcs]
      have hn : (cs q).toList.drop ((i + 1) * k) = [] := List.drop_eq_nil_of_le (by rw [hl, Nat.succ_mul]; omega)
      rw [List.drop_succ_cons, e, ih, List.drop_append, hl, hn, List.nil_append, Nat.succ_mul, show i * k + k - k = i * k by omega]
theorem flat_one (h1 : ∀ (r : α) (u : Value), u ∈ cs r → u.oneCell' = true) {L : List α} : ∀ u ∈ flat cs L, u.oneCell' = true := by
  intro u hu
  simp only [flat, List.mem_flatMap] at hu
  obtain ⟨r, _, hr⟩ := hu
  exact h1 r u (by simpa using hr)
/-- A row of the call's own reads as a slice. -/
theorem Sq.own {w : World} {base : Nat} {e : TypeId} {v : Value} {L : List α} (hcs : ∀ r, (cs r).size = k) (h : w.ownsRow base e k v L.length (flat cs L)) (hL : ∀ p ∈ L, ok w p) : Sq k cs ok w v L := by
  rcases h.2 with ⟨rfl, h0⟩ | ⟨g, cap, cur, rfl, hbase, hb, hn, hm, hs, ht⟩
  · have : L = [] := List.eq_nil_of_length_eq_zero h0
    subst this
    exact Sq.nil
  · refine ⟨by unfold maxLen at *; omega, some ⟨g, 0, none⟩, cap, rfl, fun i p hp => ⟨hL p (List.mem_of_getElem? hp), _, rfl, fun j u hu => ?_⟩⟩
    have hi := (List.getElem?_eq_some_iff.1 hp).1
    have hj := (Array.getElem?_eq_some_iff.1 hu).1
    rw [hcs] at hj
    have hlt : i * k + j < L.length * k := by
      have : (i + 1) * k ≤ L.length * k := Nat.mul_le_mul_right _ hi
      rw [Nat.succ_mul] at this
      omega
    have h2 := h.cellAt (g := g) (j := i * k + j) (by first | exact hlt | (rw [flat_len1 hcs]; exact hlt))
    have e0 : (⟨g, 0, none⟩ : Addr).add (i * k + j) = ⟨g, i * k + j, none⟩ := by unfold Addr.add; split <;> simp_all
    rw [e0, h2]
    exact flat_at hcs hp j u hu
end
section
variable {α : Type} {k : Nat} {cs : α → Array Value} {ok : World → α → Prop}
variable {H : Type} {enc : TypeId × Value → H} {P : Program} {w : World} {base : Nat} {spare : Nat → Bool} {held : Bool}
/-- An argument: a slice of structs, opened by its elements' own opener. -/
theorem leaf_sq {t e : TypeId} {d n : Nat} {v : Value} {y : DataW H × List MemPlace} (ht : P.underlying t = some (.slice e)) (hok : flatOk P d e = true) (hc : P.cellsOf e = (leaves P d e).length) (hl : (leaves P d e).length = k)
    (hopen : ∀ (cell : Nat → Option Value), (∀ (j : Nat) (t : TypeId), (leaves P d e)[j]? = some t → ∃ (u : Value) (m : Nat) (y : DataW H × List MemPlace), cell j = some u ∧ DataW.trod enc P w base spare held m t [u] = some y) → ∃ r : α, ok w r ∧ ∀ (j : Nat) (u : Value), (cs r)[j]? = some u → cell j = some u)
    (h : DataW.trod enc P w base spare held n t [v] = some y) : ∃ L, Sq k cs ok w v L := by
  obtain ⟨len, hmax, hs⟩ := leaf_slice ht hok hc h
  rcases hs with ⟨e, rfl⟩ | ⟨a, cap, e, hle, hb, hi⟩
  · exact ⟨[], Nat.zero_le _, none, 0, e, fun i r hr => by simp at hr⟩
  · have key : ∀ i, i < len → ∃ r : α, ok w r ∧ ∀ (j : Nat) (u : Value), (cs r)[j]? = some u → w.cell? (a.add (i * k + j)) = some u := fun i hil =>
      hopen (fun j => w.cell? (a.add (i * k + j))) (fun j t ht => by have := hi i hil j t ht; rw [hl] at this; exact this)
    rcases Nat.eq_zero_or_pos len with rfl | hpos
    · exact ⟨[], Nat.zero_le _, some a, cap, by rw [e]; rfl, fun i r hr => by simp at hr⟩
    · obtain ⟨x0, _⟩ := key 0 hpos
      haveI : Inhabited α := ⟨x0⟩
      obtain ⟨X, hX⟩ := Go.Deep.choose_lt key
      refine ⟨(List.range len).map X, (by rw [List.length_map, List.length_range]; exact hmax), some a, cap, (by rw [e, List.length_map, List.length_range]), fun i r hr => ?_⟩
      rw [List.getElem?_map] at hr
      obtain ⟨i', hi', rfl⟩ := Option.map_eq_some_iff.1 hr
      obtain ⟨hlt, e⟩ := List.getElem?_eq_some_iff.1 hi'
      rw [List.getElem_range] at e
      subst e
      have := hX i (by simpa using hlt)
      exact ⟨this.1, a, rfl, this.2⟩
theorem open_sq {t e : TypeId} {d : Nat} {r : Reach} {b0 : Nat} {v : Value} {x : DataW H} {p : List MemPlace} (ht : P.underlying t = some (.slice e)) (hok : flatOk P d e = true) (hc : P.cellsOf e = (leaves P d e).length) (hl : (leaves P d e).length = k)
    (hopen : ∀ (cell : Nat → Option Value), (∀ (j : Nat) (t : TypeId), (leaves P d e)[j]? = some t → ∃ (u : Value) (m : Nat) (y : DataW H × List MemPlace), cell j = some u ∧ DataW.trod enc P w base spare held m t [u] = some y) → ∃ r : α, ok w r ∧ ∀ (j : Nat) (u : Value), (cs r)[j]? = some u → cell j = some u)
    (hv : Value.okWide P w r b0 t v) (h : DataW.Trod enc P w base spare held t v x p) : ∃ L, Sq k cs ok w v L := by
  obtain ⟨fuel, h⟩ := h
  obtain ⟨a0, l0, c0, rfl⟩ := okWide_slice ht hv
  exact leaf_sq ht hok hc hl hopen (n := fuel) (by simpa only [Value.cells] using h)
/-- An argument: a struct by value. -/
theorem open_one {t : TypeId} {d : Nat} {fs : Array Field} {r : Reach} {b0 : Nat} {v : Value} {x : DataW H} {p : List MemPlace} (ht : P.underlying t = some (.struct fs)) (hok : flatOk P d t = true) (hc : P.cellsOf t = k) (hl : ∀ r, (cs r).size = k)
    (hopen : ∀ (cell : Nat → Option Value), (∀ (j : Nat) (t' : TypeId), (leaves P d t)[j]? = some t' → ∃ (u : Value) (m : Nat) (y : DataW H × List MemPlace), cell j = some u ∧ DataW.trod enc P w base spare held m t' [u] = some y) → ∃ r : α, ok w r ∧ ∀ (j : Nat) (u : Value), (cs r)[j]? = some u → cell j = some u)
    (hv : Value.okWide P w r b0 t v) (h : DataW.Trod enc P w base spare held t v x p) : ∃ r : α, v = .agg (cs r) ∧ ok w r := by
  obtain ⟨fuel, h⟩ := h
  obtain ⟨cs', rfl, hsz⟩ := okWide_struct ht hv
  have hl2 := leafs_of (n := d) (t := t) hok (by rw [hc]; rw [hc] at hsz; simpa [Value.cells] using hsz) h
  obtain ⟨r, hr, hcell⟩ := hopen (fun j => (Value.agg cs').cells.toList[j]?) (fun j t ht => hl2 j t ht)
  refine ⟨r, ?_, hr⟩
  congr 1
  apply Array.ext
  · rw [hsz, hc, hl]
  · intro i h1 h2
    have := hcell i (cs r)[i] (by simp)
    simpa [Value.cells, h1] using this
end
end Go.Proofs.YtlniekobijcanaaGreat
namespace Go.Proofs.YtlniekobijcanaaGreat
open Go.RowKit
/-- A world in which all that was there in w lies as it did. -/
structure FrW (w : World) where
  val : World
  fr : Fr (fun _ => False) w val
instance frW_nonempty (w : World) : Nonempty (FrW w) := ⟨⟨w, Fr.refl _ w⟩⟩
theorem FrW.cell {w : World} {p : Addr} {v : Value} (hc : w.cell? p = some v) (X : FrW w) : X.val.cell? p = some v := X.fr.cell hc (fun h => h)
theorem FrW.at_ {w : World} {b : Nat} {o : Obj} (hc : w.heap[b]? = some o) (X : FrW w) : X.val.heap[b]? = some o := X.fr.at_ hc (fun h => h)
theorem wp_region_fr {P : Program} {id : Nat} {Q : Exit → Act → World → Prop} {a : Act} {w : World} {l : List Oper} (hm : P.follows .mixedOrders = true) (hB : Region.lexB .any l.toArray = true)
    (h : wpQuiet P l.toArray (fun w' => ∃ X : FrW w, w' = X.val) (fun a' => ∀ w', (∃ X : FrW w, w' = X.val) → Q .normal a' w') l a) : (Code.region id l.toArray true).wp P Q a w :=
  wp_region_quiet (C := fun w' => ∃ X : FrW w, w' = X.val) hm hB ⟨⟨_, (Fr.refl _ w).drew⟩, rfl⟩ (by simpa using h)
end Go.Proofs.YtlniekobijcanaaGreat
namespace Go.Proofs.YtlniekobijcanaaGreat
open Go.RowKit Go.Maps
/-- A bin: its number, its zone, its room, what lies in it. -/
structure BV where
  nu : Int
  zo : Int
  ro : Int
  l : Value
  its : Its
def BV.cs (b : BV) : Array Value := #[.int .i64 b.nu, .int .i64 b.zo, .int .i64 b.ro, b.l]
structure BOk (w : World) (b : BV) : Prop where
  nu : okI b.nu
  zo : okI b.zo
  ro : okI b.ro
  l : Il w b.l b.its
theorem bokKeeps : Keeps BOk := fun _ _ _ _ h hf hS => ⟨h.nu, h.zo, h.ro, h.l.fr hf hS⟩
theorem bvSize (b : BV) : b.cs.size = 4 := rfl
/-- A slice of bins. -/
abbrev Bl (w : World) (v : Value) (L : List BV) : Prop := Sq 4 BV.cs BOk w v L
/-- How much room is left. -/
def leftF (b : BV) : Int := wrap64 (b.ro - totF b.its)
/-- How well it takes a good: it has it, it is empty, it can, it can't. -/
def kindF (b : BV) (s : Str) : Int := if 0 < ofF b.its s then 0 else if b.its.length = 0 then 1 else if b.its.length < 16 then 2 else 3
set_option maxRecDepth 100000 in
set_option maxHeartbeats 4000000 in
theorem bLeft (w : World) (b : BV) (hk : BOk w b) : Calls Tryz.prog 52 #[.agg b.cs] w fun e w' => e = .returned (.int .i64 (leftF b)) ∧ Fr (fun _ => False) w w' := by
  obtain ⟨n0, hn0⟩ : ∃ n0, w.heap.size = n0 := ⟨_, rfl⟩
  have HL := Lib.hid (hk.l)
  obtain ⟨nu, zo, ro, l, its⟩ := b
  obtain ⟨la, lc, hl⟩ := hk.l.sl
  dsimp only at hl
  subst hl
  obtain ⟨W0, hW0⟩ : ∃ W0, w.alloc (.cells #[.int .i64 nu, .int .i64 zo, .int .i64 ro, .slice la its.length lc] 76) = W0 := ⟨_, rfl⟩
  have hb0 : W0.heap[n0]? = some (.cells #[.int .i64 nu, .int .i64 zo, .int .i64 ro, .slice la its.length lc] 76) := by rw [← hW0]; exact heap_at hn0.symm _
  have hF0 : Fr (fun _ => False) w W0 := by rw [← hW0]; exact (Fr.refl _ w).alloc _
  obtain ⟨N, hN⟩ : ∃ N, its.length = N := ⟨_, rfl⟩
  have hTo : Hid (∀ W, Fr (fun _ => False) w W → Calls Tryz.prog 96 #[.slice la N lc] W fun e w' => e = .returned (.int .i64 (totF its)) ∧ Fr (fun _ => False) W w') := Lib.hid (fun W hf => by
    have := iTotal W _ its (HL.out.fr hf (fun _ h => h.elim))
    dsimp only at this
    rw [hN] at this; exact this)
  unfold BV.cs leftF
  dsimp only
  rw [hN] at hb0 hW0 ⊢
  obtain ⟨TO, hTO⟩ : ∃ t, totF its = t := ⟨_, rfl⟩
  rw [hTO] at hTo ⊢
  have HF0 := Lib.hid hF0
  have p0 := FrW.cell (cell_obj hb0 2 (.int .i64 ro) rfl)
  have p1 := FrW.cell (cell_obj hb0 3 (.slice la N lc) rfl)
  clear hk hN hb0 hF0 hTO
  go_enter Tryz.func52, Tryz.ntmps52
  go_wp2_with fail
  refine wp_region_fr (by kernel_rfl) (by kernel_rfl) ?_
  repeat (go_big_quiet_step ((go_at_call 96; rename_i X; refine (hTo.out _ (HF0.out.trans X.fr)).mono ?_; rintro e w2 ⟨rfl, hF⟩; exact ⟨rfl, ⟨w2, X.fr.trans hF⟩, rfl⟩)))
  refine wpQuiet_nil ?_
  rintro _ ⟨⟨V, hV⟩, rfl⟩
  go_wp2_with fail
  go_ret
  exact ⟨rfl, HF0.out.trans hV⟩
set_option maxRecDepth 100000 in
set_option maxHeartbeats 4000000 in
theorem bKind (w : World) (b : BV) (s : Str) (hk : BOk w b) : Calls Tryz.prog 49 #[.agg b.cs, vS s] w fun e w' => e = .returned (.int .i64 (kindF b s)) ∧ Fr (fun _ => False) w w' := by
  obtain ⟨n0, hn0⟩ : ∃ n0, w.heap.size = n0 := ⟨_, rfl⟩
  have HL := Lib.hid (hk.l)
  obtain ⟨nu, zo, ro, l, its⟩ := b
  obtain ⟨la, lc, hl⟩ := hk.l.sl
  have hlen := hk.l.1
  dsimp only at hl hlen
  subst hl
  obtain ⟨W0, hW0⟩ : ∃ W0, w.alloc (.cells #[.int .i64 nu, .int .i64 zo, .int .i64 ro, .slice la its.length lc] 76) = W0 := ⟨_, rfl⟩
  have hb0 : W0.heap[n0]? = some (.cells #[.int .i64 nu, .int .i64 zo, .int .i64 ro, .slice la its.length lc] 76) := by rw [← hW0]; exact heap_at hn0.symm _
  have hF0 : Fr (fun _ => False) w W0 := by rw [← hW0]; exact (Fr.refl _ w).alloc _
  obtain ⟨N, hN⟩ : ∃ N, its.length = N := ⟨_, rfl⟩
  have hOf : Hid (∀ W, Fr (fun _ => False) w W → Calls Tryz.prog 56 #[.slice la N lc, vS s] W fun e w' => e = .returned (.int .i64 (ofF its s)) ∧ Fr (fun _ => False) W w') := Lib.hid (fun W hf => by
    have := iOf W _ its s (HL.out.fr hf (fun _ h => h.elim))
    dsimp only at this
    rw [hN] at this; exact this)
  obtain ⟨R, hR⟩ : ∃ R, kindF ⟨nu, zo, ro, .slice la its.length lc, its⟩ s = R := ⟨_, rfl⟩
  rw [hR]
  have HR : Hid (R = if 0 < ofF its s then 0 else if N = 0 then 1 else if N < 16 then 2 else 3) := Lib.hid (by rw [← hR, ← hN]; rfl)
  unfold BV.cs
  dsimp only
  rw [hN] at hb0 hW0 hlen ⊢
  obtain ⟨OF, hOF⟩ : ∃ t, ofF its s = t := ⟨_, rfl⟩
  rw [hOF] at hOf HR
  have HF0 := Lib.hid hF0; have HB0 := Lib.hid hb0
  have p1 := cell_obj hb0 3 (.slice la N lc) rfl
  have hNI : (N : Int) ≤ 9223372036854775807 := by omega
  have hNs : N = 0 ∨ (0 < N ∧ N < 16) ∨ 16 ≤ N := by omega
  clear hk hN hb0 hF0 hOF hR hlen
  by_cases hpos : 0 < OF
  · have hr : Hid (R = 0) := Lib.hid (by rw [HR.out, if_pos hpos])
    clear hNs HR
    go_enter Tryz.func49, Tryz.ntmps49
    go_wp2_with (go_at_call 56; refine (hOf.out _ HF0.out).mono ?_; rintro e w2 ⟨rfl, hf2⟩; have HF2 := Lib.hid hf2; have p1 := cell_obj (hf2.at_ HB0.out (fun e => e)) 3 (.slice la N lc) rfl; clear hf2)
    go_ret
    exact ⟨by rw [hr.out]; rfl, HF0.out.trans HF2.out⟩
  · have d0 : decide (0 < OF) = false := decide_eq_false hpos
    rcases hNs with h0 | ⟨h0, h1⟩ | h1
    · have hr : Hid (R = 1) := Lib.hid (by rw [HR.out, if_neg hpos, if_pos h0])
      subst h0
      clear HR hpos
      go_enter Tryz.func49, Tryz.ntmps49
      go_wp2_with (go_at_call 56; refine (hOf.out _ HF0.out).mono ?_; rintro e w2 ⟨rfl, hf2⟩; have HF2 := Lib.hid hf2; have p1 := cell_obj (hf2.at_ HB0.out (fun e => e)) 3 (.slice la 0 lc) rfl; clear hf2)
      go_ret
      exact ⟨by rw [hr.out]; rfl, HF0.out.trans HF2.out⟩
    · have hr : Hid (R = 2) := Lib.hid (by rw [HR.out, if_neg hpos, if_neg (by omega), if_pos h1])
      have b0 : ((N : Int) == 0) = false := by simp; omega
      have b1 : (N : Int) < 16 := by omega
      clear HR hpos h0 h1
      go_enter Tryz.func49, Tryz.ntmps49
      go_wp2_with (go_at_call 56; refine (hOf.out _ HF0.out).mono ?_; rintro e w2 ⟨rfl, hf2⟩; have HF2 := Lib.hid hf2; have p1 := cell_obj (hf2.at_ HB0.out (fun e => e)) 3 (.slice la N lc) rfl; clear hf2)
      go_ret
      exact ⟨by rw [hr.out]; rfl, HF0.out.trans HF2.out⟩
    · have hr : Hid (R = 3) := Lib.hid (by rw [HR.out, if_neg hpos, if_neg (by omega), if_neg (by omega)])
      have b0 : ((N : Int) == 0) = false := by simp; omega
      have b1 : ¬ (N : Int) < 16 := by omega
      clear HR hpos h1
      go_enter Tryz.func49, Tryz.ntmps49
      go_wp2_with (go_at_call 56; refine (hOf.out _ HF0.out).mono ?_; rintro e w2 ⟨rfl, hf2⟩; have HF2 := Lib.hid hf2; have p1 := cell_obj (hf2.at_ HB0.out (fun e => e)) 3 (.slice la N lc) rfl; clear hf2)
      go_ret
      exact ⟨by rw [hr.out]; rfl, HF0.out.trans HF2.out⟩
end Go.Proofs.YtlniekobijcanaaGreat
namespace Go.Proofs.YtlniekobijcanaaGreat
/-- The place of the first that is so; -1: none. -/
def idxOf {α : Type} (p : α → Bool) (L : List α) : Int := match L.findIdx? p with | some i => (i : Int) | none => -1
theorem idxOf_at {α : Type} {p : α → Bool} {L : List α} {j : Nat} {x : α} (h : L[j]? = some x) (hp : p x = true) (hno : ∀ q y, q < j → L[q]? = some y → p y = false) : idxOf p L = j := by
  have : L.findIdx? p = some j := by
    rw [List.findIdx?_eq_some_iff_getElem]
    obtain ⟨hj, e⟩ := List.getElem?_eq_some_iff.1 h
    refine ⟨hj, by rw [e]; exact hp, fun q hq => ?_⟩
    have := hno q _ hq (List.getElem?_eq_getElem (by omega))
    simp [this]
  unfold idxOf
  rw [this]
theorem idxOf_no {α : Type} {p : α → Bool} {L : List α} (h : ∀ (q : Nat) (y : α), L[q]? = some y → p y = false) : idxOf p L = -1 := by
  have : L.findIdx? p = none := by
    rw [List.findIdx?_eq_none_iff]
    intro x hx
    obtain ⟨q, hq⟩ := List.getElem?_of_mem hx
    exact h q x hq
  unfold idxOf
  rw [this]
theorem idxOf_cases {α : Type} (p : α → Bool) (L : List α) : (idxOf p L = -1 ∧ L.find? p = none ∧ ∀ x ∈ L, p x = false) ∨ ∃ (j : Nat) (x : α), L[j]? = some x ∧ p x = true ∧ idxOf p L = j ∧ L.find? p = some x := by
  cases h : L.findIdx? p with
  | none =>
    left
    have h2 := List.findIdx?_eq_none_iff.1 h
    exact ⟨by unfold idxOf; rw [h], List.find?_eq_none.2 (fun x hx => by simp [h2 x hx]), h2⟩
  | some j =>
    right
    obtain ⟨hj, hp, hno⟩ := List.findIdx?_eq_some_iff_getElem.1 h
    refine ⟨j, L[j], List.getElem?_eq_getElem hj, hp, by unfold idxOf; rw [h], ?_⟩
    rw [List.find?_eq_some_iff_getElem]
    exact ⟨hp, j, hj, rfl, fun q hq => by simpa using hno q hq⟩
end Go.Proofs.YtlniekobijcanaaGreat
namespace Go.Proofs.YtlniekobijcanaaGreat
open Go.RowKit Go.Maps
set_option maxRecDepth 100000 in
set_option maxHeartbeats 4000000 in
theorem ixBin (w : World) (v : Value) (L : List BV) (p : BV → Bool) (b0 : Nat) (h : Sq 4 BV.cs BOk w v L)
    (hf : ∀ (W : World) (i : Nat) (x : BV), L[i]? = some x → Fr (fun _ => False) w W → Calls Tryz.prog 89 #[.agg (BV.cs x), .pointer (some ⟨b0, 0, none⟩)] W fun e W' => e = .returned (.bool (p x)) ∧ Fr (fun _ => False) W W') :
    Calls Tryz.prog 88 #[v, .func (.func 89) #[] #[.pointer (some ⟨b0, 0, none⟩)]] w fun e w' => e = .returned (.int .i64 (idxOf p L)) ∧ Fr (fun _ => False) w w' := by
  obtain ⟨a, c, rfl⟩ := h.sl
  obtain ⟨N, hN⟩ : ∃ N, L.length = N := ⟨_, rfl⟩
  have hNb : (N : Int) ≤ 9223372036854775807 := by have := h.len; omega
  have HL := Lib.hid h; have HN := Lib.hid hN; have HF := Lib.hid hf
  rw [hN] at HL ⊢
  obtain ⟨R, hR⟩ : ∃ R, idxOf p L = R := ⟨_, rfl⟩
  have HR := Lib.hid hR
  rw [hR]
  clear h hN hf hR
  go_enter Tryz.func88, Tryz.ntmps88
  go_wp2_with fail
  go_loopw [5, 8] (fun _ i wr => ∃ j : Nat, j ≤ N ∧ i = .int .i64 j ∧ Fr (fun _ => False) w wr ∧ ∀ q x, q < j → L[q]? = some x → p x = false) (fun _ i _ => N - (intOf i).toNat)
  case atStart => exact ⟨0, Nat.zero_le _, rfl, Fr.refl _ _, fun q x hq => by omega⟩
  case round =>
    obtain ⟨j, hj, rfl, hfr, hno⟩ := hrel
    have HFR := Lib.hid hfr; have HNO := Lib.hid hno
    clear hno
    by_cases hlt : j < N
    · obtain ⟨x, hx⟩ : ∃ x, L[j]? = some x := ⟨L[j]'(by rw [HN.out]; exact hlt), List.getElem?_eq_getElem _⟩
      obtain ⟨ad, rfl, hok, z0, zs⟩ := (HL.out.fr0 bokKeeps hfr).at_ hx
      have hC := HF.out wr j x hx hfr
      obtain ⟨b, hb⟩ : ∃ b, p x = b := ⟨_, rfl⟩
      rw [hb] at hC
      have HB := Lib.hid hb; have HX := Lib.hid hx
      have hjI : (j : Int) < N := by omega
      obtain ⟨X, hXX⟩ : ∃ X, X = x := ⟨_, rfl⟩
      rw [← hXX] at HB HX
      obtain ⟨nu, zo, ro, l, its⟩ := x
      clear hXX
      obtain ⟨la, lc, hl⟩ := hok.l.sl
      dsimp only at hl
      subst hl
      have x0 := z0 (.int .i64 nu) rfl
      have x1 := zs 0 (.int .i64 zo) rfl
      have x2 := zs 1 (.int .i64 ro) rfl
      have x3 := zs 2 (.slice la its.length lc) rfl
      dsimp only [Nat.zero_add, Nat.reduceAdd] at x0 x1 x2 x3
      have hC' : Calls Tryz.prog 89 #[.agg #[.int .i64 nu, .int .i64 zo, .int .i64 ro, .slice la its.length lc], .pointer (some ⟨b0, 0, none⟩)] wr fun e W' => e = .returned (.bool b) ∧ Fr (fun _ => False) wr W' := hC
      have HC := Lib.hid hC'
      clear hC hC' hb hx hok z0 zs hfr
      cases b with
      | true =>
        have hres : Hid (R = (j : Int)) := Lib.hid (by rw [← HR.out]; exact idxOf_at HX.out HB.out HNO.out)
        go_wp2_with (go_at_call 89; refine HC.out.mono ?_; rintro e w1 ⟨rfl, hf1⟩; have HF1 := Lib.hid hf1; clear hf1)
        go_ret
        exact ⟨by rw [hres.out]; rfl, HFR.out.trans HF1.out⟩
      | false =>
        go_wp2_with (go_at_call 89; refine HC.out.mono ?_; rintro e w1 ⟨rfl, hf1⟩; have HF1 := Lib.hid hf1; clear hf1)
        go_roundw
        case rel =>
          refine ⟨j + 1, by omega, by go_num, HFR.out.trans HF1.out, fun q x hq hx => ?_⟩
          by_cases e : q = j
          · subst e
            have := HX.out
            rw [this] at hx
            injection hx with hx
            rw [← hx]
            exact HB.out
          · exact HNO.out q x (by omega) hx
        case measure => simp [intOf]; omega
    · obtain rfl : j = N := by omega
      have hres : Hid (R = -1) := Lib.hid (by rw [← HR.out]; exact idxOf_no (fun q x hx => HNO.out q x (by have := (List.getElem?_eq_some_iff.1 hx).1; have := HN.out; omega) hx))
      clear hfr
      go_wp2_with fail
      go_ret
      exact ⟨by rw [hres.out]; rfl, HFR.out⟩

/-- A floor at g: these bins. -/
def Fl (W : World) (g : Nat) (L : List BV) : Prop := ∃ a c, W.heap[g]? = some (.cells #[.slice a L.length c] 79) ∧ Bl W (.slice a L.length c) L
theorem Fl.keep {W W' : World} {g : Nat} {L : List BV} (h : Fl W g L) (hf : Fr (fun _ => False) W W') : Fl W' g L := by
  obtain ⟨a, c, h1, h2⟩ := h
  exact ⟨a, c, hf.at_ h1 (fun e => e), h2.fr0 bokKeeps hf⟩
/-- The place of a bin; -1: there is none. -/
def findF (L : List BV) (n : Int) : Int := idxOf (fun b => decide (b.nu = n)) L
set_option maxRecDepth 100000 in
set_option maxHeartbeats 4000000 in
theorem bFind1 (w : World) (b : BV) (n : Int) (b0 : Nat) (hk : BOk w b) (hb : w.cell? ⟨b0, 0, none⟩ = some (.int .i64 n)) : Calls Tryz.prog 89 #[.agg b.cs, .pointer (some ⟨b0, 0, none⟩)] w fun e w' => e = .returned (.bool (decide (b.nu = n))) ∧ Fr (fun _ => False) w w' := by
  obtain ⟨nu, zo, ro, l, its⟩ := b
  obtain ⟨la, lc, hl⟩ := hk.l.sl
  dsimp only at hl
  subst hl
  unfold BV.cs
  dsimp only
  obtain ⟨N, hN⟩ : ∃ N, its.length = N := ⟨_, rfl⟩
  rw [hN]
  have hb2 := ((Fr.refl (fun _ => False) w).alloc (.cells #[.int .i64 nu, .int .i64 zo, .int .i64 ro, .slice la N lc] 76)).cell hb (fun h => h)
  clear hk hN
  by_cases e : nu = n
  · have b1 : (nu == n) = true := by simpa using e
    have hr : decide (nu = n) = true := decide_eq_true e
    rw [hr]
    clear e hr
    go_enter Tryz.func89, Tryz.ntmps89
    go_wp2_with fail
    go_ret
    exact ⟨rfl, (Fr.refl _ w).alloc _⟩
  · have b1 : (nu == n) = false := by simpa using e
    have hr : decide (nu = n) = false := decide_eq_false e
    rw [hr]
    clear e hr
    go_enter Tryz.func89, Tryz.ntmps89
    go_wp2_with fail
    go_ret
    exact ⟨rfl, (Fr.refl _ w).alloc _⟩
set_option maxRecDepth 100000 in
set_option maxHeartbeats 4000000 in
theorem bMade (w : World) (g : Nat) (L : List BV) (h : Fl w g L) (hL : 0 < L.length) : Calls Tryz.prog 57 #[.pointer (some ⟨g, 0, none⟩)] w fun e w' => e = .returned (.bool true) ∧ w = w' := by
  obtain ⟨a, c, h1, h2⟩ := h
  have hb := h2.len
  obtain ⟨N, hN⟩ : ∃ N, L.length = N := ⟨_, rfl⟩
  rw [hN] at h1 hb hL
  have c0 := cell_obj h1 0 (.slice a N c) rfl
  have hI : (0 : Int) < (N : Int) := by omega
  clear h1 h2 hN
  go_enter Tryz.func57, Tryz.ntmps57
  go_wp2_with fail
  go_ret
  exact ⟨rfl, rfl⟩
set_option maxRecDepth 100000 in
set_option maxHeartbeats 4000000 in
theorem bMade_no (w : World) : Calls Tryz.prog 57 #[.pointer none] w fun e w' => e = .returned (.bool false) ∧ w = w' := by
  go_enter Tryz.func57, Tryz.ntmps57
  go_wp2_with fail
  go_ret
  exact ⟨rfl, rfl⟩
set_option maxRecDepth 100000 in
set_option maxHeartbeats 4000000 in
theorem bFind (w : World) (g : Nat) (L : List BV) (n : Int) (h : Fl w g L) (hL : 0 < L.length) : Calls Tryz.prog 39 #[.pointer (some ⟨g, 0, none⟩), .int .i64 n] w fun e w' => e = .returned (.int .i64 (findF L n)) ∧ Fr (fun _ => False) w w' := by
  obtain ⟨n0, hn0⟩ : ∃ n0, w.heap.size = n0 := ⟨_, rfl⟩
  obtain ⟨W0, hW0⟩ : ∃ W0, w.alloc (.cells #[.int .i64 n] 3) = W0 := ⟨_, rfl⟩
  have hb0 : W0.heap[n0]? = some (.cells #[.int .i64 n] 3) := by rw [← hW0]; exact heap_at hn0.symm _
  have hF0 : Fr (fun _ => False) w W0 := by rw [← hW0]; exact (Fr.refl _ w).alloc _
  have hm := Lib.hid (bMade W0 g L (h.keep hF0) hL)
  obtain ⟨a, c, h1, h2⟩ := h.keep hF0
  have hx : Hid (Calls Tryz.prog 88 #[.slice a L.length c, .func (.func 89) #[] #[.pointer (some ⟨n0, 0, none⟩)]] W0 fun e w' => e = .returned (.int .i64 (findF L n)) ∧ Fr (fun _ => False) W0 w') :=
    Lib.hid (ixBin W0 _ L (fun b => decide (b.nu = n)) n0 h2 (fun W i x hx hf => bFind1 W x n n0 (bokKeeps (h2.okm (List.mem_of_getElem? hx)) hf (fun _ e => e.elim)) (hf.cell (cell_obj hb0 0 (.int .i64 n) rfl) (fun e => e))))
  obtain ⟨N, hN⟩ : ∃ N, L.length = N := ⟨_, rfl⟩
  rw [hN] at h1 hx
  obtain ⟨R, hR⟩ : ∃ R, findF L n = R := ⟨_, rfl⟩
  rw [hR] at hx ⊢
  have c0 := cell_obj h1 0 (.slice a N c) rfl
  have HF0 := Lib.hid hF0
  clear h h1 h2 hb0 hF0 hR hN hL
  go_enter Tryz.func39, Tryz.ntmps39
  go_wp2_with (first
    | (go_at_call 57; refine hm.out.mono ?_; rintro e w1 ⟨rfl, rfl⟩)
    | (go_at_call 88; refine hx.out.mono ?_; rintro e w2 ⟨rfl, hf2⟩; have HF2 := Lib.hid hf2; clear hf2))
  go_ret
  exact ⟨rfl, HF0.out.trans HF2.out⟩
end Go.Proofs.YtlniekobijcanaaGreat
namespace Go.Proofs.YtlniekobijcanaaGreat
open Go.RowKit Go.Maps
set_option maxRecDepth 100000 in
theorem itClone (w : World) (v : Value) (bs : Its) (h : Il w v bs) (hl : (bs.length : Int) ≤ 1000) : Calls Tryz.prog 86 #[v] w fun e w' =>
    ∃ v', e = .returned v' ∧ w'.ownsRow w.heap.size 124 2 v' bs.length (itCs bs) ∧ Fr (fun _ => False) w w' := by
  obtain ⟨i0, hi', hz0, hz1, hz2⟩ := info_parts infoItem
  obtain ⟨hb1, a, c, rfl, hbx⟩ := id h
  obtain ⟨n, hn⟩ : ∃ n, bs.length = n := ⟨_, rfl⟩
  have HN := Lib.hid hn
  rw [hn] at hl hb1 ⊢
  clear hn
  have hq := fun (w : World) (a : Option Addr) (n c n' c' : Nat) => Lib.run_eql_slice_nil (P := Tryz.prog) w 65 _ a n c n' c' Tryz.underlying65
  cases a with
  | none =>
    have h0 : n = 0 := by
      rcases Nat.eq_zero_or_pos n with h0 | h0
      · exact h0
      · obtain ⟨x, hx⟩ : ∃ x, bs[0]? = some x := ⟨bs[0]'(by have := HN.out; omega), List.getElem?_eq_getElem _⟩
        obtain ⟨-, -, ad', e, -⟩ := hbx 0 x hx
        cases e
    subst h0
    have hbe : bs = [] := List.eq_nil_of_length_eq_zero HN.out
    subst hbe
    clear h hbx
    go_enter Tryz.func86, Tryz.ntmps86
    go_wp2_with fail
    go_ret
    exact ⟨_, rfl, World.ownsRow_nil _ _ _ _, Fr.refl _ _⟩
  | some ad =>
    have hown : (w.alloc (.cells #[] 124)).ownsRow w.heap.size 124 2 (.slice (some ⟨w.heap.size, 0, none⟩) 0 0) 0 [] := World.ownsRow_made w #[] 0 (Nat.le_refl _) (Nat.zero_le _) rfl
    have hnews : ∀ (i : Nat) (u : Value), (itCs bs)[i]? = some u → (w.alloc (.cells #[] 124)).cell? (ad.add i) = some u := fun i u hu => by
      have hi := (List.getElem?_eq_some_iff.1 hu).1
      rw [itCs_len] at hi
      obtain ⟨x, hx⟩ : ∃ x, bs[i / 2]? = some x := ⟨bs[i / 2]'(by omega), List.getElem?_eq_getElem _⟩
      obtain ⟨-, -, ad', e, c0, c1⟩ := hbx (i / 2) x hx
      cases e
      obtain ⟨d0, d1⟩ := itCs_at hx
      rcases (by omega : i = i / 2 * 2 ∨ i = i / 2 * 2 + 1) with e | e
      · rw [e] at hu ⊢
        rw [d0] at hu
        rw [← hu]
        exact ((Fr.refl (fun _ => False) w).alloc _).cell c0 (fun h => h)
      · rw [e] at hu ⊢
        rw [d1] at hu
        rw [← hu, add_field]
        exact ((Fr.refl (fun _ => False) w).alloc _).cell c1 (fun h => h)
    have hall : ∀ u ∈ itCs bs, u.oneCell' = true := fun u hu => itCs_one hu
    have hul : (itCs bs).length = n * 2 := by have := HN.out; rw [itCs_len, this]
    have HNEWS := Lib.hid hnews; have HALL := Lib.hid hall; have HUL := Lib.hid hul; have HO := Lib.hid hown
    clear hnews hall hul hown hbx h
    go_enter Tryz.func86, Tryz.ntmps86
    go_wp2_with (at_builtin; refine wpList_append_own_at _ rfl _ _ 65 rfl w.heap.size 124 i0 _ 2 24 Tryz.underlying65 hi' hz0 hz1 hz2 rfl (by decide) (.slice (some ⟨w.heap.size, 0, none⟩) 0 0) 0 [] rfl HO.out ad n _ (itCs bs) rfl HUL.out HNEWS.out HALL.out (by unfold maxLen; omega) (by omega) (by simp) ?_; intro v' w5 hown' hgrow _ hat)
    go_ret
    refine ⟨_, rfl, by simpa using hown', ((Fr.refl (fun _ => False) w).alloc _).trans' (Fr.grown (S := fun b => b = w.heap.size) hgrow (fun r hr _ => by cases hr; rfl)) (fun b hb e => by omega)⟩
end Go.Proofs.YtlniekobijcanaaGreat
namespace Go.Proofs.YtlniekobijcanaaGreat
open Go.RowKit Go.Maps
/-- The bin of a number. -/
def binF (L : List BV) (n : Int) : Option BV := L.find? (fun b => decide (b.nu = n))
def leftN (L : List BV) (n : Int) : Int := match binF L n with | some b => leftF b | none => 0
def inN (L : List BV) (n : Int) : Its := match binF L n with | some b => b.its | none => []
set_option maxRecDepth 100000 in
set_option maxHeartbeats 4000000 in
theorem bLeftN (w : World) (g : Nat) (L : List BV) (n : Int) (h : Fl w g L) (hL : 0 < L.length) : Calls Tryz.prog 34 #[.pointer (some ⟨g, 0, none⟩), .int .i64 n] w fun e w' => e = .returned (.int .i64 (leftN L n)) ∧ Fr (fun _ => False) w w' := by
  have hfd := Lib.hid (bFind w g L n h hL)
  obtain ⟨R, hR⟩ : ∃ R, leftN L n = R := ⟨_, rfl⟩
  rw [hR]
  rcases idxOf_cases (fun b : BV => decide (b.nu = n)) L with ⟨h1, h2, -⟩ | ⟨j, x, h1, -, h2, h3⟩
  · have hr : Hid (R = 0) := Lib.hid (by rw [← hR]; unfold leftN binF; rw [h2])
    have hf : findF L n = -1 := h1
    rw [hf] at hfd
    clear h hL hR h1 h2 hf
    go_enter Tryz.func34, Tryz.ntmps34
    go_wp2_with (go_at_call 39; refine hfd.out.mono ?_; rintro e w1 ⟨rfl, hf1⟩; have HF1 := Lib.hid hf1; clear hf1)
    go_ret
    exact ⟨by rw [hr.out]; rfl, HF1.out⟩
  · have hr : Hid (R = leftF x) := Lib.hid (by rw [← hR]; unfold leftN binF; rw [h3])
    have hf : findF L n = (j : Int) := h2
    rw [hf] at hfd
    have hj := (List.getElem?_eq_some_iff.1 h1).1
    have HH := Lib.hid h; have HX := Lib.hid h1
    obtain ⟨N, hN⟩ : ∃ N, L.length = N := ⟨_, rfl⟩
    have HN := Lib.hid hN
    rw [hN] at hj
    have hjI : (j : Int) < N := by omega
    have hjn : ((j : Int) == -1) = false := by simp
    have hNI : (N : Int) ≤ 9223372036854775807 := by obtain ⟨_, _, _, q⟩ := h; have := q.len; omega
    clear h hL hR h1 h2 h3 hf hN
    go_enter Tryz.func34, Tryz.ntmps34
    go_wp2_with (go_at_call 39; refine hfd.out.mono ?_; rintro e w1 ⟨rfl, hf1⟩; have HF1 := Lib.hid hf1; obtain ⟨a, c, q1, q2⟩ := HH.out.keep hf1; rw [HN.out] at q1 q2; obtain ⟨ad, rfl, hok, z0, zs⟩ := q2.at_ HX.out; have HOK := Lib.hid hok; obtain ⟨la, lc, hl⟩ := hok.l.sl; have x0 := z0 (.int .i64 x.nu) rfl; have x1 := zs 0 (.int .i64 x.zo) rfl; have x2 := zs 1 (.int .i64 x.ro) rfl; have x3 := zs 2 x.l rfl; dsimp only [Nat.zero_add, Nat.reduceAdd] at x0 x1 x2 x3; rw [hl] at x3; have c0 := cell_obj q1 0 (.slice (some ad) N c) rfl; have hcs : BV.cs x = #[.int .i64 x.nu, .int .i64 x.zo, .int .i64 x.ro, .slice la x.its.length lc] := (by unfold BV.cs; rw [hl]); have HCS := Lib.hid hcs; clear hf1 q1 q2 hok z0 zs hl hcs)
    have hbl := Lib.hid (bLeft _ x HOK.out)
    rw [HCS.out] at hbl
    refine hbl.out.mono ?_
    rintro e w2 ⟨rfl, hf2⟩
    have HF2 := Lib.hid hf2
    clear hf2
    go_wp2_with fail
    go_ret
    exact ⟨by rw [hr.out]; rfl, HF1.out.trans HF2.out⟩
set_option maxRecDepth 100000 in
set_option maxHeartbeats 4000000 in
theorem bInN (w : World) (g : Nat) (L : List BV) (n : Int) (h : Fl w g L) (hL : 0 < L.length) (h16 : ∀ b ∈ L, b.its.length ≤ 16) : Calls Tryz.prog 33 #[.pointer (some ⟨g, 0, none⟩), .int .i64 n] w fun e w' => ∃ v, e = .returned v ∧ Il w' v (inN L n) ∧ Fr (fun _ => False) w w' := by
  have hfd := Lib.hid (bFind w g L n h hL)
  obtain ⟨R, hR⟩ : ∃ R, inN L n = R := ⟨_, rfl⟩
  rw [hR]
  rcases idxOf_cases (fun b : BV => decide (b.nu = n)) L with ⟨h1, h2, -⟩ | ⟨j, x, h1, -, h2, h3⟩
  · have hr : Hid (R = []) := Lib.hid (by rw [← hR]; unfold inN binF; rw [h2])
    have hf : findF L n = -1 := h1
    rw [hf] at hfd
    clear h hL hR h1 h2 hf
    go_enter Tryz.func33, Tryz.ntmps33
    go_wp2_with (go_at_call 39; refine hfd.out.mono ?_; rintro e w1 ⟨rfl, hf1⟩; have HF1 := Lib.hid hf1; clear hf1)
    go_ret
    exact ⟨_, rfl, by rw [hr.out]; exact ⟨by simp, none, 0, rfl, fun i p hp => by simp at hp⟩, HF1.out⟩
  · have hr : Hid (R = x.its) := Lib.hid (by rw [← hR]; unfold inN binF; rw [h3])
    have hf : findF L n = (j : Int) := h2
    rw [hf] at hfd
    have hj := (List.getElem?_eq_some_iff.1 h1).1
    have hx16 := Lib.hid (h16 x (List.mem_of_getElem? h1))
    have HH := Lib.hid h; have HX := Lib.hid h1
    obtain ⟨N, hN⟩ : ∃ N, L.length = N := ⟨_, rfl⟩
    have HN := Lib.hid hN
    rw [hN] at hj
    have hjI : (j : Int) < N := by omega
    have hjn : ((j : Int) == -1) = false := by simp
    have hNI : (N : Int) ≤ 9223372036854775807 := by obtain ⟨_, _, _, q⟩ := h; have := q.len; omega
    clear h hL hR h1 h2 h3 hf hN h16
    go_enter Tryz.func33, Tryz.ntmps33
    go_wp2_with (go_at_call 39; refine hfd.out.mono ?_; rintro e w1 ⟨rfl, hf1⟩; have HF1 := Lib.hid hf1; obtain ⟨a, c, q1, q2⟩ := HH.out.keep hf1; rw [HN.out] at q1 q2; obtain ⟨ad, rfl, hok, z0, zs⟩ := q2.at_ HX.out; have HOK := Lib.hid hok; obtain ⟨la, lc, hl⟩ := hok.l.sl; have x3 := zs 2 x.l rfl; dsimp only [Nat.zero_add, Nat.reduceAdd] at x3; rw [hl] at x3; have HLL := Lib.hid hl; have c0 := cell_obj q1 0 (.slice (some ad) N c) rfl; clear hf1 q1 q2 hok z0 zs hl)
    have hcl := itClone _ _ x.its HOK.out.l (by have := hx16.out; omega)
    rw [HLL.out] at hcl
    have HCL := Lib.hid hcl
    clear hcl
    refine HCL.out.mono ?_
    rintro e w2 ⟨v', rfl, ho, hf2⟩
    obtain ⟨ca, cc, rfl⟩ := row_slice ho
    have HO := Lib.hid ho; have HF2 := Lib.hid hf2
    clear ho hf2
    go_wp2_with fail
    go_ret
    refine ⟨_, rfl, ?_, HF1.out.trans HF2.out⟩
    rw [hr.out]
    exact (Il.own HO.out (fun p hp => by
      obtain ⟨_, _, _, _, hq⟩ := HOK.out.l
      obtain ⟨i, hi⟩ := List.getElem?_of_mem hp
      exact ⟨(hq i p hi).1, (hq i p hi).2.1⟩)).1
end Go.Proofs.YtlniekobijcanaaGreat
namespace Go.Proofs.YtlniekobijcanaaGreat
open Go.RowKit Go.Maps
/-- How many of a good lie on a floor. -/
def sumF (L : List BV) (s : Str) : Int := L.foldl (fun a b => wrap64 (a + ofF b.its s)) 0
theorem sumF_take {L : List BV} {k : Nat} {p : BV} (s : Str) (h : L[k]? = some p) : sumF (L.take (k + 1)) s = wrap64 (sumF (L.take k) s + ofF p.its s) := by
  unfold sumF
  rw [List.take_add_one, h, List.foldl_append]
  rfl
set_option maxRecDepth 100000 in
set_option maxHeartbeats 4000000 in
theorem bOfAll (w : World) (g : Nat) (L : List BV) (s : Str) (h : Fl w g L) (hL : 0 < L.length) : Calls Tryz.prog 20 #[.pointer (some ⟨g, 0, none⟩), vS s] w fun e w' => e = .returned (.int .i64 (sumF L s)) ∧ Fr (fun _ => False) w w' := by
  have hm := Lib.hid (bMade w g L h hL)
  have HH := Lib.hid h
  obtain ⟨a, c, q1, q2⟩ := h
  have hNI := q2.len
  obtain ⟨N, hN⟩ : ∃ N, L.length = N := ⟨_, rfl⟩
  have HN := Lib.hid hN
  rw [hN] at q1 q2 hNI
  have c0 := cell_obj q1 0 (.slice a N c) rfl
  have HQ2 := Lib.hid q2
  clear q1 q2 hN hL
  go_enter Tryz.func20, Tryz.ntmps20
  go_wp2_with (go_at_call 57; refine hm.out.mono ?_; rintro e w1 ⟨rfl, rfl⟩)
  go_loopw [5, 15] (fun va vi wr => ∃ k : Nat, k ≤ N ∧ va = .int .i64 (sumF (L.take k) s) ∧ vi = .int .i64 k ∧ Fr (fun _ => False) w wr) (fun _ vi _ => N - (intOf vi).toNat)
  case atStart => exact ⟨0, Nat.zero_le _, rfl, rfl, Fr.refl _ _⟩
  case round =>
    obtain ⟨k, hk, rfl, rfl, hfr⟩ := hrel
    have HFR := Lib.hid hfr
    by_cases hlt : k < N
    · obtain ⟨x, hx⟩ : ∃ x, L[k]? = some x := ⟨L[k]'(by rw [HN.out]; exact hlt), List.getElem?_eq_getElem _⟩
      have HT := Lib.hid (sumF_take s hx)
      obtain ⟨ad, rfl, hok, z0, zs⟩ := (HQ2.out.fr0 bokKeeps hfr).at_ hx
      have hkI : (k : Int) < N := by omega
      have HOK := Lib.hid hok
      obtain ⟨la, lc, hl⟩ := hok.l.sl
      have x0 := z0 (.int .i64 x.nu) rfl
      have x1 := zs 0 (.int .i64 x.zo) rfl
      have x2 := zs 1 (.int .i64 x.ro) rfl
      have x3 := zs 2 x.l rfl
      dsimp only [Nat.zero_add, Nat.reduceAdd] at x0 x1 x2 x3
      rw [hl] at x3
      obtain ⟨T, hT⟩ : ∃ T, sumF (L.take k) s = T := ⟨_, rfl⟩
      obtain ⟨O, hO⟩ : ∃ O, ofF x.its s = O := ⟨_, rfl⟩
      rw [hT, hO] at HT
      rw [hT]
      have hOf : Hid (∀ W, Fr (fun _ => False) wr W → Calls Tryz.prog 56 #[.slice la x.its.length lc, vS s] W fun e w' => e = .returned (.int .i64 O) ∧ Fr (fun _ => False) W w') := Lib.hid (fun W hf => by
        have := iOf W x.l x.its s (HOK.out.l.fr hf (fun _ e => e.elim))
        rw [hl, hO] at this; exact this)
      clear hx hok z0 zs hl hT hO hfr
      go_wp2_with (go_at_call 56; refine (hOf.out _ ((Fr.refl _ wr).alloc _)).mono ?_; rintro e w2 ⟨rfl, hf2⟩; have HF2 := Lib.hid (((Fr.refl (fun _ => False) wr).alloc _).trans hf2); clear hf2)
      go_roundw
      case rel => exact ⟨k + 1, by omega, by first | (rw [HT.out]; done) | (rw [HT.out]; rfl), by go_num, HFR.out.trans HF2.out⟩
      case measure => simp [intOf]; omega
    · obtain rfl : k = N := by omega
      have hkI : ¬ (k : Int) < k := by omega
      have hres : Hid (sumF (L.take k) s = sumF L s) := Lib.hid (by rw [List.take_of_length_le (by rw [HN.out]; exact Nat.le_refl _)])
      clear hfr
      go_wp2_with fail
      go_ret
      exact ⟨by rw [hres.out]; rfl, HFR.out⟩
end Go.Proofs.YtlniekobijcanaaGreat
namespace Go.Proofs.YtlniekobijcanaaGreat
open Go.RowKit Go.Maps
theorem idxOf_before {α : Type} {p : α → Bool} {L : List α} {j : Nat} (h : idxOf p L = j) : ∀ x ∈ L.take j, p x = false := by
  unfold idxOf at h
  cases h2 : L.findIdx? p with
  | none => rw [h2] at h; simp at h
  | some i =>
    rw [h2] at h
    have e : i = j := by have h' : (i : Int) = (j : Int) := h; omega
    subst e
    obtain ⟨hj, hp, hno⟩ := List.findIdx?_eq_some_iff_getElem.1 h2
    intro x hx
    obtain ⟨q, hq⟩ := List.getElem?_of_mem hx
    have hq2 : q < i := by
      have := (List.getElem?_eq_some_iff.1 hq).1
      rw [List.length_take] at this
      omega
    rw [List.getElem?_take_of_lt hq2] at hq
    obtain ⟨h5, h6⟩ := List.getElem?_eq_some_iff.1 hq
    have := hno q hq2
    rw [h6] at this
    simpa using this
theorem zeroCells_len (zs : Array Value) (n : Nat) : (Builtin.zeroCells zs n).toList.length = n * zs.size := by simp [Builtin.zeroCells]
theorem zeroCells_mem (zs : Array Value) (n : Nat) {u : Value} (h : u ∈ (Builtin.zeroCells zs n).toList) : u ∈ zs := by
  simp [Builtin.zeroCells] at h
  obtain ⟨i, hi, rfl⟩ := h
  have h0 : 0 < zs.size := by
    rcases Nat.eq_zero_or_pos zs.size with h0 | h0
    · rw [h0] at hi; omega
    · exact h0
  rw [getElem!_pos zs (i % zs.size) (Nat.mod_lt _ h0)]
  exact Array.getElem_mem _
theorem run_clear_cells {P : Program} (w : World) (t e ty : TypeId) (z : Value) (ht : P.underlying t = some (.slice e)) (hv : ∀ w, (zeroValue e).run P w = .ok z w) (h1 : ∀ u ∈ z.cells, u.oneCell' = true) (b o n c : Nat)
    (hc : ∀ j, j < n * z.cells.size → (w.cell? ⟨b, o + j, none⟩).isSome = true) (hf : ∀ j, j < n * z.cells.size → w.frozen? ⟨b, o + j, none⟩ = false) :
    (Builtin.clear_ #[t] ty #[.slice (some ⟨b, o, none⟩) n c]).run P w = .ok (.tuple #[]) (w.setCells b o (Builtin.zeroCells z.cells n).toList) := by
  have hst := run_storeCells_cells (P := P) b o (Builtin.zeroCells z.cells n).toList 0 w (by rw [zeroCells_len]; simpa using hc) (by rw [zeroCells_len]; simpa using hf) (fun v hv' => h1 v (zeroCells_mem _ _ hv'))
  simp only [Nat.add_zero] at hst
  rcases Nat.eq_zero_or_pos n with rfl | hn
  · have : (Builtin.zeroCells z.cells 0).toList = [] := by simp [Builtin.zeroCells]
    rw [this]
    simp [Builtin.clear_, run_underlying ht, World.setCells]
  · obtain ⟨m, rfl⟩ : ∃ m, n = m + 1 := ⟨n - 1, by omega⟩
    simp [Builtin.clear_, run_underlying ht, hv, hst]
theorem fr_setCells {S : Nat → Prop} {b : Nat} : ∀ (vs : List Value) (o : Nat) {w w' : World}, Fr S w w' → (b < w.heap.size → S b) → Fr S w (w'.setCells b o vs)
  | [], _, _, _, h, _ => h
  | v :: r, o, w, w', h, hs => fr_setCells r (o + 1) (h.setCell (p := ⟨b, o, none⟩) hs v) hs
theorem row_setCells {b : Nat} {T : TypeId} : ∀ (vs : List Value) (o : Nat) {W : World} {cur : Array Value}, W.heap[b]? = some (.cells cur T) → o + vs.length ≤ cur.size →
    ∃ cur', (W.setCells b o vs).heap[b]? = some (.cells cur' T) ∧ cur'.size = cur.size ∧ ∀ q, cur'[q]? = if o ≤ q ∧ q < o + vs.length then vs[q - o]? else cur[q]?
  | [], o, W, cur, h, _ => ⟨cur, h, rfl, fun q => by rw [if_neg (by simp)]⟩
  | v :: r, o, W, cur, h, hl => by
    simp only [List.length_cons] at hl
    obtain ⟨cur', h1, h2, h3⟩ := row_setCells r (o + 1) (obj_set h o v) (by simp; omega)
    refine ⟨cur', h1, by simpa using h2, fun q => ?_⟩
    rw [h3 q, List.length_cons]
    by_cases e : q = o
    · subst e
      rw [if_neg (by omega), if_pos (by omega), Nat.sub_self]
      simp [show q < cur.size by omega]
    · by_cases e2 : o ≤ q ∧ q < o + (r.length + 1)
      · rw [if_pos (by omega), if_pos e2, show q - o = (q - (o + 1)) + 1 by omega, List.getElem?_cons_succ]
      · rw [if_neg (by omega), if_neg e2]
        simp [Array.getElem?_setIfInBounds, show ¬ o = q from fun h => e h.symm]
section
variable {α : Type} {k : Nat} {cs : α → Array Value} {kp : α → Bool} {L : List α} {T : TypeId} {b j i : Nat} {cur0 : Array Value} {W : World}
/-- j elements have been looked at, i of them are kept, at the row's head; behind j it is as it was. -/
structure DelI (k : Nat) (cs : α → Array Value) (kp : α → Bool) (L : List α) (T : TypeId) (b : Nat) (cur0 : Array Value) (j i : Nat) (W : World) : Prop where
  ex : ∃ cur, W.heap[b]? = some (.cells cur T) ∧ cur.size = cur0.size ∧ cur.toList.take (i * k) = flat cs ((L.take j).filter kp) ∧ ∀ q, j * k ≤ q → cur[q]? = cur0[q]?
  cnt : i = ((L.take j).filter kp).length
  le : i ≤ j
theorem DelI.start {cur : Array Value} (hcs : ∀ r, (cs r).size = k) (hb : W.heap[b]? = some (.cells cur0 T)) (ht : cur0.toList.take (L.length * k) = flat cs L) (hj : j ≤ L.length) (hall : ∀ x ∈ L.take j, kp x = true) : DelI k cs kp L T b cur0 j j W := by
  have e : (L.take j).filter kp = L.take j := List.filter_eq_self.2 hall
  refine ⟨⟨cur0, hb, rfl, ?_, fun q _ => rfl⟩, by rw [e, List.length_take]; omega, Nat.le_refl _⟩
  rw [e, flat_take hcs, ← ht, List.take_take]
  congr 1
  have := Nat.mul_le_mul_right k hj
  omega
theorem DelI.keep0 {W' : World} (h : DelI k cs kp L T b cur0 j i W) (hf : Fr (fun _ => False) W W') : DelI k cs kp L T b cur0 j i W' := by
  obtain ⟨⟨cur, h1, h2⟩, h3, h4⟩ := h
  exact ⟨⟨cur, hf.at_ h1 (fun e => e), h2⟩, h3, h4⟩
theorem DelI.frz (h : DelI k cs kp L T b cur0 j i W) (q : Nat) : W.frozen? ⟨b, q, none⟩ = false := by
  obtain ⟨⟨cur, h1, h2⟩, h3, h4⟩ := h
  exact obj_frozen h1 q
theorem DelI.get (h : DelI k cs kp L T b cur0 j i W) {q : Nat} (hq : q < cur0.size) : ∃ u, W.cell? ⟨b, q, none⟩ = some u := by
  obtain ⟨⟨cur, h1, h2, -⟩, h3, h4⟩ := h
  exact ⟨cur[q]'(by omega), cell_obj h1 q _ (Array.getElem?_eq_getElem _)⟩
theorem take_get {xs ys : List Value} {n : Nat} (h : xs.take n = ys) {q : Nat} (hq : q < n) : xs[q]? = ys[q]? := by
  rw [← h, List.getElem?_take_of_lt hq]
/-- What is read at place j. -/
theorem DelI.at_ (hcs : ∀ r, (cs r).size = k) (h : DelI k cs kp L T b cur0 j i W) (ht : cur0.toList.take (L.length * k) = flat cs L) {x : α} (hx : L[j]? = some x) {q : Nat} {u : Value} (hu : (cs x)[q]? = some u) : W.cell? ⟨b, j * k + q, none⟩ = some u := by
  obtain ⟨⟨cur, h1, h2, h5, h6⟩, h3, h4⟩ := h
  refine cell_obj h1 _ _ ?_
  rw [h6 _ (by omega), ← Array.getElem?_toList]
  have hj := (List.getElem?_eq_some_iff.1 hx).1
  have hq := (Array.getElem?_eq_some_iff.1 hu).1
  rw [hcs] at hq
  have h7 : (j + 1) * k ≤ L.length * k := Nat.mul_le_mul_right k hj
  rw [Nat.succ_mul] at h7
  rw [take_get ht (by omega)]
  exact flat_at hcs hx q u hu
theorem take_succ_of {x : α} (hx : L[j]? = some x) : (L.take (j + 1)).filter kp = (L.take j).filter kp ++ (if kp x = true then [x] else []) := by
  rw [List.take_add_one, hx, List.filter_append]
  congr 1
  by_cases h : kp x = true <;> simp [h]
theorem DelI.skip (h : DelI k cs kp L T b cur0 j i W) {x : α} (hx : L[j]? = some x) (hk : kp x = false) : DelI k cs kp L T b cur0 (j + 1) i W := by
  obtain ⟨⟨cur, h1, h2, h5, h6⟩, h3, h4⟩ := h
  have e := take_succ_of (kp := kp) hx
  rw [hk, if_neg (by simp), List.append_nil] at e
  refine ⟨⟨cur, h1, h2, by rw [e]; exact h5, fun q hq => h6 q ?_⟩, by rw [e]; exact h3, by omega⟩
  have : j * k ≤ (j + 1) * k := Nat.mul_le_mul_right k (Nat.le_succ j)
  omega
theorem DelI.put (hcs : ∀ r, (cs r).size = k) (h : DelI k cs kp L T b cur0 j i W) (hsz : L.length * k ≤ cur0.size) {x : α} (hx : L[j]? = some x) (hk : kp x = true) : DelI k cs kp L T b cur0 (j + 1) (i + 1) (W.setCells b (i * k) (cs x).toList) := by
  obtain ⟨⟨cur, h1, h2, h5, h6⟩, h3, h4⟩ := h
  have e := take_succ_of (kp := kp) hx
  rw [hk, if_pos rfl] at e
  have hj := (List.getElem?_eq_some_iff.1 hx).1
  have g1 : (i + 1) * k ≤ (j + 1) * k := Nat.mul_le_mul_right k (by omega)
  have g2 : (j + 1) * k ≤ L.length * k := Nat.mul_le_mul_right k hj
  have g3 : (i + 1) * k = i * k + k := Nat.succ_mul i k
  have hl : (cs x).toList.length = k := by rw [Array.length_toList, hcs]
  obtain ⟨cur', c1, c2, c3⟩ := row_setCells (cs x).toList (i * k) h1 (by rw [hl]; omega)
  rw [hl] at c3
  refine ⟨⟨cur', c1, by omega, ?_, fun q hq => ?_⟩, by rw [e, List.length_append, ← h3]; rfl, by omega⟩
  · rw [e, flat_app]
    have hfx : flat cs [x] = (cs x).toList := by simp [flat]
    have hlen : (flat cs ((L.take j).filter kp)).length = i * k := by rw [flat_len1 hcs, ← h3]
    apply List.ext_getElem?
    intro q
    by_cases hq : q < (i + 1) * k
    · rw [List.getElem?_take_of_lt hq, Array.getElem?_toList, c3 q]
      by_cases hq2 : i * k ≤ q
      · rw [if_pos ⟨hq2, by omega⟩, List.getElem?_append_right (by omega), hlen, hfx]
      · rw [if_neg (by omega), List.getElem?_append_left (by omega), ← h5, List.getElem?_take_of_lt (by omega), Array.getElem?_toList]
    · rw [List.getElem?_take_eq_none (by omega), List.getElem?_eq_none (by rw [List.length_append, hlen, hfx, hl]; omega)]
  · have g4 : (j + 1) * k = j * k + k := Nat.succ_mul j k
    rw [c3 q, if_neg (by omega)]
    exact h6 q (by omega)
/-- Behind 'clear' it is a row of what is kept. -/
theorem DelI.done {base cap : Nat} (hcs : ∀ r, (cs r).size = k) (h : DelI k cs kp L T b cur0 L.length i W) (hb : base ≤ b) (hn : L.length ≤ cap) (hm : cap ≤ maxLen) (hs : cur0.size = cap * k) (vs : List Value) (hv : i * k + vs.length ≤ cur0.size) :
    (W.setCells b (i * k) vs).ownsRow base T k (.slice (some ⟨b, 0, none⟩) (L.filter kp).length cap) (L.filter kp).length (flat cs (L.filter kp)) := by
  obtain ⟨⟨cur, h1, h2, h5, h6⟩, h3, h4⟩ := h
  rw [List.take_of_length_le (Nat.le_refl _)] at h3 h5
  obtain ⟨cur', c1, c2, c3⟩ := row_setCells vs (i * k) h1 (by omega)
  refine ⟨by rw [flat_len1 hcs], .inr ⟨b, cap, cur', rfl, hb, c1, by omega, hm, by omega, ?_⟩⟩
  rw [← h5, ← h3]
  apply List.ext_getElem?
  intro q
  by_cases hq : q < i * k
  · rw [List.getElem?_take_of_lt hq, List.getElem?_take_of_lt hq, Array.getElem?_toList, Array.getElem?_toList, c3 q, if_neg (by omega)]
  · rw [List.getElem?_take_eq_none (by omega), List.getElem?_take_eq_none (by omega)]
end
end Go.Proofs.YtlniekobijcanaaGreat
namespace Go.Proofs.YtlniekobijcanaaGreat
open Go.RowKit Go.Maps
def itC (p : Str × Int) : Array Value := #[vS p.1, .int .i64 p.2]
def okIt (_ : World) (p : Str × Int) : Prop := okS p.1 ∧ okI p.2
theorem okItKeeps : Keeps okIt := fun _ _ _ _ h _ _ => h
theorem flat_itC (L : Its) : flat itC L = itCs L := rfl
set_option maxRecDepth 100000 in
set_option maxHeartbeats 4000000 in
theorem ixItem (w : World) (v : Value) (L : List (Str × Int)) (p : (Str × Int) → Bool) (b0 : Nat) (h : Sq 2 itC okIt w v L)
    (hf : ∀ (W : World) (i : Nat) (x : (Str × Int)), L[i]? = some x → Fr (fun _ => False) w W → Calls Tryz.prog 99 #[.agg (itC x), .pointer (some ⟨b0, 0, none⟩)] W fun e W' => e = .returned (.bool (p x)) ∧ Fr (fun _ => False) W W') :
    Calls Tryz.prog 128 #[v, .func (.func 99) #[] #[.pointer (some ⟨b0, 0, none⟩)]] w fun e w' => e = .returned (.int .i64 (idxOf p L)) ∧ Fr (fun _ => False) w w' := by
  obtain ⟨a, c, rfl⟩ := h.sl
  obtain ⟨N, hN⟩ : ∃ N, L.length = N := ⟨_, rfl⟩
  have hNb : (N : Int) ≤ 9223372036854775807 := by have := h.len; omega
  have HL := Lib.hid h; have HN := Lib.hid hN; have HF := Lib.hid hf
  rw [hN] at HL ⊢
  obtain ⟨R, hR⟩ : ∃ R, idxOf p L = R := ⟨_, rfl⟩
  have HR := Lib.hid hR
  rw [hR]
  clear h hN hf hR
  go_enter Tryz.func128, Tryz.ntmps128
  go_wp2_with fail
  go_loopw [5, 8] (fun _ i wr => ∃ j : Nat, j ≤ N ∧ i = .int .i64 j ∧ Fr (fun _ => False) w wr ∧ ∀ q x, q < j → L[q]? = some x → p x = false) (fun _ i _ => N - (intOf i).toNat)
  case atStart => exact ⟨0, Nat.zero_le _, rfl, Fr.refl _ _, fun q x hq => by omega⟩
  case round =>
    obtain ⟨j, hj, rfl, hfr, hno⟩ := hrel
    have HFR := Lib.hid hfr; have HNO := Lib.hid hno
    clear hno
    by_cases hlt : j < N
    · obtain ⟨x, hx⟩ : ∃ x, L[j]? = some x := ⟨L[j]'(by rw [HN.out]; exact hlt), List.getElem?_eq_getElem _⟩
      obtain ⟨ad, rfl, hok, z0, zs⟩ := (HL.out.fr0 okItKeeps hfr).at_ hx
      have hC := HF.out wr j x hx hfr
      obtain ⟨b, hb⟩ : ∃ b, p x = b := ⟨_, rfl⟩
      rw [hb] at hC
      have HB := Lib.hid hb; have HX := Lib.hid hx
      have hjI : (j : Int) < N := by omega
      obtain ⟨X, hXX⟩ : ∃ X, X = x := ⟨_, rfl⟩
      rw [← hXX] at HB HX
      obtain ⟨s, n⟩ := x
      clear hXX
      have x0 := z0 (vS s) rfl
      have x1 := zs 0 (.int .i64 n) rfl
      dsimp only [Nat.zero_add, Nat.reduceAdd] at x0 x1
      have hC' : Calls Tryz.prog 99 #[.agg #[vS s, .int .i64 n], .pointer (some ⟨b0, 0, none⟩)] wr fun e W' => e = .returned (.bool b) ∧ Fr (fun _ => False) wr W' := hC
      have HC := Lib.hid hC'
      clear hC hC' hb hx hok z0 zs hfr
      cases b with
      | true =>
        have hres : Hid (R = (j : Int)) := Lib.hid (by rw [← HR.out]; exact idxOf_at HX.out HB.out HNO.out)
        go_wp2_with (go_at_call 99; refine HC.out.mono ?_; rintro e w1 ⟨rfl, hf1⟩; have HF1 := Lib.hid hf1; clear hf1)
        go_ret
        exact ⟨by rw [hres.out]; rfl, HFR.out.trans HF1.out⟩
      | false =>
        go_wp2_with (go_at_call 99; refine HC.out.mono ?_; rintro e w1 ⟨rfl, hf1⟩; have HF1 := Lib.hid hf1; clear hf1)
        go_roundw
        case rel =>
          refine ⟨j + 1, by omega, by go_num, HFR.out.trans HF1.out, fun q x hq hx => ?_⟩
          by_cases e : q = j
          · subst e
            have := HX.out
            rw [this] at hx
            injection hx with hx
            rw [← hx]
            exact HB.out
          · exact HNO.out q x (by omega) hx
        case measure => simp [intOf]; omega
    · obtain rfl : j = N := by omega
      have hres : Hid (R = -1) := Lib.hid (by rw [← HR.out]; exact idxOf_no (fun q x hx => HNO.out q x (by have := (List.getElem?_eq_some_iff.1 hx).1; have := HN.out; omega) hx))
      clear hfr
      go_wp2_with fail
      go_ret
      exact ⟨by rw [hres.out]; rfl, HFR.out⟩
set_option maxRecDepth 100000 in
set_option maxHeartbeats 4000000 in
theorem dfItem (w : World) (base : Nat) (v : Value) (L : List (Str × Int)) (p : (Str × Int) → Bool) (b0 : Nat) (h : w.ownsRow base 124 2 v L.length (flat itC L)) (hL : L.length ≤ 1000000000000000) (hok : ∀ x ∈ L, okIt w x)
    (hf : ∀ (W : World) (i : Nat) (x : (Str × Int)), L[i]? = some x → Fr (fun c => v.ownBlock = some c) w W → Calls Tryz.prog 99 #[.agg (itC x), .pointer (some ⟨b0, 0, none⟩)] W fun e W' => e = .returned (.bool (p x)) ∧ Fr (fun _ => False) W W') :
    Calls Tryz.prog 98 #[v, .func (.func 99) #[] #[.pointer (some ⟨b0, 0, none⟩)]] w fun e w' => ∃ v', e = .returned v' ∧ w'.ownsRow base 124 2 v' (L.filter fun x => !p x).length (flat itC (L.filter fun x => !p x)) ∧ (∀ c, v'.ownBlock = some c → v.ownBlock = some c) ∧ Fr (fun c => v.ownBlock = some c) w w' := by
  have hcs : ∀ r : (Str × Int), (itC r).size = 2 := fun _ => rfl
  have hsq : Sq 2 itC okIt w v L := Sq.own hcs h hok
  have hix := Lib.hid (ixItem w v L p b0 hsq (fun W i x hx hfr => hf W i x hx (hfr.mono (fun _ _ e => e.elim))))
  rcases h.2 with ⟨rfl, h0⟩ | ⟨g, cap, cur, rfl, hbase, hb, hn, hm, hs, ht⟩
  · have hLn : L = [] := List.eq_nil_of_length_eq_zero h0
    subst hLn
    have e1 : idxOf p ([] : List (Str × Int)) = -1 := rfl
    rw [e1] at hix
    clear h hsq hf hok e1 h0
    go_enter Tryz.func98, Tryz.ntmps98
    go_wp2_with (go_at_call 128; refine hix.out.mono ?_; rintro e w1 ⟨rfl, hf1⟩; have HF1 := Lib.hid hf1; clear hf1)
    go_ret
    refine ⟨.slice none 0 0, rfl, World.ownsRow_nil _ _ _ _, fun c e => by simp [Value.ownBlock] at e, HF1.out.mono (fun _ _ e => e.elim)⟩
  · obtain ⟨N, hN⟩ : ∃ N, L.length = N := ⟨_, rfl⟩
    have HN := Lib.hid hN
    have hown : ∀ c, (Value.slice (some ⟨g, 0, none⟩) L.length cap).ownBlock = some c → c = g := fun c e => by injection e with e; exact e.symm
    rcases idxOf_cases p L with ⟨h1, h2, h3⟩ | ⟨j0, x0, h1, h2, h3, h4⟩
    · have e1 : (L.filter fun x => !p x) = L := List.filter_eq_self.2 (fun x hx => by show (!p x) = true; rw [h3 x hx]; rfl)
      have HH := Lib.hid h
      rw [h1] at hix
      rw [e1]
      rw [hN] at hix ⊢
      clear h hsq hf hok e1 h1 h2 h3 hb ht hN
      go_enter Tryz.func98, Tryz.ntmps98
      go_wp2_with (go_at_call 128; refine hix.out.mono ?_; rintro e w1 ⟨rfl, hf1⟩; have HF1 := Lib.hid hf1; clear hf1)
      go_ret
      refine ⟨.slice (some ⟨g, 0, none⟩) N cap, rfl, by have := HF1.out.row HH.out (fun _ _ e => e); rw [HN.out] at this; exact this, fun c e => e, HF1.out.mono (fun _ _ e => e.elim)⟩
    · have hst := DelI.skip (DelI.start (kp := fun x => !p x) (j := j0) (cur := cur) hcs hb ht (Nat.le_of_lt (List.getElem?_eq_some_iff.1 h1).1) (fun x hx => by show (!p x) = true; rw [idxOf_before h3 x hx]; rfl)) h1 (by show (!p x0) = false; rw [h2]; rfl)
      have HST := Lib.hid hst
      have HF : Hid (∀ (W : World) (i : Nat) (x : (Str × Int)), L[i]? = some x → Fr (fun c => c = g) w W → Calls Tryz.prog 99 #[.agg (itC x), .pointer (some ⟨b0, 0, none⟩)] W fun e W' => e = .returned (.bool (p x)) ∧ Fr (fun _ => False) W W') := Lib.hid (fun W i x hx hfr => hf W i x hx (hfr.mono (fun c _ e => by rw [e]; rfl)))
      have HT := Lib.hid ht
      have hj0 := (List.getElem?_eq_some_iff.1 h1).1
      have HM := Lib.hid hm; have HS := Lib.hid hs; have HBS := Lib.hid hbase
      have HRES : Hid (∀ i W' vs, DelI 2 itC (fun x => !p x) L 124 g cur L.length i W' → i * 2 + vs.length ≤ cur.size → (W'.setCells g (i * 2) vs).ownsRow base 124 2 (.slice (some ⟨g, 0, none⟩) i cap) (L.filter fun x => !p x).length (flat itC (L.filter fun x => !p x))) := Lib.hid (fun i W' vs hD hv => by
        have := hD.done hcs hbase hn hm hs vs hv
        have e := hD.cnt
        rw [List.take_of_length_le (Nat.le_refl _)] at e
        rw [e] at this ⊢
        exact this)
      rw [h3] at hix
      rw [hN] at hix hn hL hj0 ⊢
      have hNI : (N : Int) ≤ 1000000000000000 := by omega
      have hcapI : (N : Int) ≤ cap := by omega
      have hjI : (j0 : Int) < N := by omega
      have hne1 : ((j0 : Int) == -1) = false := beq_eq_false_iff_ne.2 (by omega)
      have hv := fun (w : World) => (show (zeroValue 124).run Tryz.prog w = .ok (.agg #[vS [], .int .i64 0]) w by kernel_rfl)
      have HV := Lib.hid hv
      clear h hsq hf hok h1 h2 h3 h4 hb ht hN hst hm hs hbase hown hv
      go_enter Tryz.func98, Tryz.ntmps98
      go_wp2_with (go_at_call 128; refine hix.out.mono ?_; rintro e w1 ⟨rfl, hf1⟩; have HF1 := Lib.hid hf1; clear hf1)
      go_loopw [5, 6, 7] (fun vi vj _ wr => ∃ i j : Nat, vi = .int .i64 i ∧ vj = .int .i64 j ∧ j ≤ N ∧ i < j ∧ DelI 2 itC (fun x => !p x) L 124 g cur j i wr ∧ Fr (fun c => c = g) w wr) (fun _ vj _ _ => N - (intOf vj).toNat)
      case atStart => exact ⟨j0, j0 + 1, rfl, by go_num, by omega, by omega, HST.out.keep0 HF1.out, HF1.out.mono (fun _ _ e => e.elim)⟩
      case round =>
        obtain ⟨i, j, rfl, rfl, hjN, hij, hD, hfr⟩ := hrel
        have HD := Lib.hid hD; have HFR := Lib.hid hfr
        by_cases hlt : j < N
        · obtain ⟨x, hx⟩ : ∃ x, L[j]? = some x := ⟨L[j]'(by rw [HN.out]; exact hlt), List.getElem?_eq_getElem _⟩
          have x0 := hD.at_ hcs HT.out hx (q := 0) (u := vS x.1) rfl
          have x1 := hD.at_ hcs HT.out hx (q := 1) (u := .int .i64 x.2) rfl
          have hC := HF.out (wr.alloc (.cells #[vS x.1, .int .i64 x.2] 124)) j x hx (hfr.alloc _)
          obtain ⟨b, hb⟩ : ∃ b, p x = b := ⟨_, rfl⟩
          rw [hb] at hC
          have HB := Lib.hid hb; have HX := Lib.hid hx
          have HC : Hid (Calls Tryz.prog 99 #[.agg #[vS x.1, .int .i64 x.2], .pointer (some ⟨b0, 0, none⟩)] (wr.alloc (.cells #[vS x.1, .int .i64 x.2] 124)) fun e W' => e = .returned (.bool b) ∧ Fr (fun _ => False) (wr.alloc (.cells #[vS x.1, .int .i64 x.2] 124)) W') := Lib.hid hC
          have hjI2 : (j : Int) < N := by omega
          have hiI2 : (i : Int) < N := by omega
          have hsz : N * 2 ≤ cur.size := by rw [HS.out]; exact Nat.mul_le_mul_right _ (by omega)
          clear hC hb hx hD hfr
          dsimp only [Nat.zero_add, Nat.reduceAdd, Nat.add_zero] at x0 x1
          cases b with
          | true =>
            go_wp2_with (go_at_call 99; refine HC.out.mono ?_; rintro e w2 ⟨rfl, hf2⟩; have HF2 := Lib.hid (((Fr.refl (fun _ => False) wr).alloc _).trans hf2); clear hf2)
            go_roundw
            case rel => exact ⟨i, j + 1, rfl, by go_num, by omega, by omega, (HD.out.keep0 HF2.out).skip HX.out (by show (!p x) = _; rw [HB.out]; rfl), HFR.out.trans (HF2.out.mono (fun _ _ e => e.elim))⟩
            case measure => simp [intOf]; omega
          | false =>
            have hlt2 : ∀ q, q < 2 → i * 2 + q < cur.size := fun q hq => by
              have : (i + 1) * 2 ≤ N * 2 := Nat.mul_le_mul_right _ (by omega)
              rw [Nat.succ_mul] at this
              omega
            have HLT := Lib.hid hlt2
            clear hlt2
            go_wp2_with (go_at_call 99; refine HC.out.mono ?_; rintro e w2 ⟨rfl, hf2⟩; have hd2 := (HD.out.keep0 ((Fr.refl (fun _ => False) wr).alloc _)).keep0 hf2; have HD2 := Lib.hid hd2; obtain ⟨u0, d0⟩ := hd2.get (q := i * 2) (by have := HLT.out 0 (by omega); omega); have f0 := hd2.frz (i * 2); obtain ⟨u1, d1⟩ := hd2.get (q := i * 2 + 1) (by have := HLT.out 1 (by omega); omega); have f1 := hd2.frz (i * 2 + 1); have hb7 := hf2.at_ (heap_new wr (.cells #[vS x.1, .int .i64 x.2] 124)) (fun e => e); have y0 := cell_obj hb7 0 (vS x.1) rfl; have y1 := cell_obj hb7 1 (.int .i64 x.2) rfl; have HF2 := Lib.hid (((Fr.refl (fun _ => False) wr).alloc _).trans hf2); clear hf2 hd2 hb7)
            go_roundw
            case rel => exact ⟨i + 1, j + 1, by go_num, by go_num, by omega, by omega, HD2.out.put hcs (by rw [HN.out]; exact hsz) HX.out (by show (!p x) = _; rw [HB.out]; rfl), HFR.out.trans ((fr_setCells (itC x).toList (i * 2) (HF2.out.mono (S' := fun c => c = g) (fun _ _ e => e.elim)) (fun _ => rfl)))⟩
            case measure => simp [intOf]; omega
        · obtain rfl : j = N := by omega
          have hjI2 : ¬ (j : Int) < j := by omega
          have hiI2 : (i : Int) ≤ j := by omega
          have hiI0 : (i : Int) < cap := by omega
          have hsz : i * 2 + (j - i) * 2 ≤ cur.size := by rw [HS.out, ← Nat.add_mul]; exact Nat.mul_le_mul_right _ (by omega)
          have hcl : ∀ ty, (Builtin.clear_ #[65] ty #[.slice (some ⟨g, i * 2, none⟩) (j - i) (cap - i)]).run Tryz.prog wr = .ok (.tuple #[]) (wr.setCells g (i * 2) (Builtin.zeroCells #[vS [], .int .i64 0] (j - i)).toList) := fun ty =>
            run_clear_cells (P := Tryz.prog) wr 65 124 ty (.agg #[vS [], .int .i64 0]) Tryz.underlying65 HV.out (fun u hu => by simp [Value.cells] at hu; (first | (rcases hu with rfl | rfl | rfl <;> rfl) | (rcases hu with rfl | rfl <;> rfl))) g (i * 2) (j - i) (cap - i)
              (fun q hq => by obtain ⟨u, hu⟩ := HD.out.get (q := i * 2 + q) (by simp [Value.cells] at hq; omega); rw [hu]; rfl) (fun q hq => HD.out.frz _)
          clear hD hfr
          go_wp2
          go_ret
          refine ⟨.slice (some ⟨g, 0, none⟩) i cap, rfl, HRES.out i wr _ (by have := HD.out; rw [HN.out]; exact this) (by rw [zeroCells_len]; exact hsz), fun c e => e, ?_⟩
          exact (fr_setCells _ _ HFR.out (fun _ => rfl)).mono (fun c _ e => by rw [e]; rfl)

end Go.Proofs.YtlniekobijcanaaGreat
namespace Go.Proofs.YtlniekobijcanaaGreat
open Go.RowKit Go.Maps
def cmpI (a b : Int) : Int := if a < b then -1 else if b < a then 1 else 0
theorem cNaN (x : Int) (w : World) : Calls Tryz.prog 95 #[.int .i64 x] w fun e w' => e = .returned (.bool false) ∧ w = w' := by
  go_enter Tryz.func95, Tryz.ntmps95
  go_wp2
  go_ret
  exact ⟨rfl, rfl⟩
theorem cCompare (a b : Int) (w : World) : Calls Tryz.prog 51 #[.int .i64 a, .int .i64 b] w fun e w' => e = .returned (.int .i64 (cmpI a b)) ∧ w = w' := by
  have h0 : a < b → cmpI a b = -1 := fun h => if_pos h
  have h1 : ¬ a < b → b < a → cmpI a b = 1 := fun h g => by rw [cmpI, if_neg h, if_pos g]
  have h2 : ¬ a < b → ¬ b < a → cmpI a b = 0 := fun h g => by rw [cmpI, if_neg h, if_neg g]
  have H0 := Lib.hid h0; have H1 := Lib.hid h1; have H2 := Lib.hid h2
  clear h0 h1 h2
  by_cases ha : a < b
  · go_enter Tryz.func51, Tryz.ntmps51
    go_wp2_with (go_at_call 95; refine (cNaN _ _).mono ?_; rintro e w' ⟨rfl, rfl⟩)
    go_ret
    exact ⟨ret_int (H0.out ha).symm, rfl⟩
  by_cases hb : b < a
  · go_enter Tryz.func51, Tryz.ntmps51
    go_wp2_with (go_at_call 95; refine (cNaN _ _).mono ?_; rintro e w' ⟨rfl, rfl⟩)
    go_ret
    exact ⟨ret_int (H1.out ha hb).symm, rfl⟩
  · go_enter Tryz.func51, Tryz.ntmps51
    go_wp2_with (go_at_call 95; refine (cNaN _ _).mono ?_; rintro e w' ⟨rfl, rfl⟩)
    go_ret
    exact ⟨ret_int (H2.out ha hb).symm, rfl⟩
/-- cmp.Or at two numbers, in a block of their own. -/
def or2 (x y : Int) : Int := if x = 0 then y else x
theorem cOr (x y : Int) (b c : Nat) (w : World) (h0 : w.cell? ⟨b, 0, none⟩ = some (.int .i64 x)) (h1 : w.cell? ⟨b, 1, none⟩ = some (.int .i64 y)) :
    Calls Tryz.prog 91 #[.slice (some ⟨b, 0, none⟩) 2 c] w fun e w' => e = .returned (.int .i64 (or2 x y)) ∧ w = w' := by
  by_cases hx : x = 0
  · subst hx
    by_cases hy : y = 0
    · subst hy
      go_enter Tryz.func91, Tryz.ntmps91
      go_wp2
      refine wp_loop_rounds 3 ?_
      repeat (rw [rounds_succ]; go_wp2)
      go_ret
      exact ⟨rfl, rfl⟩
    · have hy' : (y != 0) = true := by simpa using hy
      have H : or2 0 y = y := rfl
      clear hy
      go_enter Tryz.func91, Tryz.ntmps91
      go_wp2
      refine wp_loop_rounds 3 ?_
      repeat (rw [rounds_succ]; go_wp2)
      go_ret
      exact ⟨rfl, rfl⟩
  · have hx' : (x != 0) = true := by simpa using hx
    have H : or2 x y = x := if_neg hx
    have HH := Lib.hid H
    clear hx H
    go_enter Tryz.func91, Tryz.ntmps91
    go_wp2
    refine wp_loop_rounds 3 ?_
    repeat (rw [rounds_succ]; go_wp2)
    go_ret
    exact ⟨ret_int HH.out.symm, rfl⟩
def apartF (a b : Int) : Int := wrap64 (max a b - min a b)
set_option maxHeartbeats 1000000 in
theorem bApart (w : World) (a b : Int) : Calls Tryz.prog 44 #[.int .i64 a, .int .i64 b] w fun e w' => e = .returned (.int .i64 (apartF a b)) ∧ w = w' := by
  go_enter Tryz.func44, Tryz.ntmps44
  go_wp2
  go_ret
  exact ⟨rfl, rfl⟩
def cmpStr (a b : Str) : Int := if a < b then -1 else if b < a then 1 else 0
theorem cNaNS (x : Str) (w : World) : Calls Tryz.prog 126 #[vS x] w fun e w' => e = .returned (.bool false) ∧ w = w' := by
  have h := eqlS x x
  have hd : decide (x = x) = true := decide_eq_true rfl
  rw [hd] at h
  unfold vS
  go_enter Tryz.func126, Tryz.ntmps126
  go_wp2
  go_ret
  exact ⟨rfl, rfl⟩
set_option maxHeartbeats 1000000 in
theorem cCompareS (a b : Str) (w : World) : Calls Tryz.prog 92 #[vS a, vS b] w fun e w' => e = .returned (.int .i64 (cmpStr a b)) ∧ w = w' := by
  have h0 : a < b → cmpStr a b = -1 := fun h => if_pos h
  have h1 : ¬ a < b → b < a → cmpStr a b = 1 := fun h g => by rw [cmpStr, if_neg h, if_pos g]
  have h2 : ¬ a < b → ¬ b < a → cmpStr a b = 0 := fun h g => by rw [cmpStr, if_neg h, if_neg g]
  have H0 := Lib.hid h0; have H1 := Lib.hid h1; have H2 := Lib.hid h2
  have e1 : Op.bytesLess a b = decide (a < b) := by simp [bytesLess_eq]
  have e2 : Op.bytesLess b a = decide (b < a) := by simp [bytesLess_eq]
  have e3 : (a == b) = decide (a = b) := by rw [Bool.eq_iff_iff]; simp
  clear h0 h1 h2
  by_cases ha : a < b
  · rw [decide_eq_true ha] at e1
    rw [decide_eq_false (fun e => str_irr b (by rw [e] at ha; exact ha))] at e3
    have HA := Lib.hid ha
    clear ha e2
    go_enter Tryz.func92, Tryz.ntmps92
    go_wp2_with (go_at_call 126; refine (cNaNS _ _).mono ?_; rintro e w' ⟨rfl, rfl⟩)
    go_ret
    exact ⟨ret_int (H0.out HA.out).symm, rfl⟩
  rw [decide_eq_false ha] at e1
  have HA := Lib.hid ha
  clear ha
  by_cases hb : b < a
  · rw [decide_eq_true hb] at e2
    rw [decide_eq_false (fun e => str_irr b (by rw [e] at hb; exact hb))] at e3
    have HB := Lib.hid hb
    clear hb
    go_enter Tryz.func92, Tryz.ntmps92
    go_wp2_with (go_at_call 126; refine (cNaNS _ _).mono ?_; rintro e w' ⟨rfl, rfl⟩)
    go_ret
    exact ⟨ret_int (H1.out HA.out HB.out).symm, rfl⟩
  · rw [decide_eq_false hb] at e2
    rw [decide_eq_true ((str_tri a b).elim (fun h => absurd h HA.out) (fun h => h.elim id (fun h => absurd h hb)))] at e3
    have HB := Lib.hid hb
    clear hb
    go_enter Tryz.func92, Tryz.ntmps92
    go_wp2_with (go_at_call 126; refine (cNaNS _ _).mono ?_; rintro e w' ⟨rfl, rfl⟩)
    go_ret
    exact ⟨ret_int (H2.out HA.out HB.out).symm, rfl⟩
end Go.Proofs.YtlniekobijcanaaGreat
namespace Go.Proofs.YtlniekobijcanaaGreat
open Go.RowKit Go.Shelf Go.Lib Go.Sort
section
variable {α : Type} [Inhabited α] {enc : α → Value}
theorem grownBy_sortWorld (w : World) (g m : Nat) (d : Array α) (os : Array Obj) : w.grownBy (sortWorld enc w g 0 m d os) (some g) := by
  unfold sortWorld
  refine ⟨rfl, rfl, rfl, by simp, fun k hk hne => ?_⟩
  have hgk : g ≠ k := fun e => hne (by rw [e])
  rw [heap_grow_old _ _ (by simpa using hk)]
  simp [putRow, mapBlock, Sort.ahead, Array.getElem?_modify, hgk]
theorem heap_sortWorld {w : World} {g m : Nat} {d : Array α} {os : Array Obj} {cur : Array Value} {e : TypeId} {fr : Nat × Nat} (hb : w.heap[g]? = some (.cells cur e fr)) :
    (sortWorld enc w g 0 m d os).heap[g]? = some (.cells (putCells enc 0 d cur) e fr) := by
  unfold sortWorld
  have hg : g < w.heap.size := (Array.getElem?_eq_some_iff.1 hb).1
  rw [heap_grow_old _ _ (by simpa using hg)]
  simp [putRow, mapBlock, Sort.ahead, Array.getElem?_modify, hb, onCells]
theorem take_putCells (cur : Array Value) (ts : List α) (h : ts.length ≤ cur.size) : (putCells enc 0 ts.toArray cur).toList.take ts.length = ts.map enc := by
  apply List.ext_getElem?
  intro j
  by_cases hj : j < ts.length
  · rw [List.getElem?_take_of_lt hj, Array.getElem?_toList]
    simp [putCells, hj, show j < cur.size by omega]
  · rw [List.getElem?_take_eq_none (by omega), List.getElem?_eq_none (by simp; omega)]
theorem holds_own {w : World} {g : Nat} {cur : Array Value} {e : TypeId} {xs : List α} (hb : w.heap[g]? = some (.cells cur e (0, 0))) (ht : cur.toList.take xs.length = xs.map enc) : Holds enc w g 0 xs.toArray := by
  intro j hj
  have hj' : j < xs.length := by simpa using hj
  refine ⟨?_, by simp [World.frozen?, hb]⟩
  have h1 : (cur.toList.take xs.length)[j]? = (xs.map enc)[j]? := by rw [ht]
  rw [List.getElem?_take_of_lt hj'] at h1
  simp only [World.cell?, hb, Nat.zero_add]
  simp only [Option.isSome_none, Bool.false_eq_true, if_false]
  rw [← Array.getElem?_toList, h1]
  simp [hj']
theorem sortRow {P : Program} {ρ : Ren} (L : SlLaysF.n6 P ρ) (h1 : OneCell enc) (cf : α → α → Int) (hO : SWO (ltOf cf)) (hT : ∀ x y, (ltOf cf) x y = false → (ltOf cf) y x = false → x = y)
    (g : Nat) (cb : Array Value) (eg : ∀ args w, (callFunc g args).run P w = .ok (.enter g args) w) (w : World) (base : Nat) (T : TypeId) (v : Value) (xs : List α)
    (hown : w.ownsRow base T 1 v xs.length (xs.map enc)) (hsz : xs.length < 4611686018427387904)
    (hcmp : ∀ W, w.grownBy W v.ownBlock → ∀ x y, Calls P g (#[enc x, enc y] ++ cb) W fun e w' => e = .returned (.int .i64 (cf x y)) ∧ ∃ q os, w' = grow (W.drewN q) os) :
    Calls P (ρ.f 6) #[v, .func (.func g) #[] cb] w fun e w' => e = .returned (.tuple #[]) ∧ w'.ownsRow base T 1 v xs.length ((xs.mergeSort fun x y => !(ltOf cf) y x).map enc) ∧ w.grownBy w' v.ownBlock := by
  rcases hown.2 with ⟨rfl, h0⟩ | ⟨b, cap, cur, rfl, hbase, hb, hn, hcap, hcur, htake⟩
  · have hx : xs = [] := by simpa using h0
    subst hx
    exact (AnyF.slices_SortFunc_none (P := P) (ρ := ρ) { L with } none 0 _ w).mono fun _ _ ⟨he, hw⟩ => ⟨he, by rw [hw]; simpa using hown, by rw [hw]; exact World.grownBy.refl _ _⟩
  · have hblk : b < w.heap.size := (Array.getElem?_eq_some_iff.1 hb).1
    rw [Nat.mul_one] at htake
    have hS := Any.slices_SortFunc_total L enc h1 cf hO g cb b 0 cap xs.toArray w eg
      (fun m os dk _ x y => hcmp _ (grownBy_sortWorld w b m dk os) x y) (holds_own hb htake) hblk (by simpa using hsz) hT
    have e1 : xs.toArray.size = xs.length := by simp
    rw [e1] at hS
    refine hS.mono fun e w' ⟨he, n, os, hw⟩ => ⟨he, ?_, by rw [hw]; exact grownBy_sortWorld _ _ _ _ _⟩
    have e2 : xs.toArray.toList = xs := by simp
    rw [e2] at hw
    rw [hw]
    have hl : (xs.mergeSort fun x y => !(ltOf cf) y x).length = xs.length := List.length_mergeSort _
    refine ⟨by simp [hl], .inr ⟨b, cap, _, rfl, hbase, heap_sortWorld hb, hn, hcap, by simp [putCells, hcur], ?_⟩⟩
    rw [Nat.mul_one, ← hl]
    exact take_putCells cur _ (by omega)
end
end Go.Proofs.YtlniekobijcanaaGreat
namespace Go.Proofs.YtlniekobijcanaaGreat
open Go.RowKit Go.Shelf Go.Lib Go.Sort
section
variable {α : Type} [Inhabited α] {enc : α → List Value} {k : Nat}
theorem flatK_list (hk : ∀ x, (enc x).length = k) (d : Array α) : (flatK enc k d).toList = d.toList.flatMap enc := by
  have hcs : ∀ r : α, ((enc r).toArray).size = k := fun r => by simp [hk]
  have hfl : flat (fun r => (enc r).toArray) d.toList = d.toList.flatMap enc := by simp [flat]
  have hl : (d.toList.flatMap enc).length = d.size * k := by rw [← hfl, flat_len1 hcs, Array.length_toList]
  apply List.ext_getElem?
  intro t
  by_cases ht : t < d.size * k
  · have hk0 : 0 < k := by
      rcases Nat.eq_zero_or_pos k with h | h
      · rw [h] at ht; omega
      · exact h
    have hi : t / k < d.size := (Nat.div_lt_iff_lt_mul hk0).2 ht
    have hj : t % k < k := Nat.mod_lt _ hk0
    have h1 := get_flatK enc k d t ht
    have h2 : d.toList[t / k]? = some d[t / k]! := by rw [Array.getElem?_toList, getElem!_pos d _ hi, Array.getElem?_eq_getElem hi]
    have h3 : ((enc d[t / k]!).toArray)[t % k]? = some (enc d[t / k]!)[t % k]! := by
      rw [List.getElem?_toArray, getElem!_pos (enc d[t / k]!) _ (by rw [hk]; exact hj), List.getElem?_eq_getElem (by rw [hk]; exact hj)]
    have h4 := flat_at hcs h2 (t % k) _ h3
    rw [Nat.mul_comm, Nat.div_add_mod] at h4
    rw [← hfl, h4, Array.getElem?_toList, Array.getElem?_eq_getElem (by simpa using ht), ← h1, getElem!_pos _ _ (by simpa using ht)]
  · rw [List.getElem?_eq_none (by simp; omega), List.getElem?_eq_none (by omega)]
theorem holdsK_own {w : World} {g : Nat} {cur : Array Value} {e : TypeId} {xs : List α} (hk : ∀ x, (enc x).length = k) (hb : w.heap[g]? = some (.cells cur e (0, 0))) (ht : cur.toList.take (xs.length * k) = xs.flatMap enc) : HoldsK enc k w g 0 xs.toArray := by
  unfold HoldsK
  have e1 : flatK enc k xs.toArray = ((xs.flatMap enc).toArray) := by
    apply Array.toList_inj.1
    rw [flatK_list hk]
  rw [e1]
  have hl : (xs.flatMap enc).length ≤ xs.length * k := by rw [← ht, List.length_take]; omega
  refine holds_own (enc := id) hb ?_
  rw [List.map_id]
  have h2 : (xs.flatMap enc).length = xs.length * k := by
    have h3 : flat (fun r => (enc r).toArray) xs = xs.flatMap enc := by simp [flat]
    rw [← h3, flat_len1 (k := k) (fun r => by simp [hk])]
  rw [h2]
  exact ht
theorem sortRowK {P : Program} {ρ : Ren} (L : SlLaysF0.n6 P ρ) (aE : ∀ w, (isAgg (ρ.t 24)).run P w = .ok true w) (zE : ∀ w, (Go.sizeOf (ρ.t 24)).run P w = .ok k w) (hk : ∀ x, (enc x).length = k) (h1 : ∀ x, ∀ v ∈ enc x, v.oneCell' = true) (cf : α → α → Int) (hO : SWO (ltOf cf))
    (g : Nat) (cb : Array Value) (eg : ∀ args w, (callFunc g args).run P w = .ok (.enter g args) w) (w : World) (base : Nat) (T : TypeId) (v : Value) (xs : List α)
    (hown : w.ownsRow base T k v xs.length (xs.flatMap enc)) (hsz : xs.length < 4611686018427387904)
    (hcmp : ∀ W, w.grownBy W v.ownBlock → ∀ x y, Calls P g (#[.agg (enc x).toArray, .agg (enc y).toArray] ++ cb) W fun e w' => e = .returned (.int .i64 (cf x y)) ∧ ∃ q os, w' = grow (W.drewN q) os) :
    Calls P (ρ.f 6) #[v, .func (.func g) #[] cb] w fun e w' => e = .returned (.tuple #[]) ∧ ∃ zs : List α, zs.Perm xs ∧ zs.Pairwise (fun x y => cf y x < 0 → False) ∧ w'.ownsRow base T k v zs.length (zs.flatMap enc) ∧ w.grownBy w' v.ownBlock := by
  rcases hown.2 with ⟨rfl, h0⟩ | ⟨b, cap, cur, rfl, hbase, hb, hn, hcap, hcur, htake⟩
  · have hx : xs = [] := by simpa using h0
    subst hx
    exact (AnyF.slices_SortFunc_none (P := P) (ρ := ρ) { L with } none 0 _ w).mono fun _ _ ⟨he, hw⟩ => ⟨he, [], List.Perm.nil, List.Pairwise.nil, by rw [hw]; simpa using hown, by rw [hw]; exact World.grownBy.refl _ _⟩
  · have hblk : b < w.heap.size := (Array.getElem?_eq_some_iff.1 hb).1
    have hS := AnyQ.slices_SortFunc L k aE zE enc hk h1 cf hO g cb b 0 cap xs.toArray w eg
      (fun m os dk _ x y => hcmp _ (grownBy_sortWorld (enc := id) w b m (flatK enc k dk) os) x y) (holdsK_own hk hb htake) hblk (by simpa using hsz)
    have e1 : xs.toArray.size = xs.length := by simp
    rw [e1] at hS
    refine hS.mono fun e w' ⟨he, d', n, os, hp, hs, hw⟩ => ⟨he, d'.toList, ?_, ?_, ?_, by rw [hw]; exact grownBy_sortWorld (enc := id) _ _ _ _ _⟩
    · obtain ⟨hsz', _, hperm⟩ := hp
      have e2 : d'.extract 0 xs.length = d' := by rw [← e1, ← hsz']; exact Array.extract_size
      have e3 : xs.toArray.extract 0 xs.length = xs.toArray := by rw [← e1]; exact Array.extract_size
      rw [e2, e3] at hperm
      simpa using hperm
    · rw [List.pairwise_iff_getElem]
      intro i j hi hj hij h
      have hd : d'.size = xs.length := by rw [hp.1, e1]
      have := hs i j (Nat.zero_le _) hij (by simp at hj; omega)
      unfold ltOf at this
      have e4 := of_decide_eq_false this
      simp at hi hj
      rw [getElem!_pos d' i hi, getElem!_pos d' j hj] at e4
      exact e4 (by simpa using h)
    · have hd : d'.size = xs.length := by rw [hp.1, e1]
      have hlen : d'.toList.length = xs.length := by simpa using hd
      rw [hw]
      have e5 : (d'.toList.flatMap enc).length = xs.length * k := by rw [← flatK_list hk]; simp [hd]
      refine ⟨by rw [e5, hlen], .inr ⟨b, cap, _, by rw [hlen], hbase, heap_sortWorld (enc := id) hb, by rw [hlen]; exact hn, hcap, by simp [putCells, hcur], ?_⟩⟩
      have e7 : flatK enc k d' = (d'.toList.flatMap enc).toArray := Array.toList_inj.1 (by rw [flatK_list hk])
      have e6 := take_putCells (enc := id) cur (d'.toList.flatMap enc) (by rw [e5, hcur]; exact Nat.mul_le_mul_right _ hn)
      rw [List.map_id, ← e7] at e6
      rw [hlen, ← e5]
      exact e6
end
end Go.Proofs.YtlniekobijcanaaGreat
namespace Go.Proofs.YtlniekobijcanaaGreat
open Go.RowKit Go.Maps Go.Shelf Go.Sort
set_option maxRecDepth 100000 in
set_option maxHeartbeats 4000000 in
theorem bWith1 (w : World) (x : Str × Int) (s : Str) (b0 : Nat) (hb : w.cell? ⟨b0, 0, none⟩ = some (vS s)) : Calls Tryz.prog 99 #[.agg (itC x), .pointer (some ⟨b0, 0, none⟩)] w fun e w' => e = .returned (.bool (decide (x.1 = s))) ∧ Fr (fun _ => False) w w' := by
  obtain ⟨g, n⟩ := x
  have hb2 := ((Fr.refl (fun _ => False) w).alloc (.cells #[vS g, .int .i64 n] 124)).cell hb (fun h => h)
  have h := eqlS g s
  dsimp only [itC]
  clear hb
  unfold vS at *
  obtain ⟨b, hb⟩ : ∃ b, decide (g = s) = b := ⟨_, rfl⟩
  rw [hb] at h ⊢
  have e3 : (g == s) = b := by rw [← hb]; rw [Bool.eq_iff_iff]; simp
  clear hb
  go_enter Tryz.func99, Tryz.ntmps99
  go_wp2_with fail
  go_ret
  exact ⟨rfl, (Fr.refl _ w).alloc _⟩
def itE (x : Str × Int) : List Value := [vS x.1, .int .i64 x.2]
set_option maxRecDepth 100000 in
set_option maxHeartbeats 4000000 in
theorem bWith2 (w : World) (x y : Str × Int) : Calls Tryz.prog 101 #[.agg (itE x).toArray, .agg (itE y).toArray] w fun e w' => e = .returned (.int .i64 (cmpStr x.1 y.1)) ∧ ∃ q os, w' = grow (w.drewN q) os := by
  obtain ⟨g, n⟩ := x
  obtain ⟨h, m⟩ := y
  have hC := Lib.hid (fun W => cCompareS g h W)
  obtain ⟨C, hCC⟩ : ∃ C, cmpStr g h = C := ⟨_, rfl⟩
  rw [hCC] at hC ⊢
  dsimp only [itE]
  clear hCC
  go_enter Tryz.func101, Tryz.ntmps101
  go_wp2_with (go_at_call 92; refine (hC.out _).mono ?_; rintro e w1 ⟨rfl, rfl⟩)
  go_ret
  exact ⟨rfl, 0, #[.cells #[vS g, .int .i64 n] 124, .cells #[vS h, .int .i64 m] 124], by rw [alloc_eq_grow, alloc_eq_grow, grow_grow]; rfl⟩
theorem cmpStr_lt {a b : Str} : cmpStr a b < 0 ↔ a < b := by
  unfold cmpStr
  by_cases h : a < b
  · simp [h]
  · by_cases h2 : b < a <;> simp [h, h2]
theorem cmpStr_swo : SWO (ltOf fun x y : Str × Int => cmpStr x.1 y.1) := by
  have e : ∀ x y : Str × Int, ltOf (fun x y : Str × Int => cmpStr x.1 y.1) x y = decide (x.1 < y.1) := fun x y => by
    unfold ltOf
    rw [Bool.eq_iff_iff]
    simp [cmpStr_lt]
  refine ⟨fun x => by rw [e]; simp [str_irr], fun x y z h1 h2 => ?_, fun x y z h1 h2 => ?_⟩
  · rw [e] at *
    exact decide_eq_true (str_trans (of_decide_eq_true h1) (of_decide_eq_true h2))
  · rw [e] at *
    refine decide_eq_false (fun h => ?_)
    have n1 := of_decide_eq_false h1
    have n2 := of_decide_eq_false h2
    rcases str_tri y.1 x.1 with g | g | g
    · rcases str_tri z.1 y.1 with k | k | k
      · exact str_irr _ (str_trans h (str_trans k g))
      · rw [k] at h; exact n1 h
      · exact n2 k
    · rw [← g] at h; exact n2 h
    · exact n1 g
set_option maxRecDepth 1000000 in
set_option maxHeartbeats 4000000 in
/-- slices.SortFunc on goods, in with. -/
theorem sortIt (w : World) (base : Nat) (v : Value) (xs : Its) (h : w.ownsRow base 124 2 v xs.length (itCs xs)) (hl : xs.length ≤ 1000000) :
    Calls Tryz.prog 100 #[v, .func (.func 101) #[] #[]] w fun e w' => e = .returned (.tuple #[]) ∧ ∃ zs : Its, zs.Perm xs ∧ zs.Pairwise (fun x y => ¬ y.1 < x.1) ∧ w'.ownsRow base 124 2 v zs.length (itCs zs) ∧ w.grownBy w' v.ownBlock := by
  refine (sortRowK (P := Tryz.prog) (k := 2) (enc := itE) Tryz.laysSortIt (fun w => by kernel_rfl) (fun w => by kernel_rfl) (fun _ => rfl) (fun x u hu => ?_) (fun x y => cmpStr x.1 y.1) cmpStr_swo 101 #[] (enters_of Tryz.func101 (by kernel_rfl) rfl) w base 124 v xs h (by omega) (fun W _ x y => bWith2 W x y)).mono ?_
  · simp only [itE, List.mem_cons, List.not_mem_nil, or_false] at hu
    rcases hu with rfl | rfl <;> rfl
  · rintro e w' ⟨rfl, zs, h1, h2, h3, h4⟩
    exact ⟨rfl, zs, h1, h2.imp (fun h g => h (cmpStr_lt.2 g)), h3, h4⟩
end Go.Proofs.YtlniekobijcanaaGreat
namespace Go.Proofs.YtlniekobijcanaaGreat
open Go.RowKit
section
variable {w w' : World} {size m : Nat} {A : Option Addr} {xs : List Value} {P : Program}
theorem step_append_src {ops : Array Oper} {o : Oper} {a : Act} {K : Act → World → Prop} {Q : Exit → Act → World → Prop} {E : Prop} (hgd : o.guard = none) (s x : Operand) (t : TypeId)
    (ho : o.op = .call { callee := .builtin .append, args := #[s, x], argTypes := #[t, t] })
    (base : Nat) (e : TypeId) (i : TypeInfo) (z : Value) (bytes : Nat) (ht : P.underlying t = some (.slice e)) (hi : P.info? e = some i) (hz : i.zero = some z)
    (hsize : i.size = size) (hby : i.bytes = bytes) (hzs : z.cells.size = size) (hsz : 0 < size) (v : Value) (n : Nat) (ys : List Value) (hs : a.eval s = v) (hown : w.ownsRow base e size v n ys)
    (c : Nat) (hx : a.eval x = .slice A m c) (hr : Rd w size A m xs) (h1 : ∀ u ∈ xs, u.oneCell' = true) (h63 : n + m ≤ maxLen) (hbytes : (n + m) * bytes ≤ 140737488355328) (hbase : base ≤ w.heap.size)
    (h : ∀ v' w', w'.ownsRow base e size v' (n + m) (ys ++ xs) → w.grownBy w' v.ownBlock → (v'.ownBlock = v.ownBlock ∨ v'.ownBlock = some w.heap.size) → K (a.put o.dst v') w') :
    if Region.wanted o (yielded ops a.tmps) = true then Oper.wp P o a w K Q else E := by
  have hw : Region.wanted o (yielded ops a.tmps) = true := by simp [Region.wanted, hgd]
  rw [if_pos hw]
  obtain ⟨v', w', hr, h2, h3, h5⟩ := run_append_src (P := P) base t o.type e i z bytes ht hi hz hsize hby hzs hsz v n ys hown c hr h1 h63 hbytes hbase
  unfold Oper.wp execOp
  simp only [ho, resolve, invoke, builtin, Sem.run_bind, Sem.run_pure, Result.andThen_ok, List.map_toArray, List.map_cons, List.map_nil, hs, hx, hr]
  exact h v' w' h2 h3 h5
theorem own_none {w : World} {base size : Nat} {t : TypeId} (h : base ≤ w.heap.size) : (w.alloc (.cells #[] t)).ownsRow base t size (.slice (some ⟨w.heap.size, 0, none⟩) 0 0) 0 [] :=
  ⟨by simp, .inr ⟨_, _, _, rfl, h, heap_new _ _, Nat.le_refl _, by unfold maxLen; omega, by simp, by simp⟩⟩
theorem rd_obj {w : World} {g : Nat} {cs : List Value} {t : TypeId} {size : Nat} (h : w.heap[g]? = some (.cells cs.toArray t)) (hs : cs.length = size) : Rd w size (some ⟨g, 0, none⟩) 1 cs :=
  ⟨by omega, fun _ => ⟨_, rfl, fun j u hu => by
    have : (⟨g, 0, none⟩ : Addr).add j = ⟨g, j, none⟩ := by unfold Addr.add; split <;> simp_all
    rw [this]
    exact cell_obj h j u (by simpa using hu)⟩⟩
end
end Go.Proofs.YtlniekobijcanaaGreat
namespace Go.Proofs.YtlniekobijcanaaGreat
open Go.RowKit Go.Maps
def BV.put (b : BV) (v : Value) (s : Str) (n : Int) : BV := ⟨b.nu, b.zo, b.ro, v, setF b.its s n⟩
theorem own_snoc {w : World} {base : Nat} {v : Value} {L : Its} {s : Str} {n : Int} (h : w.ownsRow base 124 2 v (L.length + 1) (itCs L ++ [vS s, .int .i64 n])) : w.ownsRow base 124 2 v (L ++ [(s, n)]).length (itCs (L ++ [(s, n)])) := by
  rw [itCs_app, List.length_append]
  exact h
theorem with_end {w4 : World} {n0 : Nat} {T : TypeId} (nu zo ro : Int) (V : Value) (h2 : w4.heap[n0 + 1 + 1]? = some (.cells #[.int .i64 0, .int .i64 0, .int .i64 0, .slice none 0 0] T)) :
    ∃ W, W = (((((w4.setCell ⟨n0, 3, none⟩ V).setCell ⟨n0 + 1 + 1, 0, none⟩ (.int .i64 nu)).setCell ⟨n0 + 1 + 1, 1, none⟩ (.int .i64 zo)).setCell ⟨n0 + 1 + 1, 2, none⟩ (.int .i64 ro)).setCell ⟨n0 + 1 + 1, 3, none⟩ V) ∧
      W.heap[n0 + 1 + 1]? = some (.cells #[.int .i64 nu, .int .i64 zo, .int .i64 ro, V] T) ∧ Fr (fun c => c = n0 ∨ c = n0 + 1 + 1) w4 W := by
  have hF : Fr (fun c => c = n0) w4 (w4.setCell ⟨n0, 3, none⟩ V) := (Fr.refl (fun c => c = n0) w4).setCell (p := ⟨n0, 3, none⟩) (fun _ => rfl) _
  have h3 := hF.at_ h2 (by omega)
  refine ⟨_, rfl, obj_set (obj_set (obj_set (obj_set h3 0 _) 1 _) 2 _) 3 _, ?_⟩
  exact ((((hF.mono (fun c _ e => .inl e)).setCell (p := ⟨n0 + 1 + 1, 0, none⟩) (fun _ => .inr rfl) _).setCell (p := ⟨n0 + 1 + 1, 1, none⟩) (fun _ => .inr rfl) _).setCell (p := ⟨n0 + 1 + 1, 2, none⟩) (fun _ => .inr rfl) _).setCell (p := ⟨n0 + 1 + 1, 3, none⟩) (fun _ => .inr rfl) _
set_option maxRecDepth 100000 in
set_option maxHeartbeats 8000000 in
theorem bWith (w : World) (b : BV) (s : Str) (n : Int) (hk : BOk w b) (hl : b.its.length ≤ 1000) (hr : RiseI b.its) (hs : okS s) (hn : okI n) : Calls Tryz.prog 55 #[.agg b.cs, vS s, .int .i64 n] w fun e w' =>
    ∃ v, e = .returned (.agg (BV.cs (b.put v s n))) ∧ BOk w' (b.put v s n) ∧ (∀ c, v.ownBlock = some c → w.heap.size ≤ c) ∧ Fr (fun _ => False) w w' := by
  obtain ⟨i0, hi', hz0, hz1, hz2⟩ := info_parts infoItem
  obtain ⟨n0, hn0⟩ : ∃ n0, w.heap.size = n0 := ⟨_, rfl⟩
  have HK := Lib.hid hk
  have HLI := Lib.hid (hk.l)
  obtain ⟨nu, zo, ro, l, its⟩ := b
  obtain ⟨la, lc, hl2⟩ := hk.l.sl
  dsimp only at hl2 hl hr
  subst hl2
  obtain ⟨W0, hW0⟩ : ∃ W0, (((w.alloc (.cells #[.int .i64 nu, .int .i64 zo, .int .i64 ro, .slice la its.length lc] 76)).alloc (.cells #[vS s] 9)).alloc (.cells #[.int .i64 0, .int .i64 0, .int .i64 0, .slice none 0 0] 76)) = W0 := ⟨_, rfl⟩
  have hb0 : W0.heap[n0]? = some (.cells #[.int .i64 nu, .int .i64 zo, .int .i64 ro, .slice la its.length lc] 76) := by rw [← hW0]; exact heap_keep (heap_keep (heap_at hn0.symm _) _) _
  have hb1 : W0.heap[n0 + 1]? = some (.cells #[vS s] 9) := by rw [← hW0]; exact heap_keep (heap_at (by simp; omega) _) _
  have hb2 : W0.heap[n0 + 1 + 1]? = some (.cells #[.int .i64 0, .int .i64 0, .int .i64 0, .slice none 0 0] 76) := by rw [← hW0]; exact heap_at (by simp; omega) _
  have hF0 : Fr (fun _ => False) w W0 := by rw [← hW0]; exact (((Fr.refl _ w).alloc _).alloc _).alloc _
  have hs0 : W0.heap.size = n0 + 3 := by rw [← hW0]; simp; omega
  obtain ⟨N, hN⟩ : ∃ N, its.length = N := ⟨_, rfl⟩
  have HCL := Lib.hid (itClone W0 (.slice la its.length lc) its (HLI.out.fr hF0 (fun _ e => e.elim)) (by omega))
  have HIT : Hid (∀ p ∈ its, okS p.1 ∧ okI p.2) := Lib.hid (fun p hp => by
    obtain ⟨_, _, _, _, hq⟩ := HLI.out
    obtain ⟨i, hi⟩ := List.getElem?_of_mem hp
    exact ⟨(hq i p hi).1, (hq i p hi).2.1⟩)
  have HNN := Lib.hid hN
  have HR := Lib.hid hr; have HSS := Lib.hid hs; have HNI := Lib.hid hn
  have HB0 := Lib.hid hb0; have HB1 := Lib.hid hb1; have HB2 := Lib.hid hb2; have HF0 := Lib.hid hF0; have HS0 := Lib.hid hs0; have HN0 := Lib.hid hn0
  have HOK3 : Hid (okI nu ∧ okI zo ∧ okI ro) := Lib.hid ⟨HK.out.nu, HK.out.zo, HK.out.ro⟩
  have HLN : Hid (its.length ≤ 1000) := Lib.hid hl
  unfold BV.cs
  dsimp only [BV.put]
  rw [hN] at HCL hb0 hW0 ⊢
  have p3 := cell_obj hb0 3 (.slice la N lc) rfl
  have pg := cell_obj hb1 0 (vS s) rfl
  clear hk hl hr hs hn hb0 hb1 hb2 hF0 hs0 hN
  go_enter Tryz.func55, Tryz.ntmps55
  go_wp2_with fail
  refine HCL.out.mono ?_
  rintro e w1 ⟨v1, rfl, hown1, hf1⟩
  have HV1 : Hid (∀ c, v1.ownBlock = some c → n0 + 3 ≤ c ∧ c < w1.heap.size) := Lib.hid (fun c hc => by have := hown1.lt c hc; have := HS0.out; omega)
  have hdf := dfItem w1 W0.heap.size v1 its (fun x => decide (x.1 = s)) (n0 + 1) (by rw [HNN.out]; exact hown1) (by have := HLN.out; omega) (fun x hx => HIT.out x hx) (fun W i x hx hfr => bWith1 W x s (n0 + 1) (hfr.cell (hf1.cell (cell_obj HB1.out 0 (vS s) rfl) (fun e => e)) (fun e => by have := (HV1.out _ e).1; dsimp only at this; omega)))
  have HDF := Lib.hid hdf
  have HF1 := Lib.hid (HF0.out.trans hf1)
  have HC0 := Lib.hid (hf1.at_ HB0.out (fun e => e)); have HC1 := Lib.hid (hf1.at_ HB1.out (fun e => e)); have HC2 := Lib.hid (hf1.at_ HB2.out (fun e => e))
  have HS1 := Lib.hid hf1.size
  obtain ⟨a1, c1, rfl⟩ := row_sl hown1
  clear hown1 hf1 hdf p3 pg hW0
  have HFL : Hid ((its.filter fun x => !decide (x.1 = s)).length ≤ 1000) := Lib.hid (Nat.le_trans (List.length_filter_le _ _) HLN.out)
  by_cases hpos : 0 < n
  · have HPOS := Lib.hid hpos
    go_wp2_with (first
      | (go_at_call 98; refine HDF.out.mono ?_; rintro e w2 ⟨v2, rfl, hown2, hsub, hf2⟩; have HV2 : Hid (∀ c, v2.ownBlock = some c → n0 + 3 ≤ c) := Lib.hid (fun c hc => (HV1.out c (hsub c hc)).1); have HW2 := Lib.hid (Fr.mono (S' := fun c => n0 + 3 ≤ c) hf2 (fun c _ e => (HV1.out c e).1)); have HO2 := Lib.hid hown2; have pg2 := hf2.cell (cell_obj HC1.out 0 (vS s) rfl) (fun e => by have := (HV1.out _ e).1; dsimp only at this; omega); obtain ⟨a2, c2, rfl⟩ := row_sl hown2; clear hown2 hsub hf2)
      | (at_builtin; refine wpList_append_src rfl _ _ 65 rfl W0.heap.size 124 i0 (.agg #[.string ⟨#[]⟩, .int .i64 0]) 24 Tryz.underlying65 hi' hz0 hz1 hz2 rfl (by decide) (Value.slice a2 (its.filter fun x : Str × Int => !decide (x.1 = s)).length c2) (its.filter fun x => !decide (x.1 = s)).length (itCs (its.filter fun x => !decide (x.1 = s))) rfl (((Fr.refl (fun _ => False) w2).alloc _).row HO2.out (fun _ _ e => e)) 1 rfl (rd_obj (cs := [vS s, .int .i64 n]) (heap_new _ _) rfl) (by intro u hu; simp only [List.mem_cons, List.not_mem_nil, or_false] at hu; rcases hu with rfl | rfl <;> rfl) (by have := HFL.out; unfold maxLen; omega) (by have := HFL.out; omega) (by have := HS1.out; have := HW2.out.size; simp; omega) ?_; intro v3 w3 hown3 hgrow3 hloc3; have HV3 : Hid (∀ c, v3.ownBlock = some c → n0 + 3 ≤ c) := Lib.hid (fun c hc => by have := (hown3.lt c hc).1; have := HS0.out; omega); have HW3 := Lib.hid (HW2.out.trans (((Fr.refl (fun c => n0 + 3 ≤ c) w2).alloc _).trans' (Fr.grown (S := fun c => n0 + 3 ≤ c) hgrow3 (fun r hr _ => HV2.out r hr)) (fun _ _ e => e))); have hown3' := own_snoc hown3; have HO3 := Lib.hid hown3'; have HSO := Lib.hid (sortIt w3 W0.heap.size v3 _ hown3' (by have := HFL.out; simp; omega)); obtain ⟨a3, c3, rfl⟩ := row_sl hown3; clear hown3 hgrow3 hloc3 hown3')
      | (go_at_call 100; refine HSO.out.mono ?_; rintro e w4 ⟨rfl, zs, hzp, hzs, hown4, hgrow4⟩; have hz := setF_uniq HR.out (n := n) (by rw [if_pos hpos]; exact hzp) hzs; subst hz; have HW4 := Lib.hid (HW3.out.trans (Fr.grown (S := fun c => n0 + 3 ≤ c) hgrow4 (fun r hr _ => HV3.out r hr))); have HO4 := Lib.hid hown4; have HK2 := Lib.hid (HW4.out.at_ HC2.out (by omega)); have hk0 := HW4.out.at_ HC0.out (by omega); have hk2 := HW4.out.at_ HC2.out (by omega); have q0 := cell_obj hk0 0 (.int .i64 nu) rfl; have q1 := cell_obj hk0 1 (.int .i64 zo) rfl; have q2 := cell_obj hk0 2 (.int .i64 ro) rfl; have q3 := cell_obj hk0 3 (.slice la N lc) (by rw [← HNN.out]; rfl); have f3 := obj_frozen hk0 3; have r0 := cell_obj hk2 0 (.int .i64 0) rfl; have r1 := cell_obj hk2 1 (.int .i64 0) rfl; have r2 := cell_obj hk2 2 (.int .i64 0) rfl; have r3 := cell_obj hk2 3 (.slice none 0 0) rfl; have g0 := obj_frozen hk2 0; have g1 := obj_frozen hk2 1; have g2 := obj_frozen hk2 2; have g3 := obj_frozen hk2 3; clear hzp hzs hown4 hgrow4 hk0 hk2))
    obtain ⟨W, hW, hb, hf⟩ := with_end nu zo ro (Value.slice a3 ((its.filter fun x : Str × Int => !decide (x.1 = s)).length + 1) c3) HK2.out
    rw [← hW]
    have c0 := cell_obj hb 0 (.int .i64 nu) rfl
    have c1 := cell_obj hb 1 (.int .i64 zo) rfl
    have c2' := cell_obj hb 2 (.int .i64 ro) rfl
    have c3' := cell_obj hb 3 (Value.slice a3 ((its.filter fun x : Str × Int => !decide (x.1 = s)).length + 1) c3) rfl
    refine bodyPost_ret (v := .agg #[.int .i64 nu, .int .i64 zo, .int .i64 ro, .slice a3 ((its.filter fun x => !decide (x.1 = s)).length + 1) c3]) (by simp [results, Tryz.results55, go_sem, c0, c1, c2', c3']) rfl ?_
    have HWL : Hid (∀ c, (Value.slice a3 ((its.filter fun x : Str × Int => !decide (x.1 = s)).length + 1) c3).ownBlock = some c → n0 + 3 ≤ c) := HV3
    have hil := (Il.own HO4.out (fun p hp => by
      rcases setF_mem hp with ⟨h1, -⟩ | ⟨rfl, -⟩
      · exact HIT.out p h1
      · exact ⟨HSS.out, HNI.out⟩)).1
    refine ⟨.slice a3 ((its.filter fun x => !decide (x.1 = s)).length + 1) c3, rfl, ⟨HOK3.out.1, HOK3.out.2.1, HOK3.out.2.2, ?_⟩, fun c hc => by have := HWL.out c hc; have := HN0.out; omega, ?_⟩
    · exact hil.keep hf (fun _ c hc e => by have := HWL.out c hc; omega)
    · exact (HF1.out.trans' HW4.out (fun c hc (e : n0 + 3 ≤ c) => by have := HN0.out; omega)).trans' hf (fun c hc (e : c = n0 ∨ c = n0 + 1 + 1) => by have := HN0.out; omega)
  · have HPOS := Lib.hid hpos
    go_wp2_with (first
      | (go_at_call 98; refine HDF.out.mono ?_; rintro e w2 ⟨v2, rfl, hown2, hsub, hf2⟩; have HV2 : Hid (∀ c, v2.ownBlock = some c → n0 + 3 ≤ c) := Lib.hid (fun c hc => (HV1.out c (hsub c hc)).1); have HW2 := Lib.hid (Fr.mono (S' := fun c => n0 + 3 ≤ c) hf2 (fun c _ e => (HV1.out c e).1)); have HO2 := Lib.hid hown2; have pg2 := hf2.cell (cell_obj HC1.out 0 (vS s) rfl) (fun e => by have := (HV1.out _ e).1; dsimp only at this; omega); obtain ⟨a2, c2, rfl⟩ := row_sl hown2; have HSO := Lib.hid (sortIt w2 W0.heap.size _ _ HO2.out (by have := HFL.out; omega)); clear hown2 hsub hf2)
      | (go_at_call 100; refine HSO.out.mono ?_; rintro e w4 ⟨rfl, zs, hzp, hzs, hown4, hgrow4⟩; have hz := setF_uniq HR.out (n := n) (by rw [if_neg (Int.not_lt.2 HPOS.out), List.append_nil]; exact hzp) hzs; subst hz; have HW4 := Lib.hid (HW2.out.trans (Fr.grown (S := fun c => n0 + 3 ≤ c) hgrow4 (fun r hr _ => HV2.out r hr))); have HO4 := Lib.hid hown4; have HK2 := Lib.hid (HW4.out.at_ HC2.out (by omega)); have hk0 := HW4.out.at_ HC0.out (by omega); have hk2 := HW4.out.at_ HC2.out (by omega); have q0 := cell_obj hk0 0 (.int .i64 nu) rfl; have q1 := cell_obj hk0 1 (.int .i64 zo) rfl; have q2 := cell_obj hk0 2 (.int .i64 ro) rfl; have q3 := cell_obj hk0 3 (.slice la N lc) (by rw [← HNN.out]; rfl); have f3 := obj_frozen hk0 3; have r0 := cell_obj hk2 0 (.int .i64 0) rfl; have r1 := cell_obj hk2 1 (.int .i64 0) rfl; have r2 := cell_obj hk2 2 (.int .i64 0) rfl; have r3 := cell_obj hk2 3 (.slice none 0 0) rfl; have g0 := obj_frozen hk2 0; have g1 := obj_frozen hk2 1; have g2 := obj_frozen hk2 2; have g3 := obj_frozen hk2 3; clear hzp hzs hown4 hgrow4 hk0 hk2))
    obtain ⟨W, hW, hb, hf⟩ := with_end nu zo ro (Value.slice a2 (its.filter fun x : Str × Int => !decide (x.1 = s)).length c2) HK2.out
    rw [← hW]
    have c0 := cell_obj hb 0 (.int .i64 nu) rfl
    have c1 := cell_obj hb 1 (.int .i64 zo) rfl
    have c2' := cell_obj hb 2 (.int .i64 ro) rfl
    have c3' := cell_obj hb 3 (Value.slice a2 (its.filter fun x : Str × Int => !decide (x.1 = s)).length c2) rfl
    refine bodyPost_ret (v := .agg #[.int .i64 nu, .int .i64 zo, .int .i64 ro, .slice a2 (its.filter fun x => !decide (x.1 = s)).length c2]) (by simp [results, Tryz.results55, go_sem, c0, c1, c2', c3']) rfl ?_
    have HWL : Hid (∀ c, (Value.slice a2 (its.filter fun x : Str × Int => !decide (x.1 = s)).length c2).ownBlock = some c → n0 + 3 ≤ c) := HV2
    have hil := (Il.own HO4.out (fun p hp => by
      rcases setF_mem hp with ⟨h1, -⟩ | ⟨rfl, -⟩
      · exact HIT.out p h1
      · exact ⟨HSS.out, HNI.out⟩)).1
    refine ⟨.slice a2 (its.filter fun x => !decide (x.1 = s)).length c2, rfl, ⟨HOK3.out.1, HOK3.out.2.1, HOK3.out.2.2, ?_⟩, fun c hc => by have := HWL.out c hc; have := HN0.out; omega, ?_⟩
    · exact hil.keep hf (fun _ c hc e => by have := HWL.out c hc; omega)
    · exact (HF1.out.trans' HW4.out (fun c hc (e : n0 + 3 ≤ c) => by have := HN0.out; omega)).trans' hf (fun c hc (e : c = n0 ∨ c = n0 + 1 + 1) => by have := HN0.out; omega)
end Go.Proofs.YtlniekobijcanaaGreat
namespace Go.Proofs.YtlniekobijcanaaGreat
open Go.RowKit Go.Maps
theorem ftkT_len (t : Tst) {m : Int} (hm : 0 ≤ m) : ((tkT t m).1.length : Int) ≤ m := by
  have h := tk_in t (a := 0) (b := m) (Int.le_refl _) hm
  unfold tkT
  dsimp only
  split <;> (try split) <;> simp [bS, List.length_take] <;> omega
/-- What Take reads: one item; k items; a list. -/
def it1 (s : Tst × Its) : Tst × Its := ((tk (tkT s.1 16).2 1 1099511627776).2, s.2 ++ [((tkT s.1 16).1, (tk (tkT s.1 16).2 1 1099511627776).1)])
def itG (t : Tst) : Nat → Tst × Its
  | 0 => (t, [])
  | k + 1 => it1 (itG t k)
def itemsT (t : Tst) : Its × Tst :=
  let r := itG (tk t 0 16).2 (tk t 0 16).1.toNat
  if mayL r.2 = true then (r.2, r.1) else ([], (r.1.1, true))
theorem itG_len (t : Tst) : ∀ k, (itG t k).2.length = k
  | 0 => rfl
  | k + 1 => by show (it1 (itG t k)).2.length = k + 1; unfold it1; simp [itG_len t k]
theorem itG_ok (t : Tst) : ∀ k, ∀ p ∈ (itG t k).2, okS p.1 ∧ okI p.2
  | 0, p, h => by simp [itG] at h
  | k + 1, p, h => by
    have h : p ∈ (it1 (itG t k)).2 := h
    unfold it1 at h
    rcases List.mem_append.1 h with h | h
    · exact itG_ok t k p h
    · simp only [List.mem_cons, List.not_mem_nil, or_false] at h
      subst h
      have h1 := ftkT_len (itG t k).1 (m := 16) (by omega)
      have h2 := tk_in1 (tkT (itG t k).1 16).2 (b := 1099511627776) (by omega)
      exact ⟨by unfold okS maxLen; dsimp only; omega, by unfold okI; dsimp only; omega⟩
theorem tk_none (t : Tst) : (tk t 1 0).2 = (t.1, true) := by
  unfold tk numT
  dsimp only
  split
  · rfl
  · split
    · rw [if_pos (by omega)]
    · rfl
theorem itCs_snoc (L : Its) (p : Str × Int) : itCs (L ++ [p]) = itCs L ++ [vS p.1, .int .i64 p.2] := by rw [itCs_app]; rfl
theorem iFault (w : World) (g : Nat) (TS : Nat → Prop) (t : Tst) (h : TK w g TS t.1 t.2) : Calls Tryz.prog 109 #[.pointer (some ⟨g, 0, none⟩)] w fun e w' => e = .returned (.slice none 0 0) ∧ TK w' g TS t.1 true ∧ Fr TS w w' := by
  have hx := Lib.hid (xTk w g TS t 1 0 h)
  rw [tk_none] at hx
  clear h
  go_enter Tryz.func109, Tryz.ntmps109
  go_wp2_with (go_at_call 63; refine hx.out.mono ?_; rintro e w1 ⟨rfl, h1, h2⟩; have H1 := Lib.hid h1; have H2 := Lib.hid h2; clear h1 h2)
  go_ret
  exact ⟨rfl, H1.out, H2.out⟩
set_option maxRecDepth 100000 in
set_option maxHeartbeats 8000000 in
theorem iTakeX (w : World) (g : Nat) (TS : Nat → Prop) (t : Tst) (h : TK w g TS t.1 t.2) : Calls Tryz.prog 64 #[.pointer (some ⟨g, 0, none⟩)] w fun e w' =>
    ∃ v, e = .returned v ∧ Il w' v (itemsT t).1 ∧ (∀ b, v.ownBlock = some b → w.heap.size ≤ b) ∧ TK w' g TS (itemsT t).2.1 (itemsT t).2.2 ∧ Fr TS w w' := by
  obtain ⟨i0, hi', hz0, hz1, hz2⟩ := info_parts infoItem
  have hx := Lib.hid (xTk w g TS t 0 16 h)
  have hqi := tk_in t (a := 0) (b := 16) (by omega) (by omega)
  obtain ⟨q, hq⟩ : ∃ q, tk t 0 16 = q := ⟨_, rfl⟩
  have hit : Hid (itemsT t = if mayL (itG q.2 q.1.toNat).2 = true then ((itG q.2 q.1.toNat).2, (itG q.2 q.1.toNat).1) else ([], ((itG q.2 q.1.toNat).1.1, true))) := Lib.hid (by unfold itemsT; rw [hq])
  rw [hq] at hx hqi
  obtain ⟨q1, q2⟩ := q
  obtain ⟨N, rfl⟩ : ∃ N : Nat, q1 = N := ⟨q1.toNat, by dsimp only at hqi; omega⟩
  dsimp only at hx hqi hit
  rw [Int.toNat_natCast] at hit
  have hN : N ≤ 16 := by omega
  obtain ⟨n0, hn0⟩ : ∃ n0, w.heap.size = n0 := ⟨_, rfl⟩
  have HS := Lib.hid hn0
  have HLT := Lib.hid h.lt
  clear h hq hqi
  go_enter Tryz.func64, Tryz.ntmps64
  go_wp2_with (go_at_call 63; refine hx.out.mono ?_; rintro e w1 ⟨rfl, h1, h2⟩; have H1 := Lib.hid h1; have H2 := Lib.hid h2; clear h1 h2)
  go_loopw [3, 7] (fun vo vi wr => ∃ (k : Nat), k ≤ N ∧ vi = .int .i64 k ∧ TK wr g TS (itG q2 k).1.1 (itG q2 k).1.2 ∧ wr.ownsRow n0 124 2 vo k (itCs (itG q2 k).2) ∧ Fr TS w wr) (fun _ vi _ => N - (intOf vi).toNat)
  case atStart => exact ⟨0, Nat.zero_le _, rfl, H1.out, World.ownsRow_nil _ _ _ _, H2.out⟩
  case round =>
    obtain ⟨k, hk, rfl, hT, hO, hF⟩ := hrel
    have HT := Lib.hid hT; have HO := Lib.hid hO; have HF := Lib.hid hF
    obtain ⟨oa, oc, rfl⟩ := row_sl hO
    by_cases hlt : k < N
    · have hkI : (k : Int) < N := by omega
      have hstep : Hid (itG q2 (k + 1) = it1 (itG q2 k)) := Lib.hid rfl
      have HLEN := Lib.hid (itG_len q2 k)
      obtain ⟨S, hSS⟩ : ∃ S, itG q2 k = S := ⟨_, rfl⟩
      rw [hSS] at hstep HT HO HLEN
      obtain ⟨t0, its⟩ := S
      have hTx := Lib.hid (cTText wr g TS t0 16 HT.out (by omega))
      obtain ⟨T1, hT1⟩ : ∃ T, tkT t0 16 = T := ⟨_, rfl⟩
      unfold it1 at hstep
      dsimp only at hstep hTx HT HO HLEN
      rw [hT1] at hTx hstep
      obtain ⟨gd, t1⟩ := T1
      dsimp only at hTx hstep
      have hNx := Lib.hid (fun W (h : TK W g TS t1.1 t1.2) => xTk W g TS t1 1 1099511627776 h)
      obtain ⟨T2, hT2⟩ : ∃ T, tk t1 1 1099511627776 = T := ⟨_, rfl⟩
      rw [hT2] at hNx hstep
      obtain ⟨nn, t2⟩ := T2
      dsimp only at hNx hstep
      have HLT2 := Lib.hid (show ∀ b, TS b → b < n0 by rw [← HS.out]; exact HLT.out)
      clear hT hO hF hSS hT1 hT2
      go_wp2_with (first
        | (go_at_call 107; refine hTx.out.mono ?_; rintro e w4 ⟨rfl, ht4, hf4⟩; have HT4 := Lib.hid ht4; have HF4 := Lib.hid (HF.out.trans hf4); have HO4 := Lib.hid (hf4.row HO.out (fun b hb e => by have := (HO.out.lt b hb).1; have := HLT2.out b e; omega)); clear ht4 hf4)
        | (go_at_call 63; refine (hNx.out _ HT4.out).mono ?_; rintro e w5 ⟨rfl, ht5, hf5⟩; have HT5 := Lib.hid ht5; have HF5 := Lib.hid (HF4.out.trans hf5); have HO5 := Lib.hid (hf5.row HO4.out (fun b hb e => by have := (HO4.out.lt b hb).1; have := HLT2.out b e; omega)); clear ht5 hf5)
        | (at_builtin; refine wpList_append_src rfl _ _ 65 rfl n0 124 i0 (.agg #[.string ⟨#[]⟩, .int .i64 0]) 24 Tryz.underlying65 hi' hz0 hz1 hz2 rfl (by decide) (Value.slice oa k oc) k (itCs its) rfl (((Fr.refl (fun _ => False) w5).alloc _).row HO5.out (fun _ _ e => e)) 1 rfl (rd_obj (cs := [vS gd, .int .i64 nn]) (heap_new _ _) rfl) (by intro u hu; simp only [List.mem_cons, List.not_mem_nil, or_false] at hu; rcases hu with rfl | rfl <;> rfl) (by unfold maxLen; omega) (by omega) (by have := HS.out; have := HF5.out.size; simp; omega) ?_; intro v6 w6 hown6 hgrow6 hloc6; have HO6 := Lib.hid hown6; have hfr6 : Fr (fun c => n0 ≤ c) w5 w6 := (((Fr.refl (fun c => n0 ≤ c) w5).alloc _).trans' (Fr.grown (S := fun c => n0 ≤ c) hgrow6 (fun r hr _ => (HO5.out.lt r hr).1)) (fun _ _ e => e)); have HFR6 := Lib.hid hfr6; clear hown6 hgrow6 hloc6 hfr6))
      go_roundw
      case rel =>
        refine ⟨k + 1, by omega, by go_num, ?_, ?_, ?_⟩
        · rw [hstep.out]; exact HT5.out.fr HFR6.out (fun b hb e => by have := HLT2.out b hb; omega)
        · rw [hstep.out]; dsimp only; rw [itCs_snoc]; exact HO6.out
        · exact HF5.out.trans' HFR6.out (fun b hb e => by have := HS.out; have e : n0 ≤ b := e; omega)
      case measure => simp [intOf]; omega
    · obtain rfl : k = N := by omega
      have hkI : ¬ (k : Int) < k := by omega
      have HLEN := Lib.hid (itG_len q2 k)
      have HOKS := Lib.hid (itG_ok q2 k)
      obtain ⟨S, hSS⟩ : ∃ S, itG q2 k = S := ⟨_, rfl⟩
      rw [hSS] at hit HT HO HLEN HOKS
      obtain ⟨t0, its⟩ := S
      dsimp only at hit HT HO HLEN HOKS
      have HO' := HO.out
      rw [← HLEN.out] at HO'
      have HIL := Lib.hid (Il.own HO' HOKS.out)
      have hM := Lib.hid (iMay wr _ its HIL.out.1)
      rw [HLEN.out] at hM HIL
      clear hT hO hF hSS HO'
      cases hm : mayL its with
      | true =>
        have hr : Hid (itemsT t = (its, t0)) := Lib.hid (by rw [hit.out, if_pos hm])
        rw [hm] at hM
        clear hit hm
        go_wp2_with (go_at_call 108; refine hM.out.mono ?_; rintro e w2 ⟨rfl, hf2⟩; have HF2 := Lib.hid hf2; clear hf2)
        go_ret
        rw [hr.out]
        exact ⟨_, rfl, HIL.out.1.fr HF2.out (fun _ e => e.elim), fun b hb => by have := (HIL.out.2 b hb).1; have := HS.out; omega, HT.out.fr HF2.out (fun _ _ e => e), HF.out.trans' HF2.out (fun _ _ e => e.elim)⟩
      | false =>
        have hr : Hid (itemsT t = ([], (t0.1, true))) := Lib.hid (by rw [hit.out, if_neg (by rw [hm]; simp)])
        rw [hm] at hM
        clear hit hm
        go_wp2_with (first
          | (go_at_call 108; refine hM.out.mono ?_; rintro e w2 ⟨rfl, hf2⟩; have HF2 := Lib.hid hf2; clear hf2)
          | (go_at_call 109; refine (iFault _ g TS t0 (HT.out.fr HF2.out (fun _ _ e => e))).mono ?_; rintro e w3 ⟨rfl, ht3, hf3⟩; have HT3 := Lib.hid ht3; have HF3 := Lib.hid hf3; clear ht3 hf3))
        go_ret
        rw [hr.out]
        exact ⟨.slice none 0 0, rfl, ⟨by simp, none, 0, rfl, fun i p hp => by simp at hp⟩, (by intro b hb; cases hb), HT3.out, (HF.out.trans' HF2.out (fun _ _ e => e.elim)).trans HF3.out⟩
end Go.Proofs.YtlniekobijcanaaGreat
