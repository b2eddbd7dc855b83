/- Arguments opened to cells: structs of ints by value, slices of structs of ints. -/
import Derived.Test.YtakjiicnbocjeaaIdDoesM1
import Derived.Test.YtakjiicnbocjeaaIdDoesM38
import Derived.Lib.SmallJoins
import Derived.Deep.Slices
import Derived.Deep.Fields
import Derived.ChangeSame
namespace Go.Proofs.Ytakjiicnbocjeaa
open Go.Joins Go.ChangeShapes Go.WideShapes Go.RowKit Go.Deep
section
variable {H : Type} {enc : TypeId × Value → H} {P : Program} {w : World} {base : Nat} {spare : Nat → Bool} {held : Bool}
theorem open_ops3 {ti : TypeId} {r : Reach} {b0 : Nat} {t : TypeId} {f0 f1 f2 : Field} {v : Value} {d : DataW H} {p : List MemPlace} (hs : P.underlying t = some (.struct #[f0, f1, f2])) (ti1 : P.underlying ti = some (.int .i64)) (hf : f0.type = ti ∧ f1.type = ti ∧ f2.type = ti)
    (hone : oneCellFields P #[f0, f1, f2] = true) (hC : P.cellsOf t = 3)
    (hv : Value.okWide P w r b0 t v) (h : DataW.Trod enc P w base spare held t v d p) : ∃ a b c, v = .agg #[.int .i64 a, .int .i64 b, .int .i64 c] ∧ okI a ∧ okI b ∧ okI c := by
  obtain ⟨v0, v1, v2, y0, y1, y2, n, rfl, -, -, h0, h1, h2⟩ := open_agg3 hs hone hC hv h
  obtain ⟨e0, e1, e2⟩ := hf
  rw [e0] at h0; rw [e1] at h1; rw [e2] at h2
  obtain ⟨a, ha, -, wa⟩ := DataW.trod_int ti1 h0
  obtain ⟨b, hb, -, wb⟩ := DataW.trod_int ti1 h1
  obtain ⟨c, hc, -, wc⟩ := DataW.trod_int ti1 h2
  injection ha with ha _; injection hb with hb _; injection hc with hc _
  subst ha hb hc
  exact ⟨a, b, c, rfl, wf_okI.1 wa, wf_okI.1 wb, wf_okI.1 wc⟩
theorem open_slice_fields {t e : TypeId} {fs : Array Field} {fuel : Nat} {cs : List Value} {x : DataW H × List MemPlace} (ht : P.underlying t = some (.slice e)) (he : P.underlying e = some (.struct fs))
    (hone : oneCellFields P fs = true) (hC : P.cellsOf e = fs.size) (h : DataW.trod enc P w base spare held fuel t cs = some x) :
    (cs = [.slice none 0 0] ∧ x = (.nil, [])) ∨
    ∃ (a : Addr) (len cap m : Nat) (D : Nat → DataW H) (Pl : Nat → List MemPlace), cs = [.slice (some a) len cap] ∧ base ≤ a.block ∧ len ≤ cap ∧ cap ≤ maxLen ∧ m = (if spare a.block then cap else len) ∧
      x = (.slice ((List.range len).map D) ((List.range (m - len)).map fun j => D (len + j)), MemPlace.row a (m * fs.size) ++ (List.range m).flatMap Pl) ∧
      ∀ i, i < m → ∃ (ys : List (DataW H × List MemPlace)) (n : Nat), D i = .agg (ys.map (·.1)) ∧ Pl i = ys.flatMap (·.2) ∧ ys.length = fs.size ∧
        ∀ (j : Nat) (f : Field), fs[j]? = some f → ∃ (v : Value) (y : DataW H × List MemPlace), w.cell? (a.add (i * fs.size + j)) = some v ∧ ys[j]? = some y ∧ DataW.trod enc P w base spare held n f.type [v] = some y := by
  rcases open_slice ht h with h0 | ⟨a, len, cap, m, n, D, Pl, hcs, hb, hl, hm, hmm, hx, hi⟩
  · exact .inl h0
  · refine .inr ⟨a, len, cap, m, D, Pl, hcs, hb, hl, hm, hmm, by rw [hC] at hx; exact hx, fun i him => ?_⟩
    obtain ⟨cs', hc, ht'⟩ := hi i him
    rw [hC] at hc
    obtain ⟨ys, n', hn', hy, hlen, hyl, hf⟩ := DataW.trod_struct he ht'
    obtain ⟨_, hcl, hat⟩ := World.cells?_some hc
    simp only [Prod.mk.injEq] at hy
    refine ⟨ys, n', hy.1, hy.2, hyl, fun j f hj => ?_⟩
    obtain ⟨ho, hk⟩ := hone_of hone j f hj
    have hjl : j < fs.size := (Array.getElem?_eq_some_iff.1 hj).1
    have hcell := hat j hjl
    have hv : cs'[j]? = some (cs'[j]'(by omega)) := List.getElem?_eq_getElem (by omega)
    have h1 := hf j f hj
    rw [ho, hk] at h1
    have hone' : (cs'.drop j).take 1 = [cs'[j]'(by omega)] := by
      rw [List.drop_eq_getElem_cons (by omega)]
      rfl
    rw [hone'] at h1
    have hys : ys[j]? = some (ys[j]'(by omega)) := List.getElem?_eq_getElem (by omega)
    refine ⟨_, _, ?_, hys, h1.trans hys⟩
    rw [← Go.Deep.add_add, hcell, hv]
/-- A slice of structs of k ints: its cells, row by row. -/
def SlI (w : World) (v : Value) (k : Nat) (L : List (List Int)) : Prop :=
  (v = .slice none 0 0 ∧ L = []) ∨ ∃ (a : Addr) (cap : Nat), v = .slice (some a) L.length cap ∧ L.length ≤ cap ∧ cap ≤ maxLen ∧
    ∀ i r, L[i]? = some r → r.length = k ∧ (∀ x ∈ r, okI x) ∧ ∀ (j : Nat) (x : Int), r[j]? = some x → w.cell? (a.add (i * k + j)) = some (.int .i64 x)
theorem open_slI {ti : TypeId} {r : Reach} {b0 : Nat} {t e : TypeId} {fs : Array Field} {v : Value} {d : DataW H} {p : List MemPlace} (ht : P.underlying t = some (.slice e)) (he : P.underlying e = some (.struct fs))
    (ti1 : P.underlying ti = some (.int .i64)) (hf0 : (fs.toList.all fun f => decide (f.type = ti)) = true) (hone : oneCellFields P fs = true) (hC : P.cellsOf e = fs.size)
    (hv : Value.okWide P w r b0 t v) (h : DataW.Trod enc P w base spare held t v d p) : ∃ L, SlI w v fs.size L := by
  have hf : ∀ (j : Nat) (f : Field), fs[j]? = some f → f.type = ti := fun j f h => by simpa using List.all_eq_true.1 hf0 f (by have := Array.mem_of_getElem? h; simpa using this)
  obtain ⟨fuel, h⟩ := h
  have hvs : ∃ a l c, v = .slice a l c := okWide_slice ht hv
  obtain ⟨a0, l0, c0, rfl⟩ := hvs
  rcases open_slice_fields ht he hone hC h with ⟨h0, _⟩ | ⟨a, len, cap, m, D, Pl, hcs, hb, hl, hm, hmm, hx, hi⟩
  · have h0' : Value.slice a0 l0 c0 = .slice none 0 0 := by simpa [Value.cells] using h0
    exact ⟨[], .inl ⟨h0', rfl⟩⟩
  · have h0' : Value.slice a0 l0 c0 = .slice (some a) len cap := by simpa [Value.cells] using hcs
    have hlm : len ≤ m := by rw [hmm]; split <;> omega
    have key : ∀ i, i < len → ∃ r : List Int, r.length = fs.size ∧ (∀ x ∈ r, okI x) ∧ ∀ (j : Nat) (x : Int), r[j]? = some x → w.cell? (a.add (i * fs.size + j)) = some (.int .i64 x) := by
      intro i hil
      obtain ⟨ys, n, -, -, -, hcell⟩ := hi i (by omega)
      have hone1 : ∀ j, j < fs.size → ∃ x, okI x ∧ w.cell? (a.add (i * fs.size + j)) = some (.int .i64 x) := by
        intro j hj
        obtain ⟨v, y, hc, -, hy⟩ := hcell j fs[j] (by simp [hj])
        rw [hf j fs[j] (by simp [hj])] at hy
        obtain ⟨x, hx, -, wx⟩ := DataW.trod_int ti1 hy
        injection hx with hx _
        subst hx
        exact ⟨x, wf_okI.1 wx, hc⟩
      obtain ⟨X, hX⟩ := choose_lt (α := Int) (p := fun j x => okI x ∧ w.cell? (a.add (i * fs.size + j)) = some (.int .i64 x)) hone1
      refine ⟨(List.range fs.size).map X, by simp, ?_, ?_⟩
      · intro x hx
        obtain ⟨j, hj, rfl⟩ := List.mem_map.1 hx
        exact (hX j (by simpa using hj)).1
      · intro j x hx
        rw [List.getElem?_map] at hx
        obtain ⟨j', hj', rfl⟩ := Option.map_eq_some_iff.1 hx
        obtain ⟨hlt, hj2⟩ := List.getElem?_eq_some_iff.1 hj'
        rw [List.getElem_range] at hj2
        subst hj2
        exact (hX j (by simpa using hlt)).2
    obtain ⟨R, hR⟩ := choose_lt (α := List Int) (p := fun i r => r.length = fs.size ∧ (∀ x ∈ r, okI x) ∧ ∀ (j : Nat) (x : Int), r[j]? = some x → w.cell? (a.add (i * fs.size + j)) = some (.int .i64 x)) key
    have h0' := h0'
    injection h0' with e1 e2 e3
    subst e1 e2 e3
    refine ⟨(List.range l0).map R, .inr ⟨a, c0, by simp, by simpa using hl, hm, ?_⟩⟩
    intro i r hr
    rw [List.getElem?_map] at hr
    obtain ⟨i', hi', rfl⟩ := Option.map_eq_some_iff.1 hr
    obtain ⟨hlt, hj2⟩ := List.getElem?_eq_some_iff.1 hi'
    rw [List.getElem_range] at hj2
    subst hj2
    exact hR i (by simpa using hlt)
theorem SlI.len {v : Value} {k : Nat} {L : List (List Int)} (h : SlI w v k L) : L.length ≤ maxLen ∧ ∃ a c, v = .slice a L.length c := by
  rcases h with ⟨rfl, rfl⟩ | ⟨a, cap, rfl, h1, h2, -⟩
  · exact ⟨Nat.zero_le _, _, _, rfl⟩
  · exact ⟨by omega, _, _, rfl⟩
theorem add_field (a : Addr) (n j : Nat) : a.add (n + (j + 1)) = ⟨(a.add n).block, (a.add n).off + (j + 1), none⟩ := by
  rw [← Go.Deep.add_add]; rfl
theorem SlI.some {a0 : Option Addr} {n c k i : Nat} {L : List (List Int)} {r : List Int} (h : SlI w (.slice a0 n c) k L) (hr : L[i]? = .some r) : ∃ a, a0 = .some a := by
  rcases h with ⟨_, rfl⟩ | ⟨a, cap, e, _⟩
  · simp at hr
  · injection e with e1 _ _
    exact ⟨a, e1⟩
theorem SlI.row {a : Addr} {n c k i : Nat} {L : List (List Int)} {r : List Int} (h : SlI w (.slice (.some a) n c) k L) (hr : L[i]? = .some r) : r.length = k ∧ (∀ x ∈ r, okI x) ∧
    (∀ x, r[0]? = .some x → w.cell? (a.add (i * k)) = .some (.int .i64 x)) ∧ ∀ (j : Nat) (x : Int), r[j + 1]? = .some x → w.cell? ⟨(a.add (i * k)).block, (a.add (i * k)).off + (j + 1), none⟩ = .some (.int .i64 x) := by
  rcases h with ⟨_, rfl⟩ | ⟨a', cap, e, _, _, h3⟩
  · simp at hr
  · injection e with e1 _ _
    injection e1 with e1
    subst e1
    obtain ⟨g1, g2, g3⟩ := h3 i r hr
    exact ⟨g1, g2, fun x hx => g3 0 x hx, fun j x hx => by rw [← add_field]; exact g3 (j + 1) x hx⟩
theorem SlI.below {w' : World} {v : Value} {k : Nat} {L : List (List Int)} (h : SlI w v k L) (hk : 0 < k) (hb : Below w.heap.size w w') : SlI w' v k L := by
  rcases h with ⟨rfl, rfl⟩ | ⟨a, cap, rfl, h1, h2, h3⟩
  · exact .inl ⟨rfl, rfl⟩
  · refine .inr ⟨a, cap, rfl, h1, h2, fun i r hr => ⟨(h3 i r hr).1, (h3 i r hr).2.1, fun j x hx => ?_⟩⟩
    have hc := (h3 i r hr).2.2 j x hx
    have hlt : (a.add (i * k + j)).block < w.heap.size := by
      refine Nat.lt_of_not_le fun hle => ?_
      simp [World.cell?, Array.getElem?_eq_none hle] at hc
    simp only [World.cell?, hb.block _ hlt] at hc ⊢
    exact hc
end
end Go.Proofs.Ytakjiicnbocjeaa
