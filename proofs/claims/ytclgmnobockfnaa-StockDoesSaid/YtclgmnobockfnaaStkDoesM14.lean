/- stock's laws: Op and slices of it opened; slices of items opened. -/
import Derived.Test.YtclgmnobockfnaaStkDoesM2
import Derived.Test.YtclgmnobockfnaaStkDoesM13
namespace Go.Proofs.Ytclgmnobockfnaa
open Go.ChangeShapes Go.WideShapes Go.RowKit Go.Maps
structure SOpV where
  kd : Int
  l : Value
  its : Its
  good : Str
  n : Int
instance : Inhabited SOpV := ⟨⟨0, .slice none 0 0, [], [], 0⟩⟩
def SOpV.cs (r : SOpV) : Array Value := #[.int .i64 r.kd, r.l, vS r.good, .int .i64 r.n]
structure SOpOk (w : World) (r : SOpV) : Prop where
  kd : okI r.kd
  l : Il w r.l r.its
  good : okS r.good
  n : okI r.n
def SOps (w : World) (v : Value) (L : List SOpV) : Prop := L.length ≤ maxLen ∧ ∃ a cap, v = .slice a L.length cap ∧ ∀ i r, L[i]? = some r → ∃ ad, a = some ad ∧ SOpOk w r ∧ ∀ (j : Nat) (u : Value), r.cs[j]? = some u → w.cell? (ad.add (i * 4 + j)) = some u
theorem SOpOk.fr {S : Nat → Prop} {w w' : World} {r : SOpV} (h : SOpOk w r) (hf : Fr S w w') (hS : ∀ b, S b → w.heap.size ≤ b) : SOpOk w' r := ⟨h.kd, h.l.fr hf hS, h.good, h.n⟩
theorem SOps.fr {S : Nat → Prop} {w w' : World} {v : Value} {L : List SOpV} (h : SOps w v L) (hf : Fr S w w') (hS : ∀ b, S b → w.heap.size ≤ b) : SOps w' v L := by
  obtain ⟨h0, a, cap, e, h1⟩ := h
  refine ⟨h0, a, cap, e, fun i r hr => ?_⟩
  obtain ⟨ad, e2, hk, hc⟩ := h1 i r hr
  refine ⟨ad, e2, hk.fr hf hS, fun j u hu => ?_⟩
  have := hc j u hu
  exact hf.cell this (fun hs => by have := hS _ hs; have := World.block_lt_of_cell? w _ ‹w.cell? _ = _›; omega)
theorem SOps.at_ {w : World} {a : Option Addr} {n c i : Nat} {L : List SOpV} {r : SOpV} (h : SOps w (.slice a n c) L) (hr : L[i]? = some r) : ∃ ad, a = some ad ∧ SOpOk w r ∧
    w.cell? (ad.add (i * 4)) = some (.int .i64 r.kd) ∧ w.cell? ⟨(ad.add (i * 4)).block, (ad.add (i * 4)).off + 1, none⟩ = some r.l ∧ w.cell? ⟨(ad.add (i * 4)).block, (ad.add (i * 4)).off + 2, none⟩ = some (vS r.good) ∧ w.cell? ⟨(ad.add (i * 4)).block, (ad.add (i * 4)).off + 3, none⟩ = some (.int .i64 r.n) := by
  obtain ⟨h0, a', cap, e, h1⟩ := h
  injection e with e1 _ _
  obtain ⟨ad, e2, hk, hc⟩ := h1 i r hr
  have hq : ∀ (j : Nat) (u : Value), r.cs[j + 1]? = some u → w.cell? ⟨(ad.add (i * 4)).block, (ad.add (i * 4)).off + (j + 1), none⟩ = some u := fun j u hu => by rw [← add_field]; exact hc (j + 1) u hu
  exact ⟨ad, e1.trans e2, hk, hc 0 _ rfl, hq 0 _ rfl, hq 1 _ rfl, hq 2 _ rfl⟩
section
variable {H : Type} {enc : TypeId × Value → H} {w : World} {base : Nat} {spare : Nat → Bool} {held : Bool}
theorem leaf_str {P : Program} {t : TypeId} {n : Nat} {v : Value} {y : DataW H × List MemPlace} (ht : P.underlying t = some .string) (h : DataW.trod enc P w base spare held n t [v] = some y) : ∃ s : Str, v = vS s ∧ okS s := by
  obtain ⟨s, e, _, hs⟩ := DataW.trod_string ht h
  injection e with e _
  refine ⟨s.data.toList, e, ?_⟩
  unfold okS
  exact hs
set_option maxRecDepth 100000 in
theorem leaf_items {n : Nat} {v : Value} {y : DataW H × List MemPlace} (h : DataW.trod enc Try.prog w base spare held n 23 [v] = some y) : ∃ L, Il w v L := by
  obtain ⟨len, hmax, hs⟩ := leaf_slice (d := 1) Try.underlying23 (by kernel_rfl) (by kernel_rfl) h
  have hmax : len ≤ 9223372036854775807 := hmax
  rcases hs with ⟨rfl, rfl⟩ | ⟨a, cap, rfl, hl, hb, hi⟩
  · exact ⟨[], by simp, none, 0, rfl, fun i p hp => by simp at hp⟩
  · have key : ∀ i, i < len → ∃ p : Str × Int, okS p.1 ∧ okI p.2 ∧ w.cell? (a.add (i * 2)) = some (vS p.1) ∧ w.cell? ⟨(a.add (i * 2)).block, (a.add (i * 2)).off + 1, none⟩ = some (.int .i64 p.2) := fun i hil => by
      obtain ⟨u, m, y, hc, ht⟩ := hi i hil 0 9 (by kernel_rfl)
      obtain ⟨u', m', y', hc', ht'⟩ := hi i hil 1 3 (by kernel_rfl)
      obtain ⟨s, rfl, hs⟩ := leaf_str Try.underlying9 ht
      obtain ⟨x, rfl, hx⟩ := leaf_i64 Try.underlying3 ht'
      have e : (leaves Try.prog 1 66).length = 2 := by kernel_rfl
      rw [e] at hc hc'
      exact ⟨(s, x), hs, hx, hc, by rw [← add_field]; exact hc'⟩
    obtain ⟨X, hX⟩ := Go.Deep.choose_lt key
    refine ⟨(List.range len).map X, (by rw [List.length_map, List.length_range]; exact hmax), some a, cap, (by rw [List.length_map, List.length_range]), fun i p hp => ?_⟩
    rw [List.getElem?_map] at hp
    obtain ⟨i', hi', rfl⟩ := Option.map_eq_some_iff.1 hp
    obtain ⟨hlt, e⟩ := List.getElem?_eq_some_iff.1 hi'
    rw [List.getElem_range] at e
    subst e
    obtain ⟨x0, x1, x2, x3⟩ := hX i (by simpa using hlt)
    exact ⟨x0, x1, a, rfl, x2, x3⟩
set_option maxRecDepth 100000 in
theorem open_items {r : Reach} {b0 : Nat} {v : Value} {d : DataW H} {p : List MemPlace} (hv : Value.okWide Try.prog w r b0 23 v) (h : DataW.Trod enc Try.prog w base spare held 23 v d p) : ∃ L, Il w v L := by
  obtain ⟨fuel, h⟩ := h
  obtain ⟨a0, l0, c0, rfl⟩ := okWide_slice Try.underlying23 hv
  have h' := h
  simp only [Value.cells] at h'
  exact leaf_items (n := fuel) (v := .slice a0 l0 c0) h'
set_option maxRecDepth 100000 in
theorem open_sop {cell : Nat → Option Value} (h : ∀ (j : Nat) (t : TypeId), (leaves Try.prog 3 28)[j]? = some t → ∃ (u : Value) (m : Nat) (y : DataW H × List MemPlace), cell j = some u ∧ DataW.trod enc Try.prog w base spare held m t [u] = some y) :
    ∃ r : SOpV, SOpOk w r ∧ ∀ (j : Nat) (u : Value), r.cs[j]? = some u → cell j = some u := by
  obtain ⟨u0, m0, y0, c0, t0⟩ := h 0 3 (by kernel_rfl)
  obtain ⟨u1, m1, y1, c1, t1⟩ := h 1 23 (by kernel_rfl)
  obtain ⟨u2, m2, y2, c2, t2⟩ := h 2 9 (by kernel_rfl)
  obtain ⟨u3, m3, y3, c3, t3⟩ := h 3 3 (by kernel_rfl)
  obtain ⟨x0, rfl, k0⟩ := leaf_i64 Try.underlying3 t0
  obtain ⟨L, hL⟩ := leaf_items t1
  obtain ⟨s, rfl, k2⟩ := leaf_str Try.underlying9 t2
  obtain ⟨x3, rfl, k3⟩ := leaf_i64 Try.underlying3 t3
  refine ⟨⟨x0, u1, L, s, x3⟩, ⟨k0, hL, k2, k3⟩, fun j u hu => ?_⟩
  match j, hu with
  | 0, hu => cases hu; exact c0
  | 1, hu => cases hu; exact c1
  | 2, hu => cases hu; exact c2
  | 3, hu => cases hu; exact c3
  | j + 4, hu => simp [SOpV.cs] at hu
set_option maxRecDepth 100000 in
theorem open_sops {r : Reach} {b0 : Nat} {v : Value} {d : DataW H} {p : List MemPlace} (hv : Value.okWide Try.prog w r b0 22 v) (h : DataW.Trod enc Try.prog w base spare held 22 v d p) : ∃ L, SOps w v L := by
  obtain ⟨fuel, h⟩ := h
  obtain ⟨a0, l0, c0, rfl⟩ := okWide_slice Try.underlying22 hv
  obtain ⟨len, hmax, hs⟩ := leaf_slice (d := 3) Try.underlying22 (by kernel_rfl) (by kernel_rfl) h
  rcases hs with ⟨e, rfl⟩ | ⟨a, cap, e, hl, hb, hi⟩
  · exact ⟨[], Nat.zero_le _, none, 0, e, fun i r hr => by simp at hr⟩
  · have key : ∀ i, i < len → ∃ r : SOpV, SOpOk w r ∧ ∀ (j : Nat) (u : Value), r.cs[j]? = some u → w.cell? (a.add (i * 4 + j)) = some u := fun i hil =>
      open_sop (cell := fun j => w.cell? (a.add (i * 4 + j))) (fun j t ht => hi i hil j t ht)
    obtain ⟨X, hX⟩ := Go.Deep.choose_lt key
    refine ⟨(List.range len).map X, (by rw [List.length_map, List.length_range]; exact hmax), some a, cap, (by rw [e, List.length_map, List.length_range]), fun i r hr => ?_⟩
    rw [List.getElem?_map] at hr
    obtain ⟨i', hi', rfl⟩ := Option.map_eq_some_iff.1 hr
    obtain ⟨hlt, e⟩ := List.getElem?_eq_some_iff.1 hi'
    rw [List.getElem_range] at e
    subst e
    have := hX i (by simpa using hlt)
    exact ⟨a, rfl, this.1, this.2⟩
set_option maxRecDepth 100000 in
/-- An Op by value. -/
theorem open_sop1 {r : Reach} {b0 : Nat} {v : Value} {d : DataW H} {p : List MemPlace} (hv : Value.okWide Try.prog w r b0 28 v) (h : DataW.Trod enc Try.prog w base spare held 28 v d p) : ∃ r : SOpV, v = .agg r.cs ∧ SOpOk w r := by
  obtain ⟨fuel, h⟩ := h
  obtain ⟨cs, rfl, hsz⟩ := okWide_struct Try.underlying28 hv
  have hc : Try.prog.cellsOf 28 = 4 := by kernel_rfl
  rw [hc] at hsz
  have hl := leafs_of (n := 3) (t := 28) (by kernel_rfl) (by rw [hc]; simpa [Value.cells] using hsz) h
  obtain ⟨r, hr, hcell⟩ := open_sop (cell := fun j => (Value.agg cs).cells.toList[j]?) (fun j t ht => hl j t ht)
  refine ⟨r, ?_, hr⟩
  congr 1
  apply Array.ext
  · rw [hsz]; rfl
  · intro i h1 h2
    have := hcell i r.cs[i] (by simp)
    simpa [Value.cells, h1] using this
end
end Go.Proofs.Ytclgmnobockfnaa
