/- ident's laws: slices of Op opened, with a bound on each body. -/
import Derived.Test.YtakjiicnbocjeaaIdDoesM41
import Derived.Test.YtakjiicnbocjeaaIdDoesM42
import Derived.Test.YtakjiicnbocjeaaIdDoesM43
import Derived.Test.YtakjiicnbocjeaaIdDoesM44
namespace Go.Proofs.Ytakjiicnbocjeaa
open Go.ChangeShapes Go.WideShapes Go.RowKit Go.Maps
/-- An Op whose body is no longer than memory bears. -/
def OpOkZ (w : World) (r : OpV) : Prop := OpOk w r ∧ okI r.a.code ∧ okI r.a.k ∧ (r.bs.length : Int) ≤ 140737488351232
theorem opZKeeps : Keeps OpOkZ := fun _ _ _ _ h hf hS => ⟨h.1.fr hf hS, h.2⟩
theorem opSize (r : OpV) : r.cs.size = 8 := rfl
section
variable {H : Type} {enc : TypeId × Value → H} {w : World} {base : Nat} {spare : Nat → Bool} {held : Bool}
theorem leaf_bytesZ {n : Nat} {v : Value} {y : DataW H × List MemPlace} (h : DataW.trod enc Try.prog w base spare held n 28 [v] = some y) (hz : ∀ m ∈ y.1.weights Try.prog 28, m ≤ 140737488351232) : ∃ bs, Bs w v bs ∧ (bs.length : Int) ≤ 140737488351232 := by
  obtain ⟨bs, hb⟩ := leaf_bytes h
  refine ⟨bs, hb, ?_⟩
  obtain ⟨len, hmax, hs⟩ := leaf_sliceZ (Z := fun m => m ≤ 140737488351232) (d := 0) Try.underlying28 (by kernel_rfl) (by kernel_rfl) h hz
  obtain ⟨_, a, c, e, _⟩ := hb
  rcases hs with ⟨e2, h0⟩ | ⟨a2, cap, e2, hl, hb2, ⟨m, hm, hzm⟩, -⟩
  · rw [e2] at e
    injection e with _ e3 _
    omega
  · rw [e2] at e
    injection e with _ e3 _
    have eb : Try.prog.bytesOf 5 = 1 := by kernel_rfl
    rw [eb] at hzm
    omega
set_option maxRecDepth 100000 in
theorem open_opZ (cell : Nat → Option Value) (h : ∀ (j : Nat) (t : TypeId), (leaves Try.prog 3 33)[j]? = some t → ∃ (u : Value) (m : Nat) (y : DataW H × List MemPlace), cell j = some u ∧ DataW.trod enc Try.prog w base spare held m t [u] = some y ∧ ∀ m ∈ y.1.weights Try.prog t, m ≤ 140737488351232) :
    ∃ r : OpV, OpOkZ w r ∧ ∀ (j : Nat) (u : Value), r.cs[j]? = some u → cell j = some u := by
  obtain ⟨u0, m0, y0, c0, t0, -⟩ := h 0 3 (by kernel_rfl)
  obtain ⟨u1, m1, y1, c1, t1, -⟩ := h 1 3 (by kernel_rfl)
  obtain ⟨u2, m2, y2, c2, t2, -⟩ := h 2 3 (by kernel_rfl)
  obtain ⟨u3, m3, y3, c3, t3, z3⟩ := h 3 28 (by kernel_rfl)
  obtain ⟨u4, m4, y4, c4, t4, -⟩ := h 4 3 (by kernel_rfl)
  obtain ⟨u5, m5, y5, c5, t5, -⟩ := h 5 3 (by kernel_rfl)
  obtain ⟨u6, m6, y6, c6, t6, -⟩ := h 6 29 (by kernel_rfl)
  obtain ⟨u7, m7, y7, c7, t7, -⟩ := h 7 3 (by kernel_rfl)
  obtain ⟨x0, rfl, k0⟩ := leaf_i64 Try.underlying3 t0
  obtain ⟨x1, rfl, k1⟩ := leaf_i64 Try.underlying3 t1
  obtain ⟨x2, rfl, k2⟩ := leaf_i64 Try.underlying3 t2
  obtain ⟨bs, hbs, hl⟩ := leaf_bytesZ t3 z3
  obtain ⟨x4, rfl, k4⟩ := leaf_i64 Try.underlying3 t4
  obtain ⟨x5, rfl, k5⟩ := leaf_i64 Try.underlying3 t5
  obtain ⟨x6, rfl, k6⟩ := leaf_i64 Try.underlying29 t6
  obtain ⟨x7, rfl, k7⟩ := leaf_i64 Try.underlying3 t7
  refine ⟨⟨x0, x1, x2, u3, bs, ⟨x4, x5, x6, x7⟩⟩, ⟨⟨k1, k2, hbs, k4, k5⟩, k6, k7, hl⟩, fun j u hu => ?_⟩
  match j, hu with
  | 0, hu => cases hu; exact c0
  | 1, hu => cases hu; exact c1
  | 2, hu => cases hu; exact c2
  | 3, hu => cases hu; exact c3
  | 4, hu => cases hu; exact c4
  | 5, hu => cases hu; exact c5
  | 6, hu => cases hu; exact c6
  | 7, hu => cases hu; exact c7
  | j + 8, hu => simp [OpV.cs] at hu
/-- An argument: a slice of structs, opened by its elements' own opener. -/
theorem open_sqZ {α : Type} {k : Nat} {cs : α → Array Value} {ok : World → α → Prop} {P : Program} {Z : Nat → Prop} {t e : TypeId} {d : Nat} {r : Reach} {b0 : Nat} {v : Value} {x : DataW H} {p : List MemPlace} (ht : P.underlying t = some (.slice e)) (hok : flatOk P d e = true) (hc : P.cellsOf e = (leaves P d e).length) (hl : (leaves P d e).length = k)
    (hopen : ∀ (cell : Nat → Option Value), (∀ (j : Nat) (t : TypeId), (leaves P d e)[j]? = some t → ∃ (u : Value) (m : Nat) (y : DataW H × List MemPlace), cell j = some u ∧ DataW.trod enc P w base spare held m t [u] = some y ∧ ∀ m ∈ y.1.weights P t, Z m) → ∃ r : α, ok w r ∧ ∀ (j : Nat) (u : Value), (cs r)[j]? = some u → cell j = some u)
    (hv : Value.okWide P w r b0 t v) (h : DataW.Trod enc P w base spare held t v x p) (hz : ∀ m ∈ x.weights P t, Z m) : ∃ L, Sq k cs ok w v L := by
  obtain ⟨fuel, h⟩ := h
  obtain ⟨a0, l0, c0, rfl⟩ := okWide_slice ht hv
  obtain ⟨len, hmax, hs⟩ := leaf_sliceZ (Z := Z) (n := fuel) ht hok hc (by simpa only [Value.cells] using h) hz
  rcases hs with ⟨e, rfl⟩ | ⟨a, cap, e, hle, hb, -, hi⟩
  · exact ⟨[], Nat.zero_le _, none, 0, e, fun i r hr => by simp at hr⟩
  · have key : ∀ i, i < len → ∃ r : α, ok w r ∧ ∀ (j : Nat) (u : Value), (cs r)[j]? = some u → w.cell? (a.add (i * k + j)) = some u := fun i hil =>
      hopen (fun j => w.cell? (a.add (i * k + j))) (fun j t ht => by have := hi i hil j t ht; rw [hl] at this; exact this)
    rcases Nat.eq_zero_or_pos len with rfl | hpos
    · exact ⟨[], Nat.zero_le _, some a, cap, by rw [e]; rfl, fun i r hr => by simp at hr⟩
    · obtain ⟨x0, _⟩ := key 0 hpos
      haveI : Inhabited α := ⟨x0⟩
      obtain ⟨X, hX⟩ := Go.Deep.choose_lt key
      refine ⟨(List.range len).map X, (by rw [List.length_map, List.length_range]; exact hmax), some a, cap, (by rw [e, List.length_map, List.length_range]), fun i r hr => ?_⟩
      rw [List.getElem?_map] at hr
      obtain ⟨i', hi', rfl⟩ := Option.map_eq_some_iff.1 hr
      obtain ⟨hlt, e⟩ := List.getElem?_eq_some_iff.1 hi'
      rw [List.getElem_range] at e
      subst e
      have := hX i (by simpa using hlt)
      exact ⟨this.1, a, rfl, this.2⟩
set_option maxRecDepth 100000 in
theorem open_opsZ {r : Reach} {b0 : Nat} {v : Value} {d : DataW H} {p : List MemPlace} (hv : Value.okWide Try.prog w r b0 22 v) (h : DataW.Trod enc Try.prog w base spare held 22 v d p)
    (hz : ∀ m ∈ d.weights Try.prog 22, m ≤ 140737488351232) : ∃ L, Sq 8 OpV.cs OpOkZ w v L :=
  open_sqZ (Z := fun m => m ≤ 140737488351232) (d := 3) Try.underlying22 (by kernel_rfl) (by kernel_rfl) (by kernel_rfl) open_opZ hv h hz
end
end Go.Proofs.Ytakjiicnbocjeaa
