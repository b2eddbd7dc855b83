/- An argument that is a slice of bytes, opened: its bytes, its block, its reach (no other package in sight). -/
import Derived.Test.YtclgmnobockfnaaStkUnpacksM2
import Derived.Test.YtclgmnobockfnaaStkUnpacksM39
import Derived.Test.YtclgmnobockfnaaStkUnpacksM22
import Derived.SizedLaws
namespace Go.Proofs.Ytclgmnobockfnaa
open Go.ChangeShapes Go.WideShapes Go.RowKit Go.Deep
theorem Bs.rdA {w : World} {a : Option Addr} {n c : Nat} {bs : List Int} (h : Bs w (.slice a n c) bs) : Rd w 1 a bs.length (u8s bs) := by
  obtain ⟨_, a', c', e, hx⟩ := h
  injection e with e1 e2 e3
  subst e1
  refine ⟨by simp [u8s], fun hp => ?_⟩
  obtain ⟨x0, hx0⟩ : ∃ x0, bs[0]? = some x0 := ⟨bs[0], List.getElem?_eq_getElem hp⟩
  obtain ⟨_, _, ad, rfl, _⟩ := hx 0 x0 hx0
  refine ⟨ad, rfl, fun j u hu => ?_⟩
  simp only [u8s, List.getElem?_map, Option.map_eq_some_iff] at hu
  obtain ⟨x, hx', rfl⟩ := hu
  obtain ⟨_, _, ad', e, hcl⟩ := hx j x hx'
  cases e
  exact hcl
section
variable {H : Type} {enc : TypeId × Value → H} {w : World} {base : Nat} {spare : Nat → Bool} {held : Bool}
set_option maxRecDepth 100000 in
theorem leaf_bytes {n : Nat} {v : Value} {y : DataW H × List MemPlace} (h : DataW.trod enc Try.prog w base spare held n 31 [v] = some y) : ∃ bs, Bs w v bs := by
  obtain ⟨len, hmax, hs⟩ := leaf_slice (d := 0) Try.underlying31 (by kernel_rfl) (by kernel_rfl) h
  have hmax : len ≤ 9223372036854775807 := hmax
  rcases hs with ⟨rfl, rfl⟩ | ⟨a, cap, rfl, hl, hb, hi⟩
  · exact ⟨[], Bs.nil w⟩
  · have key : ∀ i, i < len → ∃ x : Int, 0 ≤ x ∧ x < 256 ∧ w.cell? (a.add i) = some (.int .u8 x) := fun i hil => by
      obtain ⟨u, m, y, hc, ht⟩ := hi i hil 0 5 rfl
      obtain ⟨x, rfl, hw⟩ := leaf_int Try.underlying5 ht
      simp [Lit.wf, IntKind.min, IntKind.max, IntKind.signed, IntKind.bits] at hw
      refine ⟨x, by omega, by omega, ?_⟩
      have e : (leaves Try.prog 0 5).length = 1 := rfl
      rw [e, Nat.mul_one, Nat.add_zero] at hc
      exact hc
    obtain ⟨X, hX⟩ := Go.Deep.choose_lt key
    refine ⟨(List.range len).map X, ⟨(by rw [List.length_map, List.length_range]; exact hmax), some a, cap, (by rw [List.length_map, List.length_range]), fun i x hx => ?_⟩⟩
    rw [List.getElem?_map] at hx
    obtain ⟨i', hi', rfl⟩ := Option.map_eq_some_iff.1 hx
    obtain ⟨hlt, e⟩ := List.getElem?_eq_some_iff.1 hi'
    rw [List.getElem_range] at e
    subst e
    obtain ⟨x0, x1, x2⟩ := hX i (by simpa using hlt)
    exact ⟨x0, x1, a, rfl, x2⟩
end
theorem own_of_ok {P : Program} {w : World} {r : Reach} {b0 : Nat} {t e : TypeId} {v : Value} (ht : P.underlying t = some (.slice e)) (h : Value.okWide P w r b0 t v) :
    (∀ a n c, v = .slice a n c → n ≤ c) ∧ ∀ b, v.ownBlock = some b → b < w.heap.size := by
  simp only [Value.okWide, ht, Cell.okWide] at h
  obtain ⟨a, n, c, rfl⟩ : ∃ a n c, v = .slice a n c := by
    cases v <;> simp_all [Cell.ok]
  cases a with
  | none =>
    have h : n = 0 ∧ c = 0 := by
      simp only [Cell.ok, ht] at h
      split at h <;> simp_all
    obtain ⟨rfl, rfl⟩ := h
    exact ⟨fun a n c e => by injection e with _ e1 e2; omega, fun b e => by cases e⟩
  | some a =>
    have h : n ≤ c ∧ (c : Int) ≤ IntKind.i64.max ∧ w.has P r b0 a e c := by
      simpa [Cell.ok, ht] using h
    obtain ⟨h1, h2, h3, h4, row, cells, h5, h6⟩ := h
    refine ⟨fun a n c e => by injection e with _ e1 e2; omega, fun b e => ?_⟩
    cases e
    refine Nat.lt_of_not_le fun hle => ?_
    simp [World.shape?, Array.getElem?_eq_none hle] at h5
set_option maxRecDepth 100000 in
theorem open_bytes {H : Type} {enc : TypeId × Value → H} {w : World} {spare : Nat → Bool} {held : Bool} {r : Reach} {b0 : Nat} {v : Value} {d : DataW H} {p : List MemPlace} {ts : List TypeId} {ds : List (DataW H)} {j : Nat}
    (hv : Value.okWide Try.prog w r b0 31 v) (h : DataW.Trod enc Try.prog w 0 spare held 31 v d p)
    (hs : (DataW.weightsEach Try.prog ts ds).all (· ≤ reachBytes) = true) (ht : ts[j]? = some 31) (hd : ds[j]? = some d) :
    ∃ bs, Bs w v bs ∧ (∀ a n c, v = .slice a n c → n ≤ c) ∧ (∀ b, v.ownBlock = some b → b < w.heap.size) ∧ (bs.length : Int) ≤ 140737488351232 := by
  obtain ⟨o1, o2⟩ := own_of_ok Try.underlying31 hv
  obtain ⟨fuel, h⟩ := h
  obtain ⟨a0, l0, c0, rfl⟩ := okWide_slice Try.underlying31 hv
  have h' := h
  simp only [Value.cells] at h'
  obtain ⟨bs, hb⟩ := leaf_bytes (n := fuel) (v := .slice a0 l0 c0) h'
  refine ⟨bs, hb, o1, o2, ?_⟩
  have hl : l0 = bs.length := by
    obtain ⟨_, a, c, e, _⟩ := hb
    injection e
  rcases open_slice Try.underlying31 h with ⟨h0, _⟩ | ⟨a, len, cap, m, k, D, Pl, hcs, hbb, hle, hm, hmm, hx, hi⟩
  · have h0' : Value.slice a0 l0 c0 = .slice none 0 0 := by simpa [Value.cells] using h0
    injection h0' with _ e2 _
    omega
  · have h0' : Value.slice a0 l0 c0 = .slice (some a) len cap := by simpa [Value.cells] using hcs
    injection h0' with _ e2 _
    injection hx with hx _
    subst hx
    have := sized_slice hs ht hd Try.underlying31
    have e : Try.prog.bytesOf 5 = 1 := by kernel_rfl
    rw [e] at this
    simp only [List.length_map, List.length_range, reachBytes] at this
    omega
end Go.Proofs.Ytclgmnobockfnaa
