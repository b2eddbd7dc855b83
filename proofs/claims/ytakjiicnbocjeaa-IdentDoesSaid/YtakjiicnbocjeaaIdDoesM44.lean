/- An argument that is a slice of bytes, opened: its bytes, its block, its reach. -/
import Derived.Test.YtakjiicnbocjeaaIdDoesM41
import Derived.SizedLaws
namespace Go.Proofs.Ytakjiicnbocjeaa
open Go.ChangeShapes Go.WideShapes Go.RowKit Go.Deep
theorem own_of_ok {P : Program} {w : World} {r : Reach} {b0 : Nat} {t e : TypeId} {v : Value} (ht : P.underlying t = some (.slice e)) (h : Value.okWide P w r b0 t v) :
    (∀ a n c, v = .slice a n c → n ≤ c) ∧ ∀ b, v.ownBlock = some b → b < w.heap.size := by
  simp only [Value.okWide, ht, Cell.okWide] at h
  obtain ⟨a, n, c, rfl⟩ : ∃ a n c, v = .slice a n c := by
    cases v <;> simp_all [Cell.ok]
  cases a with
  | none =>
    have h : n = 0 ∧ c = 0 := by
      simp only [Cell.ok, ht] at h
      split at h <;> simp_all
    obtain ⟨rfl, rfl⟩ := h
    exact ⟨fun a n c e => by injection e with _ e1 e2; omega, fun b e => by cases e⟩
  | some a =>
    have h : n ≤ c ∧ (c : Int) ≤ IntKind.i64.max ∧ w.has P r b0 a e c := by
      simpa [Cell.ok, ht] using h
    obtain ⟨h1, h2, h3, h4, row, cells, h5, h6⟩ := h
    refine ⟨fun a n c e => by injection e with _ e1 e2; omega, fun b e => ?_⟩
    cases e
    refine Nat.lt_of_not_le fun hle => ?_
    simp [World.shape?, Array.getElem?_eq_none hle] at h5
set_option maxRecDepth 100000 in
theorem open_bytes {H : Type} {enc : TypeId × Value → H} {w : World} {spare : Nat → Bool} {held : Bool} {r : Reach} {b0 : Nat} {v : Value} {d : DataW H} {p : List MemPlace} {ts : List TypeId} {ds : List (DataW H)} {j : Nat}
    (hv : Value.okWide Try.prog w r b0 28 v) (h : DataW.Trod enc Try.prog w 0 spare held 28 v d p)
    (hs : (DataW.weightsEach Try.prog ts ds).all (· ≤ reachBytes) = true) (ht : ts[j]? = some 28) (hd : ds[j]? = some d) :
    ∃ bs, Bs w v bs ∧ (∀ a n c, v = .slice a n c → n ≤ c) ∧ (∀ b, v.ownBlock = some b → b < w.heap.size) ∧ (bs.length : Int) ≤ 140737488351232 := by
  obtain ⟨o1, o2⟩ := own_of_ok Try.underlying28 hv
  obtain ⟨fuel, h⟩ := h
  obtain ⟨a0, l0, c0, rfl⟩ := okWide_slice Try.underlying28 hv
  have h' := h
  simp only [Value.cells] at h'
  obtain ⟨bs, hb⟩ := leaf_bytes (n := fuel) (v := .slice a0 l0 c0) h'
  refine ⟨bs, hb, o1, o2, ?_⟩
  have hl : l0 = bs.length := by
    obtain ⟨_, a, c, e, _⟩ := hb
    injection e
  rcases open_slice Try.underlying28 h with ⟨h0, _⟩ | ⟨a, len, cap, m, k, D, Pl, hcs, hbb, hle, hm, hmm, hx, hi⟩
  · have h0' : Value.slice a0 l0 c0 = .slice none 0 0 := by simpa [Value.cells] using h0
    injection h0' with _ e2 _
    omega
  · have h0' : Value.slice a0 l0 c0 = .slice (some a) len cap := by simpa [Value.cells] using hcs
    injection h0' with _ e2 _
    injection hx with hx _
    subst hx
    have := sized_slice hs ht hd Try.underlying28
    have e : Try.prog.bytesOf 5 = 1 := by kernel_rfl
    rw [e] at this
    simp only [List.length_map, List.length_range, reachBytes] at this
    omega
end Go.Proofs.Ytakjiicnbocjeaa
