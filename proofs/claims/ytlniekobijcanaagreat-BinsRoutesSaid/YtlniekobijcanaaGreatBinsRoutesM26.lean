/- bins: Unpack, plainly; what is laid on the way. -/
import Derived.Test.YtlniekobijcanaaGreatBinsRoutesM3
import Derived.Test.YtlniekobijcanaaGreatBinsRoutesM17
import Derived.Test.YtlniekobijcanaaGreatBinsRoutesM25
namespace Go.Proofs.YtlniekobijcanaaGreat
open Go.RowKit Go.Maps
theorem infoBi : (Tryz.prog.info? 36).map (fun i => (i.zero, i.size, i.bytes)) = some (some (.agg #[.int .i64 0, .int .i64 0, .int .i64 0]), 3, 24) := by kernel_rfl
theorem infoIl : (Tryz.prog.info? 65).map (fun i => (i.zero, i.size, i.bytes)) = some (some (.slice none 0 0), 1, 24) := by kernel_rfl
/-- What Unpack reads: one bin; k bins. -/
def un1 (s : Tst × List BI × List Its) : Tst × List BI × List Its :=
  let a := tk s.1 1 4096
  let b := tk a.2 0 15
  let c := tk b.2 1 1099511627776
  let i := itemsT c.2
  (i.2, s.2.1 ++ [⟨a.1, b.1, c.1⟩], s.2.2 ++ [i.1])
def unG (t : Tst) : Nat → Tst × List BI × List Its
  | 0 => (t, [], [])
  | k + 1 => un1 (unG t k)
def putI (b : BI) (i : Its) : BE := ⟨b.nu, b.zo, b.ro, i⟩
def unpackE (bs : List Int) : Option (List BE) :=
  let q := tk (bs, false) 1 64
  let r := unG q.2 q.1.toNat
  if mayBs r.2.1 = true ∧ doneT r.1.1 r.1.2 = 0 ∧ ((List.zipWith putI r.2.1 r.2.2).all fun b => decide (0 ≤ leftE b)) = true then some (List.zipWith putI r.2.1 r.2.2) else none
theorem unG_len (t : Tst) : ∀ k, (unG t k).2.1.length = k ∧ (unG t k).2.2.length = k
  | 0 => ⟨rfl, rfl⟩
  | k + 1 => by
    have ih := unG_len t k
    show (un1 (unG t k)).2.1.length = k + 1 ∧ (un1 (unG t k)).2.2.length = k + 1
    unfold un1
    simp [ih.1, ih.2]
theorem unG_ok (t : Tst) : ∀ k, ∀ b ∈ (unG t k).2.1, okI b.nu ∧ okI b.zo ∧ okI b.ro
  | 0, p, h => by simp [unG] at h
  | k + 1, p, h => by
    have h : p ∈ (un1 (unG t k)).2.1 := h
    unfold un1 at h
    rcases List.mem_append.1 h with h | h
    · exact unG_ok t k p h
    · simp only [List.mem_cons, List.not_mem_nil, or_false] at h
      subst h
      have h1 := tk_in1 (unG t k).1 (b := 4096) (by omega)
      have h2 := tk_in (tk (unG t k).1 1 4096).2 (a := 0) (b := 15) (by omega) (by omega)
      have h3 := tk_in1 (tk (tk (unG t k).1 1 4096).2 0 15).2 (b := 1099511627776) (by omega)
      exact ⟨by unfold okI; dsimp only; omega, by unfold okI; dsimp only; omega, by unfold okI; dsimp only; omega⟩
/-- What is laid on the way: rows of bins, of lists. -/
structure UnI (n0 : Nat) (W : World) (vl vi : Value) (B : List BI) (V : List Value) (I : List Its) : Prop where
  ob : W.ownsRow n0 36 3 vl B.length (flat biC B)
  oi : W.ownsRow n0 65 1 vi V.length V
  len : V.length = I.length
  il : ∀ (j : Nat) (v : Value) (its : Its), V[j]? = some v → I[j]? = some its → Il W v its ∧ (∀ c, v.ownBlock = some c → n0 ≤ c) ∧ (its ≠ [] → ∀ c, v.ownBlock = some c → vl.ownBlock ≠ some c ∧ vi.ownBlock ≠ some c)
  ne : ∀ c, vl.ownBlock = some c → vi.ownBlock ≠ some c
section
variable {n0 : Nat} {W W' : World} {vl vi : Value} {B : List BI} {V : List Value} {I : List Its}
theorem UnI.fr {S : Nat → Prop} (h : UnI n0 W vl vi B V I) (hf : Fr S W W') (hS : ∀ b, S b → b < n0) : UnI n0 W' vl vi B V I := by
  obtain ⟨h1, h2, h3, h4, h5⟩ := h
  exact ⟨hf.row h1 (fun b hb e => by have := (h1.lt b hb).1; have := hS b e; omega), hf.row h2 (fun b hb e => by have := (h2.lt b hb).1; have := hS b e; omega), h3,
    fun j v its hv hi => ⟨(h4 j v its hv hi).1.keep hf (fun _ b hb e => by have := (h4 j v its hv hi).2.1 b hb; have := hS b e; omega), (h4 j v its hv hi).2⟩, h5⟩
theorem UnI.addB {vl' : Value} {B' : List BI} (h : UnI n0 W vl vi B V I) (ho : W'.ownsRow n0 36 3 vl' B'.length (flat biC B')) (hf : Fr (fun c => vl.ownBlock = some c) W W') (hn : ∀ c, vl'.ownBlock = some c → vl.ownBlock = some c ∨ W.heap.size ≤ c) : UnI n0 W' vl' vi B' V I := by
  obtain ⟨h1, h2, h3, h4, h5⟩ := h
  refine ⟨ho, hf.row h2 (fun b hb e => h5 b e hb), h3, fun j v its hv hi => ?_, fun c hc e => ?_⟩
  · obtain ⟨k1, k2, k3⟩ := h4 j v its hv hi
    exact ⟨k1.keep hf (fun hne b hb e => (k3 hne b hb).1 e), k2, fun hne c hc => ⟨fun e => (hn c e).elim (k3 hne c hc).1 (fun e => by have := k1.lt hne c hc; omega), (k3 hne c hc).2⟩⟩
  · rcases hn c hc with hn | hn
    · exact h5 c hn e
    · have := (h2.lt c e).2; omega
theorem UnI.addI {vi' v : Value} {i : Its} (h : UnI n0 W vl vi B V I) (ho : W'.ownsRow n0 65 1 vi' (V ++ [v]).length (V ++ [v])) (hf : Fr (fun c => vi.ownBlock = some c) W W') (hn : ∀ c, vi'.ownBlock = some c → vi.ownBlock = some c ∨ W.heap.size ≤ c)
    (hv : Il W v i) (hv0 : ∀ c, v.ownBlock = some c → n0 ≤ c) (hvn : i ≠ [] → ∀ c, v.ownBlock = some c → vl.ownBlock ≠ some c ∧ vi.ownBlock ≠ some c) : UnI n0 W' vl vi' B (V ++ [v]) (I ++ [i]) := by
  obtain ⟨h1, h2, h3, h4, h5⟩ := h
  refine ⟨hf.row h1 (fun b hb e => h5 b hb e), ho, by rw [List.length_append, List.length_append, h3]; rfl, fun j u its hu hi => ?_, fun c hc e => ?_⟩
  · have key : Il W u its ∧ (∀ c, u.ownBlock = some c → n0 ≤ c) ∧ (its ≠ [] → ∀ c, u.ownBlock = some c → vl.ownBlock ≠ some c ∧ vi.ownBlock ≠ some c) := by
      by_cases hj : j < V.length
      · rw [List.getElem?_append_left hj] at hu
        rw [List.getElem?_append_left (by omega)] at hi
        exact h4 j u its hu hi
      · rw [List.getElem?_append_right (by omega)] at hu
        rw [List.getElem?_append_right (by omega), ← h3] at hi
        obtain ⟨e, -⟩ := List.getElem?_eq_some_iff.1 hu
        have hj0 : j - V.length = 0 := by simp at e; omega
        rw [hj0] at hu hi
        simp at hu hi
        subst hu hi
        exact ⟨hv, hv0, hvn⟩
    obtain ⟨k1, k2, k3⟩ := key
    exact ⟨k1.keep hf (fun hne b hb e => (k3 hne b hb).2 e), k2, fun hne c hc => ⟨(k3 hne c hc).1, fun e => (hn c e).elim (k3 hne c hc).2 (fun e => by have := k1.lt hne c hc; omega)⟩⟩
  · rcases hn c e with hn | hn
    · exact h5 c hc hn
    · have := (h1.lt c hc).2; omega
end
/-- A bin's list is set in place. -/
theorem FB.setL {w : World} {g r cap : Nat} {TS : Nat → Prop} {L : List BV} (h : FB w g TS L r cap) {i : Nat} {x : BV} {v : Value} {its : Its} (hx : L[i]? = some x) (hv : Il w v its) (hn : its ≠ [] → ∀ c, v.ownBlock = some c → TS c ∧ c ≠ g ∧ c ≠ r) :
    FB (w.setCell ⟨r, i * 4 + 3, none⟩ v) g TS (L.set i ⟨x.nu, x.zo, x.ro, v, its⟩) r cap ∧ Fr (fun c => c = r) w (w.setCell ⟨r, i * 4 + 3, none⟩ v) := by
  have hcells := h.cells hx
  obtain ⟨h0, ⟨cur, h1, h2, h3⟩, hle, ho, h9, hl⟩ := h
  have hi := (List.getElem?_eq_some_iff.1 hx).1
  have g1 : (i + 1) * 4 ≤ L.length * 4 := Nat.mul_le_mul_right 4 (by omega)
  have g2 : L.length * 4 ≤ cap * 4 := Nat.mul_le_mul_right 4 hle.1
  have hf : Fr (fun c => c = r) w (w.setCell ⟨r, i * 4 + 3, none⟩ v) := (Fr.refl (fun c => c = r) w).setCell (p := ⟨r, i * 4 + 3, none⟩) (fun _ => rfl) _
  have c1 := obj_set h1 (i * 4 + 3) v
  obtain ⟨k0, -⟩ := h9 x (List.mem_of_getElem? hx)
  have key : ∀ (q : Nat) (u : Value), q < 4 → (BV.cs x)[q]? = some u → cur[i * 4 + q]? = some u := fun q u hq hu => by
    rw [← Array.getElem?_toList, take_get h3 (by omega)]
    exact flat_at bvSize hx q u hu
  refine ⟨⟨by rw [List.length_set]; exact hf.at_ h0 (fun e => ho.2.2 e.symm), ⟨_, c1, by rw [Array.size_setIfInBounds]; exact h2, by
    rw [List.length_set]
    refine flat_set hx h3 (by omega) (fun q => ?_)
    by_cases hq : i * 4 ≤ q ∧ q < i * 4 + 4
    · rw [if_pos hq]
      by_cases h3' : q = i * 4 + 3
      · subst h3'
        rw [Array.getElem?_setIfInBounds_self_of_lt (by omega), show i * 4 + 3 - i * 4 = 3 by omega]
        rfl
      · rw [Array.getElem?_setIfInBounds_ne (by omega)]
        obtain ⟨d, hd⟩ : ∃ d, q = i * 4 + d := ⟨q - i * 4, by omega⟩
        subst hd
        rw [show i * 4 + d - i * 4 = d by omega]
        have hd3 : d = 0 ∨ d = 1 ∨ d = 2 := by omega
        rcases hd3 with rfl | rfl | rfl
        · exact key 0 _ (by omega) rfl
        · exact key 1 _ (by omega) rfl
        · exact key 2 _ (by omega) rfl
    · rw [if_neg hq, Array.getElem?_setIfInBounds_ne (by omega)]⟩, by rw [List.length_set]; exact hle, ho, fun y hy => ?_, fun c hc => Nat.lt_of_lt_of_le (hl c hc) hf.size⟩, hf⟩
  obtain ⟨q, hq⟩ := List.getElem?_of_mem hy
  rcases set_get hq with ⟨-, rfl⟩ | ⟨-, e2⟩
  · exact ⟨⟨k0.nu, k0.zo, k0.ro, hv.keep hf (fun hne c hc e => (hn hne c hc).2.2 e)⟩, hn⟩
  · obtain ⟨k1, k2⟩ := h9 y (List.mem_of_getElem? e2)
    exact ⟨k1.keep hf (fun hne c hc e => (k2 hne c hc).2.2 e), k2⟩
/-- What Unpack leaves. -/
def UnP (w : World) (Z : Option (List BE)) (e : Ending) (w' : World) : Prop := Fr (fun _ => False) w w' ∧ match Z with
  | some M => ∃ g TS L, e = .returned (.tuple #[.pointer (some ⟨g, 0, none⟩), .int .i64 0]) ∧ FA w' g TS L ∧ L.map BV.e = M ∧ ∀ b, TS b → w.heap.size ≤ b
  | none => e = .returned (.tuple #[.pointer none, .int .i64 10])
end Go.Proofs.YtlniekobijcanaaGreat
