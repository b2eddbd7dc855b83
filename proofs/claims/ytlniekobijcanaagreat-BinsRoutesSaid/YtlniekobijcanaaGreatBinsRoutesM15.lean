/- bins: a floor whose row is turned in place; made, New's walk aside. -/
import Derived.Test.YtlniekobijcanaaGreatBinsRoutesM14
namespace Go.Proofs.YtlniekobijcanaaGreat
open Go.RowKit Go.Maps
/-- As FA, the row's block and room named. -/
structure FB (w : World) (g : Nat) (TS : Nat → Prop) (L : List BV) (r cap : Nat) : Prop where
  obj : w.heap[g]? = some (.cells #[.slice (some ⟨r, 0, none⟩) L.length cap] 79)
  row : ∃ cur, w.heap[r]? = some (.cells cur 76) ∧ cur.size = cap * 4 ∧ cur.toList.take (L.length * 4) = flat BV.cs L
  le : L.length ≤ cap ∧ cap ≤ maxLen
  own : TS g ∧ TS r ∧ r ≠ g
  bins : ∀ b ∈ L, BOk w b ∧ (b.its ≠ [] → ∀ c, b.l.ownBlock = some c → TS c ∧ c ≠ g ∧ c ≠ r)
  lt : ∀ b, TS b → b < w.heap.size
section
variable {w w' : World} {g r cap : Nat} {TS : Nat → Prop} {L : List BV}
theorem FA.fb (h : FA w g TS L) : ∃ r cap, FB w g TS L r cap := by
  obtain ⟨⟨r, cap, cur, h1, h2, h3, h4, h5, h6, h7, h8, h9⟩, ho, hl⟩ := h
  exact ⟨r, cap, h1, ⟨cur, h2, h5, h6⟩, ⟨h3, h4⟩, ⟨ho, h7, h8⟩, h9, hl⟩
theorem FB.fa (h : FB w g TS L r cap) : FA w g TS L := by
  obtain ⟨h1, ⟨cur, h2, h5, h6⟩, ⟨h3, h4⟩, ⟨ho, h7, h8⟩, h9, hl⟩ := h
  exact ⟨⟨r, cap, cur, h1, h2, h3, h4, h5, h6, h7, h8, h9⟩, ho, hl⟩
theorem FB.keep (h : FB w g TS L r cap) (hf : Fr (fun _ => False) w w') : FB w' g TS L r cap := by
  obtain ⟨h1, ⟨cur, h2, h5, h6⟩, h3, h4, h9, hl⟩ := h
  exact ⟨hf.at_ h1 (fun e => e), ⟨cur, hf.at_ h2 (fun e => e), h5, h6⟩, h3, h4, fun b hb => ⟨(h9 b hb).1.keep hf (fun _ _ _ e => e), (h9 b hb).2⟩, fun b hb => Nat.lt_of_lt_of_le (hl b hb) hf.size⟩
theorem FB.cells (h : FB w g TS L r cap) {i : Nat} {x : BV} (hx : L[i]? = some x) :
    w.cell? ⟨g, 0, none⟩ = some (.slice (some ⟨r, 0, none⟩) L.length cap) ∧ w.cell? ⟨r, i * 4, none⟩ = some (.int .i64 x.nu) ∧ w.cell? ⟨r, i * 4 + 1, none⟩ = some (.int .i64 x.zo) ∧ w.cell? ⟨r, i * 4 + 2, none⟩ = some (.int .i64 x.ro) ∧ w.cell? ⟨r, i * 4 + 3, none⟩ = some x.l ∧ ∀ q, w.frozen? ⟨r, q, none⟩ = false := by
  obtain ⟨h0, ⟨cur, h1, h2, h3⟩, hle, -⟩ := h
  have hi := (List.getElem?_eq_some_iff.1 hx).1
  have h4 : (i + 1) * 4 ≤ L.length * 4 := Nat.mul_le_mul_right 4 (by omega)
  have key : ∀ (q : Nat) (u : Value), q < 4 → (BV.cs x)[q]? = some u → w.cell? ⟨r, i * 4 + q, none⟩ = some u := fun q u hq hu => by
    refine cell_obj h1 _ _ ?_
    rw [← Array.getElem?_toList, take_get h3 (by omega)]
    exact flat_at bvSize hx q u hu
  exact ⟨cell_obj h0 0 _ rfl, key 0 _ (by omega) rfl, key 1 _ (by omega) rfl, key 2 _ (by omega) rfl, key 3 _ (by omega) rfl, fun q => obj_frozen h1 q⟩
theorem flat_set {i : Nat} {b x : BV} {cur cur' : Array Value} (hx : L[i]? = some x) (h3 : cur.toList.take (L.length * 4) = flat BV.cs L) (hs : L.length * 4 ≤ cur.size) (c3 : ∀ q, cur'[q]? = if i * 4 ≤ q ∧ q < i * 4 + 4 then (BV.cs b).toList[q - i * 4]? else cur[q]?) :
    cur'.toList.take (L.length * 4) = flat BV.cs (L.set i b) := by
  have hi := (List.getElem?_eq_some_iff.1 hx).1
  have hlen : (flat BV.cs (L.set i b)).length = L.length * 4 := by rw [flat_len1 bvSize, List.length_set]
  apply List.ext_getElem?
  intro q
  by_cases hq : q < L.length * 4
  · rw [List.getElem?_take_of_lt hq, Array.getElem?_toList, c3 q]
    obtain ⟨y, hy⟩ : ∃ y, (L.set i b)[q / 4]? = some y := ⟨_, List.getElem?_eq_getElem (by rw [List.length_set]; omega)⟩
    have hys : (BV.cs y)[q % 4]? = some ((BV.cs y)[q % 4]'(by rw [bvSize]; omega)) := Array.getElem?_eq_getElem _
    have h10 := flat_at bvSize hy (q % 4) _ hys
    rw [show q / 4 * 4 + q % 4 = q by omega] at h10
    rw [h10]
    rcases set_get hy with ⟨e1, e2⟩ | ⟨e1, e2⟩
    · subst e2
      rw [if_pos (by omega), Array.getElem?_toList, show q - i * 4 = q % 4 by omega]
      exact hys
    · rw [if_neg (by omega), ← Array.getElem?_toList, take_get h3 hq]
      have h11 := flat_at bvSize e2 (q % 4) _ hys
      rw [show q / 4 * 4 + q % 4 = q by omega] at h11
      exact h11
  · rw [List.getElem?_take_eq_none (by omega), List.getElem?_eq_none (by omega)]
/-- A bin is set in place. -/
theorem FB.set (h : FB w g TS L r cap) {i B : Nat} {x b : BV} (hx : L[i]? = some x) (hb : BOk w b) (hB : ∀ c, TS c → c < B) (hn : ∀ c, b.l.ownBlock = some c → B ≤ c) : FB (w.setCells r (i * 4) (BV.cs b).toList) g (fun c => TS c ∨ (B ≤ c ∧ c < w.heap.size)) (L.set i b) r cap ∧ Fr (fun c => c = r) w (w.setCells r (i * 4) (BV.cs b).toList) := by
  obtain ⟨h0, ⟨cur, h1, h2, h3⟩, hle, ho, h9, hl⟩ := h
  have hi := (List.getElem?_eq_some_iff.1 hx).1
  have g1 : (i + 1) * 4 ≤ L.length * 4 := Nat.mul_le_mul_right 4 (by omega)
  have g2 : L.length * 4 ≤ cap * 4 := Nat.mul_le_mul_right 4 hle.1
  have hcl : (BV.cs b).toList.length = 4 := rfl
  obtain ⟨cur', c1, c2, c3⟩ := row_setCells (BV.cs b).toList (i * 4) h1 (by rw [hcl]; omega)
  have hf : Fr (fun c => c = r) w (w.setCells r (i * 4) (BV.cs b).toList) := fr_setCells _ _ (Fr.refl _ w) (fun _ => rfl)
  rw [hcl] at c3
  have hgB := hB g ho.1
  have hrB := hB r ho.2.1
  refine ⟨⟨by rw [List.length_set]; exact hf.at_ h0 (fun e => ho.2.2 e.symm), ⟨cur', c1, by omega, by rw [List.length_set]; exact flat_set hx h3 (by omega) c3⟩, by rw [List.length_set]; exact hle, ⟨.inl ho.1, .inl ho.2.1, ho.2.2⟩, fun y hy => ?_, fun c hc => ?_⟩, hf⟩
  · obtain ⟨q, hq⟩ := List.getElem?_of_mem hy
    rcases set_get hq with ⟨-, rfl⟩ | ⟨-, e2⟩
    · have k1 : ∀ c, y.l.ownBlock = some c → c ≠ g ∧ c ≠ r := fun c hc => by have := hn c hc; omega
      exact ⟨hb.keep hf (fun _ c hc e => (k1 c hc).2 e), fun hne c hc => ⟨.inr ⟨hn c hc, hb.l.lt hne c hc⟩, k1 c hc⟩⟩
    · obtain ⟨k1, k2⟩ := h9 y (List.mem_of_getElem? e2)
      exact ⟨k1.keep hf (fun hne c hc e => (k2 hne c hc).2.2 e), fun hne c hc => ⟨.inl (k2 hne c hc).1, (k2 hne c hc).2⟩⟩
  · have hs := hf.size
    rcases hc with hc | hc
    · have := hl c hc; omega
    · omega
theorem FB.mono {T2 : Nat → Prop} (h : FB w g TS L r cap) (h2 : ∀ c, TS c → T2 c) (h3 : ∀ b, T2 b → b < w.heap.size) : FB w g T2 L r cap := by
  obtain ⟨h0, h1, hle, ho, h9, hl⟩ := h
  exact ⟨h0, h1, hle, ⟨h2 _ ho.1, h2 _ ho.2.1, ho.2.2⟩, fun b hb => ⟨(h9 b hb).1, fun hn c hc => ⟨h2 _ ((h9 b hb).2 hn c hc).1, ((h9 b hb).2 hn c hc).2⟩⟩, h3⟩
end
end Go.Proofs.YtlniekobijcanaaGreat
