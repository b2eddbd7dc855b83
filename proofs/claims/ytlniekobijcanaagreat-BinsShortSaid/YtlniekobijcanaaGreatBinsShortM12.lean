/- bins: spread: plain, and what its loop keeps. -/
import Derived.Test.YtlniekobijcanaaGreatBinsShortM9
import Derived.Test.YtlniekobijcanaaGreatBinsShortM11
namespace Go.Proofs.YtlniekobijcanaaGreat
open Go.RowKit Go.Maps
/-- One bin is gone through: so many are put there, or taken. -/
def stepS (can : BE → Int) (nE : BE → Int → Int) (s : Str) (st : List BE × Int × List PV) (i : Int) : List BE × Int × List PV :=
  match st.1[i.toNat]? with
  | none => st
  | some b => if min st.2.1 (can b) ≤ 0 then st else (st.1.set i.toNat (b.put s (nE b (min st.2.1 (can b)))), st.2.1 - min st.2.1 (can b), st.2.2 ++ [⟨b.nu, s, min st.2.1 (can b)⟩])
abbrev Pl (w : World) (v : Value) (L : List PV) : Prop := Sq 3 pvC okPv w v L
theorem pvSize (p : PV) : (pvC p).size = 3 := rfl
theorem set_get {α : Type} {L : List α} {i q : Nat} {x y : α} (h : (L.set i x)[q]? = some y) : (q = i ∧ y = x) ∨ (q ≠ i ∧ L[q]? = some y) := by
  rw [List.getElem?_set] at h
  by_cases e : i = q
  · rw [if_pos e] at h
    split at h
    · exact .inl ⟨e.symm, by injection h with h; exact h.symm⟩
    · cases h
  · rw [if_neg e] at h
    exact .inr ⟨fun e2 => e e2.symm, h⟩
structure SpI (w0 : World) (O : Nat → Prop) (r cap N : Nat) (PE : BE → Prop) (W : World) (Lj : List BV) (vo : Value) (out : List PV) : Prop where
  row : ∃ cur, W.heap[r]? = some (.cells cur 76) ∧ cur.size = cap * 4 ∧ cur.toList.take (N * 4) = flat BV.cs Lj
  len : Lj.length = N
  le : N ≤ cap
  bins : ∀ b ∈ Lj, BOk W b ∧ PE b.e ∧ (b.its ≠ [] → ∀ c, b.l.ownBlock = some c → c ≠ r ∧ vo.ownBlock ≠ some c ∧ (O c ∨ w0.heap.size ≤ c))
  out : W.ownsRow w0.heap.size 55 3 vo out.length (flat pvC out)
  oner : vo.ownBlock ≠ some r
  fr : Fr (fun _ => False) w0 W
  low : w0.heap.size ≤ r
section
variable {w0 W W' : World} {O : Nat → Prop} {r cap N : Nat} {PE : BE → Prop} {Lj : List BV} {vo : Value} {out : List PV}
theorem SpI.keep0 (h : SpI w0 O r cap N PE W Lj vo out) (hf : Fr (fun _ => False) W W') : SpI w0 O r cap N PE W' Lj vo out := by
  obtain ⟨⟨cur, h1, h2⟩, h3, hle, h4, h5, h6, h7, h8⟩ := h
  exact ⟨⟨cur, hf.at_ h1 (fun e => e), h2⟩, h3, hle, fun b hb => ⟨(h4 b hb).1.keep hf (fun _ _ _ e => e), (h4 b hb).2⟩, hf.row h5 (fun _ _ e => e), h6, h7.trans hf, h8⟩
theorem SpI.cells (h : SpI w0 O r cap N PE W Lj vo out) {i : Nat} {x : BV} (hx : Lj[i]? = some x) :
    W.cell? ⟨r, i * 4, none⟩ = some (.int .i64 x.nu) ∧ W.cell? ⟨r, i * 4 + 1, none⟩ = some (.int .i64 x.zo) ∧ W.cell? ⟨r, i * 4 + 2, none⟩ = some (.int .i64 x.ro) ∧ W.cell? ⟨r, i * 4 + 3, none⟩ = some x.l ∧ ∀ q, W.frozen? ⟨r, q, none⟩ = false := by
  obtain ⟨⟨cur, h1, h2, h3⟩, hl, hle, -⟩ := h
  have hi := (List.getElem?_eq_some_iff.1 hx).1
  have h4 : (i + 1) * 4 ≤ N * 4 := Nat.mul_le_mul_right 4 (by omega)
  have key : ∀ (q : Nat) (u : Value), q < 4 → (BV.cs x)[q]? = some u → W.cell? ⟨r, i * 4 + q, none⟩ = some u := fun q u hq hu => by
    refine cell_obj h1 _ _ ?_
    rw [← Array.getElem?_toList, take_get h3 (by omega)]
    exact flat_at bvSize hx q u hu
  exact ⟨key 0 _ (by omega) rfl, key 1 _ (by omega) rfl, key 2 _ (by omega) rfl, key 3 _ (by omega) rfl, fun q => obj_frozen h1 q⟩
theorem SpI.store (h : SpI w0 O r cap N PE W Lj vo out) {i : Nat} {x b : BV} (hx : Lj[i]? = some x) (hb : BOk W b) (hP : PE b.e) (hne : ∀ c, b.l.ownBlock = some c → c ≠ r ∧ vo.ownBlock ≠ some c ∧ (O c ∨ w0.heap.size ≤ c)) : SpI w0 O r cap N PE (W.setCells r (i * 4) (BV.cs b).toList) (Lj.set i b) vo out := by
  obtain ⟨⟨cur, h1, h2, h3⟩, hl, hle, h4, h5, h6, h7, h8⟩ := h
  have hi := (List.getElem?_eq_some_iff.1 hx).1
  have g1 : (i + 1) * 4 ≤ N * 4 := Nat.mul_le_mul_right 4 (by omega)
  have g2 : N * 4 ≤ cap * 4 := Nat.mul_le_mul_right 4 hle
  have hcl : (BV.cs b).toList.length = 4 := rfl
  obtain ⟨cur', c1, c2, c3⟩ := row_setCells (BV.cs b).toList (i * 4) h1 (by rw [hcl]; omega)
  have hf : Fr (fun c => c = r) W (W.setCells r (i * 4) (BV.cs b).toList) := fr_setCells _ _ (Fr.refl _ W) (fun _ => rfl)
  have hlen : (flat BV.cs (Lj.set i b)).length = N * 4 := by rw [flat_len1 bvSize, List.length_set, hl]
  refine ⟨⟨cur', c1, by omega, ?_⟩, by rw [List.length_set]; exact hl, hle, fun y hy => ?_, hf.row h5 (fun c hc e => h6 (by rw [hc, e])), h6, h7.trans' hf (fun c hc e => by omega), h8⟩
  · apply List.ext_getElem?
    intro q
    by_cases hq : q < N * 4
    · rw [List.getElem?_take_of_lt hq, Array.getElem?_toList, c3 q, hcl]
      obtain ⟨y, hy⟩ : ∃ y, (Lj.set i b)[q / 4]? = some y := ⟨_, List.getElem?_eq_getElem (by rw [List.length_set]; omega)⟩
      have hys : (BV.cs y)[q % 4]? = some ((BV.cs y)[q % 4]'(by rw [bvSize]; omega)) := Array.getElem?_eq_getElem _
      have h10 := flat_at bvSize hy (q % 4) _ hys
      rw [show q / 4 * 4 + q % 4 = q by omega] at h10
      rw [h10]
      rcases set_get hy with ⟨e1, e2⟩ | ⟨e1, e2⟩
      · subst e2
        rw [if_pos (by omega), Array.getElem?_toList, show q - i * 4 = q % 4 by omega]
        exact hys
      · rw [if_neg (by omega), ← Array.getElem?_toList, take_get h3 hq]
        have h11 := flat_at bvSize e2 (q % 4) _ hys
        rw [show q / 4 * 4 + q % 4 = q by omega] at h11
        exact h11
    · rw [List.getElem?_take_eq_none (by omega), List.getElem?_eq_none (by omega)]
  · obtain ⟨q, hq⟩ := List.getElem?_of_mem hy
    rcases set_get hq with ⟨-, rfl⟩ | ⟨-, e2⟩
    · exact ⟨hb.keep hf (fun _ c hc e => (hne c hc).1 e), hP, fun _ c hc => hne c hc⟩
    · obtain ⟨k1, k2, k3⟩ := h4 y (List.mem_of_getElem? e2)
      exact ⟨k1.keep hf (fun hn c hc e => (k3 hn c hc).1 e), k2, k3⟩
theorem flat_pv_snoc (L : List PV) (p : PV) : flat pvC (L ++ [p]) = flat pvC L ++ [.int .i64 p.b, vS p.g, .int .i64 p.n] := by rw [flat_app]; rfl
theorem SpI.push (h : SpI w0 O r cap N PE W Lj vo out) {vo' : Value} {p : PV} (hown : W'.ownsRow w0.heap.size 55 3 vo' (out.length + 1) (flat pvC out ++ [.int .i64 p.b, vS p.g, .int .i64 p.n])) (hg : W.grownBy W' vo.ownBlock) (hloc : vo'.ownBlock = vo.ownBlock ∨ vo'.ownBlock = some W.heap.size) : SpI w0 O r cap N PE W' Lj vo' (out ++ [p]) := by
  obtain ⟨⟨cur, h1, h2, h3⟩, hl, hle, h4, h5, h6, h7, h8⟩ := h
  have hf : Fr (fun c => vo.ownBlock = some c) W W' := Fr.grown hg (fun c hc _ => hc)
  have hr := (Array.getElem?_eq_some_iff.1 h1).1
  refine ⟨⟨cur, hf.at_ h1 h6, h2, h3⟩, hl, hle, fun b hb => ?_, by rw [flat_pv_snoc, List.length_append]; exact hown, fun e => ?_, h7.trans' hf (fun c hc e => by have := (h5.lt c e).1; omega), h8⟩
  · obtain ⟨k1, k2, k3⟩ := h4 b hb
    refine ⟨k1.keep hf (fun hn c hc e => (k3 hn c hc).2.1 e), k2, fun hn c hc => ⟨(k3 hn c hc).1, fun e => ?_, (k3 hn c hc).2.2⟩⟩
    rcases hloc with e2 | e2
    · exact (k3 hn c hc).2.1 (by rw [← e2, e])
    · rw [e2] at e
      injection e with e
      have := k1.l.lt hn c hc
      omega
  · rcases hloc with e2 | e2
    · exact h6 (by rw [← e2, e])
    · rw [e2] at e
      injection e with e
      omega
end
end Go.Proofs.YtlniekobijcanaaGreat
