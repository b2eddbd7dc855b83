/- Slices of structs, whatever they hold: each element's cells, and what else holds of it. -/
import Derived.Test.YtakjiicnbocjeaaIdDoesM40
import Derived.Test.YtakjiicnbocjeaaIdDoesM1
namespace Go.Proofs.Ytakjiicnbocjeaa
open Go.ChangeShapes Go.WideShapes Go.RowKit Go.Maps
section
variable {α : Type} {k : Nat} {cs : α → Array Value} {ok : World → α → Prop}
/-- A slice of things of k cells: L. -/
def Sq (k : Nat) (cs : α → Array Value) (ok : World → α → Prop) (w : World) (v : Value) (L : List α) : Prop :=
  L.length ≤ maxLen ∧ ∃ a cap, v = .slice a L.length cap ∧ ∀ (i : Nat) (r : α), L[i]? = some r → ok w r ∧ ∃ ad, a = some ad ∧ ∀ (j : Nat) (u : Value), (cs r)[j]? = some u → w.cell? (ad.add (i * k + j)) = some u
/-- What holds of an element goes on to hold where nothing old is turned. -/
def Keeps (ok : World → α → Prop) : Prop := ∀ ⦃S : Nat → Prop⦄ ⦃w w' : World⦄ ⦃r : α⦄, ok w r → Fr S w w' → (∀ b, S b → w.heap.size ≤ b) → ok w' r
theorem keeps_true {p : α → Prop} : Keeps (fun _ => p) := fun _ _ _ _ h _ _ => h
theorem Sq.fr {S : Nat → Prop} {w w' : World} {v : Value} {L : List α} (hk : Keeps ok) (h : Sq k cs ok w v L) (hf : Fr S w w') (hS : ∀ b, S b → w.heap.size ≤ b) : Sq k cs ok w' v L := by
  obtain ⟨h0, a, cap, e, h1⟩ := h
  refine ⟨h0, a, cap, e, fun i r hr => ?_⟩
  obtain ⟨ho, ad, e2, hc⟩ := h1 i r hr
  refine ⟨hk ho hf hS, ad, e2, fun j u hu => ?_⟩
  have := hc j u hu
  exact hf.cell this (fun hs => by have := hS _ hs; have := World.block_lt_of_cell? w _ ‹w.cell? _ = _›; omega)
theorem Sq.fr0 {w w' : World} {v : Value} {L : List α} (hk : Keeps ok) (h : Sq k cs ok w v L) (hf : Fr (fun _ => False) w w') : Sq k cs ok w' v L := h.fr hk hf (fun _ h => h.elim)
theorem Sq.sl {w : World} {v : Value} {L : List α} (h : Sq k cs ok w v L) : ∃ a c, v = .slice a L.length c := by
  obtain ⟨_, a, c, e, _⟩ := h
  exact ⟨a, c, e⟩
theorem Sq.len {w : World} {v : Value} {L : List α} (h : Sq k cs ok w v L) : (L.length : Int) ≤ 9223372036854775807 := by
  have := h.1
  unfold maxLen at this
  omega
theorem Sq.okm {w : World} {v : Value} {L : List α} (h : Sq k cs ok w v L) {r : α} (hr : r ∈ L) : ok w r := by
  obtain ⟨i, hi⟩ := List.getElem?_of_mem hr
  obtain ⟨_, _, _, _, h1⟩ := h
  exact (h1 i r hi).1
theorem Sq.at_ {w : World} {a : Option Addr} {n c i : Nat} {L : List α} {r : α} (h : Sq k cs ok w (.slice a n c) L) (hr : L[i]? = some r) : ∃ ad, a = some ad ∧ ok w r ∧
    (∀ u, (cs r)[0]? = some u → w.cell? (ad.add (i * k)) = some u) ∧ ∀ (j : Nat) (u : Value), (cs r)[j + 1]? = some u → w.cell? ⟨(ad.add (i * k)).block, (ad.add (i * k)).off + (j + 1), none⟩ = some u := by
  obtain ⟨h0, a', cap, e, h1⟩ := h
  injection e with e1 _ _
  obtain ⟨ho, ad, e2, hc⟩ := h1 i r hr
  exact ⟨ad, e1.trans e2, ho, fun u hu => hc 0 u hu, fun j u hu => by rw [← add_field]; exact hc (j + 1) u hu⟩
theorem Sq.lt {w : World} {v : Value} {L : List α} (hcs : ∀ r, 0 < (cs r).size) (h : Sq k cs ok w v L) (hL : L ≠ []) : ∀ b, v.ownBlock = some b → b < w.heap.size := fun b hb => by
  obtain ⟨_, a, c, rfl, h1⟩ := h
  cases L with
  | nil => exact absurd rfl hL
  | cons p r =>
    obtain ⟨_, ad, rfl, hc⟩ := h1 0 p rfl
    have h2 := hc 0 _ (Array.getElem?_eq_getElem (hcs p))
    have := World.block_lt_of_cell? w _ h2
    have hb2 : (ad.add (0 * k + 0)).block = ad.block := by rw [Nat.zero_mul]; rfl
    rw [hb2] at this
    obtain rfl : ad.block = b := (by simpa [Value.ownBlock] using hb)
    exact this
theorem Sq.nil {w : World} {a : Option Addr} {c : Nat} : Sq k cs ok w (.slice a 0 c) [] := ⟨Nat.zero_le _, a, c, rfl, fun i r hr => by simp at hr⟩
/-- An element's cells in one list. -/
def flat (cs : α → Array Value) (L : List α) : List Value := L.flatMap fun r => (cs r).toList
theorem flat_app (L M : List α) : flat cs (L ++ M) = flat cs L ++ flat cs M := by simp [flat]
theorem flat_len1 (hcs : ∀ r, (cs r).size = k) (L : List α) : (flat cs L).length = L.length * k := by
  induction L with
  | nil => simp [flat]
  | cons q r ih =>
    have e : flat cs (q :: r) = (cs q).toList ++ flat cs r := by simp [flat]
    rw [e, List.length_append, ih, List.length_cons, Nat.succ_mul, Array.length_toList, hcs]; omega
theorem flat_at (hcs : ∀ r, (cs r).size = k) : ∀ {L : List α} {i : Nat} {r : α}, L[i]? = some r → ∀ (j : Nat) (u : Value), (cs r)[j]? = some u → (flat cs L)[i * k + j]? = some u
  | q :: L, 0, r, h, j, u, hu => by
    cases h
    have e : flat cs (q :: L) = (cs q).toList ++ flat cs L := by simp [flat]
    have hj := (Array.getElem?_eq_some_iff.1 hu).1
    rw [e, Nat.zero_mul, Nat.zero_add, List.getElem?_append_left (by simpa using hj)]
    simpa using hu
  | q :: L, i + 1, r, h, j, u, hu => by
    have e : flat cs (q :: L) = (cs q).toList ++ flat cs L := by simp [flat]
    have ih := flat_at hcs (L := L) (i := i) (r := r) (by simpa using h) j u hu
    have hl : (cs q).toList.length = k := by rw [Array.length_toList, hcs]
    rw [e, List.getElem?_append_right (by rw [hl, Nat.succ_mul]; omega), hl, Nat.succ_mul, show i * k + k + j - k = i * k + j by omega]
    exact ih
theorem flat_take (hcs : ∀ r, (cs r).size = k) (L : List α) (i : Nat) : flat cs (L.take i) = (flat cs L).take (i * k) := by
  induction L generalizing i with
  | nil => simp [flat]
  | cons q r ih =>
    cases i with
    | zero => simp [flat]
    | succ i =>
      have e : flat cs (q :: r) = (cs q).toList ++ flat cs r := by simp [flat]
      have e2 : flat cs (q :: r.take i) = (cs q).toList ++ flat cs (r.take i) := by simp [flat]
      have hl : (cs q).toList.length = k := by rw [Array.length_toList, hcs]
      rw [List.take_succ_cons, e, e2, ih, List.take_append, hl, List.take_of_length_le (l := (cs q).toList) (i := (i + 1) * k) (by rw [hl, Nat.succ_mul]; omega), Nat.succ_mul, show i * k + k - k = i * k by omega]
theorem flat_drop (hcs : ∀ r, (cs r).size = k) (L : List α) (i : Nat) : flat cs (L.drop i) = (flat cs L).drop (i * k) := by
  induction L generalizing i with
  | nil => simp [flat]
  | cons q r ih =>
    cases i with
    | zero => simp [flat]
    | succ i =>
      have e : flat cs (q :: r) = (cs q).toList ++ flat cs r := by simp [flat]
      have hl : (cs q).toList.length = k := by rw [Array.length_toList, hcs]
      have hn : (cs q).toList.drop ((i + 1) * k) = [] := List.drop_eq_nil_of_le (by rw [hl, Nat.succ_mul]; omega)
      rw [List.drop_succ_cons, e, ih, List.drop_append, hl, hn, List.nil_append, Nat.succ_mul, show i * k + k - k = i * k by omega]
theorem flat_one (h1 : ∀ (r : α) (u : Value), u ∈ cs r → u.oneCell' = true) {L : List α} : ∀ u ∈ flat cs L, u.oneCell' = true := by
  intro u hu
  simp only [flat, List.mem_flatMap] at hu
  obtain ⟨r, _, hr⟩ := hu
  exact h1 r u (by simpa using hr)
/-- A row of the call's own reads as a slice. -/
theorem Sq.own {w : World} {base : Nat} {e : TypeId} {v : Value} {L : List α} (hcs : ∀ r, (cs r).size = k) (h : w.ownsRow base e k v L.length (flat cs L)) (hL : ∀ p ∈ L, ok w p) : Sq k cs ok w v L := by
  rcases h.2 with ⟨rfl, h0⟩ | ⟨g, cap, cur, rfl, hbase, hb, hn, hm, hs, ht⟩
  · have : L = [] := List.eq_nil_of_length_eq_zero h0
    subst this
    exact Sq.nil
  · refine ⟨by unfold maxLen at *; omega, some ⟨g, 0, none⟩, cap, rfl, fun i p hp => ⟨hL p (List.mem_of_getElem? hp), _, rfl, fun j u hu => ?_⟩⟩
    have hi := (List.getElem?_eq_some_iff.1 hp).1
    have hj := (Array.getElem?_eq_some_iff.1 hu).1
    rw [hcs] at hj
    have hlt : i * k + j < L.length * k := by
      have : (i + 1) * k ≤ L.length * k := Nat.mul_le_mul_right _ hi
      rw [Nat.succ_mul] at this
      omega
    have h2 := h.cellAt (g := g) (j := i * k + j) (by first | exact hlt | (rw [flat_len1 hcs]; exact hlt))
    have e0 : (⟨g, 0, none⟩ : Addr).add (i * k + j) = ⟨g, i * k + j, none⟩ := by unfold Addr.add; split <;> simp_all
    rw [e0, h2]
    exact flat_at hcs hp j u hu
end
section
variable {α : Type} {k : Nat} {cs : α → Array Value} {ok : World → α → Prop}
variable {H : Type} {enc : TypeId × Value → H} {P : Program} {w : World} {base : Nat} {spare : Nat → Bool} {held : Bool}
/-- An argument: a slice of structs, opened by its elements' own opener. -/
theorem leaf_sq {t e : TypeId} {d n : Nat} {v : Value} {y : DataW H × List MemPlace} (ht : P.underlying t = some (.slice e)) (hok : flatOk P d e = true) (hc : P.cellsOf e = (leaves P d e).length) (hl : (leaves P d e).length = k)
    (hopen : ∀ (cell : Nat → Option Value), (∀ (j : Nat) (t : TypeId), (leaves P d e)[j]? = some t → ∃ (u : Value) (m : Nat) (y : DataW H × List MemPlace), cell j = some u ∧ DataW.trod enc P w base spare held m t [u] = some y) → ∃ r : α, ok w r ∧ ∀ (j : Nat) (u : Value), (cs r)[j]? = some u → cell j = some u)
    (h : DataW.trod enc P w base spare held n t [v] = some y) : ∃ L, Sq k cs ok w v L := by
  obtain ⟨len, hmax, hs⟩ := leaf_slice ht hok hc h
  rcases hs with ⟨e, rfl⟩ | ⟨a, cap, e, hle, hb, hi⟩
  · exact ⟨[], Nat.zero_le _, none, 0, e, fun i r hr => by simp at hr⟩
  · have key : ∀ i, i < len → ∃ r : α, ok w r ∧ ∀ (j : Nat) (u : Value), (cs r)[j]? = some u → w.cell? (a.add (i * k + j)) = some u := fun i hil =>
      hopen (fun j => w.cell? (a.add (i * k + j))) (fun j t ht => by have := hi i hil j t ht; rw [hl] at this; exact this)
    rcases Nat.eq_zero_or_pos len with rfl | hpos
    · exact ⟨[], Nat.zero_le _, some a, cap, by rw [e]; rfl, fun i r hr => by simp at hr⟩
    · obtain ⟨x0, _⟩ := key 0 hpos
      haveI : Inhabited α := ⟨x0⟩
      obtain ⟨X, hX⟩ := Go.Deep.choose_lt key
      refine ⟨(List.range len).map X, (by rw [List.length_map, List.length_range]; exact hmax), some a, cap, (by rw [e, List.length_map, List.length_range]), fun i r hr => ?_⟩
      rw [List.getElem?_map] at hr
      obtain ⟨i', hi', rfl⟩ := Option.map_eq_some_iff.1 hr
      obtain ⟨hlt, e⟩ := List.getElem?_eq_some_iff.1 hi'
      rw [List.getElem_range] at e
      subst e
      have := hX i (by simpa using hlt)
      exact ⟨this.1, a, rfl, this.2⟩
theorem open_sq {t e : TypeId} {d : Nat} {r : Reach} {b0 : Nat} {v : Value} {x : DataW H} {p : List MemPlace} (ht : P.underlying t = some (.slice e)) (hok : flatOk P d e = true) (hc : P.cellsOf e = (leaves P d e).length) (hl : (leaves P d e).length = k)
    (hopen : ∀ (cell : Nat → Option Value), (∀ (j : Nat) (t : TypeId), (leaves P d e)[j]? = some t → ∃ (u : Value) (m : Nat) (y : DataW H × List MemPlace), cell j = some u ∧ DataW.trod enc P w base spare held m t [u] = some y) → ∃ r : α, ok w r ∧ ∀ (j : Nat) (u : Value), (cs r)[j]? = some u → cell j = some u)
    (hv : Value.okWide P w r b0 t v) (h : DataW.Trod enc P w base spare held t v x p) : ∃ L, Sq k cs ok w v L := by
  obtain ⟨fuel, h⟩ := h
  obtain ⟨a0, l0, c0, rfl⟩ := okWide_slice ht hv
  exact leaf_sq ht hok hc hl hopen (n := fuel) (by simpa only [Value.cells] using h)
/-- An argument: a struct by value. -/
theorem open_one {t : TypeId} {d : Nat} {fs : Array Field} {r : Reach} {b0 : Nat} {v : Value} {x : DataW H} {p : List MemPlace} (ht : P.underlying t = some (.struct fs)) (hok : flatOk P d t = true) (hc : P.cellsOf t = k) (hl : ∀ r, (cs r).size = k)
    (hopen : ∀ (cell : Nat → Option Value), (∀ (j : Nat) (t' : TypeId), (leaves P d t)[j]? = some t' → ∃ (u : Value) (m : Nat) (y : DataW H × List MemPlace), cell j = some u ∧ DataW.trod enc P w base spare held m t' [u] = some y) → ∃ r : α, ok w r ∧ ∀ (j : Nat) (u : Value), (cs r)[j]? = some u → cell j = some u)
    (hv : Value.okWide P w r b0 t v) (h : DataW.Trod enc P w base spare held t v x p) : ∃ r : α, v = .agg (cs r) ∧ ok w r := by
  obtain ⟨fuel, h⟩ := h
  obtain ⟨cs', rfl, hsz⟩ := okWide_struct ht hv
  have hl2 := leafs_of (n := d) (t := t) hok (by rw [hc]; rw [hc] at hsz; simpa [Value.cells] using hsz) h
  obtain ⟨r, hr, hcell⟩ := hopen (fun j => (Value.agg cs').cells.toList[j]?) (fun j t ht => hl2 j t ht)
  refine ⟨r, ?_, hr⟩
  congr 1
  apply Array.ext
  · rw [hsz, hc, hl]
  · intro i h1 h2
    have := hcell i (cs r)[i] (by simp)
    simpa [Value.cells, h1] using this
end
end Go.Proofs.Ytakjiicnbocjeaa
