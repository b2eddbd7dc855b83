/- Arguments of whatever structs, opened to their leaves, with a bound on the weights of what they hold. -/
import Derived.Test.YtlniekobijcanaaGreatBinsNobodyM2
import Derived.SizedLaws
namespace Go.Proofs.YtlniekobijcanaaGreat
open Go.ChangeShapes Go.WideShapes Go.RowKit Go.Deep
section
variable {H : Type} {enc : TypeId × Value → H} {P : Program} {w : World} {base : Nat} {spare : Nat → Bool} {held : Bool} {Z : Nat → Prop}
theorem weightsAll_mem {e : TypeId} : ∀ {l : List (DataW H)} {d : DataW H}, d ∈ l → ∀ m ∈ d.weights P e, m ∈ DataW.weightsAll P e l
  | x :: r, d, hd, m, hm => by
    simp only [DataW.weightsAll, List.mem_append]
    rcases List.mem_cons.1 hd with rfl | hd
    · exact .inl hm
    · exact .inr (weightsAll_mem hd m hm)
/-- The leaves lie in these cells; their weights meet Z. -/
def LeafsZ (Z : Nat → Prop) (enc : TypeId × Value → H) (P : Program) (w : World) (base : Nat) (spare : Nat → Bool) (held : Bool) (ts : List TypeId) (cs : List Value) : Prop :=
  ∀ (j : Nat) (t : TypeId), ts[j]? = some t → ∃ (v : Value) (n : Nat) (y : DataW H × List MemPlace), cs[j]? = some v ∧ DataW.trod enc P w base spare held n t [v] = some y ∧ ∀ m ∈ y.1.weights P t, Z m
theorem LeafsZ.nil {cs : List Value} : LeafsZ Z enc P w base spare held [] cs := fun j t h => by simp at h
theorem LeafsZ.append {ts us : List TypeId} {cs : List Value} (h : LeafsZ Z enc P w base spare held ts (cs.take ts.length)) (h' : LeafsZ Z enc P w base spare held us (cs.drop ts.length)) : LeafsZ Z enc P w base spare held (ts ++ us) cs := by
  intro j t hj
  by_cases hl : j < ts.length
  · rw [List.getElem?_append_left hl] at hj
    obtain ⟨v, n, y, h1, h2⟩ := h j t hj
    rw [List.getElem?_take, if_pos hl] at h1
    exact ⟨v, n, y, h1, h2⟩
  · rw [List.getElem?_append_right (by omega)] at hj
    obtain ⟨v, n, y, h1, h2⟩ := h' _ t hj
    rw [List.getElem?_drop, show ts.length + (j - ts.length) = j by omega] at h1
    exact ⟨v, n, y, h1, h2⟩
theorem leafsZ_fields {n : Nat} : ∀ {fs : List Field} {off : Nat} {cs : List Value}, offsOk P n fs off = true → (∀ f ∈ fs, LeafsZ Z enc P w base spare held (leaves P n f.type) ((cs.drop f.offset).take (P.cellsOf f.type))) →
    LeafsZ Z enc P w base spare held (fs.flatMap fun f => leaves P n f.type) (cs.drop off)
  | [], _, _, _, _ => LeafsZ.nil
  | f :: r, off, cs, h, hf => by
    simp only [offsOk, Bool.and_eq_true, beq_iff_eq] at h
    obtain ⟨⟨h1, h2⟩, h3⟩ := h
    simp only [List.flatMap_cons]
    refine LeafsZ.append ?_ ?_
    · have := hf f (by simp)
      rw [h1, h2] at this
      exact this
    · rw [List.drop_drop]
      exact leafsZ_fields h3 (fun g hg => hf g (by simp [hg]))
theorem leafsZ_array {n : Nat} {e : TypeId} (he : P.cellsOf e = (leaves P n e).length) : ∀ {m k : Nat} {cs : List Value}, (∀ i, i < m → LeafsZ Z enc P w base spare held (leaves P n e) ((cs.drop ((k + i) * P.cellsOf e)).take (P.cellsOf e))) →
    LeafsZ Z enc P w base spare held ((List.range m).flatMap fun _ => leaves P n e) (cs.drop (k * P.cellsOf e))
  | 0, _, _, _ => LeafsZ.nil
  | m + 1, k, cs, hf => by
    rw [List.range_succ_eq_map, List.flatMap_cons, List.flatMap_map]
    refine LeafsZ.append ?_ ?_
    · have := hf 0 (by omega)
      rw [Nat.add_zero, he] at this
      rw [he]; exact this
    · rw [List.drop_drop, ← he]
      have := leafsZ_array he (m := m) (k := k + 1) (cs := cs) (fun i hi => by have := hf (i + 1) (by omega); rw [show k + 1 + i = k + (i + 1) by omega]; exact this)
      rw [show (k + 1) * P.cellsOf e = k * P.cellsOf e + P.cellsOf e by rw [Nat.succ_mul]] at this
      exact this
theorem flatZ_len {α : Type} (l : List α) : ∀ m : Nat, ((List.range m).flatMap fun _ => l).length = m * l.length
  | 0 => by simp
  | m + 1 => by rw [List.range_succ, List.flatMap_append, List.length_append, flatZ_len l m, Nat.succ_mul]; simp
theorem leafsZ_one {t : TypeId} {fuel : Nat} {cs : List Value} {x : DataW H × List MemPlace} (hl : cs.length = 1) (h : DataW.trod enc P w base spare held fuel t cs = some x) (hz : ∀ m ∈ x.1.weights P t, Z m) : LeafsZ Z enc P w base spare held [t] cs := by
  intro j t' hj
  match j, hj with
  | 0, hj =>
    cases hj
    match cs, hl with
    | [v], _ => exact ⟨v, fuel, x, rfl, h, hz⟩
/-- WHATEVER IS READ IS READ LEAF BY LEAF. -/
theorem leafsZ_of : ∀ {n : Nat} {t : TypeId} {fuel : Nat} {cs : List Value} {x : DataW H × List MemPlace}, flatOk P n t = true → cs.length = P.cellsOf t → DataW.trod enc P w base spare held fuel t cs = some x → (∀ m ∈ x.1.weights P t, Z m) →
    LeafsZ Z enc P w base spare held (leaves P n t) cs
  | 0, t, fuel, cs, x, hok, hl, h, hz => by
    simp only [flatOk, beq_iff_eq] at hok
    exact leafsZ_one (by rw [hl, hok]) h hz
  | n + 1, t, fuel, cs, x, hok, hl, h, hz => by
    simp only [flatOk, Bool.and_eq_true, beq_iff_eq] at hok
    obtain ⟨hc, hok⟩ := hok
    unfold leaves at hc ⊢
    cases hu : P.underlying t with
    | none => 
      rw [hu] at hc
      exact leafsZ_one (by rw [hl, hc]; rfl) h hz
    | some u =>
      rw [hu] at hc hok
      cases u with
      | struct fs =>
        simp only [Bool.and_eq_true] at hok
        obtain ⟨xs, m, _, hxe, hlen, hxl, hf⟩ := DataW.trod_struct hu h
        have := leafsZ_fields (enc := enc) (w := w) (base := base) (spare := spare) (held := held) (cs := cs) hok.1 (fun f hfm => by
          obtain ⟨i, hi, hi2⟩ := List.getElem_of_mem hfm
          have h1 := hf i f (by simp at hi; rw [Array.getElem?_eq_getElem hi]; simpa using hi2)
          have hi' : i < xs.length := by simp at hi; omega
          rw [List.getElem?_eq_getElem hi'] at h1
          have hzf : ∀ m ∈ (xs[i]'hi').1.weights P f.type, Z m := fun m hm => by
            refine hz m ?_
            rw [hxe]
            simp only [DataW.weights, hu]
            exact DataW.weights_mem_each (j := i) (t := f.type) (d := (xs[i]'hi').1) (by rw [List.getElem?_map]; simp at hi; simp [hi, hi2]) (by rw [List.getElem?_map, List.getElem?_eq_getElem hi']; rfl) m hm
          refine leafsZ_of (n := n) (List.all_eq_true.1 hok.2 f hfm) ?_ h1 hzf
          have hsz : ∀ (l : List Field) (off : Nat), offsOk P n l off = true → ∀ g ∈ l, off ≤ g.offset ∧ g.offset + P.cellsOf g.type ≤ off + (l.flatMap fun f => leaves P n f.type).length := by
            intro l
            induction l with
            | nil => intro _ _ g hg; cases hg
            | cons a r ih =>
              intro off ho g hg
              simp only [offsOk, Bool.and_eq_true, beq_iff_eq] at ho
              simp only [List.flatMap_cons, List.length_append]
              rcases List.mem_cons.1 hg with rfl | hg
              · omega
              · have := ih _ ho.2 g hg
                omega
          have := hsz _ _ hok.1 f hfm
          simp only at hc
          rw [List.length_take, List.length_drop]
          omega)
        simpa using this
      | array m e =>
        simp only [Bool.and_eq_true, beq_iff_eq] at hok
        obtain ⟨xs, k, _, hxe, hlen, hxl, hf⟩ := DataW.trod_array hu h
        have := leafsZ_array (enc := enc) (w := w) (base := base) (spare := spare) (held := held) (cs := cs) (m := m) (k := 0) hok.1 (fun i hi => by
          have h1 := hf i hi
          rw [List.getElem?_eq_getElem (by omega)] at h1
          rw [Nat.zero_add]
          have hzf : ∀ m ∈ (xs[i]'(by omega)).1.weights P e, Z m := fun m hm => by
            refine hz m ?_
            rw [hxe]
            simp only [DataW.weights, hu]
            exact weightsAll_mem (List.mem_map.2 ⟨_, List.getElem_mem (by omega), rfl⟩) m hm
          refine leafsZ_of (n := n) hok.2 ?_ h1 hzf
          rw [List.length_take, List.length_drop]
          have hcc : cs.length = m * P.cellsOf e := by
            rw [hl, hc, hok.1]
            exact flatZ_len _ _
          have : (i + 1) * P.cellsOf e ≤ m * P.cellsOf e := Nat.mul_le_mul_right _ hi
          rw [Nat.succ_mul] at this
          omega)
        simpa using this
      | _ => exact leafsZ_one (by rw [hl, hc]; rfl) h hz
/-- A slice of whatever: its elements' leaves lie in cells; their weights meet Z. -/
def SlZ (Z : Nat → Prop) (enc : TypeId × Value → H) (P : Program) (w : World) (base : Nat) (spare : Nat → Bool) (held : Bool) (ts : List TypeId) (e : TypeId) (v : Value) (n : Nat) : Prop :=
  n ≤ maxLen ∧ ((v = .slice none 0 0 ∧ n = 0) ∨ ∃ (a : Addr) (cap : Nat), v = .slice (some a) n cap ∧ n ≤ cap ∧ base ≤ a.block ∧ (∃ m, n ≤ m ∧ Z (m * P.bytesOf e)) ∧ ∀ i, i < n → ∀ (j : Nat) (t : TypeId), ts[j]? = some t →
    ∃ (u : Value) (m : Nat) (y : DataW H × List MemPlace), w.cell? (a.add (i * ts.length + j)) = some u ∧ DataW.trod enc P w base spare held m t [u] = some y ∧ ∀ m ∈ y.1.weights P t, Z m)
theorem leaf_sliceZ {t e : TypeId} {d n : Nat} {v : Value} {y : DataW H × List MemPlace} (ht : P.underlying t = some (.slice e)) (hok : flatOk P d e = true) (hc : P.cellsOf e = (leaves P d e).length) (h : DataW.trod enc P w base spare held n t [v] = some y) (hz : ∀ m ∈ y.1.weights P t, Z m) :
    ∃ len, SlZ Z enc P w base spare held (leaves P d e) e v len := by
  rcases open_slice ht h with ⟨h0, _⟩ | ⟨a, len, cap, m, k, D, Pl, hcs, hb, hl, hm, hmm, hx, hi⟩
  · injection h0 with h0 _
    exact ⟨0, Nat.zero_le _, .inl ⟨h0, rfl⟩⟩
  · injection hcs with hcs _
    have hlm : len ≤ m := by rw [hmm]; split <;> omega
    rw [hx] at hz
    simp only [DataW.weights, ht] at hz
    refine ⟨len, by omega, .inr ⟨a, cap, hcs, hl, hb, ⟨_, ?_, hz _ (List.mem_cons_self ..)⟩, fun i hil j tj hj => ?_⟩⟩
    · simp only [List.length_map, List.length_range]; omega
    · obtain ⟨cs', hcells, htr⟩ := hi i (by omega)
      obtain ⟨_, hlen, hcell⟩ := World.cells?_some hcells
      obtain ⟨u, m', y', h1, h2, h3⟩ := leafsZ_of hok hlen htr (fun m hm => hz m (List.mem_cons_of_mem _ (List.mem_append.2 (.inl (weightsAll_mem (List.mem_map.2 ⟨i, by simpa using hil, rfl⟩) m hm))))) j tj hj
      refine ⟨u, m', y', ?_, h2, h3⟩
      have hjl : j < P.cellsOf e := by rw [hc]; exact (List.getElem?_eq_some_iff.1 hj).1
      rw [← hc, ← Go.Deep.add_add, hcell j hjl, h1]
theorem arg_Z {ts : List TypeId} {ds : List (DataW H)} (hs : (DataW.weightsEach P ts ds).all (· ≤ reachBytes) = true) {j : Nat} {t : TypeId} {d : DataW H} (ht : ts[j]? = some t) (hd : ds[j]? = some d) : ∀ m ∈ d.weights P t, m ≤ 140737488351232 := fun m hm => by
  have := List.all_eq_true.1 hs _ (DataW.weights_mem_each ht hd m hm)
  rw [decide_eq_true_eq] at this
  have e : reachBytes = 140737488351232 := rfl
  omega
end
end Go.Proofs.YtlniekobijcanaaGreat
