/- Texts of this claim, joined: Arguments opened to cells: structs of ints by value, slices of structs of ints; Arguments of whatever structs, opened to their leaves: structs and arrays laid flat; what a leaf is; ident's laws: slices of Op opened; marks, plainly; An argument that is a slice of bytes, opened: its bytes, its block, its reach. -/
import Derived.Test.YtakjiicnbocjeaaIdUnpacksM1
import Derived.Test.YtakjiicnbocjeaaIdUnpacksM6
import Derived.Lib.SmallJoins
import Derived.Deep.Slices
import Derived.Deep.Fields
import Derived.ChangeSame
import Derived.Test.YtakjiicnbocjeaaIdUnpacksM2
import Derived.SizedLaws
namespace Go.Proofs.Ytakjiicnbocjeaa
open Go.Joins Go.ChangeShapes Go.WideShapes Go.RowKit Go.Deep
section
variable {H : Type} {enc : TypeId × Value → H} {P : Program} {w : World} {base : Nat} {spare : Nat → Bool} {held : Bool}
theorem open_ops3 {ti : TypeId} {r : Reach} {b0 : Nat} {t : TypeId} {f0 f1 f2 : Field} {v : Value} {d : DataW H} {p : List MemPlace} (hs : P.underlying t = some (.struct #[f0, f1, f2])) (ti1 : P.underlying ti = some (.int .i64)) (hf : f0.type = ti ∧ f1.type = ti ∧ f2.type = ti)
    (hone : oneCellFields P #[f0, f1, f2] = true) (hC : P.cellsOf t = 3)
    (hv : Value.okWide P w r b0 t v) (h : DataW.Trod enc P w base spare held t v d p) : ∃ a b c, v = .agg #[.int .i64 a, .int .i64 b, .int .i64 c] ∧ okI a ∧ okI b ∧ okI c := by
  obtain ⟨v0, v1, v2, y0, y1, y2, n, rfl, -, -, h0, h1, h2⟩ := open_agg3 hs hone hC hv h
  obtain ⟨e0, e1, e2⟩ := hf
  rw [e0] at h0; rw [e1] at h1; rw [e2] at h2
  obtain ⟨a, ha, -, wa⟩ := DataW.trod_int ti1 h0
  obtain ⟨b, hb, -, wb⟩ := DataW.trod_int ti1 h1
  obtain ⟨c, hc, -, wc⟩ := DataW.trod_int ti1 h2
  injection ha with ha _; injection hb with hb _; injection hc with hc _
  subst ha hb hc
  exact ⟨a, b, c, rfl, wf_okI.1 wa, wf_okI.1 wb, wf_okI.1 wc⟩
theorem open_slice_fields {t e : TypeId} {fs : Array Field} {fuel : Nat} {cs : List Value} {x : DataW H × List MemPlace} (ht : P.underlying t = some (.slice e)) (he : P.underlying e = some (.struct fs))
    (hone : oneCellFields P fs = true) (hC : P.cellsOf e = fs.size) (h : DataW.trod enc P w base spare held fuel t cs = some x) :
    (cs = [.slice none 0 0] ∧ x = (.nil, [])) ∨
    ∃ (a : Addr) (len cap m : Nat) (D : Nat → DataW H) (Pl : Nat → List MemPlace), cs = [.slice (some a) len cap] ∧ base ≤ a.block ∧ len ≤ cap ∧ cap ≤ maxLen ∧ m = (if spare a.block then cap else len) ∧
      x = (.slice ((List.range len).map D) ((List.range (m - len)).map fun j => D (len + j)), MemPlace.row a (m * fs.size) ++ (List.range m).flatMap Pl) ∧
      ∀ i, i < m → ∃ (ys : List (DataW H × List MemPlace)) (n : Nat), D i = .agg (ys.map (·.1)) ∧ Pl i = ys.flatMap (·.2) ∧ ys.length = fs.size ∧
        ∀ (j : Nat) (f : Field), fs[j]? = some f → ∃ (v : Value) (y : DataW H × List MemPlace), w.cell? (a.add (i * fs.size + j)) = some v ∧ ys[j]? = some y ∧ DataW.trod enc P w base spare held n f.type [v] = some y := by
  rcases open_slice ht h with h0 | ⟨a, len, cap, m, n, D, Pl, hcs, hb, hl, hm, hmm, hx, hi⟩
  · exact .inl h0
  · refine .inr ⟨a, len, cap, m, D, Pl, hcs, hb, hl, hm, hmm, by rw [hC] at hx; exact hx, fun i him => ?_⟩
    obtain ⟨cs', hc, ht'⟩ := hi i him
    rw [hC] at hc
    obtain ⟨ys, n', hn', hy, hlen, hyl, hf⟩ := DataW.trod_struct he ht'
    obtain ⟨_, hcl, hat⟩ := World.cells?_some hc
    simp only [Prod.mk.injEq] at hy
    refine ⟨ys, n', hy.1, hy.2, hyl, fun j f hj => ?_⟩
    obtain ⟨ho, hk⟩ := hone_of hone j f hj
    have hjl : j < fs.size := (Array.getElem?_eq_some_iff.1 hj).1
    have hcell := hat j hjl
    have hv : cs'[j]? = some (cs'[j]'(by omega)) := List.getElem?_eq_getElem (by omega)
    have h1 := hf j f hj
    rw [ho, hk] at h1
    have hone' : (cs'.drop j).take 1 = [cs'[j]'(by omega)] := by
      rw [List.drop_eq_getElem_cons (by omega)]
      rfl
    rw [hone'] at h1
    have hys : ys[j]? = some (ys[j]'(by omega)) := List.getElem?_eq_getElem (by omega)
    refine ⟨_, _, ?_, hys, h1.trans hys⟩
    rw [← Go.Deep.add_add, hcell, hv]
/-- A slice of structs of k ints: its cells, row by row. -/
def SlI (w : World) (v : Value) (k : Nat) (L : List (List Int)) : Prop :=
  (v = .slice none 0 0 ∧ L = []) ∨ ∃ (a : Addr) (cap : Nat), v = .slice (some a) L.length cap ∧ L.length ≤ cap ∧ cap ≤ maxLen ∧
    ∀ i r, L[i]? = some r → r.length = k ∧ (∀ x ∈ r, okI x) ∧ ∀ (j : Nat) (x : Int), r[j]? = some x → w.cell? (a.add (i * k + j)) = some (.int .i64 x)
theorem open_slI {ti : TypeId} {r : Reach} {b0 : Nat} {t e : TypeId} {fs : Array Field} {v : Value} {d : DataW H} {p : List MemPlace} (ht : P.underlying t = some (.slice e)) (he : P.underlying e = some (.struct fs))
    (ti1 : P.underlying ti = some (.int .i64)) (hf0 : (fs.toList.all fun f => decide (f.type = ti)) = true) (hone : oneCellFields P fs = true) (hC : P.cellsOf e = fs.size)
    (hv : Value.okWide P w r b0 t v) (h : DataW.Trod enc P w base spare held t v d p) : ∃ L, SlI w v fs.size L := by
  have hf : ∀ (j : Nat) (f : Field), fs[j]? = some f → f.type = ti := fun j f h => by simpa using List.all_eq_true.1 hf0 f (by have := Array.mem_of_getElem? h; simpa using this)
  obtain ⟨fuel, h⟩ := h
  have hvs : ∃ a l c, v = .slice a l c := okWide_slice ht hv
  obtain ⟨a0, l0, c0, rfl⟩ := hvs
  rcases open_slice_fields ht he hone hC h with ⟨h0, _⟩ | ⟨a, len, cap, m, D, Pl, hcs, hb, hl, hm, hmm, hx, hi⟩
  · have h0' : Value.slice a0 l0 c0 = .slice none 0 0 := by simpa [Value.cells] using h0
    exact ⟨[], .inl ⟨h0', rfl⟩⟩
  · have h0' : Value.slice a0 l0 c0 = .slice (some a) len cap := by simpa [Value.cells] using hcs
    have hlm : len ≤ m := by rw [hmm]; split <;> omega
    have key : ∀ i, i < len → ∃ r : List Int, r.length = fs.size ∧ (∀ x ∈ r, okI x) ∧ ∀ (j : Nat) (x : Int), r[j]? = some x → w.cell? (a.add (i * fs.size + j)) = some (.int .i64 x) := by
      intro i hil
      obtain ⟨ys, n, -, -, -, hcell⟩ := hi i (by omega)
      have hone1 : ∀ j, j < fs.size → ∃ x, okI x ∧ w.cell? (a.add (i * fs.size + j)) = some (.int .i64 x) := by
        intro j hj
        obtain ⟨v, y, hc, -, hy⟩ := hcell j fs[j] (by simp [hj])
        rw [hf j fs[j] (by simp [hj])] at hy
        obtain ⟨x, hx, -, wx⟩ := DataW.trod_int ti1 hy
        injection hx with hx _
        subst hx
        exact ⟨x, wf_okI.1 wx, hc⟩
      obtain ⟨X, hX⟩ := choose_lt (α := Int) (p := fun j x => okI x ∧ w.cell? (a.add (i * fs.size + j)) = some (.int .i64 x)) hone1
      refine ⟨(List.range fs.size).map X, by simp, ?_, ?_⟩
      · intro x hx
        obtain ⟨j, hj, rfl⟩ := List.mem_map.1 hx
        exact (hX j (by simpa using hj)).1
      · intro j x hx
        rw [List.getElem?_map] at hx
        obtain ⟨j', hj', rfl⟩ := Option.map_eq_some_iff.1 hx
        obtain ⟨hlt, hj2⟩ := List.getElem?_eq_some_iff.1 hj'
        rw [List.getElem_range] at hj2
        subst hj2
        exact (hX j (by simpa using hlt)).2
    obtain ⟨R, hR⟩ := choose_lt (α := List Int) (p := fun i r => r.length = fs.size ∧ (∀ x ∈ r, okI x) ∧ ∀ (j : Nat) (x : Int), r[j]? = some x → w.cell? (a.add (i * fs.size + j)) = some (.int .i64 x)) key
    have h0' := h0'
    injection h0' with e1 e2 e3
    subst e1 e2 e3
    refine ⟨(List.range l0).map R, .inr ⟨a, c0, by simp, by simpa using hl, hm, ?_⟩⟩
    intro i r hr
    rw [List.getElem?_map] at hr
    obtain ⟨i', hi', rfl⟩ := Option.map_eq_some_iff.1 hr
    obtain ⟨hlt, hj2⟩ := List.getElem?_eq_some_iff.1 hi'
    rw [List.getElem_range] at hj2
    subst hj2
    exact hR i (by simpa using hlt)
theorem SlI.len {v : Value} {k : Nat} {L : List (List Int)} (h : SlI w v k L) : L.length ≤ maxLen ∧ ∃ a c, v = .slice a L.length c := by
  rcases h with ⟨rfl, rfl⟩ | ⟨a, cap, rfl, h1, h2, -⟩
  · exact ⟨Nat.zero_le _, _, _, rfl⟩
  · exact ⟨by omega, _, _, rfl⟩
theorem add_field (a : Addr) (n j : Nat) : a.add (n + (j + 1)) = ⟨(a.add n).block, (a.add n).off + (j + 1), none⟩ := by
  rw [← Go.Deep.add_add]; rfl
theorem SlI.some {a0 : Option Addr} {n c k i : Nat} {L : List (List Int)} {r : List Int} (h : SlI w (.slice a0 n c) k L) (hr : L[i]? = .some r) : ∃ a, a0 = .some a := by
  rcases h with ⟨_, rfl⟩ | ⟨a, cap, e, _⟩
  · simp at hr
  · injection e with e1 _ _
    exact ⟨a, e1⟩
theorem SlI.row {a : Addr} {n c k i : Nat} {L : List (List Int)} {r : List Int} (h : SlI w (.slice (.some a) n c) k L) (hr : L[i]? = .some r) : r.length = k ∧ (∀ x ∈ r, okI x) ∧
    (∀ x, r[0]? = .some x → w.cell? (a.add (i * k)) = .some (.int .i64 x)) ∧ ∀ (j : Nat) (x : Int), r[j + 1]? = .some x → w.cell? ⟨(a.add (i * k)).block, (a.add (i * k)).off + (j + 1), none⟩ = .some (.int .i64 x) := by
  rcases h with ⟨_, rfl⟩ | ⟨a', cap, e, _, _, h3⟩
  · simp at hr
  · injection e with e1 _ _
    injection e1 with e1
    subst e1
    obtain ⟨g1, g2, g3⟩ := h3 i r hr
    exact ⟨g1, g2, fun x hx => g3 0 x hx, fun j x hx => by rw [← add_field]; exact g3 (j + 1) x hx⟩
theorem SlI.below {w' : World} {v : Value} {k : Nat} {L : List (List Int)} (h : SlI w v k L) (hk : 0 < k) (hb : Below w.heap.size w w') : SlI w' v k L := by
  rcases h with ⟨rfl, rfl⟩ | ⟨a, cap, rfl, h1, h2, h3⟩
  · exact .inl ⟨rfl, rfl⟩
  · refine .inr ⟨a, cap, rfl, h1, h2, fun i r hr => ⟨(h3 i r hr).1, (h3 i r hr).2.1, fun j x hx => ?_⟩⟩
    have hc := (h3 i r hr).2.2 j x hx
    have hlt : (a.add (i * k + j)).block < w.heap.size := by
      refine Nat.lt_of_not_le fun hle => ?_
      simp [World.cell?, Array.getElem?_eq_none hle] at hc
    simp only [World.cell?, hb.block _ hlt] at hc ⊢
    exact hc
end
end Go.Proofs.Ytakjiicnbocjeaa
namespace Go.Proofs.Ytakjiicnbocjeaa
open Go.ChangeShapes Go.WideShapes Go.RowKit Go.Deep
/-- A type's leaves: structs and arrays laid flat. -/
def leaves (P : Program) : Nat → TypeId → List TypeId
  | 0, t => [t]
  | n + 1, t => match P.underlying t with
    | some (.struct fs) => fs.toList.flatMap fun f => leaves P n f.type
    | some (.array m e) => (List.range m).flatMap fun _ => leaves P n e
    | _ => [t]
def offsOk (P : Program) (n : Nat) : List Field → Nat → Bool
  | [], _ => true
  | f :: r, off => f.offset == off && P.cellsOf f.type == (leaves P n f.type).length && offsOk P n r (off + (leaves P n f.type).length)
def flatOk (P : Program) : Nat → TypeId → Bool
  | 0, t => P.cellsOf t == 1
  | n + 1, t => P.cellsOf t == (leaves P (n + 1) t).length && match P.underlying t with
    | some (.struct fs) => offsOk P n fs.toList 0 && fs.toList.all fun f => flatOk P n f.type
    | some (.array _ e) => P.cellsOf e == (leaves P n e).length && flatOk P n e
    | _ => true
section
variable {H : Type} {enc : TypeId × Value → H} {P : Program} {w : World} {base : Nat} {spare : Nat → Bool} {held : Bool}
/-- The leaves lie in these cells. -/
def Leafs (enc : TypeId × Value → H) (P : Program) (w : World) (base : Nat) (spare : Nat → Bool) (held : Bool) (ts : List TypeId) (cs : List Value) : Prop :=
  ∀ (j : Nat) (t : TypeId), ts[j]? = some t → ∃ (v : Value) (n : Nat) (y : DataW H × List MemPlace), cs[j]? = some v ∧ DataW.trod enc P w base spare held n t [v] = some y
theorem Leafs.nil {cs : List Value} : Leafs enc P w base spare held [] cs := fun j t h => by simp at h
theorem Leafs.append {ts us : List TypeId} {cs : List Value} (h : Leafs enc P w base spare held ts (cs.take ts.length)) (h' : Leafs enc P w base spare held us (cs.drop ts.length)) : Leafs enc P w base spare held (ts ++ us) cs := by
  intro j t hj
  by_cases hl : j < ts.length
  · rw [List.getElem?_append_left hl] at hj
    obtain ⟨v, n, y, h1, h2⟩ := h j t hj
    rw [List.getElem?_take, if_pos hl] at h1
    exact ⟨v, n, y, h1, h2⟩
  · rw [List.getElem?_append_right (by omega)] at hj
    obtain ⟨v, n, y, h1, h2⟩ := h' _ t hj
    rw [List.getElem?_drop, show ts.length + (j - ts.length) = j by omega] at h1
    exact ⟨v, n, y, h1, h2⟩
theorem leafs_fields {n : Nat} : ∀ {fs : List Field} {off : Nat} {cs : List Value}, offsOk P n fs off = true → (∀ f ∈ fs, Leafs enc P w base spare held (leaves P n f.type) ((cs.drop f.offset).take (P.cellsOf f.type))) →
    Leafs enc P w base spare held (fs.flatMap fun f => leaves P n f.type) (cs.drop off)
  | [], _, _, _, _ => Leafs.nil
  | f :: r, off, cs, h, hf => by
    simp only [offsOk, Bool.and_eq_true, beq_iff_eq] at h
    obtain ⟨⟨h1, h2⟩, h3⟩ := h
    simp only [List.flatMap_cons]
    refine Leafs.append ?_ ?_
    · have := hf f (by simp)
      rw [h1, h2] at this
      exact this
    · rw [List.drop_drop]
      exact leafs_fields h3 (fun g hg => hf g (by simp [hg]))
theorem leafs_array {n : Nat} {e : TypeId} (he : P.cellsOf e = (leaves P n e).length) : ∀ {m k : Nat} {cs : List Value}, (∀ i, i < m → Leafs enc P w base spare held (leaves P n e) ((cs.drop ((k + i) * P.cellsOf e)).take (P.cellsOf e))) →
    Leafs enc P w base spare held ((List.range m).flatMap fun _ => leaves P n e) (cs.drop (k * P.cellsOf e))
  | 0, _, _, _ => Leafs.nil
  | m + 1, k, cs, hf => by
    rw [List.range_succ_eq_map, List.flatMap_cons, List.flatMap_map]
    refine Leafs.append ?_ ?_
    · have := hf 0 (by omega)
      rw [Nat.add_zero, he] at this
      rw [he]; exact this
    · rw [List.drop_drop, ← he]
      have := leafs_array he (m := m) (k := k + 1) (cs := cs) (fun i hi => by have := hf (i + 1) (by omega); rw [show k + 1 + i = k + (i + 1) by omega]; exact this)
      rw [show (k + 1) * P.cellsOf e = k * P.cellsOf e + P.cellsOf e by rw [Nat.succ_mul]] at this
      exact this
theorem flat_len {α : Type} (l : List α) : ∀ m : Nat, ((List.range m).flatMap fun _ => l).length = m * l.length
  | 0 => by simp
  | m + 1 => by rw [List.range_succ, List.flatMap_append, List.length_append, flat_len l m, Nat.succ_mul]; simp
theorem leafs_one {t : TypeId} {fuel : Nat} {cs : List Value} {x : DataW H × List MemPlace} (hl : cs.length = 1) (h : DataW.trod enc P w base spare held fuel t cs = some x) : Leafs enc P w base spare held [t] cs := by
  intro j t' hj
  match j, hj with
  | 0, hj =>
    cases hj
    match cs, hl with
    | [v], _ => exact ⟨v, fuel, x, rfl, h⟩
/-- WHATEVER IS READ IS READ LEAF BY LEAF. -/
theorem leafs_of : ∀ {n : Nat} {t : TypeId} {fuel : Nat} {cs : List Value} {x : DataW H × List MemPlace}, flatOk P n t = true → cs.length = P.cellsOf t → DataW.trod enc P w base spare held fuel t cs = some x →
    Leafs enc P w base spare held (leaves P n t) cs
  | 0, t, fuel, cs, x, hok, hl, h => by
    simp only [flatOk, beq_iff_eq] at hok
    exact leafs_one (by rw [hl, hok]) h
  | n + 1, t, fuel, cs, x, hok, hl, h => by
    simp only [flatOk, Bool.and_eq_true, beq_iff_eq] at hok
    obtain ⟨hc, hok⟩ := hok
    unfold leaves at hc ⊢
    cases hu : P.underlying t with
    | none => 
      rw [hu] at hc
      exact leafs_one (by rw [hl, hc]; rfl) h
    | some u =>
      rw [hu] at hc hok
      cases u with
      | struct fs =>
        simp only [Bool.and_eq_true] at hok
        obtain ⟨xs, m, _, _, hlen, hxl, hf⟩ := DataW.trod_struct hu h
        have := leafs_fields (enc := enc) (w := w) (base := base) (spare := spare) (held := held) (cs := cs) hok.1 (fun f hfm => by
          obtain ⟨i, hi, hi2⟩ := List.getElem_of_mem hfm
          have h1 := hf i f (by simp at hi; rw [Array.getElem?_eq_getElem hi]; simpa using hi2)
          have hi' : i < xs.length := by simp at hi; omega
          rw [List.getElem?_eq_getElem hi'] at h1
          refine leafs_of (n := n) (List.all_eq_true.1 hok.2 f hfm) ?_ h1
          have hsz : ∀ (l : List Field) (off : Nat), offsOk P n l off = true → ∀ g ∈ l, off ≤ g.offset ∧ g.offset + P.cellsOf g.type ≤ off + (l.flatMap fun f => leaves P n f.type).length := by
            intro l
            induction l with
            | nil => intro _ _ g hg; cases hg
            | cons a r ih =>
              intro off ho g hg
              simp only [offsOk, Bool.and_eq_true, beq_iff_eq] at ho
              simp only [List.flatMap_cons, List.length_append]
              rcases List.mem_cons.1 hg with rfl | hg
              · omega
              · have := ih _ ho.2 g hg
                omega
          have := hsz _ _ hok.1 f hfm
          simp only at hc
          rw [List.length_take, List.length_drop]
          omega)
        simpa using this
      | array m e =>
        simp only [Bool.and_eq_true, beq_iff_eq] at hok
        obtain ⟨xs, k, _, _, hlen, hxl, hf⟩ := DataW.trod_array hu h
        have := leafs_array (enc := enc) (w := w) (base := base) (spare := spare) (held := held) (cs := cs) (m := m) (k := 0) hok.1 (fun i hi => by
          have h1 := hf i hi
          rw [List.getElem?_eq_getElem (by omega)] at h1
          rw [Nat.zero_add]
          refine leafs_of (n := n) hok.2 ?_ h1
          rw [List.length_take, List.length_drop]
          have hcc : cs.length = m * P.cellsOf e := by
            rw [hl, hc, hok.1]
            exact flat_len _ _
          have : (i + 1) * P.cellsOf e ≤ m * P.cellsOf e := Nat.mul_le_mul_right _ hi
          rw [Nat.succ_mul] at this
          omega)
        simpa using this
      | _ => exact leafs_one (by rw [hl, hc]; rfl) h
/-- What a leaf is. -/
theorem leaf_int {t : TypeId} {k : IntKind} {n : Nat} {v : Value} {y : DataW H × List MemPlace} (ht : P.underlying t = some (.int k)) (h : DataW.trod enc P w base spare held n t [v] = some y) : ∃ x, v = .int k x ∧ (Lit.int k x).wf = true := by
  obtain ⟨x, e, _, hw⟩ := DataW.trod_int ht h
  injection e with e _
  exact ⟨x, e, hw⟩
theorem leaf_i64 {t : TypeId} {n : Nat} {v : Value} {y : DataW H × List MemPlace} (ht : P.underlying t = some (.int .i64)) (h : DataW.trod enc P w base spare held n t [v] = some y) : ∃ x, v = .int .i64 x ∧ okI x := by
  obtain ⟨x, e, hw⟩ := leaf_int ht h
  exact ⟨x, e, wf_okI.1 hw⟩
theorem leaf_bool {t : TypeId} {n : Nat} {v : Value} {y : DataW H × List MemPlace} (ht : P.underlying t = some .bool) (h : DataW.trod enc P w base spare held n t [v] = some y) : ∃ b, v = .bool b := by
  obtain ⟨x, e, _⟩ := DataW.trod_bool ht h
  injection e with e _
  exact ⟨x, e⟩
/-- A slice of whatever: its elements' leaves lie in cells. -/
def Sl (enc : TypeId × Value → H) (P : Program) (w : World) (base : Nat) (spare : Nat → Bool) (held : Bool) (ts : List TypeId) (v : Value) (n : Nat) : Prop :=
  n ≤ maxLen ∧ ((v = .slice none 0 0 ∧ n = 0) ∨ ∃ (a : Addr) (cap : Nat), v = .slice (some a) n cap ∧ n ≤ cap ∧ base ≤ a.block ∧ ∀ i, i < n → ∀ (j : Nat) (t : TypeId), ts[j]? = some t →
    ∃ (u : Value) (m : Nat) (y : DataW H × List MemPlace), w.cell? (a.add (i * ts.length + j)) = some u ∧ DataW.trod enc P w base spare held m t [u] = some y)
theorem leaf_slice {t e : TypeId} {d n : Nat} {v : Value} {y : DataW H × List MemPlace} (ht : P.underlying t = some (.slice e)) (hok : flatOk P d e = true) (hc : P.cellsOf e = (leaves P d e).length) (h : DataW.trod enc P w base spare held n t [v] = some y) :
    ∃ len, Sl enc P w base spare held (leaves P d e) v len := by
  rcases open_slice ht h with ⟨h0, _⟩ | ⟨a, len, cap, m, k, D, Pl, hcs, hb, hl, hm, hmm, _, hi⟩
  · injection h0 with h0 _
    exact ⟨0, Nat.zero_le _, .inl ⟨h0, rfl⟩⟩
  · injection hcs with hcs _
    refine ⟨len, by omega, .inr ⟨a, cap, hcs, hl, hb, fun i hil j tj hj => ?_⟩⟩
    have hlm : len ≤ m := by rw [hmm]; split <;> omega
    obtain ⟨cs', hcells, htr⟩ := hi i (by omega)
    obtain ⟨_, hlen, hcell⟩ := World.cells?_some hcells
    obtain ⟨u, m', y', h1, h2⟩ := leafs_of hok hlen htr j tj hj
    refine ⟨u, m', y', ?_, h2⟩
    have hjl : j < P.cellsOf e := by rw [hc]; exact (List.getElem?_eq_some_iff.1 hj).1
    rw [← hc, ← Go.Deep.add_add, hcell j hjl, h1]
theorem Sl.form {ts : List TypeId} {v : Value} {n : Nat} (h : Sl enc P w base spare held ts v n) : n ≤ maxLen ∧ ∃ a c, v = .slice a n c := by
  rcases h with ⟨h0, ⟨rfl, rfl⟩ | ⟨a, cap, rfl, -⟩⟩
  · exact ⟨h0, _, _, rfl⟩
  · exact ⟨h0, _, _, rfl⟩
end
end Go.Proofs.Ytakjiicnbocjeaa
namespace Go.Proofs.Ytakjiicnbocjeaa
open Go.ChangeShapes Go.WideShapes Go.RowKit Go.Maps
structure OpV where
  kd : Int
  c : Int
  n : Int
  body : Value
  bs : List Int
  a : Ans
instance : Inhabited OpV := ⟨⟨0, 0, 0, .slice none 0 0, [], Ans.zero⟩⟩
def OpV.cs (r : OpV) : Array Value := #[.int .i64 r.kd, .int .i64 r.c, .int .i64 r.n, r.body, .int .i64 r.a.c, .int .i64 r.a.n, .int .i64 r.a.code, .int .i64 r.a.k]
structure OpOk (w : World) (r : OpV) : Prop where
  c : okI r.c
  n : okI r.n
  bs : Bs w r.body r.bs
  ac : okI r.a.c
  an : okI r.a.n
def Ops (w : World) (v : Value) (L : List OpV) : Prop := L.length ≤ maxLen ∧ ∃ a cap, v = .slice a L.length cap ∧ ∀ i r, L[i]? = some r → ∃ ad, a = some ad ∧ OpOk w r ∧ ∀ (j : Nat) (u : Value), r.cs[j]? = some u → w.cell? (ad.add (i * 8 + j)) = some u
theorem OpOk.fr {S : Nat → Prop} {w w' : World} {r : OpV} (h : OpOk w r) (hf : Fr S w w') (hS : ∀ b, S b → w.heap.size ≤ b) : OpOk w' r := ⟨h.c, h.n, h.bs.fr hf hS, h.ac, h.an⟩
theorem Ops.fr {S : Nat → Prop} {w w' : World} {v : Value} {L : List OpV} (h : Ops w v L) (hf : Fr S w w') (hS : ∀ b, S b → w.heap.size ≤ b) : Ops w' v L := by
  obtain ⟨h0, a, cap, e, h1⟩ := h
  refine ⟨h0, a, cap, e, fun i r hr => ?_⟩
  obtain ⟨ad, e2, hk, hc⟩ := h1 i r hr
  refine ⟨ad, e2, hk.fr hf hS, fun j u hu => ?_⟩
  have := hc j u hu
  exact hf.cell this (fun hs => by have := hS _ hs; have := World.block_lt_of_cell? w _ ‹w.cell? _ = _›; omega)
theorem Ops.at_ {w : World} {a : Option Addr} {n c i : Nat} {L : List OpV} {r : OpV} (h : Ops w (.slice a n c) L) (hr : L[i]? = some r) : ∃ ad, a = some ad ∧ OpOk w r ∧
    w.cell? (ad.add (i * 8)) = some (.int .i64 r.kd) ∧ w.cell? ⟨(ad.add (i * 8)).block, (ad.add (i * 8)).off + 1, none⟩ = some (.int .i64 r.c) ∧ w.cell? ⟨(ad.add (i * 8)).block, (ad.add (i * 8)).off + 2, none⟩ = some (.int .i64 r.n) ∧ w.cell? ⟨(ad.add (i * 8)).block, (ad.add (i * 8)).off + 3, none⟩ = some (r.body) ∧ w.cell? ⟨(ad.add (i * 8)).block, (ad.add (i * 8)).off + 4, none⟩ = some (.int .i64 r.a.c) ∧ w.cell? ⟨(ad.add (i * 8)).block, (ad.add (i * 8)).off + 5, none⟩ = some (.int .i64 r.a.n) ∧ w.cell? ⟨(ad.add (i * 8)).block, (ad.add (i * 8)).off + 6, none⟩ = some (.int .i64 r.a.code) ∧ w.cell? ⟨(ad.add (i * 8)).block, (ad.add (i * 8)).off + 7, none⟩ = some (.int .i64 r.a.k) := by
  obtain ⟨h0, a', cap, e, h1⟩ := h
  injection e with e1 _ _
  obtain ⟨ad, e2, hk, hc⟩ := h1 i r hr
  have hq : ∀ (j : Nat) (u : Value), r.cs[j + 1]? = some u → w.cell? ⟨(ad.add (i * 8)).block, (ad.add (i * 8)).off + (j + 1), none⟩ = some u := fun j u hu => by rw [← add_field]; exact hc (j + 1) u hu
  exact ⟨ad, e1.trans e2, hk, hc 0 _ rfl, hq 0 _ rfl, hq 1 _ rfl, hq 2 _ rfl, hq 3 _ rfl, hq 4 _ rfl, hq 5 _ rfl, hq 6 _ rfl⟩
section
variable {H : Type} {enc : TypeId × Value → H} {w : World} {base : Nat} {spare : Nat → Bool} {held : Bool}
theorem leaf_bytes {n : Nat} {v : Value} {y : DataW H × List MemPlace} (h : DataW.trod enc Try.prog w base spare held n 28 [v] = some y) : ∃ bs, Bs w v bs := by
  obtain ⟨len, hmax, hs⟩ := leaf_slice (d := 0) Try.underlying28 (by kernel_rfl) (by kernel_rfl) h
  have hmax : len ≤ 9223372036854775807 := hmax
  rcases hs with ⟨rfl, rfl⟩ | ⟨a, cap, rfl, hl, hb, hi⟩
  · exact ⟨[], Bs.nil w⟩
  · have key : ∀ i, i < len → ∃ x : Int, 0 ≤ x ∧ x < 256 ∧ w.cell? (a.add i) = some (.int .u8 x) := fun i hil => by
      obtain ⟨u, m, y, hc, ht⟩ := hi i hil 0 5 rfl
      obtain ⟨x, rfl, hw⟩ := leaf_int Try.underlying5 ht
      simp [Lit.wf, IntKind.min, IntKind.max, IntKind.signed, IntKind.bits] at hw
      refine ⟨x, by omega, by omega, ?_⟩
      have e : (leaves Try.prog 0 5).length = 1 := rfl
      rw [e, Nat.mul_one, Nat.add_zero] at hc
      exact hc
    obtain ⟨X, hX⟩ := Go.Deep.choose_lt key
    refine ⟨(List.range len).map X, ⟨(by rw [List.length_map, List.length_range]; exact hmax), some a, cap, (by rw [List.length_map, List.length_range]), fun i x hx => ?_⟩⟩
    rw [List.getElem?_map] at hx
    obtain ⟨i', hi', rfl⟩ := Option.map_eq_some_iff.1 hx
    obtain ⟨hlt, e⟩ := List.getElem?_eq_some_iff.1 hi'
    rw [List.getElem_range] at e
    subst e
    obtain ⟨x0, x1, x2⟩ := hX i (by simpa using hlt)
    exact ⟨x0, x1, a, rfl, x2⟩
theorem open_op {cell : Nat → Option Value} (h : ∀ (j : Nat) (t : TypeId), (leaves Try.prog 3 33)[j]? = some t → ∃ (u : Value) (m : Nat) (y : DataW H × List MemPlace), cell j = some u ∧ DataW.trod enc Try.prog w base spare held m t [u] = some y) :
    ∃ r : OpV, OpOk w r ∧ ∀ (j : Nat) (u : Value), r.cs[j]? = some u → cell j = some u := by
  obtain ⟨u0, m0, y0, c0, t0⟩ := h 0 3 (by kernel_rfl)
  obtain ⟨u1, m1, y1, c1, t1⟩ := h 1 3 (by kernel_rfl)
  obtain ⟨u2, m2, y2, c2, t2⟩ := h 2 3 (by kernel_rfl)
  obtain ⟨u3, m3, y3, c3, t3⟩ := h 3 28 (by kernel_rfl)
  obtain ⟨u4, m4, y4, c4, t4⟩ := h 4 3 (by kernel_rfl)
  obtain ⟨u5, m5, y5, c5, t5⟩ := h 5 3 (by kernel_rfl)
  obtain ⟨u6, m6, y6, c6, t6⟩ := h 6 29 (by kernel_rfl)
  obtain ⟨u7, m7, y7, c7, t7⟩ := h 7 3 (by kernel_rfl)
  obtain ⟨x0, rfl, k0⟩ := leaf_i64 Try.underlying3 t0
  obtain ⟨x1, rfl, k1⟩ := leaf_i64 Try.underlying3 t1
  obtain ⟨x2, rfl, k2⟩ := leaf_i64 Try.underlying3 t2
  obtain ⟨bs, hbs⟩ := leaf_bytes t3
  obtain ⟨x4, rfl, k4⟩ := leaf_i64 Try.underlying3 t4
  obtain ⟨x5, rfl, k5⟩ := leaf_i64 Try.underlying3 t5
  obtain ⟨x6, rfl, k6⟩ := leaf_i64 Try.underlying29 t6
  obtain ⟨x7, rfl, k7⟩ := leaf_i64 Try.underlying3 t7
  refine ⟨⟨x0, x1, x2, u3, bs, ⟨x4, x5, x6, x7⟩⟩, ⟨k1, k2, hbs, k4, k5⟩, fun j u hu => ?_⟩
  match j, hu with
  | 0, hu => cases hu; exact c0
  | 1, hu => cases hu; exact c1
  | 2, hu => cases hu; exact c2
  | 3, hu => cases hu; exact c3
  | 4, hu => cases hu; exact c4
  | 5, hu => cases hu; exact c5
  | 6, hu => cases hu; exact c6
  | 7, hu => cases hu; exact c7
  | j + 8, hu => simp [OpV.cs] at hu
set_option maxRecDepth 100000 in
theorem open_ops {r : Reach} {b0 : Nat} {v : Value} {d : DataW H} {p : List MemPlace} (hv : Value.okWide Try.prog w r b0 22 v) (h : DataW.Trod enc Try.prog w base spare held 22 v d p) : ∃ L, Ops w v L := by
  obtain ⟨fuel, h⟩ := h
  obtain ⟨a0, l0, c0, rfl⟩ := okWide_slice Try.underlying22 hv
  obtain ⟨len, hmax, hs⟩ := leaf_slice (d := 3) Try.underlying22 (by kernel_rfl) (by kernel_rfl) h
  rcases hs with ⟨e, rfl⟩ | ⟨a, cap, e, hl, hb, hi⟩
  · exact ⟨[], Nat.zero_le _, none, 0, e, fun i r hr => by simp at hr⟩
  · have key : ∀ i, i < len → ∃ r : OpV, OpOk w r ∧ ∀ (j : Nat) (u : Value), r.cs[j]? = some u → w.cell? (a.add (i * 8 + j)) = some u := fun i hil =>
      open_op (cell := fun j => w.cell? (a.add (i * 8 + j))) (fun j t ht => hi i hil j t ht)
    obtain ⟨X, hX⟩ := Go.Deep.choose_lt key
    refine ⟨(List.range len).map X, (by rw [List.length_map, List.length_range]; exact hmax), some a, cap, (by rw [e, List.length_map, List.length_range]), fun i r hr => ?_⟩
    rw [List.getElem?_map] at hr
    obtain ⟨i', hi', rfl⟩ := Option.map_eq_some_iff.1 hr
    obtain ⟨hlt, e⟩ := List.getElem?_eq_some_iff.1 hi'
    rw [List.getElem_range] at e
    subst e
    have := hX i (by simpa using hlt)
    exact ⟨a, rfl, this.1, this.2⟩
set_option maxRecDepth 100000 in
/-- An Op by value. -/
theorem open_op1 {r : Reach} {b0 : Nat} {v : Value} {d : DataW H} {p : List MemPlace} (hv : Value.okWide Try.prog w r b0 33 v) (h : DataW.Trod enc Try.prog w base spare held 33 v d p) : ∃ r : OpV, v = .agg r.cs ∧ OpOk w r := by
  obtain ⟨fuel, h⟩ := h
  obtain ⟨cs, rfl, hsz⟩ := okWide_struct Try.underlying33 hv
  have hc : Try.prog.cellsOf 33 = 8 := by kernel_rfl
  rw [hc] at hsz
  have hl := leafs_of (n := 3) (t := 33) (by kernel_rfl) (by rw [hc]; simpa [Value.cells] using hsz) h
  obtain ⟨r, hr, hcell⟩ := open_op (cell := fun j => (Value.agg cs).cells.toList[j]?) (fun j t ht => hl j t ht)
  refine ⟨r, ?_, hr⟩
  congr 1
  apply Array.ext
  · rw [hsz]; rfl
  · intro i h1 h2
    have := hcell i r.cs[i] (by simp)
    simpa [Value.cells, h1] using this
end
/-! ### Marks -/
def MkOk (A : Tbl) : Prop := ∀ c, 1 ≤ (cli A c).1 ∧ (cli A c).1 ≤ 4294967297
theorem MkOk.nil : MkOk [] := fun _ => by simp [cli, getS]
theorem MkOk.ask {A : Tbl} (h : MkOk A) (c n M : Int) : MkOk (askT A c n M) := fun d => by
  rw [cli_ask]; split
  · exact h c
  · exact h d
theorem MkOk.tell {A : Tbl} (h : MkOk A) (a : Ans) : MkOk (tellT A a) := fun d => by
  rw [cli_tell]; split
  · exact h a.c
  · exact h d
theorem MkOk.low {A : Tbl} (h : MkOk A) (c n : Int) : MkOk (lowT A c n) := fun d => by
  rw [cli_low]; split
  · rename_i hh
    have := hh.2
    simp only [Bool.and_eq_true, lowOk, decide_eq_true_eq] at this
    exact ⟨this.1.1.1.2, this.1.1.2⟩
  · exact h d
theorem mark_ask (A : Tbl) (c n M d : Int) : markM (askT A c n M) d = markM A d := by
  unfold markM
  rw [cli_ask]
  split
  · split
    · rename_i h; rw [h.1]
    · rfl
  · rfl
theorem mark_tell (A : Tbl) (a : Ans) (d : Int) : markM (tellT A a) d = markM A d := by
  unfold markM
  rw [cli_tell]
  split
  · split
    · rename_i h; rw [h.1]
    · rfl
  · rfl
theorem mark_low (A : Tbl) (c n d : Int) : markM A d ≤ markM (lowT A c n) d := by
  unfold markM
  rw [cli_low]
  split
  · split
    · rename_i h
      have := h.2
      simp only [Bool.and_eq_true, decide_eq_true_eq] at this
      rw [← h.1]
      show (cli A c).1 ≤ n
      omega
    · exact Int.le_refl _
  · exact Int.le_refl _
theorem mark_low_ok {A : Tbl} {c n : Int} (h : lowA A c n = 0) : n ≤ markM (lowT A c n) c := by
  unfold lowA at h
  split at h
  · rename_i hok
    split at h
    · cases h
    · rename_i hb
      have hc : isCl c = true := by unfold lowOk at hok; simp only [Bool.and_eq_true] at hok; exact hok.1.1
      unfold markM
      rw [cli_low, if_pos hc]
      split
      · exact Int.le_refl _
      · rename_i hn
        simp only [hok, hb, Bool.true_and, Bool.not_false, decide_eq_true_eq, true_and] at hn
        simp at hn
        omega
  · cases h
theorem ask_stale {A : Tbl} (h : MkOk A) (c n M : Int) : (0 < markM A c → 1 ≤ n → n < markM A c → (askA A c n M).1 = 5) ∧ ((askA A c n M).1 = 5 → 0 < markM A c ∧ 1 ≤ n ∧ n < markM A c) := by
  have hk := h c
  unfold markM askA
  constructor
  · intro h0 h1 h2
    by_cases hc : isCl c = true
    · rw [if_pos hc] at h0 h2
      have hn : isNu n = true := by unfold isNu; simp; omega
      simp only [hc, hn, Bool.and_self, if_true]
      unfold askM
      rw [if_pos h2]
    · rw [if_neg hc] at h0; omega
  · intro h5
    by_cases hcn : (isCl c && isNu n) = true
    · rw [if_pos hcn] at h5
      rw [Bool.and_eq_true] at hcn
      rw [if_pos hcn.1]
      have hn := hcn.2
      unfold isNu at hn; simp at hn
      unfold askM at h5
      split at h5
      · rename_i hlt; exact ⟨by omega, hn.1, hlt⟩
      · split at h5
        · split at h5
          · cases h5
          · split at h5 <;> cases h5
        · split at h5 <;> cases h5
    · rw [if_neg hcn] at h5; cases h5
end Go.Proofs.Ytakjiicnbocjeaa
namespace Go.Proofs.Ytakjiicnbocjeaa
open Go.ChangeShapes Go.WideShapes Go.RowKit Go.Deep
theorem own_of_ok {P : Program} {w : World} {r : Reach} {b0 : Nat} {t e : TypeId} {v : Value} (ht : P.underlying t = some (.slice e)) (h : Value.okWide P w r b0 t v) :
    (∀ a n c, v = .slice a n c → n ≤ c) ∧ ∀ b, v.ownBlock = some b → b < w.heap.size := by
  simp only [Value.okWide, ht, Cell.okWide] at h
  obtain ⟨a, n, c, rfl⟩ : ∃ a n c, v = .slice a n c := by
    cases v <;> simp_all [Cell.ok]
  cases a with
  | none =>
    have h : n = 0 ∧ c = 0 := by
      simp only [Cell.ok, ht] at h
      split at h <;> simp_all
    obtain ⟨rfl, rfl⟩ := h
    exact ⟨fun a n c e => by injection e with _ e1 e2; omega, fun b e => by cases e⟩
  | some a =>
    have h : n ≤ c ∧ (c : Int) ≤ IntKind.i64.max ∧ w.has P r b0 a e c := by
      simpa [Cell.ok, ht] using h
    obtain ⟨h1, h2, h3, h4, row, cells, h5, h6⟩ := h
    refine ⟨fun a n c e => by injection e with _ e1 e2; omega, fun b e => ?_⟩
    cases e
    refine Nat.lt_of_not_le fun hle => ?_
    simp [World.shape?, Array.getElem?_eq_none hle] at h5
set_option maxRecDepth 100000 in
theorem open_bytes {H : Type} {enc : TypeId × Value → H} {w : World} {spare : Nat → Bool} {held : Bool} {r : Reach} {b0 : Nat} {v : Value} {d : DataW H} {p : List MemPlace} {ts : List TypeId} {ds : List (DataW H)} {j : Nat}
    (hv : Value.okWide Try.prog w r b0 28 v) (h : DataW.Trod enc Try.prog w 0 spare held 28 v d p)
    (hs : (DataW.weightsEach Try.prog ts ds).all (· ≤ reachBytes) = true) (ht : ts[j]? = some 28) (hd : ds[j]? = some d) :
    ∃ bs, Bs w v bs ∧ (∀ a n c, v = .slice a n c → n ≤ c) ∧ (∀ b, v.ownBlock = some b → b < w.heap.size) ∧ (bs.length : Int) ≤ 140737488351232 := by
  obtain ⟨o1, o2⟩ := own_of_ok Try.underlying28 hv
  obtain ⟨fuel, h⟩ := h
  obtain ⟨a0, l0, c0, rfl⟩ := okWide_slice Try.underlying28 hv
  have h' := h
  simp only [Value.cells] at h'
  obtain ⟨bs, hb⟩ := leaf_bytes (n := fuel) (v := .slice a0 l0 c0) h'
  refine ⟨bs, hb, o1, o2, ?_⟩
  have hl : l0 = bs.length := by
    obtain ⟨_, a, c, e, _⟩ := hb
    injection e
  rcases open_slice Try.underlying28 h with ⟨h0, _⟩ | ⟨a, len, cap, m, k, D, Pl, hcs, hbb, hle, hm, hmm, hx, hi⟩
  · have h0' : Value.slice a0 l0 c0 = .slice none 0 0 := by simpa [Value.cells] using h0
    injection h0' with _ e2 _
    omega
  · have h0' : Value.slice a0 l0 c0 = .slice (some a) len cap := by simpa [Value.cells] using hcs
    injection h0' with _ e2 _
    injection hx with hx _
    subst hx
    have := sized_slice hs ht hd Try.underlying28
    have e : Try.prog.bytesOf 5 = 1 := by kernel_rfl
    rw [e] at this
    simp only [List.length_map, List.length_range, reachBytes] at this
    omega
end Go.Proofs.Ytakjiicnbocjeaa
