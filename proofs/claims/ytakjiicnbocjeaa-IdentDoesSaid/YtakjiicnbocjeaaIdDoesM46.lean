/- ident and its document: what both packs give; what is open, plainly. -/
import Derived.Test.YtakjiicnbocjeaaIdDoesM31
import Derived.Test.YtakjiicnbocjeaaIdDoesM27
import Derived.Test.YtakjiicnbocjeaaIdDoesM2
namespace Go.Proofs.Ytakjiicnbocjeaa
open Go.RowKit Go.Maps
theorem tabC_byt {A : Tbl} (h : Good A) : Byt (tabC A).flatten := by
  intro x hx
  obtain ⟨c, hc, hx⟩ := List.mem_flatten.1 hx
  exact tabC_mem h.tok h.len c hc x hx
set_option maxRecDepth 100000 in
theorem xPack (w : World) (g : Nat) (TS : Nat → Prop) (A : Tbl) (h : TA w g TS A) (hG : Good A) :
    Calls Try.prog 17 #[.pointer (some ⟨g, 0, none⟩)] w fun e w' => Below w.heap.size w w' ∧ ∃ v, e = .returned v ∧ Bn w.heap.size w' v (tabC A).flatten := by
  obtain ⟨⟨m, l, hT, rfl, hm, hr⟩, -⟩ := h
  have h64 : l.length ≤ 64 := by have := hG.len; simpa [absl] using this
  refine (iPack w g m l hT h64 hG.tok).mono ?_
  rintro e w' ⟨hb, v, rfl, ho⟩
  rw [tab_flat hG] at ho
  exact ⟨hb, v, rfl, Bs.own ho (tabC_byt hG)⟩
set_option maxRecDepth 100000 in
theorem yPack (w : World) (g : Nat) (TS : Nat → Prop) (A : Tbl) (h : RT w g TS A) (hG : Good A) :
    Calls Try.prog 46 #[.pointer (some ⟨g, 0, none⟩)] w fun e w' => Below w.heap.size w w' ∧ ∃ v, e = .returned v ∧ Bn w.heap.size w' v (tabC A).flatten := by
  refine (rPack w g TS A h hG.rise (fun p hp => (hG.all p hp).pres) hG.tok hG.len).mono ?_
  rintro e w' ⟨hb, v, rfl, ho⟩
  rw [tab_flat hG] at ho
  exact ⟨hb, v, rfl, Bs.own ho (tabC_byt hG)⟩
/-- What is open of a client. -/
def wantR (c : Int) (R : Rows) : List (Int × Int) := (R.filter fun q => !q.2.done).map fun q => (c, q.1)
def wantP (A : Tbl) : List (Int × Int) := A.flatMap fun p => wantR p.1 p.2.2
theorem flatMap_eq {α β : Type} {f g : α → List β} : ∀ {l : List α}, (∀ p ∈ l, f p = g p) → l.flatMap f = l.flatMap g
  | [], _ => rfl
  | a :: r, h => by rw [List.flatMap_cons, List.flatMap_cons, h a (by simp), flatMap_eq (l := r) (fun p hp => h p (by simp [hp]))]
theorem filter_flat {α β : Type} {f : α → List β} {q : β → Bool} : ∀ {l : List α}, (l.flatMap f).filter q = l.flatMap fun p => (f p).filter q
  | [] => rfl
  | a :: r => by rw [List.flatMap_cons, List.filter_append, filter_flat, List.flatMap_cons]
theorem opens_want {l : List (Int × Cl)} (hnd : KeysND l) (hnr : ∀ p ∈ l, KeysND p.2.rows) : opens l = wantP (absl l) := by
  unfold opens nums wantP absl
  rw [filter_flat, List.flatMap_map]
  refine flatMap_eq fun p hp => ?_
  unfold wantR
  rw [List.filter_map]
  congr 1
  refine List.filter_congr fun q hq => ?_
  show undoneAt l (p.1, q.1) = _
  unfold undoneAt
  rw [getS_of (v := p.2) hnd hp]
  dsimp only
  rw [getS_of (v := q.2) (hnr p hp) hq]
theorem wantP_next {A : Tbl} (h : Rise A) (hp : TPres A) (c : Int) : wantP (preL A (c + 1)) = wantP (preL A c) ++ wantR c (cli A c).2 := by
  by_cases hc : 1 < (cli A c).1 ∨ 0 < (cli A c).2.length
  · rw [preL_yes h hc]; simp [wantP]
  · rw [preL_no h hp hc]
    have : (cli A c).2 = [] := List.eq_nil_of_length_eq_zero (by omega)
    rw [this]; simp [wantR]
theorem wantR_yes {c : Int} {R : Rows} {j : Nat} {q : Int × RowV} (h : R[j]? = some q) (hd : q.2.done = false) : wantR c (R.take (j + 1)) = wantR c (R.take j) ++ [(c, q.1)] := by
  unfold wantR; rw [List.take_add_one, h, List.filter_append, List.map_append]; simp [hd]
theorem wantR_no {c : Int} {R : Rows} {j : Nat} {q : Int × RowV} (h : R[j]? = some q) (hd : q.2.done = true) : wantR c (R.take (j + 1)) = wantR c (R.take j) := by
  unfold wantR; rw [List.take_add_one, h, List.filter_append]; simp [hd]
theorem wantR_len (c : Int) (R : Rows) : (wantR c R).length ≤ R.length := by unfold wantR; rw [List.length_map]; exact List.length_filter_le _ _
theorem wantP_len : ∀ {A : Tbl}, (∀ p ∈ A, p.2.2.length ≤ 128) → (wantP A).length ≤ 128 * A.length
  | [], _ => by simp [wantP]
  | p :: r, h => by
    have h1 := wantR_len p.1 p.2.2
    have h2 := h p (by simp)
    have h3 := wantP_len (A := r) (fun q hq => h q (by simp [hq]))
    have e : wantP (p :: r) = wantR p.1 p.2.2 ++ wantP r := by simp [wantP]
    rw [e, List.length_append, List.length_cons]; omega
def pairC (x : Int × Int) : List Value := [.int .i64 x.1, .int .i64 x.2]
def pairCs (L : List (Int × Int)) : List Value := L.flatMap pairC
theorem pairCs_app (L M : List (Int × Int)) : pairCs (L ++ M) = pairCs L ++ pairCs M := by simp [pairCs]
theorem pairCs_one {u : Value} {L : List (Int × Int)} (h : u ∈ pairCs L) : u.oneCell' = true := by
  simp only [pairCs, List.mem_flatMap] at h
  obtain ⟨q, _, hq⟩ := h
  simp only [pairC, List.mem_cons, List.not_mem_nil, or_false] at hq
  rcases hq with rfl | rfl <;> rfl
theorem pairCs_len (L : List (Int × Int)) : (pairCs L).length = L.length * 2 := by
  induction L with
  | nil => rfl
  | cons q r ih => simp only [pairCs, List.flatMap_cons, List.length_append, List.length_cons] at *; rw [ih]; simp [pairC]; omega
theorem pairCs_at {L : List (Int × Int)} {k : Nat} {q : Int × Int} (h : L[k]? = some q) (j : Nat) (u : Value) (hj : (pairC q)[j]? = some u) : (pairCs L)[k * 2 + j]? = some u := by
  have hk : k < L.length := (List.getElem?_eq_some_iff.1 h).1
  have e : L = L.take k ++ q :: L.drop (k + 1) := by
    rw [← (List.getElem?_eq_some_iff.1 h).2, ← List.drop_eq_getElem_cons hk, List.take_append_drop]
  rw [e, pairCs_app]
  have hl : (pairCs (L.take k)).length = k * 2 := by rw [pairCs_len, List.length_take]; congr 1; omega
  rw [List.getElem?_append_right (by omega), hl, show k * 2 + j - k * 2 = j by omega]
  have : pairCs (q :: L.drop (k + 1)) = pairC q ++ pairCs (L.drop (k + 1)) := by simp [pairCs]
  rw [this, List.getElem?_append_left (List.getElem?_eq_some_iff.1 hj).1]
  exact hj
theorem pair_cells {w : World} {base len k : Nat} {a : Option Addr} {L : List (Int × Int)} (h : w.ownsRow base 36 2 (.slice a len k) len (pairCs L)) (hp : 0 < len) :
    ∃ gp, a = some ⟨gp, 0, none⟩ ∧ len ≤ k ∧ ∀ (j : Nat) (q : Int × Int), L[j]? = some q → ∀ (f : Nat) (u : Value), (pairC q)[f]? = some u → w.cell? ⟨gp, j * 2 + f, none⟩ = some u := by
  rcases h.2 with ⟨e, e0⟩ | ⟨gp, c, cur, e, _, _, hle, _⟩
  · omega
  · injection e with e1 _ e3
    subst e1; subst e3
    refine ⟨gp, rfl, hle, fun j q hq f u hu => ?_⟩
    obtain ⟨ad, e, hc⟩ := (Rd.own h).at_ hp (pairCs_at hq f u hu)
    cases e
    have : (⟨gp, 0, none⟩ : Addr).add (j * 2 + f) = ⟨gp, j * 2 + f, none⟩ := by unfold Addr.add; split <;> simp_all
    rw [this] at hc; exact hc
end Go.Proofs.Ytakjiicnbocjeaa
