/- entrepotref09: the document's table; May, Mark. -/
import Derived.Test.YtakjiicnbocjeaaIdDoesM14
import Derived.Test.YtakjiicnbocjeaaIdDoesM15
namespace Go.Proofs.Ytakjiicnbocjeaa
open Go.RowKit Go.Maps
def rowc (q : Int × RowV) : List Value := [.int .i64 q.1, .int .u64 q.2.mix, .bool q.2.done, .int .i64 q.2.a.c, .int .i64 q.2.a.n, .int .i64 q.2.a.code, .int .i64 q.2.a.k]
def rowcs (R : Rows) : List Value := R.flatMap rowc
theorem rowc_len (q : Int × RowV) : (rowc q).length = 7 := rfl
theorem rowcs_len (R : Rows) : (rowcs R).length = R.length * 7 := by
  induction R with
  | nil => rfl
  | cons q r ih => simp only [rowcs, List.flatMap_cons, List.length_append, List.length_cons] at *; rw [ih]; simp [rowc]; omega
theorem rowcs_app (R S : Rows) : rowcs (R ++ S) = rowcs R ++ rowcs S := by simp [rowcs]
theorem rowcs_one {u : Value} {R : Rows} (h : u ∈ rowcs R) : u.oneCell' = true := by
  simp only [rowcs, List.mem_flatMap] at h
  obtain ⟨q, _, hq⟩ := h
  simp only [rowc, List.mem_cons, List.not_mem_nil, or_false] at hq
  rcases hq with rfl | rfl | rfl | rfl | rfl | rfl | rfl <;> rfl
theorem rowcs_take (R : Rows) : ∀ k, rowcs (R.take k) = (rowcs R).take (k * 7) := by
  induction R with
  | nil => intro k; simp [rowcs]
  | cons q r ih =>
    intro k
    cases k with
    | zero => simp [rowcs]
    | succ k =>
      have e : rowcs (q :: r) = rowc q ++ rowcs r := by simp [rowcs]
      have e2 : rowcs (q :: r.take k) = rowc q ++ rowcs (r.take k) := by simp [rowcs]
      have h1 : (rowc q).take ((k + 1) * 7) = rowc q := List.take_of_length_le (by rw [rowc_len]; omega)
      rw [List.take_succ_cons, e, e2, ih, List.take_append, h1, rowc_len, show (k + 1) * 7 - 7 = k * 7 by omega]
theorem rowcs_drop (R : Rows) : ∀ k, rowcs (R.drop k) = (rowcs R).drop (k * 7) := by
  induction R with
  | nil => intro k; simp [rowcs]
  | cons q r ih =>
    intro k
    cases k with
    | zero => simp [rowcs]
    | succ k =>
      have e : rowcs (q :: r) = rowc q ++ rowcs r := by simp [rowcs]
      have h1 : (rowc q).drop ((k + 1) * 7) = [] := List.drop_eq_nil_of_le (by rw [rowc_len]; omega)
      rw [List.drop_succ_cons, e, ih, List.drop_append, h1, rowc_len, List.nil_append, show (k + 1) * 7 - 7 = k * 7 by omega]
theorem rowcs_at {R : Rows} {k : Nat} {q : Int × RowV} (h : R[k]? = some q) (j : Nat) (u : Value) (hj : (rowc q)[j]? = some u) : (rowcs R)[k * 7 + j]? = some u := by
  have e := rise_split h
  rw [e, rowcs_app]
  have hl : (rowcs (R.take k)).length = k * 7 := by rw [rowcs_len, List.length_take]; have := (List.getElem?_eq_some_iff.1 h).1; congr 1; omega
  rw [List.getElem?_append_right (by omega), hl, show k * 7 + j - k * 7 = j by omega]
  have : rowcs (q :: R.drop (k + 1)) = rowc q ++ rowcs (R.drop (k + 1)) := by simp [rowcs]
  rw [this, List.getElem?_append_left (List.getElem?_eq_some_iff.1 hj).1]
  exact hj
/-- What lies in the document's table for client c. -/
structure RC (w : World) (cs : Array Value) (TS : Nat → Prop) (A : Tbl) (c : Nat) : Prop where
  ex : ∃ mk v, cs[c]? = some (.int .i64 mk) ∧ (if mk = 0 then 1 else mk) = (cli A c).1 ∧ cs[64 + c]? = some v ∧ w.ownsRow 0 86 7 v (cli A c).2.length (rowcs (cli A c).2) ∧ ∀ b, v.ownBlock = some b → TS b
/-- Object g is the document's table that says A; its rows lie in the blocks of TS. -/
structure RT (w : World) (g : Nat) (TS : Nat → Prop) (A : Tbl) : Prop where
  ex : ∃ cs : Array Value, w.heap[g]? = some (.cells cs 53) ∧ cs.size = 128 ∧ ∀ c : Nat, c < 64 → RC w cs TS A c
  own : TS g
  lt : ∀ b, TS b → b < w.heap.size
theorem RC.fr {S TS : Nat → Prop} {w w' : World} {cs : Array Value} {A : Tbl} {c : Nat} (h : RC w cs TS A c) (hf : Fr S w w') (hS : ∀ b, TS b → ¬ S b) : RC w' cs TS A c := by
  obtain ⟨mk, v, h1, h2, h3, h4, h5⟩ := h
  exact ⟨mk, v, h1, h2, h3, hf.row h4 (fun b hb => hS b (h5 b hb)), h5⟩
theorem RT.fr {S TS : Nat → Prop} {w w' : World} {g : Nat} {A : Tbl} (h : RT w g TS A) (hf : Fr S w w') (hS : ∀ b, TS b → ¬ S b) : RT w' g TS A := by
  obtain ⟨⟨cs, h1, h2, h3⟩, h5, h6⟩ := h
  exact ⟨⟨cs, hf.at_ h1 (hS _ h5), h2, fun c hc => (h3 c hc).fr hf hS⟩, h5, fun b hb => Nat.lt_of_lt_of_le (h6 b hb) hf.size⟩
/-- A client's two cells. -/
theorem RT.at_ {TS : Nat → Prop} {w : World} {g : Nat} {A : Tbl} (h : RT w g TS A) (c : Nat) (hc : c < 64) : ∃ mk a k, w.cell? ⟨g, c, none⟩ = some (.int .i64 mk) ∧ (if mk = 0 then 1 else mk) = (cli A c).1 ∧
    w.cell? ⟨g, 64 + c, none⟩ = some (.slice a (cli A c).2.length k) ∧ w.ownsRow 0 86 7 (.slice a (cli A c).2.length k) (cli A c).2.length (rowcs (cli A c).2) ∧ ∀ b, (Value.slice a (cli A c).2.length k).ownBlock = some b → TS b := by
  obtain ⟨⟨cs, h1, h2, h3⟩, h5, h6⟩ := h
  obtain ⟨mk, v, e1, e2, e3, e4, e5⟩ := h3 c hc
  obtain ⟨a, k, rfl⟩ := row_sl e4
  exact ⟨mk, a, k, cell_obj h1 c _ e1, e2, cell_obj h1 (64 + c) _ e3, e4, e5⟩
theorem RT.frozen {TS : Nat → Prop} {w : World} {g : Nat} {A : Tbl} (h : RT w g TS A) (j : Nat) : w.frozen? ⟨g, j, none⟩ = false := by
  obtain ⟨⟨cs, h1, h2, h3⟩, h5, h6⟩ := h
  exact obj_frozen h1 j
/-- Client c's rows, and its mark, are turned. -/
theorem RT.put {TS TS' : Nat → Prop} {w : World} {g : Nat} {A A' : Tbl} {c : Nat} (h : RT w g TS A) (hc : c < 64) {v : Value} (hA : ∀ d : Nat, d < 64 → d ≠ c → cli A' d = cli A d) (hm : (cli A' c).1 = (cli A c).1)
    (ho : w.ownsRow 0 86 7 v (cli A' c).2.length (rowcs (cli A' c).2)) (hTT : ∀ b, TS b → TS' b) (hv : ∀ b, v.ownBlock = some b → TS' b) (hlt : ∀ b, TS' b → b < w.heap.size) :
    RT (w.setCell ⟨g, 64 + c, none⟩ v) g TS' A' := by
  obtain ⟨⟨cs, h1, h2, h3⟩, h5, h6⟩ := h
  have hF : Fr (fun b => b = g) w (w.setCell ⟨g, 64 + c, none⟩ v) := (Fr.refl (fun b => b = g) w).setCell (p := ⟨g, 64 + c, none⟩) (fun _ => rfl) _
  have hne : ∀ {n : Nat} {u : Value} {xs : List Value}, w.ownsRow 0 86 7 u n xs → ∀ b, u.ownBlock = some b → b ≠ g := by
    intro n u xs hu b hb e
    subst e
    rcases hu.2 with ⟨rfl, _⟩ | ⟨g', c', cur, e1, _, h7, _⟩
    · cases hb
    · subst e1
      cases hb
      rw [h1] at h7; cases h7
  refine ⟨⟨_, obj_set h1 (64 + c) v, by simp [h2], fun d hd => ?_⟩, hTT _ h5, fun b hb => Nat.lt_of_lt_of_le (hlt b hb) hF.size⟩
  obtain ⟨mk, u, e1, e2, e3, e4, e5⟩ := h3 d hd
  by_cases hdc : d = c
  · subst hdc
    refine ⟨mk, v, ?_, by rw [hm]; exact e2, ?_, hF.row ho (fun b hb => hne ho b hb), hv⟩
    · rw [Array.getElem?_setIfInBounds_ne (by omega)]; exact e1
    · rw [Array.getElem?_setIfInBounds_self_of_lt (by omega)]
  · refine ⟨mk, u, ?_, by rw [hA d hd hdc]; exact e2, ?_, by rw [hA d hd hdc]; exact hF.row e4 (fun b hb => hne e4 b hb), fun b hb => hTT _ (e5 b hb)⟩
    · rw [Array.getElem?_setIfInBounds_ne (by omega)]; exact e1
    · rw [Array.getElem?_setIfInBounds_ne (by omega)]; exact e3
/-- Client c's mark is turned. -/
theorem RT.putM {TS : Nat → Prop} {w : World} {g : Nat} {A A' : Tbl} {c : Nat} {mk : Int} (h : RT w g TS A) (hc : c < 64) (hA : ∀ d : Nat, d < 64 → d ≠ c → cli A' d = cli A d) (hm : (cli A' c).1 = if mk = 0 then 1 else mk)
    (hr : (cli A' c).2 = (cli A c).2) : RT (w.setCell ⟨g, c, none⟩ (.int .i64 mk)) g TS A' := by
  obtain ⟨⟨cs, h1, h2, h3⟩, h5, h6⟩ := h
  have hF : Fr (fun b => b = g) w (w.setCell ⟨g, c, none⟩ (.int .i64 mk)) := (Fr.refl (fun b => b = g) w).setCell (p := ⟨g, c, none⟩) (fun _ => rfl) _
  have hne : ∀ {n : Nat} {u : Value} {xs : List Value}, w.ownsRow 0 86 7 u n xs → ∀ b, u.ownBlock = some b → b ≠ g := by
    intro n u xs hu b hb e
    subst e
    rcases hu.2 with ⟨rfl, _⟩ | ⟨g', c', cur, e1, _, h7, _⟩
    · cases hb
    · subst e1
      cases hb
      rw [h1] at h7; cases h7
  refine ⟨⟨_, obj_set h1 c _, by simp [h2], fun d hd => ?_⟩, h5, fun b hb => Nat.lt_of_lt_of_le (h6 b hb) hF.size⟩
  obtain ⟨mk', u, e1, e2, e3, e4, e5⟩ := h3 d hd
  by_cases hdc : d = c
  · subst hdc
    refine ⟨mk, u, ?_, hm.symm, ?_, by rw [hr]; exact hF.row e4 (fun b hb => hne e4 b hb), e5⟩
    · rw [Array.getElem?_setIfInBounds_self_of_lt (by omega)]
    · rw [Array.getElem?_setIfInBounds_ne (by omega)]; exact e3
  · refine ⟨mk', u, ?_, by rw [hA d hd hdc]; exact e2, ?_, by rw [hA d hd hdc]; exact hF.row e4 (fun b hb => hne e4 b hb), e5⟩
    · rw [Array.getElem?_setIfInBounds_ne (by omega)]; exact e1
    · rw [Array.getElem?_setIfInBounds_ne (by omega)]; exact e3
theorem rMay (w : World) (c n : Int) : Calls Try.prog 39 #[.int .i64 c, .int .i64 n] w fun e w' => e = .returned (.bool (isCl c && isNu n)) ∧ w = w' := by
  unfold isCl isNu
  by_cases h1 : 0 ≤ c <;> by_cases h2 : c < 64 <;> by_cases h3 : 1 ≤ n <;> by_cases h4 : n ≤ 4294967296
  all_goals
    simp only [h1, h2, h3, h4, decide_true, decide_false, Bool.and_true, Bool.and_false]
    go_enter Try.func39, Try.ntmps39
    go_wp2
    go_ret
    exact ⟨rfl, rfl⟩
theorem rMark (w : World) (g : Nat) (TS : Nat → Prop) (A : Tbl) (c : Nat) (h : RT w g TS A) (hc : c < 64) :
    Calls Try.prog 40 #[.pointer (some ⟨g, 0, none⟩), .int .i64 c] w fun e w' => e = .returned (.int .i64 (cli A c).1) ∧ w = w' := by
  obtain ⟨mk, a, k, h1, h2, -⟩ := h.at_ c hc
  rw [← h2]
  clear h h2
  by_cases h0 : mk = 0
  · subst h0
    go_enter Try.func40, Try.ntmps40
    go_wp2
    go_ret
    exact ⟨rfl, rfl⟩
  · rw [if_neg h0]
    have hb : (mk == 0) = false := by simpa using h0
    go_enter Try.func40, Try.ntmps40
    go_wp2
    go_ret
    exact ⟨rfl, rfl⟩
end Go.Proofs.Ytakjiicnbocjeaa
