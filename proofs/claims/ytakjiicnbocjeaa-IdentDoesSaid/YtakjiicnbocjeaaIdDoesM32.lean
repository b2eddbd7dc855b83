/- entrepotref09: Unpack: what lies in memory on its way. -/
import Derived.Test.YtakjiicnbocjeaaIdDoesM16
import Derived.Test.YtakjiicnbocjeaaIdDoesM30
import Derived.Test.YtakjiicnbocjeaaIdDoesM31
import Derived.Test.YtakjiicnbocjeaaIdDoesM22
namespace Go.Proofs.Ytakjiicnbocjeaa
open Go.RowKit Go.Maps
def finT (R : Option (Tbl × Tst)) : Option Tbl := match R with
  | none => none
  | some R => if doneT R.2.1 R.2.2 = 0 then some R.1 else none
theorem unpT_fin (bs : List Int) : unpT bs = finT (cliT (tk (bs, false) 0 64).1.toNat (tk (bs, false) 0 64).2 (-1) []) := rfl
theorem readT_bad {t : Tst} (h : t.2 = true) (c : Int) : (readT t c).1.1 = 0 ∧ (readT t c).2 = t := by
  unfold readT
  simp [tk_bad h]
theorem rowsT_bad {t : Tst} (h : t.2 = true) (k : Nat) (c before : Int) (hb : 0 ≤ before) (acc : Rows) : rowsT k t c before acc = none ∨ rowsT k t c before acc = some (acc, t) := by
  cases k with
  | zero => exact .inr rfl
  | succ k => left; rw [rowsT_succ, (readT_bad h c).1, if_pos hb]
theorem cliT_bad {t : Tst} (h : t.2 = true) (k : Nat) (last : Int) (A : Tbl) : finT (cliT k t last A) = none := by
  cases k with
  | zero => simp [cliT, finT, doneT, h]
  | succ k =>
    have : cliT (k + 1) t last A = none := by
      unfold cliT
      simp [tk_bad h]
    rw [this]; rfl
theorem rows_fin_bad {t : Tst} (h : t.2 = true) (k : Nat) (c before : Int) (hb : 0 ≤ before) (acc : Rows) (K : Nat) (mk : Int) (A : Tbl) :
    finT (match rowsT k t c before acc with | none => none | some R => cliT K R.2 c (putS ktI.lt A c (mk, R.1))) = none := by
  rcases rowsT_bad h k c before hb acc with e | e
  · rw [e]; rfl
  · rw [e]; exact cliT_bad h _ _ _
/-- The document's table while it is read: up to client last it says A, behind it nothing. -/
structure RU (w : World) (g : Nat) (TS : Nat → Prop) (A : Tbl) (last : Int) : Prop where
  ex : ∃ cs : Array Value, w.heap[g]? = some (.cells cs 53) ∧ cs.size = 128 ∧ (∀ d : Nat, d < 64 → (d : Int) ≤ last → RC w cs TS A d) ∧ ∀ d : Nat, d < 64 → last < (d : Int) → cs[d]? = some (.int .i64 0) ∧ cs[64 + d]? = some (.slice none 0 0)
  own : TS g
  lt : ∀ b, TS b → b < w.heap.size
  keys : ∀ p ∈ A, p.1 ≤ last
theorem cli_none {A : Tbl} {c last : Int} (h : ∀ p ∈ A, p.1 ≤ last) (hc : last < c) : cli A c = (1, []) := by
  unfold cli
  rw [getS_none.2 fun p hp e => by have := h p hp; omega]; rfl
theorem RC.zero {w : World} {cs : Array Value} {TS : Nat → Prop} {A : Tbl} {d : Nat} (h1 : cs[d]? = some (.int .i64 0)) (h2 : cs[64 + d]? = some (.slice none 0 0)) (hc : cli A d = (1, [])) : RC w cs TS A d :=
  ⟨0, _, h1, by rw [hc]; rfl, h2, by rw [hc]; exact World.ownsRow_nil _ _ _ _, fun b hb => by cases hb⟩
theorem RU.up {w : World} {g : Nat} {TS : Nat → Prop} {A : Tbl} {last l' : Int} (h : RU w g TS A last) (hl : last ≤ l') : RU w g TS A l' := by
  obtain ⟨⟨cs, h1, h2, h3, h4⟩, h5, h6, h7⟩ := h
  refine ⟨⟨cs, h1, h2, fun d hd hdl => ?_, fun d hd hdl => h4 d hd (by omega)⟩, h5, h6, fun p hp => by have := h7 p hp; omega⟩
  by_cases h : (d : Int) ≤ last
  · exact h3 d hd h
  · exact RC.zero (h4 d hd (by omega)).1 (h4 d hd (by omega)).2 (cli_none h7 (by omega))
theorem RU.rt {w : World} {g : Nat} {TS : Nat → Prop} {A : Tbl} {last : Int} (h : RU w g TS A last) : RT w g TS A := by
  obtain ⟨⟨cs, h1, h2, h3, h4⟩, h5, h6, h7⟩ := h
  refine ⟨⟨cs, h1, h2, fun d hd => ?_⟩, h5, h6⟩
  by_cases h : (d : Int) ≤ last
  · exact h3 d hd h
  · exact RC.zero (h4 d hd (by omega)).1 (h4 d hd (by omega)).2 (cli_none h7 (by omega))
theorem RU.fr {S TS : Nat → Prop} {w w' : World} {g : Nat} {A : Tbl} {last : Int} (h : RU w g TS A last) (hf : Fr S w w') (hS : ∀ b, TS b → ¬ S b) : RU w' g TS A last := by
  obtain ⟨⟨cs, h1, h2, h3, h4⟩, h5, h6, h7⟩ := h
  exact ⟨⟨cs, hf.at_ h1 (hS _ h5), h2, fun d hd hdl => (h3 d hd hdl).fr hf hS, h4⟩, h5, fun b hb => Nat.lt_of_lt_of_le (h6 b hb) hf.size, h7⟩
/-- The same, in the midst of client c: its mark is mk, its rows so far are acc, in blocks from B on. -/
structure RX (w : World) (g : Nat) (TS : Nat → Prop) (A : Tbl) (c : Nat) (mk : Int) (acc : Rows) (B : Nat) : Prop where
  ex : ∃ (cs : Array Value) (v : Value) (m0 : Int), w.heap[g]? = some (.cells cs 53) ∧ cs.size = 128 ∧ (∀ d : Nat, d < 64 → d < c → RC w cs TS A d) ∧ (∀ d : Nat, d < 64 → c < d → cs[d]? = some (.int .i64 0) ∧ cs[64 + d]? = some (.slice none 0 0)) ∧
    cs[c]? = some (.int .i64 m0) ∧ (if m0 = 0 then 1 else m0) = mk ∧ cs[64 + c]? = some v ∧ w.ownsRow B 86 7 v acc.length (rowcs acc)
  own : TS g
  lt : ∀ b, TS b → b < B
  sz : B ≤ w.heap.size
  keys : ∀ p ∈ A, p.1 < (c : Int)
  c64 : c < 64
theorem RU.enter {w w' : World} {g : Nat} {TS : Nat → Prop} {A : Tbl} {last : Int} {c : Nat} {mk m0 : Int} (h : RU w g TS A last) (hc : last < (c : Int)) (h64 : c < 64) (hm : (if m0 = 0 then 1 else m0) = mk)
    (hw : w' = w ∧ m0 = 0 ∨ w' = w.setCell ⟨g, c, none⟩ (.int .i64 m0)) : RX w' g TS A c mk [] w'.heap.size := by
  have h' := h.up (show last ≤ (c : Int) - 1 by omega)
  obtain ⟨⟨cs, h1, h2, h3, h4⟩, h5, h6, h7⟩ := h'
  obtain ⟨z1, z2⟩ := h4 c h64 (by omega)
  rcases hw with ⟨rfl, rfl⟩ | rfl
  · exact ⟨⟨cs, _, 0, h1, h2, fun d hd hdl => h3 d hd (by omega), fun d hd hdl => h4 d hd (by omega), z1, hm, z2, World.ownsRow_nil _ _ _ _⟩, h5, h6, Nat.le_refl _, fun p hp => by have := h7 p hp; omega, h64⟩
  · have hF : Fr (fun b => b = g) w (w.setCell ⟨g, c, none⟩ (.int .i64 m0)) := (Fr.refl (fun b => b = g) w).setCell (p := ⟨g, c, none⟩) (fun _ => rfl) _
    have hne : ∀ {n : Nat} {u : Value} {xs : List Value}, w.ownsRow 0 86 7 u n xs → ∀ b, u.ownBlock = some b → b ≠ g := by
      intro n u xs hu b hb e
      subst e
      rcases hu.2 with ⟨rfl, _⟩ | ⟨g', c', cur, e1, _, h7, _⟩
      · cases hb
      · subst e1
        cases hb
        rw [h1] at h7; cases h7
    refine ⟨⟨_, _, m0, obj_set h1 c _, by simp [h2], fun d hd hdl => ?_, fun d hd hdl => ?_, by rw [Array.getElem?_setIfInBounds_self_of_lt (by omega)], hm, by rw [Array.getElem?_setIfInBounds_ne (by omega)]; exact z2, World.ownsRow_nil _ _ _ _⟩, h5, fun b hb => Nat.lt_of_lt_of_le (h6 b hb) hF.size, Nat.le_refl _, fun p hp => by have := h7 p hp; omega, h64⟩
    · obtain ⟨mk', u, e1, e2, e3, e4, e5⟩ := h3 d hd (by omega)
      exact ⟨mk', u, by rw [Array.getElem?_setIfInBounds_ne (by omega)]; exact e1, e2, by rw [Array.getElem?_setIfInBounds_ne (by omega)]; exact e3, hF.row e4 (fun b hb => hne e4 b hb), e5⟩
    · obtain ⟨e1, e2⟩ := h4 d hd (by omega)
      exact ⟨by rw [Array.getElem?_setIfInBounds_ne (by omega)]; exact e1, by rw [Array.getElem?_setIfInBounds_ne (by omega)]; exact e2⟩
section
variable {w w' : World} {g : Nat} {TS : Nat → Prop} {A : Tbl} {c : Nat} {mk : Int} {acc : Rows} {B : Nat}
theorem RX.fr {S : Nat → Prop} (h : RX w g TS A c mk acc B) (hf : Fr S w w') (hS : ∀ b, S b → ¬ TS b ∧ b < B) : RX w' g TS A c mk acc B := by
  obtain ⟨⟨cs, v, m0, h1, h2, h3, h4, h5, h6, h7, h8⟩, k1, k2, k3, k4, k5⟩ := h
  refine ⟨⟨cs, v, m0, hf.at_ h1 (fun e => (hS _ e).1 k1), h2, fun d hd hdl => (h3 d hd hdl).fr hf (fun b hb e => (hS _ e).1 hb), h4, h5, h6, h7, hf.row h8 (fun b hb e => ?_)⟩, k1, k2, Nat.le_trans k3 hf.size, k4, k5⟩
  have := (h8.lt b hb).1
  have := (hS _ e).2
  omega
/-- The cell of its rows. -/
theorem RX.cell (h : RX w g TS A c mk acc B) : ∃ a k, w.cell? ⟨g, 64 + c, none⟩ = some (.slice a acc.length k) ∧ w.ownsRow B 86 7 (.slice a acc.length k) acc.length (rowcs acc) := by
  obtain ⟨⟨cs, v, m0, h1, h2, h3, h4, h5, h6, h7, h8⟩, k1, k2, k3, k4, k5⟩ := h
  obtain ⟨a, k, rfl⟩ := row_sl h8
  exact ⟨a, k, cell_obj h1 (64 + c) _ h7, h8⟩
theorem RX.frozen (h : RX w g TS A c mk acc B) (j : Nat) : w.frozen? ⟨g, j, none⟩ = false := by
  obtain ⟨⟨cs, v, m0, h1, h2, h3, h4, h5, h6, h7, h8⟩, k1, k2, k3, k4, k5⟩ := h
  exact obj_frozen h1 j
/-- A row more is hung on. -/
theorem RX.push (h : RX w g TS A c mk acc B) {v' : Value} {acc' : Rows} (hf : Fr (fun b => B ≤ b) w w') (ho : w'.ownsRow B 86 7 v' acc'.length (rowcs acc')) : RX (w'.setCell ⟨g, 64 + c, none⟩ v') g TS A c mk acc' B := by
  obtain ⟨⟨cs, v, m0, h1, h2, h3, h4, h5, h6, h7, h8⟩, k1, k2, k3, k4, k5⟩ := h
  have hg := hf.at_ h1 (fun e => by have := k2 g k1; omega)
  have hF : Fr (fun b => b = g) w' (w'.setCell ⟨g, 64 + c, none⟩ v') := (Fr.refl (fun b => b = g) w').setCell (p := ⟨g, 64 + c, none⟩) (fun _ => rfl) _
  have hne : ∀ {n base : Nat} {u : Value} {xs : List Value}, w'.ownsRow base 86 7 u n xs → ∀ b, u.ownBlock = some b → b ≠ g := by
    intro n base u xs hu b hb e
    subst e
    rcases hu.2 with ⟨rfl, _⟩ | ⟨g', c', cur, e1, _, h7, _⟩
    · cases hb
    · subst e1
      cases hb
      rw [hg] at h7; cases h7
  refine ⟨⟨_, v', m0, obj_set hg (64 + c) v', by simp [h2], fun d hd hdl => ?_, fun d hd hdl => ?_, by rw [Array.getElem?_setIfInBounds_ne (by omega)]; exact h5, h6, by rw [Array.getElem?_setIfInBounds_self_of_lt (by omega)], hF.row ho (fun b hb => hne ho b hb)⟩, k1, k2, Nat.le_trans k3 (Nat.le_trans hf.size hF.size), k4, k5⟩
  · obtain ⟨mk', u, e1, e2, e3, e4, e5⟩ := (h3 d hd hdl).fr hf (fun b hb e => by have := k2 b hb; omega)
    exact ⟨mk', u, by rw [Array.getElem?_setIfInBounds_ne (by omega)]; exact e1, e2, by rw [Array.getElem?_setIfInBounds_ne (by omega)]; exact e3, hF.row e4 (fun b hb => hne e4 b hb), e5⟩
  · obtain ⟨e1, e2⟩ := h4 d hd hdl
    exact ⟨by rw [Array.getElem?_setIfInBounds_ne (by omega)]; exact e1, by rw [Array.getElem?_setIfInBounds_ne (by omega)]; exact e2⟩
theorem RX.leave (h : RX w g TS A c mk acc B) (h0 : 1 ≤ mk) : RU w g (fun b => TS b ∨ (B ≤ b ∧ b < w.heap.size)) (putS ktI.lt A c (mk, acc)) c := by
  obtain ⟨⟨cs, v, m0, h1, h2, h3, h4, h5, h6, h7, h8⟩, k1, k2, k3, k4, k5⟩ := h
  refine ⟨⟨cs, h1, h2, fun d hd hdl => ?_, fun d hd hdl => h4 d hd (by omega)⟩, .inl k1, ?_, ?_⟩
  · by_cases hdc : d = c
    · subst hdc
      have e : cli (putS ktI.lt A (d : Int) (mk, acc)) d = (mk, acc) := by rw [cli_put, if_pos rfl]
      exact ⟨m0, v, h5, by rw [e]; exact h6, h7, by rw [e]; exact own_base h8 (Nat.zero_le _), fun b hb => .inr ⟨(h8.lt b hb).1, (h8.lt b hb).2⟩⟩
    · obtain ⟨mk', u, e1, e2, e3, e4, e5⟩ := h3 d hd (by omega)
      have e : cli (putS ktI.lt A (c : Int) (mk, acc)) d = cli A d := by rw [cli_put, if_neg (by omega)]
      exact ⟨mk', u, e1, by rw [e]; exact e2, e3, by rw [e]; exact e4, fun b hb => .inl (e5 b hb)⟩
  · rintro b (hb | hb)
    · have := k2 b hb; omega
    · exact hb.2
  · intro p hp
    rcases mem_putS.1 hp with rfl | hp
    · exact Int.le_refl _
    · have := k4 p (mem_delS.1 hp).1; omega
end
end Go.Proofs.Ytakjiicnbocjeaa
