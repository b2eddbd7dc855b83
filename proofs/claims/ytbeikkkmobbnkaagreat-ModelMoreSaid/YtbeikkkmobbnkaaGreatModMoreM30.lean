/- The map of requests by clients and numbers: what holds of it. -/
import Derived.Test.YtbeikkkmobbnkaaGreatModMoreM29
import Derived.Test.YtbeikkkmobbnkaaGreatModMoreM2
namespace Go.Proofs.YtbeikkkmobbnkaaGreat
open Go.RowKit Go.Maps
section
variable {κ ν : Type} [DecidableEq κ]
theorem getG_ins {lt : κ → κ → Bool} {x : κ} {v : ν} (y : κ) : ∀ {l : List (κ × ν)}, (∀ p ∈ l, p.1 ≠ x) → getS (insS lt (x, v) l) y = if x = y then some v else getS l y
  | [], _ => by simp [insS, getS]
  | p :: r, h => by
    unfold insS
    by_cases hl : lt (x, v).1 p.1 = true
    · simp only [hl, if_true]; rw [getS]
    · simp only [hl, Bool.false_eq_true, if_false]
      rw [getS, getG_ins y (l := r) (fun q hq => h q (by simp [hq])), getS]
      have := h p (by simp)
      by_cases e1 : p.1 = y
      · have : x ≠ y := fun e => this (e1.trans e.symm)
        simp [e1, this]
      · simp [e1]
theorem getG_del {x : κ} (y : κ) : ∀ {l : List (κ × ν)}, getS (delS l x) y = if x = y then none else getS l y
  | [] => by simp [delS, getS]
  | p :: r => by
    have ih := getG_del (x := x) y (l := r)
    simp only [delS] at ih ⊢
    by_cases e : p.1 = x
    · simp only [List.filter_cons, e, decide_true, Bool.not_true, Bool.false_eq_true, if_false, getS, ih]
      by_cases e2 : x = y <;> simp [e2]
    · simp only [List.filter_cons, e, decide_false, Bool.not_false, if_true, getS, ih]
      by_cases e2 : p.1 = y
      · have : x ≠ y := fun h => e (e2.trans h.symm)
        simp [e2, this]
      · simp [e2]
theorem getG_put {lt : κ → κ → Bool} {x : κ} {v : ν} (y : κ) (l : List (κ × ν)) : getS (putS lt l x v) y = if x = y then some v else getS l y := by
  unfold putS
  rw [getG_ins y (fun p hp => by simpa using (List.mem_filter.1 hp).2), getG_del]
  by_cases e : x = y <;> simp [e]
end
def isK (x : PK) (a : AV) : Bool := decide (a.c = x.1.1) && decide (a.n = x.1.2)
def PK.of (a : AV) (hc : okI a.c) (hn : okI a.n) : PK := ⟨(a.c, a.n), hc, hn⟩
theorem isK_of {a : AV} {hc : okI a.c} {hn : okI a.n} : isK (PK.of a hc hn) a = true := by simp [isK, PK.of]
theorem isK_ne {a : AV} {hc : okI a.c} {hn : okI a.n} {y : PK} (h : PK.of a hc hn ≠ y) : isK y a = false := by
  unfold isK
  rw [Bool.eq_false_iff]
  intro e
  simp only [Bool.and_eq_true, decide_eq_true_eq] at e
  exact h (Subtype.ext (Prod.ext e.1 e.2))
abbrev ktW : TypeId := 56
/-- The map of groups in block bm, whose box lies at n0: the requests L so far; the entries' slices own rows, each its own. -/
structure GrI (w0 W : World) (n0 nb bm : Nat) (L : List AV) (l : List (PK × Value)) (C : Nat → Prop) : Prop where
  box : W.heap[nb]? = some (.cells #[.map (some bm)] 53)
  mp : Mp Tryz.prog W ktW ktP id bm l
  row : ∀ x v, getS l x = some v → W.ownsRow n0 50 9 v (L.filter (isK x)).length (flat AV.cs (L.filter (isK x)))
  ne : ∀ x v, getS l x = some v → L.filter (isK x) ≠ []
  none : ∀ x, getS l x = none → L.filter (isK x) = []
  mine : ∀ x v b, getS l x = some v → v.ownBlock = some b → C b
  apart : ∀ x y v v' b, getS l x = some v → getS l y = some v' → v.ownBlock = some b → v'.ownBlock = some b → x = y
  fr : Fr (fun b => n0 ≤ b) w0 W
  nbm : n0 ≤ bm ∧ n0 ≤ nb ∧ nb ≠ bm
  len : l.length ≤ L.length
section
variable {w0 W W' : World} {n0 nb bm : Nat} {L : List AV} {l : List (PK × Value)} {C : Nat → Prop}
theorem GrI.fa {B : Nat} (h : GrI w0 W n0 nb bm L l C) (hf : Fa B W W') (hB : w0.heap.size ≤ B) : GrI w0 W' n0 nb bm L l C :=
  ⟨Fa.cells hf h.box, Fa.mp hf h.mp, fun x v hx => Fa.row hf (h.row x v hx), h.ne, h.none, h.mine, h.apart, Fa.old hf h.fr hB, h.nbm, h.len⟩
theorem GrI.keep (h : GrI w0 W n0 nb bm L l C) (hf : Fr (fun _ => False) W W') : GrI w0 W' n0 nb bm L l C :=
  ⟨hf.at_ h.box (fun h => h), hf.mp h.mp (fun h => h), fun x v hx => hf.row (h.row x v hx) (fun _ _ h => h), h.ne, h.none, h.mine, h.apart, h.fr.trans' hf (fun _ _ e => e.elim), h.nbm, h.len⟩
theorem GrI.cc {W1 W2 : World} (h : GrI w0 W n0 nb bm L l C) : GrI w0 W n0 nb bm L l (CC C W1 W2) := ⟨h.box, h.mp, h.row, h.ne, h.none, fun x v b hx hb => .inl (h.mine x v b hx hb), h.apart, h.fr, h.nbm, h.len⟩
theorem GrI.monoC {C' : Nat → Prop} (h : GrI w0 W n0 nb bm L l C) (hc : ∀ b, C b → C' b) : GrI w0 W n0 nb bm L l C' := ⟨h.box, h.mp, h.row, h.ne, h.none, fun x v b hx hb => hc b (h.mine x v b hx hb), h.apart, h.fr, h.nbm, h.len⟩
/-- The slice that stands for a key; a nil one, if there is none. -/
def slotOf (l : List (PK × Value)) (x : PK) : Value := match getS l x with | some v => v | none => .slice none 0 0
theorem GrI.slot (h : GrI w0 W n0 nb bm L l C) (x : PK) : W.ownsRow n0 50 9 (slotOf l x) (L.filter (isK x)).length (flat AV.cs (L.filter (isK x))) := by
  unfold slotOf
  cases e : getS l x with
  | some v => exact h.row x v e
  | none => rw [h.none x e]; exact World.ownsRow_nil _ _ _ _
theorem GrI.slotC (h : GrI w0 W n0 nb bm L l C) {x : PK} {b : Nat} (hb : (slotOf l x).ownBlock = some b) : C b ∧ ∃ v, getS l x = some v ∧ v.ownBlock = some b := by
  unfold slotOf at hb
  cases e : getS l x with
  | some v => rw [e] at hb; exact ⟨h.mine x v b e hb, v, rfl, hb⟩
  | none => rw [e] at hb; cases hb
theorem GrI.slotNe (h : GrI w0 W n0 nb bm L l C) {x : PK} {b : Nat} (hb : (slotOf l x).ownBlock = some b) : b ≠ bm := by
  rintro rfl
  have hr := h.slot x
  rcases hr.2 with ⟨e, _⟩ | ⟨g, cap, cur, e, _, hg, _⟩
  · rw [e] at hb; cases hb
  · rw [e] at hb
    injection hb with hb
    subst hb
    exact map_ne_cells h.mp hg rfl
/-- One more request: its entry is laid, the row is appended to, the entry is stored. -/
theorem GrI.step {W4 W5 W6 : World} {a : AV} {hc : okI a.c} {hn : okI a.n} {v' : Value} (h : GrI w0 W n0 nb bm L l C) (h4 : Fr (fun b => b = bm) W W4)
    (hown : W5.ownsRow n0 50 9 v' ((L.filter (isK (PK.of a hc hn))).length + 1) (flat AV.cs (L.filter (isK (PK.of a hc hn))) ++ a.cs.toList)) (hgrow : W4.grownBy W5 (slotOf l (PK.of a hc hn)).ownBlock)
    (hat : v'.ownBlock = (slotOf l (PK.of a hc hn)).ownBlock ∨ v'.ownBlock = some W4.heap.size) (hm : Mp Tryz.prog W6 ktW ktP id bm (putS ktP.lt l (PK.of a hc hn) v')) (h6 : W5.mapTurned W6 bm) (hlo : ∀ b, C b → n0 ≤ b) (h0 : w0.heap.size = n0) :
    GrI w0 W6 n0 nb bm (L ++ [a]) (putS ktP.lt l (PK.of a hc hn) v') (CC C W W6) ∧ Fr (fun b => b = bm ∨ CC C W W6 b) W W6 := by
  obtain ⟨x, hx⟩ : ∃ x, PK.of a hc hn = x := ⟨_, rfl⟩
  have hxx : isK x a = true := by rw [← hx]; exact isK_of
  have hxn : ∀ y, x ≠ y → isK y a = false := fun y hy => isK_ne (by rw [hx]; exact hy)
  rw [hx] at hown hgrow hat hm ⊢
  have hbm : bm < W.heap.size := h.mp.lt
  have hs4 := h4.size
  have hF45 : Fr (fun b => (slotOf l x).ownBlock = some b) W4 W5 := Fr.grown hgrow (fun r e _ => e)
  have hF56 : Fr (fun b => b = bm) W5 W6 := Fr.turned h6 rfl
  have hs5 := hF45.size
  have hs6 := hF56.size
  have hmb : ∀ b, v'.ownBlock = some b → (slotOf l x).ownBlock = some b ∨ (W.heap.size ≤ b ∧ b < W6.heap.size) := fun b hb => by
    rcases hat with e | e
    · exact .inl (e ▸ hb)
    · rw [e] at hb
      injection hb with hb
      have := (hown.lt _ e).2
      exact .inr ⟨by omega, by omega⟩
  have hC' : ∀ b, v'.ownBlock = some b → CC C W W6 b := fun b hb => (hmb b hb).elim (fun e => .inl (h.slotC e).1) .inr
  have hv'bm : ∀ b, v'.ownBlock = some b → b ≠ bm := fun b hb => (hmb b hb).elim (fun e => h.slotNe e) (fun e => by omega)
  have hrow6 : W6.ownsRow n0 50 9 v' ((L.filter (isK x)).length + 1) (flat AV.cs (L.filter (isK x)) ++ a.cs.toList) := hF56.row hown (fun b hb e => hv'bm b hb e)
  have hfx : (L ++ [a]).filter (isK x) = L.filter (isK x) ++ [a] := by rw [List.filter_append]; simp [hxx]
  have hfy : ∀ y, x ≠ y → (L ++ [a]).filter (isK y) = L.filter (isK y) := fun y hy => by rw [List.filter_append]; simp [hxn y hy]
  have hother : ∀ y v, x ≠ y → getS l y = some v → W6.ownsRow n0 50 9 v (L.filter (isK y)).length (flat AV.cs (L.filter (isK y))) := fun y v hy hv => by
    have h1 : ∀ b, v.ownBlock = some b → b ≠ bm := fun b hb => h.slotNe (x := y) (by unfold slotOf; rw [hv]; exact hb)
    refine hF56.row (hF45.row (h4.row (h.row y v hv) (fun b hb e => h1 b hb e)) (fun b hb e => ?_)) (fun b hb e => h1 b hb e)
    obtain ⟨_, u, hu, hub⟩ := h.slotC e
    exact hy (h.apart x y u v b hu hv hub hb)
  have hall : Fr (fun b => b = bm ∨ CC C W W6 b) W W6 := by
    refine (h4.mono (fun b _ e => .inl e)).trans' (S' := fun b => (slotOf l x).ownBlock = some b) hF45 (fun b _ e => .inr (.inl (h.slotC e).1)) |>.trans' hF56 (fun b _ e => .inl e)
  refine ⟨⟨?_, hm, ?_, ?_, ?_, ?_, ?_, ?_, h.nbm, ?_⟩, hall⟩
  · have h1 := h4.at_ h.box (fun e => h.nbm.2.2 e)
    have h2 := hF45.at_ h1 (fun e => by
      have hr := h.slot x
      rcases hr.2 with ⟨e2, _⟩ | ⟨g, cap, cur, e2, _, hg, _⟩
      · rw [e2] at e; cases e
      · rw [e2] at e
        injection e with e
        subst e
        rw [h.box] at hg
        injection hg with hg
        injection hg with _ hg
        exact absurd hg (by decide))
    exact hF56.at_ h2 (fun e => h.nbm.2.2 e)
  · intro y v hv
    rw [getG_put] at hv
    by_cases e : x = y
    · subst e
      rw [if_pos rfl] at hv
      injection hv with hv
      subst hv
      rw [hfx, List.length_append, flatA_snoc]
      exact hrow6
    · rw [if_neg e] at hv
      rw [hfy y e]
      exact hother y v e hv
  · intro y v hv
    by_cases e : x = y
    · subst e; rw [hfx]; simp
    · rw [getG_put, if_neg e] at hv
      rw [hfy y e]; exact h.ne y v hv
  · intro y hv
    rw [getG_put] at hv
    by_cases e : x = y
    · rw [if_pos e] at hv; cases hv
    · rw [if_neg e] at hv
      rw [hfy y e]; exact h.none y hv
  · intro y v b hv hb
    rw [getG_put] at hv
    by_cases e : x = y
    · rw [if_pos e] at hv
      injection hv with hv
      subst hv
      exact hC' b hb
    · rw [if_neg e] at hv
      exact .inl (h.mine y v b hv hb)
  · have key : ∀ y v b, x ≠ y → getS l y = some v → v.ownBlock = some b → v'.ownBlock = some b → False := fun y v b hy hv hb hb' => by
      rcases hmb b hb' with e | e
      · obtain ⟨_, u, hu, hub⟩ := h.slotC e
        exact hy (h.apart x y u v b hu hv hub hb)
      · have := ((h.row y v hv).lt b hb).2
        omega
    intro y z v u b hv hu hb hb'
    rw [getG_put] at hv hu
    by_cases e1 : x = y
    · by_cases e2 : x = z
      · exact e1.symm.trans e2
      · rw [if_pos e1] at hv
        rw [if_neg e2] at hu
        injection hv with hv
        subst hv
        exact (key z u b e2 hu hb' hb).elim
    · by_cases e2 : x = z
      · rw [if_neg e1] at hv
        rw [if_pos e2] at hu
        injection hu with hu
        subst hu
        exact (key y v b e1 hv hb hb').elim
      · rw [if_neg e1] at hv
        rw [if_neg e2] at hu
        exact h.apart y z v u b hv hu hb hb'
  · exact h.fr.trans' hall (fun b hb e => e.elim (fun e => by have := h.nbm; omega) (fun e => e.elim (fun e => hlo b e) (fun e => by have := h.fr.size; omega)))
  · have := putK_len ktP.lt l x v'
    have := h.len
    rw [List.length_append, List.length_singleton]
    omega
end
end Go.Proofs.YtbeikkkmobbnkaaGreat
