/- stock, plainly: what Do and Count keep; what Do makes of a stock; what is done and undone. -/
import Derived.Test.YtclgmnobockfnaaStkDoesM1
import Derived.Test.YtclgmnobockfnaaStkDoesM2
namespace Go.Proofs.Ytclgmnobockfnaa
open Go.RowKit Go.Maps
theorem its_cons {last : Str} {p : Str × Int} {r : Its} (h : itsOk last (p :: r) = true) : goodB p.1 = true ∧ 1 ≤ p.2 ∧ p.2 ≤ 1099511627776 ∧ last < p.1 ∧ itsOk p.1 r = true := by
  unfold itsOk at h
  simp only [Bool.and_eq_true, decide_eq_true_eq, mayI_iff] at h
  exact ⟨h.1.1.1.1, h.1.1.1.2, h.1.1.2.2, h.1.2, h.2⟩
theorem its_all : ∀ {L : Its} {last : Str}, itsOk last L = true → RiseS L ∧ ∀ p ∈ L, goodB p.1 = true ∧ 1 ≤ p.2 ∧ p.2 ≤ 1099511627776 ∧ last < p.1
  | [], _, _ => ⟨List.Pairwise.nil, fun p hp => by cases hp⟩
  | q :: r, last, h => by
    obtain ⟨h1, h2, h3, h4, h5⟩ := its_cons h
    obtain ⟨i1, i2⟩ := its_all h5
    refine ⟨List.pairwise_cons.2 ⟨fun p hp => (i2 p hp).2.2.2, i1⟩, fun p hp => ?_⟩
    rcases List.mem_cons.1 hp with rfl | hp
    · exact ⟨h1, h2, h3, h4⟩
    · obtain ⟨j1, j2, j3, j4⟩ := i2 p hp
      exact ⟨j1, j2, j3, str_trans h4 j4⟩
theorem mayL_iff {L : Its} : mayL L = true ↔ itsOk [] L = true ∧ L.length ≤ 16 := by
  unfold mayL; rw [Bool.and_eq_true, decide_eq_true_eq]
/-- Two rising lists that say the same are the same. -/
theorem riseS_ext {ν : Type} : ∀ {A B : List (Str × ν)}, RiseS A → RiseS B → (∀ g, getS A g = getS B g) → A = B
  | [], [], _, _, _ => rfl
  | [], q :: s, _, _, h => by
    have := h q.1
    simp [getS] at this
  | p :: r, [], _, _, h => by
    have := h p.1
    simp [getS] at this
  | p :: r, q :: s, hA, hB, h => by
    obtain ⟨a1, a2⟩ := List.pairwise_cons.1 hA
    obtain ⟨b1, b2⟩ := List.pairwise_cons.1 hB
    have hp := h p.1
    have hq := h q.1
    have hpn : ∀ (x : Str) (l : List (Str × ν)), (∀ y ∈ l, x < y.1) → getS l x = none := fun x l hl => getK_none.2 (fun y hy e => by have := hl y hy; rw [e] at this; exact str_irr _ this)
    have e1 : p.1 = q.1 := by
      rcases str_tri p.1 q.1 with hlt | he | hlt
      · have : getS (q :: s) p.1 = none := hpn _ _ (fun y hy => by
          rcases List.mem_cons.1 hy with rfl | hy
          · exact hlt
          · exact str_trans hlt (b1 y hy))
        rw [this] at hp
        simp [getS] at hp
      · exact he
      · have : getS (p :: r) q.1 = none := hpn _ _ (fun y hy => by
          rcases List.mem_cons.1 hy with rfl | hy
          · exact hlt
          · exact str_trans hlt (a1 y hy))
        rw [this] at hq
        simp [getS] at hq
    have e2 : p.2 = q.2 := by simpa [getS, e1] using hp
    have : p = q := Prod.ext e1 e2
    subst this
    congr 1
    refine riseS_ext a2 b2 (fun g => ?_)
    by_cases hg : p.1 = g
    · subst hg
      rw [hpn _ _ a1, hpn _ _ b1]
    · have := h g
      simpa [getS, hg] using this
theorem putK_len_known {ν : Type} {A : List (Str × ν)} {g : Str} {v : ν} (hA : RiseS A) (hg : (getS A g).isSome = true) : (putS ktS.lt A g v).length = A.length := by
  unfold putS
  rw [(insK_perm ktS.lt (g, v) _).length_eq, List.length_cons]
  induction A with
  | nil => simp [getS] at hg
  | cons p r ih =>
    obtain ⟨a1, a2⟩ := List.pairwise_cons.1 hA
    by_cases e : p.1 = g
    · have : delS (p :: r) g = r := by
        unfold delS
        rw [List.filter_cons]
        simp only [e, decide_true, Bool.not_true, Bool.false_eq_true, if_false]
        refine List.filter_eq_self.2 (fun y hy => ?_)
        have := a1 y hy
        simp only [Bool.not_eq_true', decide_eq_false_iff_not]
        intro hh; rw [hh, e] at this; exact str_irr _ this
      rw [this]; rfl
    · have h1 : delS (p :: r) g = p :: delS r g := by
        unfold delS
        rw [List.filter_cons]
        simp [e]
      rw [h1, List.length_cons, List.length_cons, ih a2 (by simpa [getS, e] using hg)]
theorem rowAt_put {A : Stk} {x y : Str} {v : SR} (hA : RiseS A) : rowAt (putS ktS.lt A x v) y = if x = y then v else rowAt A y := by
  unfold rowAt
  rw [getK_put (riseS_nd hA)]
  split <;> rfl
/-- What a fold of moves makes of a stock. -/
def MoveOf (k : Int) (A : Stk) (L : Its) (B : Stk) : Prop := RiseS B ∧ ∀ g, getS B g = match getS L g with | some n => some ((rowAt A g).move k n) | none => getS A g
theorem doFold_iff (k : Int) : ∀ {L : Its} {last : Str} {A : Stk}, itsOk last L = true → RiseS A →
    (∀ B, doFold k A L = some B → (∀ p ∈ L, ((rowAt A p.1).move k p.2).right = true) ∧ MoveOf k A L B) ∧ ((∀ p ∈ L, ((rowAt A p.1).move k p.2).right = true) → ∃ B, doFold k A L = some B)
  | [], last, A, h, hA => by
    refine ⟨fun B hB => ?_, fun _ => ⟨A, rfl⟩⟩
    obtain rfl : A = B := Option.some.inj hB
    exact ⟨fun p hp => (by cases hp), hA, fun g => rfl⟩
  | p :: r, last, A, h, hA => by
    obtain ⟨h1, h2, h3, h4, h5⟩ := its_cons h
    obtain ⟨r1, r2⟩ := its_all h5
    have hne : ∀ q ∈ r, ¬ p.1 = q.1 := fun q hq e => by
      have := (r2 q hq).2.2.2
      rw [e] at this; exact str_irr _ this
    have hrow : ∀ q ∈ r, rowAt (putS ktS.lt A p.1 ((rowAt A p.1).move k p.2)) q.1 = rowAt A q.1 := fun q hq => by
      rw [rowAt_put hA, if_neg (hne q hq)]
    obtain ⟨i1, i2⟩ := doFold_iff k h5 (riseS_put (x := p.1) (v := (rowAt A p.1).move k p.2) hA)
    rw [doFold_cons]
    refine ⟨fun B hB => ?_, fun hall => ?_⟩
    · split at hB
      · rename_i hr
        obtain ⟨j1, j2, j3⟩ := i1 B hB
        refine ⟨fun q hq => ?_, j2, fun g => ?_⟩
        · rcases List.mem_cons.1 hq with rfl | hq
          · exact hr
          · have := j1 q hq
            rwa [hrow q hq] at this
        · rw [j3 g]
          by_cases e : p.1 = g
          · subst e
            have hn : getS r p.1 = none := getK_none.2 (fun y hy e => hne y hy e.symm)
            rw [hn]
            simp only [getS, if_pos]
            rw [getK_put (riseS_nd hA), if_pos rfl]
          · simp only [getS, if_neg e]
            cases hg : getS r g with
            | none => simp only; rw [getK_put (riseS_nd hA), if_neg e]
            | some n => simp only; rw [rowAt_put hA, if_neg e]
      · cases hB
    · rw [if_pos (hall p (by simp))]
      exact i2 (fun q hq => by rw [hrow q hq]; exact hall q (by simp [hq]))
theorem doFold_len (k : Int) : ∀ {L : Its} {A B : Stk}, RiseS A → (∀ p ∈ L, (getS A p.1).isSome = true) → doFold k A L = some B → B.length = A.length
  | [], A, B, hA, h, e => by obtain rfl : A = B := Option.some.inj e; rfl
  | p :: r, A, B, hA, h, e => by
    rw [doFold_cons] at e
    split at e
    · have := doFold_len k (riseS_put (x := p.1) (v := (rowAt A p.1).move k p.2) hA) (fun q hq => by
        rw [getK_put (riseS_nd hA)]
        split
        · rfl
        · exact h q (by simp [hq])) e
      rw [this, putK_len_known hA (h p (by simp))]
    · cases e
/-- What is said of a stock by its rows, from MoveOf. -/
theorem MoveOf.rows {k : Int} {A B : Stk} {L : Its} (h : MoveOf k A L B) (hA : SOk A) (hL : ∀ p ∈ L, goodB p.1 = true) (hr : ∀ p ∈ L, ((rowAt A p.1).move k p.2).right = true) : ∀ p ∈ B, goodB p.1 = true ∧ SRok p.2 := by
  have key : ∀ g n, (g, n) ∈ L → SRok ((rowAt A g).move k n) := fun g n hm => SRok.ofR (hr (g, n) hm) (SR.move_bal (hA.at_ g).bal k n)
  intro p hp
  have hg := getK_of (riseS_nd h.1) (x := p.1) (v := p.2) hp
  rw [h.2 p.1] at hg
  cases hl : getS L p.1 with
  | none =>
    rw [hl] at hg
    have := getK_mem hg
    exact ⟨hA.good _ this, hA.row _ this⟩
  | some n =>
    rw [hl] at hg
    have hm := getK_mem hl
    simp only [Option.some.injEq] at hg
    refine ⟨hL _ hm, ?_⟩
    rw [← hg]
    exact key _ _ hm
theorem doS_yes {A B : Stk} {k : Int} {L : Its} (hA : SOk A) (h : doS A k L = (0, B)) : 1 ≤ k ∧ k ≤ 11 ∧ mayL L = true ∧ doMay A k L = 0 ∧ (∀ p ∈ L, ((rowAt A p.1).move k p.2).right = true) ∧ MoveOf k A L B ∧ B.length ≤ 64 := by
  unfold doS at h
  split at h
  · cases h
  · rename_i h1
    split at h
    · cases h
    · rename_i h2
      split at h
      · rename_i h3
        injection h with h _
        exact absurd h h3
      · rename_i h3
        have hm : mayL L = true := by simpa using h2
        obtain ⟨i1, -⟩ := doFold_iff k (mayL_iff.1 hm).1 hA.rise
        split at h
        · cases h
        · rename_i C hC
          split at h
          · cases h
          · rename_i h4
            injection h with _ h
            subst h
            obtain ⟨j1, j2⟩ := i1 _ hC
            exact ⟨by omega, by omega, hm, by omega, j1, j2, by omega⟩
theorem doS_ok {A : Stk} {k : Int} {L : Its} (hA : SOk A) : SOk (doS A k L).2 := by
  by_cases h0 : (doS A k L).1 = 0
  · obtain ⟨-, -, hm, -, hr, hB, hlen⟩ := doS_yes hA (B := (doS A k L).2) (Prod.ext h0 rfl)
    have := hB.rows hA (fun p hp => ((its_all (mayL_iff.1 hm).1).2 p hp).1) hr
    exact ⟨hB.1, fun p hp => (this p hp).1, fun p hp => (this p hp).2, hlen⟩
  · have : (doS A k L).2 = A := by
      unfold doS at h0 ⊢
      split
      · rfl
      · split
        · rfl
        · split
          · rfl
          · split
            · rfl
            · split
              · rfl
              · rename_i h1 h2 h3 _ _ h4 h5
                rw [if_neg h1, if_neg h2, if_neg h3, h4] at h0
                simp only [if_neg h5] at h0
                first | exact absurd rfl h0 | exact absurd trivial h0
    rw [this]; exact hA
theorem doS_no {A : Stk} {k : Int} {L : Its} (h0 : (doS A k L).1 ≠ 0) : (doS A k L).2 = A := by
  unfold doS at h0 ⊢
  split
  · rfl
  · split
    · rfl
    · split
      · rfl
      · split
        · rfl
        · split
          · rfl
          · rename_i h1 h2 h3 _ _ h4 h5
            rw [if_neg h1, if_neg h2, if_neg h3, h4] at h0
            simp only [if_neg h5] at h0
            first | exact absurd rfl h0 | exact absurd trivial h0
/-- When something that takes can be done. -/
theorem doS_can {A : Stk} {k : Int} {L : Its} {i : Nat} (hA : SOk A) (hk : 1 ≤ k ∧ k ≤ 11) (hm : mayL L = true) (hi : (roadF k).1 = some i) (hin : ∀ p ∈ L, (getS A p.1).isSome = true) (hh : ∀ p ∈ L, p.2 ≤ (rowAt A p.1).get i)
    (hr : ∀ p ∈ L, ((rowAt A p.1).move k p.2).right = true) : ∃ B, doS A k L = (0, B) := by
  obtain ⟨i1, i2⟩ := doFold_iff k (mayL_iff.1 hm).1 hA.rise
  obtain ⟨B, hB⟩ := i2 hr
  have hl := doFold_len k hA.rise hin hB
  have := hA.len
  refine ⟨B, ?_⟩
  have hd : doMay A k L = 0 := by
    unfold doMay
    rw [hi]
    have h1 : (L.any fun p => (getS A p.1).isNone) = false := by
      refine List.any_eq_false.2 (fun p hp => ?_)
      have := hin p hp
      cases e : getS A p.1 <;> simp_all
    have h2 : (L.any fun p => decide ((rowAt A p.1).get i < p.2)) = false := by
      refine List.any_eq_false.2 (fun p hp => ?_)
      have := hh p hp
      simp; omega
    simp only [h1, h2, Bool.false_eq_true, if_false]
  unfold doS
  rw [if_neg (by omega), if_neg (by simp [hm]), if_neg (by simp [hd]), hB]
  simp only
  rw [if_neg (by omega)]
theorem doMay_0 {A : Stk} {k : Int} {L : Its} {i : Nat} (hi : (roadF k).1 = some i) (h : doMay A k L = 0) : (∀ p ∈ L, (getS A p.1).isSome = true) ∧ ∀ p ∈ L, p.2 ≤ (rowAt A p.1).get i := by
  unfold doMay at h
  rw [hi] at h
  simp only at h
  split at h
  · cases h
  · rename_i h1
    split at h
    · cases h
    · rename_i h2
      refine ⟨fun p hp => ?_, fun p hp => ?_⟩
      · cases e : getS A p.1 with
        | some v => rfl
        | none => exact absurd (List.any_eq_true.2 ⟨p, hp, by simp [e]⟩) h1
      · refine Int.not_lt.1 (fun hlt => h2 (List.any_eq_true.2 ⟨p, hp, by simpa using hlt⟩))
theorem countS_ok {A : Stk} {g : Str} {n : Int} (hA : SOk A) : SOk (countS A g n).2.2 := by
  unfold countS
  split
  · exact hA
  · split
    · exact hA
    · rename_i r hr
      split
      · exact hA
      · simp only
        split
        · rename_i hri
          have hb := (hA.row _ (getK_mem hr))
          have hg := (hA.good _ (getK_mem hr))
          have hl := putK_len_known (g := g) (v := { r with free := r.free + (n - r.held - r.free), counted := r.counted + (n - r.held - r.free) }) hA.rise (by rw [hr]; rfl)
          refine ⟨riseS_put hA.rise, fun p hp => ?_, fun p hp => ?_, by rw [hl]; exact hA.len⟩
          · rcases mem_putK.1 hp with rfl | ⟨hp, -⟩
            · exact hg
            · exact hA.good _ hp
          · rcases mem_putK.1 hp with rfl | ⟨hp, -⟩
            · refine SRok.ofR hri ?_
              have := hb.bal
              unfold SR.sum SR.flow at this ⊢
              simp only at this ⊢
              omega
            · exact hA.row _ hp
        · exact hA
theorem countS_no {A : Stk} {g : Str} {n : Int} (h : (countS A g n).2.1 ≠ 0) : (countS A g n).1 = 0 ∧ (countS A g n).2.2 = A := by
  unfold countS at h ⊢
  split
  · exact ⟨rfl, rfl⟩
  · rename_i h1
    rw [if_neg h1] at h
    split
    · exact ⟨rfl, rfl⟩
    · rename_i r hr
      rw [hr] at h
      simp only at h
      split
      · exact ⟨rfl, rfl⟩
      · rename_i h2
        rw [if_neg h2] at h
        simp only at h ⊢
        split
        · rename_i h3
          simp only [if_pos h3] at h
          first | exact absurd rfl h | exact absurd trivial h
        · exact ⟨rfl, rfl⟩
/-- Held, picked, put back, freed: all is as it was. -/
theorem back_S {A B : Stk} {L : Its} (hA : SOk A) (h : doS A 2 L = (0, B)) : ∃ C, doS B 4 L = (0, C) ∧ doS C 5 L = (0, B) ∧ doS B 3 L = (0, A) := by
  obtain ⟨-, -, hm, hd, hr, hB, -⟩ := doS_yes hA h
  obtain ⟨hin, hfree⟩ := doMay_0 (k := 2) (i := 0) rfl hd
  have hoB : SOk B := by have := doS_ok (k := 2) (L := L) hA; rw [h] at this; exact this
  have hL := its_all (mayL_iff.1 hm).1
  have hat : ∀ p ∈ L, getS L p.1 = some p.2 := fun p hp => getK_of (riseS_nd hL.1) hp
  have rB : ∀ p ∈ L, getS B p.1 = some ((rowAt A p.1).move 2 p.2) := fun p hp => by rw [hB.2, hat p hp]
  have rB' : ∀ p ∈ L, rowAt B p.1 = (rowAt A p.1).move 2 p.2 := fun p hp => by unfold rowAt; rw [rB p hp]; rfl
  have ok : ∀ p ∈ L, SRok (rowAt A p.1) := fun p _ => hA.at_ p.1
  have m2 : ∀ (r : SR) (n : Int), r.move 2 n = { r with free := r.free + -n, held := r.held + n } := fun r n => rfl
  have m4 : ∀ (r : SR) (n : Int), r.move 4 n = { r with held := r.held + -n, picked := r.picked + n } := fun r n => rfl
  have m5 : ∀ (r : SR) (n : Int), r.move 5 n = { r with picked := r.picked + -n, held := r.held + n } := fun r n => rfl
  have m3 : ∀ (r : SR) (n : Int), r.move 3 n = { r with held := r.held + -n, free := r.free + n } := fun r n => rfl
  have bnd : ∀ p ∈ L, 0 ≤ (rowAt A p.1).free - p.2 ∧ 0 ≤ p.2 := fun p hp => by
    have h1 : p.2 ≤ (rowAt A p.1).free := hfree p hp
    have h2 := (hL.2 p hp).2.1
    omega
  have rt : ∀ r : SR, SRb r → 0 ≤ r.sum ∧ r.sum ≤ 1099511627776 → r.right = true := fun r h1 h2 => by
    unfold SR.right
    rw [Bool.and_eq_true, SR.each_iff, mayI_iff]
    exact ⟨h1, h2⟩
  obtain ⟨C, hC⟩ := doS_can (k := 4) (i := 1) hoB (by omega) hm rfl (fun p hp => by rw [rB p hp]; rfl) (fun p hp => by
      rw [rB' p hp, m2]
      show p.2 ≤ (rowAt A p.1).held + p.2
      have := (ok p hp).b.a1
      omega) (fun p hp => by
      rw [rB' p hp, m2, m4]
      have h0 := ok p hp
      have hb := bnd p hp
      obtain ⟨⟨a0, a1, a2, a3, b0, b1, b2, b3, b4, b5⟩, hs, -⟩ := h0
      unfold SR.sum at hs
      refine rt _ ⟨?_, ?_, ?_, ?_, b0, b1, b2, b3, b4, b5⟩ ?_ <;> (try unfold SR.sum) <;> simp only <;> omega)
  obtain ⟨-, -, -, -, -, hCm, -⟩ := doS_yes hoB hC
  have hoC : SOk C := by have := doS_ok (k := 4) (L := L) hoB; rw [hC] at this; exact this
  have rC : ∀ p ∈ L, getS C p.1 = some ((rowAt B p.1).move 4 p.2) := fun p hp => by rw [hCm.2, hat p hp]
  have rC' : ∀ p ∈ L, rowAt C p.1 = (rowAt B p.1).move 4 p.2 := fun p hp => by unfold rowAt; rw [rC p hp]; rfl
  have back5 : ∀ p ∈ L, (rowAt C p.1).move 5 p.2 = rowAt B p.1 := fun p hp => by
    rw [rC' p hp, m4, m5]
    cases hr : rowAt B p.1
    simp only [SR.mk.injEq, true_and, and_true]
    refine ⟨?_, ?_⟩ <;> omega
  have back3 : ∀ p ∈ L, (rowAt B p.1).move 3 p.2 = rowAt A p.1 := fun p hp => by
    rw [rB' p hp, m2, m3]
    cases hr : rowAt A p.1
    simp only [SR.mk.injEq, true_and, and_true]
    refine ⟨?_, ?_⟩ <;> omega
  obtain ⟨D, hD⟩ := doS_can (k := 5) (i := 2) hoC (by omega) hm rfl (fun p hp => by rw [rC p hp]; rfl) (fun p hp => by
      rw [rC' p hp, m4]
      show p.2 ≤ (rowAt B p.1).picked + p.2
      have := (hoB.at_ p.1).b.a2
      omega) (fun p hp => by rw [back5 p hp]; exact (hoB.at_ p.1).right)
  obtain ⟨E, hE⟩ := doS_can (k := 3) (i := 1) hoB (by omega) hm rfl (fun p hp => by rw [rB p hp]; rfl) (fun p hp => by
      rw [rB' p hp, m2]
      show p.2 ≤ (rowAt A p.1).held + p.2
      have := (ok p hp).b.a1
      omega) (fun p hp => by rw [back3 p hp]; exact (ok p hp).right)
  obtain ⟨-, -, -, -, -, hDm, -⟩ := doS_yes hoC hD
  obtain ⟨-, -, -, -, -, hEm, -⟩ := doS_yes hoB hE
  have eD : D = B := riseS_ext hDm.1 hB.1 (fun g => by
    rw [hDm.2 g]
    cases hg : getS L g with
    | none => simp only; rw [hCm.2 g, hg]
    | some n =>
      have hp := getK_mem hg
      simp only
      rw [back5 _ hp]
      have := rB _ hp
      unfold rowAt
      simp only at this
      rw [this]; rfl)
  have eE : E = A := riseS_ext hEm.1 hA.rise (fun g => by
    rw [hEm.2 g]
    cases hg : getS L g with
    | none => simp only; rw [hB.2 g, hg]
    | some n =>
      have hp := getK_mem hg
      simp only
      rw [back3 _ hp]
      have := hin _ hp
      unfold rowAt
      cases e : getS A g with
      | none => simp only at this; rw [e] at this; cases this
      | some v => rfl)
  rw [eD] at hD
  rw [eE] at hE
  exact ⟨C, hC, hD, hE⟩
end Go.Proofs.Ytclgmnobockfnaa
