/- stock: what is unpacked was packed so: plainly. -/
import Derived.Test.YtclgmnobockfnaaStkUnpacksM13
namespace Go.Proofs.Ytclgmnobockfnaa
open Go.RowKit Go.Maps
theorem tkT_take {t : Tst} {m : Int} (hb : Byt t.1) (h : (tkT t m).2.2 = false) : t.1 = textB (tkT t m).1 ++ (tkT t m).2.1 ∧ t.2 = false ∧ Byt (tkT t m).2.1 := by
  obtain ⟨q, hq⟩ : ∃ q, tk t 0 m = q := ⟨_, rfl⟩
  unfold tkT at *
  rw [hq] at h ⊢
  dsimp only at h ⊢
  by_cases h1 : q.2.2 = true
  · rw [if_pos h1] at h
    dsimp only at h
    rw [h1] at h
    cases h
  · rw [if_neg h1] at h ⊢
    have h1 : q.2.2 = false := by simpa using h1
    by_cases h2 : (q.2.1.length : Int) < q.1
    · rw [if_pos h2] at h; cases h
    · rw [if_neg h2]
      dsimp only
      have := tk_take hb (a := 0) (b := m) (by rw [hq]; exact h1)
      rw [hq] at this
      obtain ⟨h3, h4, ⟨h5, h6⟩, h7, h8⟩ := this
      refine ⟨?_, h7, fun x hx => h8 x (List.mem_of_mem_drop hx)⟩
      have hl : (q.2.1.take q.1.toNat).length = q.1.toNat := by rw [List.length_take]; omega
      unfold textB
      rw [sB_bS (fun x hx => h8 x (List.mem_of_mem_take hx))]
      have : ((bS (q.2.1.take q.1.toNat)).length : Int) = q.1 := by unfold bS; rw [List.length_map, hl]; omega
      rw [this, List.append_assoc, List.take_append_drop]
      exact h4
theorem get_set (r : SR) {k : Nat} (h : k < 11) (x : Int) : (r.set k x).get k = x := by
  match k, h with
  | 0, _ => rfl
  | 1, _ => rfl
  | 2, _ => rfl
  | 3, _ => rfl
  | 4, _ => rfl
  | 5, _ => rfl
  | 6, _ => rfl
  | 7, _ => rfl
  | 8, _ => rfl
  | 9, _ => rfl
  | 10, _ => rfl
theorem get_set_ne (r : SR) {j k : Nat} (h : k < 11) (hj : j < k) (x : Int) : (r.set k x).get j = r.get j := by
  match k, h, j, hj with
  | 1, _, 0, _ => rfl
  | 1, _, j + 1, hj => exact absurd hj (by omega)
  | 2, _, 0, _ => rfl
  | 2, _, 1, _ => rfl
  | 2, _, j + 2, hj => exact absurd hj (by omega)
  | 3, _, 0, _ => rfl
  | 3, _, 1, _ => rfl
  | 3, _, 2, _ => rfl
  | 3, _, j + 3, hj => exact absurd hj (by omega)
  | 4, _, 0, _ => rfl
  | 4, _, 1, _ => rfl
  | 4, _, 2, _ => rfl
  | 4, _, 3, _ => rfl
  | 4, _, j + 4, hj => exact absurd hj (by omega)
  | 5, _, 0, _ => rfl
  | 5, _, 1, _ => rfl
  | 5, _, 2, _ => rfl
  | 5, _, 3, _ => rfl
  | 5, _, 4, _ => rfl
  | 5, _, j + 5, hj => exact absurd hj (by omega)
  | 6, _, 0, _ => rfl
  | 6, _, 1, _ => rfl
  | 6, _, 2, _ => rfl
  | 6, _, 3, _ => rfl
  | 6, _, 4, _ => rfl
  | 6, _, 5, _ => rfl
  | 6, _, j + 6, hj => exact absurd hj (by omega)
  | 7, _, 0, _ => rfl
  | 7, _, 1, _ => rfl
  | 7, _, 2, _ => rfl
  | 7, _, 3, _ => rfl
  | 7, _, 4, _ => rfl
  | 7, _, 5, _ => rfl
  | 7, _, 6, _ => rfl
  | 7, _, j + 7, hj => exact absurd hj (by omega)
  | 8, _, 0, _ => rfl
  | 8, _, 1, _ => rfl
  | 8, _, 2, _ => rfl
  | 8, _, 3, _ => rfl
  | 8, _, 4, _ => rfl
  | 8, _, 5, _ => rfl
  | 8, _, 6, _ => rfl
  | 8, _, 7, _ => rfl
  | 8, _, j + 8, hj => exact absurd hj (by omega)
  | 9, _, 0, _ => rfl
  | 9, _, 1, _ => rfl
  | 9, _, 2, _ => rfl
  | 9, _, 3, _ => rfl
  | 9, _, 4, _ => rfl
  | 9, _, 5, _ => rfl
  | 9, _, 6, _ => rfl
  | 9, _, 7, _ => rfl
  | 9, _, 8, _ => rfl
  | 9, _, j + 9, hj => exact absurd hj (by omega)
  | 10, _, 0, _ => rfl
  | 10, _, 1, _ => rfl
  | 10, _, 2, _ => rfl
  | 10, _, 3, _ => rfl
  | 10, _, 4, _ => rfl
  | 10, _, 5, _ => rfl
  | 10, _, 6, _ => rfl
  | 10, _, 7, _ => rfl
  | 10, _, 8, _ => rfl
  | 10, _, 9, _ => rfl
  | 10, _, j + 10, hj => exact absurd hj (by omega)
  | 0, _, j, hj => exact absurd hj (by omega)
theorem numsB_set (r : SR) {k : Nat} (h : k < 11) (x : Int) : ∀ n, n ≤ k → numsB (r.set k x) n = numsB r n
  | 0, _ => rfl
  | n + 1, hn => by rw [numsB_succ, numsB_succ, numsB_set r h x n (by omega), get_set_ne r h (by omega)]
theorem tkNums_take {t : Tst} (hb : Byt t.1) : ∀ k, k ≤ 11 → (tkNums t k).2.2 = false → t.1 = numsB (tkNums t k).1 k ++ (tkNums t k).2.1 ∧ t.2 = false ∧ Byt (tkNums t k).2.1
  | 0, _, h => ⟨rfl, h, hb⟩
  | k + 1, hk, h => by
    have h0 : (tk (tkNums t k).2 minI maxI).2.2 = false := h
    have h1 : (tkNums t k).2.2 = false := (tk_ok h0).1
    obtain ⟨e1, e2, e3⟩ := tkNums_take hb k (by omega) h1
    obtain ⟨a1, a2, a3, a4, a5⟩ := tk_take e3 h0
    refine ⟨?_, e2, a5⟩
    show t.1 = numsB ((tkNums t k).1.set k (tk (tkNums t k).2 minI maxI).1) (k + 1) ++ (tk (tkNums t k).2 minI maxI).2.1
    rw [numsB_succ, numsB_set _ (by omega) _ _ (Nat.le_refl _), get_set _ (by omega), List.append_assoc, ← a2]
    exact e1
theorem tkRow_take {t : Tst} (hb : Byt t.1) (h : (tkRow t).2.2.2 = false) : t.1 = rowB ((tkRow t).1, (tkRow t).2.1) ++ (tkRow t).2.2.1 ∧ t.2 = false ∧ Byt (tkRow t).2.2.1 := by
  obtain ⟨q, hq⟩ : ∃ q, tkT t 16 = q := ⟨_, rfl⟩
  unfold tkRow at *
  rw [hq] at h ⊢
  dsimp only at h ⊢
  have h1 : q.2.2 = false := by
    cases e : q.2.2 with
    | false => rfl
    | true =>
      have : ∀ k, (tkNums q.2 k).2.2 = true := fun k => by
        induction k with
        | zero => exact e
        | succ k ih =>
          show (tk (tkNums q.2 k).2 minI maxI).2.2 = true
          rw [tk_bad ih]
          exact ih
      rw [this 11] at h
      cases h
  obtain ⟨e1, e2, e3⟩ := tkT_take (t := t) (m := 16) hb (by rw [hq]; exact h1)
  rw [hq] at e1 e3
  obtain ⟨a1, a2, a3⟩ := tkNums_take e3 11 (by omega) h
  refine ⟨?_, e2, a3⟩
  unfold rowB
  dsimp only
  rw [List.append_assoc, ← a1]
  exact e1
theorem unpL_take : ∀ {n : Nat} {t : Tst} {last : Str} {B A : Stk} {t' : Tst}, unpL n t last B = some (A, t') → t'.2 = false → Byt t.1 → (∀ q ∈ B, q.1 = last ∨ q.1 < last) →
    ∃ C, A = B ++ C ∧ C.length = n ∧ t.1 = C.flatMap rowB ++ t'.1 ∧ t.2 = false ∧ (∀ p ∈ C, goodB p.1 = true ∧ SRok p.2) ∧ RiseS C ∧ ∀ p ∈ C, last < p.1
  | 0, t, last, B, A, t', h, h1, hb, hB => by
    unfold unpL at h
    injection h with h
    injection h with h2 h3
    subst h2 h3
    exact ⟨[], by simp, rfl, by simp, h1, by simp, List.Pairwise.nil, by simp⟩
  | n + 1, t, last, B, A, t', h, h1, hb, hB => by
    unfold unpL at h
    by_cases hm : rowMay last (tkRow t).1 (tkRow t).2.1 = true
    · rw [if_pos hm] at h
      unfold rowMay at hm
      simp only [Bool.and_eq_true, decide_eq_true_eq] at hm
      obtain ⟨⟨⟨m1, m2⟩, m3⟩, m4⟩ := hm
      have hlt : ∀ q ∈ B, q.1 < (tkRow t).1 := fun q hq => (hB q hq).elim (fun e => e ▸ m2) (fun e => str_trans e m2)
      rw [put_end hlt] at h
      have hbad : (tkRow t).2.2.2 = false ∨ (tkRow t).2.2.2 = true := by cases (tkRow t).2.2.2 <;> simp
      rcases hbad with hbf | hbt
      · obtain ⟨e1, e2, e3⟩ := tkRow_take hb hbf
        obtain ⟨C, c1, c2, c3, c4, c5, c6, c7⟩ := unpL_take h h1 e3 (fun q hq => by
          rcases List.mem_append.1 hq with e | e
          · exact .inr (hlt q e)
          · have : q = ((tkRow t).1, (tkRow t).2.1) := by simpa using e
            subst this
            exact .inl rfl)
        refine ⟨((tkRow t).1, (tkRow t).2.1) :: C, by rw [c1]; simp, by simp [c2], ?_, e2, ?_, ?_, ?_⟩
        · rw [List.flatMap_cons, List.append_assoc, ← c3]; exact e1
        · intro p hp
          rcases List.mem_cons.1 hp with rfl | hp
          · exact ⟨m1, SRok.of m4 m3⟩
          · exact c5 p hp
        · exact List.pairwise_cons.2 ⟨fun q hq => c7 q hq, c6⟩
        · intro p hp
          rcases List.mem_cons.1 hp with rfl | hp
          · exact m2
          · exact str_trans m2 (c7 p hp)
      · exfalso
        have hstay : ∀ (n : Nat) (s : Tst) (l : Str) (B' : Stk), s.2 = true → unpL n s l B' = some (A, t') → t'.2 = true := by
          intro n
          induction n with
          | zero => intro s l B' hs e; unfold unpL at e; injection e with e; injection e with e1 e2; rw [← e2]; exact hs
          | succ n ih =>
            intro s l B' hs e
            unfold unpL at e
            split at e
            · refine ih _ _ _ ?_ e
              cases hx : (tkRow s).2.2.2 with
              | true => rfl
              | false =>
                have hT : tkT s 16 = ([], s) := by unfold tkT; rw [tk_bad hs]; simp [hs]
                have : ∀ k, (tkNums s k).2.2 = true := fun k => by
                  induction k with
                  | zero => exact hs
                  | succ k ih =>
                    show (tk (tkNums s k).2 minI maxI).2.2 = true
                    rw [tk_bad ih]
                    exact ih
                have h9 := this 11
                unfold tkRow at hx
                rw [hT] at hx
                dsimp only at hx
                rw [h9] at hx
                cases hx
            · cases e
        rw [hstay _ _ _ _ hbt h] at h1
        cases h1
    · rw [if_neg hm] at h; cases h
theorem unpS_take {bs : List Int} {A : Stk} (hb : Byt bs) (h : unpS bs = some A) : SOk A ∧ packS A = bs := by
  unfold unpS at h
  obtain ⟨q, hq⟩ : ∃ q, tk (bs, false) 0 64 = q := ⟨_, rfl⟩
  rw [hq] at h
  cases e : unpL q.1.toNat q.2 [] [] with
  | none => rw [e] at h; cases h
  | some p =>
    obtain ⟨A', t'⟩ := p
    rw [e] at h
    dsimp only at h
    by_cases hd : doneT t'.1 t'.2 = 0
    · rw [if_pos hd] at h
      injection h with h
      subst h
      have hd2 : t'.2 = false ∧ t'.1 = [] := by
        unfold doneT at hd
        split at hd
        · cases hd
        · rename_i hn
          simp only [not_or, Decidable.not_not] at hn
          exact ⟨by simpa using hn.1, by simpa using hn.2⟩
      by_cases hqb : q.2.2 = false
      · have hbt := tk_take (t := (bs, false)) (a := 0) (b := 64) hb (by rw [hq]; exact hqb)
        rw [hq] at hbt
        obtain ⟨b1, b2, ⟨b3, b4⟩, b5, b6⟩ := hbt
        obtain ⟨C, c1, c2, c3, c4, c5, c6, c7⟩ := unpL_take e hd2.1 b6 (fun q hq => by cases hq)
        rw [List.nil_append] at c1
        subst c1
        refine ⟨⟨c6, fun p hp => (c5 p hp).1, fun p hp => (c5 p hp).2, by omega⟩, ?_⟩
        unfold packS
        rw [c2, show ((q.1.toNat : Nat) : Int) = q.1 by omega]
        rw [hd2.2, List.append_nil] at c3
        rw [← c3]
        exact b2.symm
      · exfalso
        have hqb : q.2.2 = true := by simpa using hqb
        have h0 := tk_bad0 (bs, false) 0 64 (by rw [hq]; exact hqb)
        rw [hq] at h0
        rw [h0] at e
        unfold unpL at e
        simp only [Int.toNat_zero] at e
        injection e with e
        injection e with e1 e2
        rw [← e2, hqb] at hd2
        cases hd2.1
    · rw [if_neg hd] at h; cases h
end Go.Proofs.Ytclgmnobockfnaa
