/- What makers put and takers take, as states: plainly. -/
import Derived.Test.YtakjiicnbocjeaaIdDoesM9
import Derived.Test.YtakjiicnbocjeaaIdDoesM8
namespace Go.Proofs.Ytakjiicnbocjeaa
open Go.RowKit Go.Maps
abbrev Tst := List Int × Bool
def tk (t : Tst) (a b : Int) : Int × Tst := ((numT t.1 t.2 a b).1, (numT t.1 t.2 a b).2)
theorem firstB_i64 {bs : List Int} {n : Int} {k : Nat} (h : firstB bs = some (n, k)) : n < 128 ∨ okI n := by
  cases bs with
  | nil => cases h
  | cons a r =>
    simp only [firstB] at h
    split at h
    · cases h; exact .inl (by assumption)
    · split at h
      · cases h
      · split at h
        · injection h with h
          injection h with h1 h2
          right; rw [← h1]; unfold dN wrap64 okI; omega
        · cases h
theorem tk_in (t : Tst) {a b : Int} (h0 : a ≤ 0) (h1 : 0 ≤ b) : a ≤ (tk t a b).1 ∧ (tk t a b).1 ≤ b := by
  unfold tk numT
  dsimp only
  split
  · exact ⟨h0, h1⟩
  · split
    · split
      · exact ⟨h0, h1⟩
      · dsimp only; omega
    · exact ⟨h0, h1⟩
theorem tk_in1 (t : Tst) {b : Int} (h1 : 0 ≤ b) : 0 ≤ (tk t 1 b).1 ∧ (tk t 1 b).1 ≤ b := by
  unfold tk numT
  dsimp only
  split
  · exact ⟨by omega, h1⟩
  · split
    · split
      · exact ⟨by omega, h1⟩
      · dsimp only; omega
    · exact ⟨by omega, h1⟩
theorem xTk (w : World) (g : Nat) (TS : Nat → Prop) (t : Tst) (a b : Int) (h : TK w g TS t.1 t.2) :
    Calls Try.prog 43 #[.pointer (some ⟨g, 0, none⟩), .int .i64 a, .int .i64 b] w fun e w' => e = .returned (.int .i64 (tk t a b).1) ∧ TK w' g TS (tk t a b).2.1 (tk t a b).2.2 ∧ Fr TS w w' := cTNum w g TS t.1 t.2 a b h
theorem xTkF (w : World) (g : Nat) (TS : Nat → Prop) (t : Tst) (h : TK w g TS t.1 t.2) :
    Calls Try.prog 63 #[.pointer (some ⟨g, 0, none⟩)] w fun e w' => e = .returned (.bool ((tk t 0 1).1 == 1)) ∧ TK w' g TS (tk t 0 1).2.1 (tk t 0 1).2.2 ∧ Fr TS w w' := cTFlag w g TS t.1 t.2 h
theorem tk_bad {t : Tst} (h : t.2 = true) (a b : Int) : tk t a b = (0, t) := by
  obtain ⟨bs, bad⟩ := t
  dsimp only at h
  subst h
  simp [tk, numT]
theorem tk_bad0 (t : Tst) (a b : Int) (h : (tk t a b).2.2 = true) : (tk t a b).1 = 0 := by
  unfold tk numT at *
  dsimp only at *
  split at h
  · simp_all
  · split at h
    · split at h
      · simp_all
      · cases h
    · simp_all
theorem tk_ok {t : Tst} {a b : Int} (h : (tk t a b).2.2 = false) : t.2 = false ∧ a ≤ (tk t a b).1 ∧ (tk t a b).1 ≤ b := by
  obtain ⟨bs, bad⟩ := t
  unfold tk numT at *
  dsimp only at *
  cases bad with
  | true => simp at h
  | false =>
    cases e : firstB bs with
    | none => rw [e] at h; simp at h
    | some p =>
      obtain ⟨n, k⟩ := p
      rw [e] at h
      simp only [Bool.false_eq_true, if_false] at h ⊢
      by_cases hr : n < a ∨ b < n
      · rw [if_pos hr] at h; cases h
      · rw [if_neg hr]
        refine ⟨by first | rfl | trivial, ?_⟩
        dsimp only; omega
theorem tk_take {t : Tst} {a b : Int} (hb : Byt t.1) (h : (tk t a b).2.2 = false) : okI (tk t a b).1 ∧ t.1 = numB (tk t a b).1 ++ (tk t a b).2.1 ∧ (a ≤ (tk t a b).1 ∧ (tk t a b).1 ≤ b) ∧ t.2 = false ∧ Byt (tk t a b).2.1 := by
  obtain ⟨bs, bad⟩ := t
  unfold tk numT at *
  dsimp only at *
  cases bad with
  | true => simp at h
  | false =>
    cases e : firstB bs with
    | none => rw [e] at h; simp at h
    | some p =>
      obtain ⟨n, k⟩ := p
      rw [e] at h
      simp only [Bool.false_eq_true, if_false] at h ⊢
      by_cases hr : n < a ∨ b < n
      · rw [if_pos hr] at h; cases h
      · rw [if_neg hr]
        obtain ⟨h1, h2, h3⟩ := firstB_of e hb
        exact ⟨h1, h3, by dsimp only; omega, by first | rfl | trivial, fun x hx => hb x (List.mem_of_mem_drop hx)⟩
theorem tk_give {n a b : Int} (h : okI n) (h1 : a ≤ n) (h2 : n ≤ b) (r : List Int) : tk (numB n ++ r, false) a b = (n, (r, false)) := by
  unfold tk numT
  simp only [Bool.false_eq_true, if_false, firstB_num h]
  rw [if_neg (by omega)]
  simp
end Go.Proofs.Ytakjiicnbocjeaa
