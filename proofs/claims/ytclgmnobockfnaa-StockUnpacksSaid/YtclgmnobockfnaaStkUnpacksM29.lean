/- entrepotref07: Unpack, plainly: what the document takes is what stock takes. -/
import Derived.Test.YtclgmnobockfnaaStkUnpacksM28
import Derived.Test.YtclgmnobockfnaaStkUnpacksM14
import Derived.Test.YtclgmnobockfnaaStkUnpacksM15
namespace Go.Proofs.Ytclgmnobockfnaa
open Go.RowKit Go.Maps
theorem tkR_or (t : Tst) {m : Int} (hm : 0 ≤ m) : tkR t m = tkT t m ∨ ((tkR t m).2.2 = true ∧ (tkT t m).2.2 = true ∧ (tkR t m).1 = [] ∧ (tkT t m).1 = []) := by
  obtain ⟨bs, bad⟩ := t
  unfold tkR tkT tk numT
  dsimp only
  cases bad with
  | true => left; simp
  | false =>
    cases hf : firstB bs with
    | none => left; simp
    | some p =>
      obtain ⟨n, k⟩ := p
      simp only [Bool.false_eq_true, if_false]
      by_cases h1 : n < 0 ∨ m < n
      · rw [if_pos h1, if_pos (show n < 0 ∨ min m (bs.length : Int) < n by omega)]
        left; simp
      · rw [if_neg h1]
        by_cases h2 : (bs.length : Int) < n
        · rw [if_pos (show n < 0 ∨ min m (bs.length : Int) < n by omega)]
          have h3 : ((bs.drop k).length : Int) < n := by rw [List.length_drop]; omega
          right
          simp [h3]
          rw [if_pos (by rw [List.length_drop] at h3; omega)]
          exact ⟨rfl, rfl⟩
        · rw [if_neg (show ¬ (n < 0 ∨ min m (bs.length : Int) < n) by omega)]
          left
          simp
theorem tkR_len (t : Tst) {m : Int} (hm : 0 ≤ m) : ((tkR t m).1.length : Int) ≤ m := by
  rcases tkR_or t hm with e | ⟨-, -, e, -⟩
  · rw [e]; exact tkT_len t hm
  · rw [e]; simpa using hm
theorem tkNums_stay {t : Tst} (h : t.2 = true) : ∀ k, (tkNums t k).2.2 = true
  | 0 => h
  | k + 1 => by
    show (tk (tkNums t k).2 minI maxI).2.2 = true
    rw [tk_bad (tkNums_stay h k)]
    exact tkNums_stay h k
theorem tkT_stay {t : Tst} (h : t.2 = true) : tkT t 16 = ([], t) := by unfold tkT; rw [tk_bad h]; simp [h]
def finU (Z : Option (Stk × Tst)) : Option Stk := match Z with
  | none => none
  | some (A, t) => if doneT t.1 t.2 = 0 then some A else none
theorem unpS_fin (bs : List Int) : unpS bs = finU (unpL (tk (bs, false) 0 64).1.toNat (tk (bs, false) 0 64).2 [] []) := rfl
theorem rowMay_no {last : Str} {r : SR} : rowMay last [] r = false := by simp [rowMay, goodB]
theorem tkRow_stay {t : Tst} (h : t.2 = true) : (tkRow t).2.2.2 = true := by
  unfold tkRow
  rw [tkT_stay h]
  exact tkNums_stay h 11
theorem finU_bad : ∀ (n : Nat) (t : Tst) (last : Str) (A : Stk), t.2 = true → finU (unpL n t last A) = none
  | 0, t, _, A, h => by unfold unpL finU; simp [doneT, h]
  | n + 1, t, last, A, h => by
    unfold unpL
    split
    · exact finU_bad n _ _ _ (tkRow_stay h)
    · rfl
def tkRowR (t : Tst) : Str × SR × Tst := ((tkR t 16).1, tkNums (tkR t 16).2 11)
/-- n rows, as the document takes them. -/
def unpR : Nat → Tst → Str → Stk → Option Stk
  | 0, t, _, A => if doneT t.1 t.2 = 0 then some A else none
  | n + 1, t, last, A => if (tkRowR t).2.2.2 = true then none else if rowMay last (tkRowR t).1 (tkRowR t).2.1 = true then unpR n (tkRowR t).2.2 (tkRowR t).1 (A ++ [((tkRowR t).1, (tkRowR t).2.1)]) else none
theorem unpR_eq : ∀ (n : Nat) (t : Tst) (last : Str) (A : Stk), (∀ p ∈ A, p.1 = last ∨ p.1 < last) → unpR n t last A = finU (unpL n t last A)
  | 0, t, last, A, h => rfl
  | n + 1, t, last, A, h => by
    unfold unpR unpL
    rcases tkR_or t (m := 16) (by omega) with e | ⟨e1, e2, e3, e4⟩
    · have hr : tkRowR t = tkRow t := by unfold tkRowR tkRow; rw [e]
      rw [hr]
      by_cases hb : (tkRow t).2.2.2 = true
      · rw [if_pos hb]
        split
        · exact (finU_bad n _ _ _ hb).symm
        · rfl
      · rw [if_neg hb]
        by_cases hm : rowMay last (tkRow t).1 (tkRow t).2.1 = true
        · rw [if_pos hm, if_pos hm]
          unfold rowMay at hm
          simp only [Bool.and_eq_true, decide_eq_true_eq] at hm
          obtain ⟨⟨⟨m1, m2⟩, m3⟩, m4⟩ := hm
          have hlt : ∀ q ∈ A, q.1 < (tkRow t).1 := fun q hq => (h q hq).elim (fun e => e ▸ m2) (fun e => str_trans e m2)
          rw [put_end hlt]
          exact unpR_eq n _ _ _ (fun q hq => by
            rcases List.mem_append.1 hq with e | e
            · exact .inr (hlt q e)
            · have : q = ((tkRow t).1, (tkRow t).2.1) := by simpa using e
              subst this
              exact .inl rfl)
        · rw [if_neg hm, if_neg hm]; rfl
    · have h1 : (tkRowR t).2.2.2 = true := by unfold tkRowR; exact tkNums_stay e1 11
      have h2 : (tkRow t).1 = [] := e4
      rw [if_pos h1, h2, rowMay_no]
      rfl
end Go.Proofs.Ytclgmnobockfnaa
