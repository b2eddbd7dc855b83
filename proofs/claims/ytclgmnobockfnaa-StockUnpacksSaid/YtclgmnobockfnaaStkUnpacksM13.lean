/- stock: what is packed is unpacked, and the other way round: plainly. -/
import Derived.Test.YtclgmnobockfnaaStkUnpacksM12
namespace Go.Proofs.Ytclgmnobockfnaa
open Go.RowKit Go.Maps
theorem ins_end {ν : Type} {g : Str} {r : ν} : ∀ {B : List (Str × ν)}, (∀ p ∈ B, p.1 < g) → insS ktS.lt (g, r) B = B ++ [(g, r)]
  | [], _ => rfl
  | y :: t, h => by
    have hy := h y (by simp)
    have e : ktS.lt g y.1 = false := by rw [ktS_lt]; simpa using str_asym hy
    show (if ktS.lt g y.1 = true then (g, r) :: y :: t else y :: insS ktS.lt (g, r) t) = _
    rw [e]
    simp only [Bool.false_eq_true, if_false]
    rw [ins_end (fun p hp => h p (by simp [hp]))]
    rfl
theorem put_end {ν : Type} {g : Str} {r : ν} {B : List (Str × ν)} (h : ∀ p ∈ B, p.1 < g) : putS ktS.lt B g r = B ++ [(g, r)] := by
  unfold putS
  have e : delS B g = B := by
    unfold delS
    rw [List.filter_eq_self]
    intro p hp
    have := h p hp
    simp only [Bool.not_eq_true', decide_eq_false_iff_not]
    rintro rfl
    exact str_irr _ this
  rw [e]
  exact ins_end h
theorem tkT_give {s : Str} (h : s.length ≤ 16) (r : List Int) : tkT (textB s ++ r, false) 16 = (s, (r, false)) := by
  unfold tkT textB
  rw [List.append_assoc, tk_give (n := (s.length : Int)) (by unfold okI; omega) (by omega) (by omega)]
  have h1 : ¬ (((sB s ++ r).length : Int) < (s.length : Int)) := by rw [List.length_append, sB_len]; omega
  simp only [Bool.false_eq_true, if_false]
  rw [if_neg h1]
  have h2 : ((s.length : Int)).toNat = (sB s).length := by rw [sB_len]; omega
  rw [h2, List.take_left, List.drop_left, bS_sB]
/-- A row's first k numbers, the others 0. -/
def preR (R : SR) : Nat → SR
  | 0 => SR.zero
  | k + 1 => (preR R k).set k (R.get k)
theorem preR_all (R : SR) : preR R 11 = R := by
  obtain ⟨f0, f1, f2, f3, f4, f5, f6, f7, f8, f9, f10⟩ := R
  simp [preR, SR.set, SR.get, SR.zero]
theorem tkNums_give {R : SR} (h : ∀ j, okI (R.get j)) : ∀ (k : Nat) (r : List Int), tkNums (numsB R k ++ r, false) k = (preR R k, (r, false))
  | 0, r => rfl
  | k + 1, r => by
    have e := tkNums_give h k (numB (R.get k) ++ r)
    unfold tkNums
    rw [numsB_succ, List.append_assoc, e]
    have := h k
    unfold okI at this
    rw [tk_give (h k) (by unfold minI; omega) (by unfold maxI; omega)]
    rfl
theorem tkRow_give {p : Str × SR} (h1 : goodB p.1 = true) (h2 : SRok p.2) (r : List Int) : tkRow (rowB p ++ r, false) = (p.1, p.2, (r, false)) := by
  unfold tkRow rowB
  rw [List.append_assoc, tkT_give (goodB_len h1)]
  dsimp only
  rw [tkNums_give h2.get, preR_all]
theorem unpL_give : ∀ {C : Stk} {B : Stk} {last : Str} (r : List Int), (∀ p ∈ C, goodB p.1 = true ∧ SRok p.2) → RiseS C → (∀ p ∈ C, last < p.1) → (∀ q ∈ B, ∀ p ∈ C, q.1 < p.1) → unpL C.length (C.flatMap rowB ++ r, false) last B = some (B ++ C, (r, false))
  | [], B, last, r, _, _, _, _ => by simp [unpL]
  | p :: C, B, last, r, h, hr, hl, hB => by
    obtain ⟨hg, hok⟩ := h p (by simp)
    rw [List.flatMap_cons, List.append_assoc, List.length_cons]
    unfold unpL
    rw [tkRow_give hg hok]
    have hm : rowMay last p.1 p.2 = true := by
      unfold rowMay
      rw [hg, decide_eq_true (hl p (by simp)), hok.balB, hok.right]
      rfl
    rw [if_pos hm, put_end (fun q hq => hB q hq p (by simp))]
    have hr' := List.pairwise_cons.1 hr
    rw [unpL_give r (fun q hq => h q (by simp [hq])) hr'.2 (fun q hq => hr'.1 q hq) (fun q hq q' hq' => by
      rcases List.mem_append.1 hq with e | e
      · exact hB q e q' (by simp [hq'])
      · have : q = p := by simpa using e
        subst this
        exact hr'.1 q' hq')]
    simp
theorem good_pos {s : Str} (h : goodB s = true) : ([] : Str) < s := by
  cases s with
  | nil => simp [goodB] at h
  | cons a r => exact List.nil_lt_cons a r
theorem unpS_pack {A : Stk} (h : SOk A) : unpS (packS A) = some A := by
  have hl := h.len
  unfold unpS packS
  rw [tk_give (n := (A.length : Int)) (by unfold okI; omega) (by omega) (by omega)]
  have := unpL_give (C := A) (B := []) (last := []) [] (fun p hp => ⟨h.good p hp, h.row p hp⟩) h.rise (fun p hp => good_pos (h.good p hp)) (fun q hq => by cases hq)
  rw [List.append_nil] at this
  rw [show ((A.length : Int)).toNat = A.length by omega, this]
  simp [doneT]
end Go.Proofs.Ytclgmnobockfnaa
