/- Plain: sums of goods; what a bin can take. -/
import Derived.Test.YtlniekobijcanaaGreatBinsShortM12
namespace Go.Proofs.YtlniekobijcanaaGreat
open Go.RowKit
def sumI (L : Its) : Int := (L.map (·.2)).sum
def getI (L : Its) (s : Str) : Int := sumI (L.filter fun p => decide (p.1 = s))
theorem sumI_app (A B : Its) : sumI (A ++ B) = sumI A + sumI B := by simp [sumI]
theorem sumI_cons (p : Str × Int) (B : Its) : sumI (p :: B) = p.2 + sumI B := by simp [sumI]
theorem sumI_perm {A B : Its} (h : A.Perm B) : sumI A = sumI B := by
  induction h with
  | nil => rfl
  | cons x _ ih => rw [sumI_cons, sumI_cons, ih]
  | swap x y l => simp only [sumI_cons]; omega
  | trans _ _ h1 h2 => exact h1.trans h2
theorem sumI_nn {L : Its} (h : ∀ p ∈ L, 0 ≤ p.2) : 0 ≤ sumI L := by
  induction L with
  | nil => exact Int.le_refl _
  | cons p r ih =>
    rw [sumI_cons]
    have := h p List.mem_cons_self
    have := ih (fun q hq => h q (List.mem_cons_of_mem _ hq))
    omega
theorem sumI_part (L : Its) (s : Str) : sumI L = getI L s + sumI (L.filter fun p => !decide (p.1 = s)) := by
  rw [← sumI_perm (List.filter_append_perm (fun p : Str × Int => decide (p.1 = s)) L), sumI_app]
  rfl
theorem sumI_set (L : Its) (s : Str) (n : Int) : sumI (setF L s n) = sumI L - getI L s + (if 0 < n then n else 0) := by
  rw [sumI_perm (setF_perm L s n), sumI_app, sumI_part L s]
  have : sumI (if 0 < n then [(s, n)] else []) = if 0 < n then n else 0 := by
    by_cases h : 0 < n
    · rw [if_pos h, if_pos h]; simp [sumI]
    · rw [if_neg h, if_neg h]; rfl
  rw [this]
  omega
theorem getI_set (L : Its) (s : Str) (n : Int) (t : Str) : getI (setF L s n) t = if t = s then (if 0 < n then n else 0) else getI L t := by
  unfold getI
  rw [sumI_perm ((setF_perm L s n).filter _), List.filter_append, sumI_app, List.filter_filter]
  by_cases e : t = s
  · subst e
    rw [if_pos rfl]
    have e1 : (L.filter fun p => decide (p.1 = t) && !decide (p.1 = t)) = [] := List.filter_eq_nil_iff.2 (fun p _ => by simp)
    rw [e1]
    by_cases h : 0 < n
    · rw [if_pos h, if_pos h]; simp [sumI]
    · rw [if_neg h, if_neg h]; rfl
  · rw [if_neg e]
    have e1 : (L.filter fun p => decide (p.1 = t) && !decide (p.1 = s)) = L.filter fun p => decide (p.1 = t) := List.filter_congr fun p _ => by
      by_cases h : p.1 = t
      · have : p.1 ≠ s := fun e2 => e (h ▸ e2)
        simp [h, e]
      · simp [h]
    have e2 : (if 0 < n then [(s, n)] else []).filter (fun p : Str × Int => decide (p.1 = t)) = [] := by
      refine List.filter_eq_nil_iff.2 (fun p hp => ?_)
      rw [(mem_mid hp).1]
      simpa using fun h => e h.symm
    rw [e1, e2]
    simp [sumI]
theorem wrap64_in {x : Int} (h : -9223372036854775808 ≤ x ∧ x ≤ 9223372036854775807) : wrap64 x = x := by unfold wrap64; omega
theorem totF_aux : ∀ (L : Its) (a : Int), 0 ≤ a → (∀ p ∈ L, 0 ≤ p.2) → a + sumI L ≤ 9223372036854775807 → L.foldl (fun a p => wrap64 (a + p.2)) a = a + sumI L
  | [], a, _, _, _ => by simp [sumI]
  | p :: r, a, ha, hp, hb => by
    rw [sumI_cons] at hb ⊢
    have h1 := hp p List.mem_cons_self
    have h2 := sumI_nn (fun q hq => hp q (List.mem_cons_of_mem _ hq))
    rw [List.foldl_cons, wrap64_in ⟨by omega, by omega⟩, totF_aux r (a + p.2) (by omega) (fun q hq => hp q (List.mem_cons_of_mem _ hq)) (by omega)]
    omega
theorem totF_sum {L : Its} (hp : ∀ p ∈ L, 0 ≤ p.2) (hb : sumI L ≤ 9223372036854775807) : totF L = sumI L := by
  have := totF_aux L 0 (Int.le_refl _) hp (by omega)
  unfold totF
  omega
theorem ofF_aux (s : Str) : ∀ (L : Its) (a : Int), 0 ≤ a → (∀ p ∈ L, 0 ≤ p.2) → a + getI L s ≤ 9223372036854775807 → L.foldl (ofStep s) a = a + getI L s
  | [], a, _, _, _ => by simp [getI, sumI]
  | p :: r, a, ha, hp, hb => by
    have h1 := hp p List.mem_cons_self
    have h2 : 0 ≤ getI r s := sumI_nn (fun q hq => hp q (List.mem_cons_of_mem _ ((List.mem_filter.1 hq).1)))
    rw [List.foldl_cons]
    by_cases e : p.1 = s
    · have e1 : getI (p :: r) s = p.2 + getI r s := by unfold getI; rw [List.filter_cons, if_pos (by simpa using e), sumI_cons]
      rw [e1] at hb ⊢
      have e2 : ofStep s a p = a + p.2 := by unfold ofStep; rw [if_pos e, wrap64_in ⟨by omega, by omega⟩]
      rw [e2, ofF_aux s r (a + p.2) (by omega) (fun q hq => hp q (List.mem_cons_of_mem _ hq)) (by omega)]
      omega
    · have e1 : getI (p :: r) s = getI r s := by unfold getI; rw [List.filter_cons, if_neg (by simpa using e)]
      rw [e1] at hb ⊢
      have e2 : ofStep s a p = a := by unfold ofStep; rw [if_neg e]
      rw [e2, ofF_aux s r a ha (fun q hq => hp q (List.mem_cons_of_mem _ hq)) hb]
theorem getI_le {L : Its} (s : Str) (hp : ∀ p ∈ L, 0 ≤ p.2) : getI L s ≤ sumI L := by
  rw [sumI_part L s]
  have := sumI_nn (L := L.filter fun p => !decide (p.1 = s)) (fun q hq => hp q ((List.mem_filter.1 hq).1))
  omega
theorem getI_nn {L : Its} (s : Str) (hp : ∀ p ∈ L, 0 ≤ p.2) : 0 ≤ getI L s := sumI_nn (fun q hq => hp q ((List.mem_filter.1 hq).1))
theorem ofF_get {L : Its} (s : Str) (hp : ∀ p ∈ L, 0 ≤ p.2) (hb : sumI L ≤ 9223372036854775807) : ofF L s = getI L s := by
  have := ofF_aux s L 0 (Int.le_refl _) hp (by have := getI_le s hp; omega)
  unfold ofF
  omega
/-- A bin that may be gone through for a good. -/
structure BW (s : Str) (x : BE) : Prop where
  ro : 1 ≤ x.ro ∧ x.ro ≤ 1099511627776
  ri : RiseI x.its
  it : ∀ p ∈ x.its, goodB p.1 = true ∧ 1 ≤ p.2 ∧ p.2 ≤ 1099511627776
  fl : (x.its.filter fun p => !decide (p.1 = s)).length ≤ 16
  tot : sumI x.its ≤ x.ro
theorem BW.pos {s : Str} {x : BE} (h : BW s x) : ∀ p ∈ x.its, 0 ≤ p.2 := fun p hp => by have := (h.it p hp).2.1; omega
theorem BW.of {s : Str} {x : BE} (h : BW s x) (t : Str) : ofF x.its t = getI x.its t := ofF_get t h.pos (by have := h.tot; have := h.ro; omega)
theorem BW.left {s : Str} {x : BE} (h : BW s x) : leftE x = x.ro - sumI x.its := by
  unfold leftE
  have h1 := h.tot; have h2 := h.ro; have h3 := sumI_nn h.pos
  rw [totF_sum h.pos (by omega), wrap64_in ⟨by omega, by omega⟩]
theorem rise_one {L : Its} (h : RiseI L) (s : Str) : (L.filter fun p => decide (p.1 = s)).length ≤ 1 := by
  have h2 := h.filter (fun p => decide (p.1 = s))
  generalize hg : L.filter (fun p => decide (p.1 = s)) = F at h2
  match F, h2 with
  | [], _ => simp
  | [_], _ => simp
  | a :: b :: r, h2 =>
    have h3 := (List.pairwise_cons.1 h2).1 b List.mem_cons_self
    have ha : a ∈ L.filter (fun p => decide (p.1 = s)) := by rw [hg]; exact List.mem_cons_self
    have hb : b ∈ L.filter (fun p => decide (p.1 = s)) := by rw [hg]; exact List.mem_cons_of_mem _ List.mem_cons_self
    have e1 : a.1 = s := of_decide_eq_true (List.mem_filter.1 ha).2
    have e2 : b.1 = s := of_decide_eq_true (List.mem_filter.1 hb).2
    rw [e1, e2] at h3
    exact absurd h3 (str_irr s)
theorem len_part (L : Its) (s : Str) : L.length = (L.filter fun p => decide (p.1 = s)).length + (L.filter fun p => !decide (p.1 = s)).length := by
  rw [← (List.filter_append_perm (fun p : Str × Int => decide (p.1 = s)) L).length_eq, List.length_append]
theorem BW.len {s : Str} {x : BE} (h : BW s x) : x.its.length ≤ 17 := by
  have := len_part x.its s; have := rise_one h.ri s; have := h.fl; omega
theorem setF_filt (L : Its) (s : Str) (n : Int) : ((setF L s n).filter fun p => !decide (p.1 = s)).Perm (L.filter fun p => !decide (p.1 = s)) := by
  refine ((setF_perm L s n).filter _).trans ?_
  rw [List.filter_append, List.filter_filter]
  have e1 : (L.filter fun p => (!decide (p.1 = s)) && !decide (p.1 = s)) = L.filter fun p => !decide (p.1 = s) := List.filter_congr fun p _ => by simp
  have e2 : (if 0 < n then [(s, n)] else []).filter (fun p : Str × Int => !decide (p.1 = s)) = [] := by
    refine List.filter_eq_nil_iff.2 (fun p hp => ?_)
    rw [(mem_mid hp).1]
    simp
  rw [e1, e2, List.append_nil]
theorem BW.put {s : Str} {x : BE} (h : BW s x) (hs : goodB s = true) {n : Int} (h0 : 0 ≤ n) (h1 : sumI x.its - getI x.its s + n ≤ x.ro) : BW s (x.put s n) := by
  have hg := getI_nn s h.pos
  have hle := getI_le s h.pos
  refine ⟨h.ro, setF_rise h.ri, fun p hp => ?_, by rw [show (x.put s n).its = setF x.its s n from rfl, (setF_filt x.its s n).length_eq]; exact h.fl, ?_⟩
  · rcases setF_mem hp with ⟨h2, -⟩ | ⟨rfl, h2⟩
    · exact h.it p h2
    · have := h.ro
      exact ⟨hs, by show 1 ≤ n; omega, by show n ≤ _; omega⟩
  · show sumI (setF x.its s n) ≤ x.ro
    rw [sumI_set]
    by_cases hn : 0 < n
    · rw [if_pos hn]; exact h1
    · rw [if_neg hn]; omega
end Go.Proofs.YtlniekobijcanaaGreat
