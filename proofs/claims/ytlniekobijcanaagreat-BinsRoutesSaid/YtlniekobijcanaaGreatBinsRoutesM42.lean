/- Plain: the reference's way: one place is put behind all that do not follow it. -/
import Derived.Test.YtlniekobijcanaaGreatBinsRoutesM25
namespace Go.Proofs.YtlniekobijcanaaGreat
open Go.RowKit Go.Maps
/-- Is a place ahead of another one? -/
def aheadF (a b : BV) (s t : Str) : Bool := if a.zo ≠ b.zo then decide (a.zo < b.zo) else if a.nu ≠ b.nu then (decide (a.nu < b.nu) == decide (a.zo.tmod 2 = 0)) else decide (s < t)
theorem aheadF_lt {a b : BV} {s t : Str} (ha : 0 ≤ a.zo) : aheadF a b s t = decide (compE (a.e, s) (b.e, t) < 0) := by
  have e2 : a.zo.tmod 2 = a.zo % 2 := by rw [Int.tmod_eq_emod_of_nonneg ha]
  rw [Bool.eq_iff_iff, decide_eq_true_iff, compE_lt]
  unfold aheadF kN BV.e
  dsimp only
  by_cases h1 : a.zo = b.zo
  · rw [if_neg (by simpa using h1), ← h1, e2]
    by_cases h2 : a.nu = b.nu
    · rw [if_neg (by simpa using h2), ← h2, decide_eq_true_iff]
      constructor
      · intro h; exact .inr ⟨rfl, .inr ⟨rfl, h⟩⟩
      · rintro (h | ⟨-, h | ⟨-, h⟩⟩)
        · omega
        · omega
        · exact h
    · rw [if_pos h2]
      by_cases h3 : a.zo % 2 = 1
      · rw [if_pos h3, if_pos h3]
        have h4 : decide (a.zo % 2 = 0) = false := decide_eq_false (by omega)
        rw [h4]
        constructor
        · intro h
          have : ¬ a.nu < b.nu := by simpa using h
          exact .inr ⟨rfl, .inl (by omega)⟩
        · rintro (h | ⟨-, h | ⟨h, -⟩⟩)
          · omega
          · have : ¬ a.nu < b.nu := by omega
            simpa using this
          · omega
      · rw [if_neg h3, if_neg h3]
        have h4 : decide (a.zo % 2 = 0) = true := decide_eq_true (by omega)
        rw [h4]
        constructor
        · intro h
          have : a.nu < b.nu := by simpa using h
          exact .inr ⟨rfl, .inl this⟩
        · rintro (h | ⟨-, h | ⟨h, -⟩⟩)
          · omega
          · simpa using h
          · omega
  · rw [if_pos h1, decide_eq_true_iff]
    constructor
    · intro h; exact .inl h
    · rintro (h | ⟨h, -⟩)
      · exact h
      · omega
section
variable {α : Type} {lt : α → α → Bool}
theorem stab_snoc (l : List α) (x : α) : stab lt (l ++ [x]) = insR lt (stab lt l) x := by
  unfold stab
  rw [List.foldl_append]
  rfl
theorem stab_rise (h : SwoB lt) (l : List α) : (stab lt l).Pairwise (fun a b => lt b a = false) := by
  obtain ⟨Z, h1, -, h3⟩ := stab_tag h l 0
  rw [← h3]
  refine List.pairwise_map.2 (List.Pairwise.imp (fun {p q} e => ?_) h1)
  rcases tag_iff.1 e with e | ⟨e, -⟩
  · exact h.as e
  · exact e
theorem ins_back (h : SwoB lt) {S : List α} {x : α} {j : Nat} (hs : S.Pairwise (fun a b => lt b a = false)) (hj : j ≤ S.length) (hhi : ∀ q y, j ≤ q → S[q]? = some y → lt x y = true) (hlo : ∀ i y, j = i + 1 → S[i]? = some y → lt x y = false) : insR lt S x = S.take j ++ x :: S.drop j := by
  have hA : ∀ y ∈ S.take j, (fun y => !lt x y) y = true := fun y hy => by
    obtain ⟨q, hq⟩ := List.getElem?_of_mem hy
    have hql : q < j := by have := (List.getElem?_eq_some_iff.1 hq).1; rw [List.length_take] at this; omega
    rw [List.getElem?_take_of_lt hql] at hq
    obtain ⟨i, rfl⟩ : ∃ i, j = i + 1 := ⟨j - 1, by omega⟩
    have hz : S[i]? = some (S[i]'(by omega)) := List.getElem?_eq_getElem _
    have h1 := hlo i _ rfl hz
    show (!lt x y) = true
    by_cases e : q = i
    · subst e; rw [hz] at hq; injection hq with hq; rw [← hq, h1]; rfl
    · have hqi : q < i := by omega
      have hq' := List.getElem?_eq_some_iff.1 hq
      have h2 := List.pairwise_iff_getElem.1 hs q i (by omega) (by omega) hqi
      rw [hq'.2] at h2
      rw [h.ntr _ _ _ h1 h2]; rfl
  have hB : (S.drop j).takeWhile (fun y => !lt x y) = [] ∧ (S.drop j).dropWhile (fun y => !lt x y) = S.drop j := by
    cases hd : S.drop j with
    | nil => exact ⟨rfl, rfl⟩
    | cons y r =>
      have hy : S[j]? = some y := by
        have := List.getElem?_drop (xs := S) (i := j) (j := 0)
        rw [hd] at this
        simpa using this.symm
      have := hhi j y (Nat.le_refl _) hy
      constructor
      · rw [List.takeWhile_cons, this]; rfl
      · rw [List.dropWhile_cons, this]; rfl
  unfold insR
  have e := List.take_append_drop j S
  have e1 : S.takeWhile (fun y => !lt x y) = S.take j := by
    conv => lhs; rw [← e]
    rw [List.takeWhile_append_of_pos hA, hB.1, List.append_nil]
  have e2 : S.dropWhile (fun y => !lt x y) = S.drop j := by
    conv => lhs; rw [← e]
    rw [List.dropWhile_append_of_pos hA, hB.2]
  rw [e1, e2]
theorem stab_self (h : SwoB lt) : ∀ (B A : List α), (A ++ B).Pairwise (fun a b => lt b a = false) → B.foldl (insR lt) A = A ++ B
  | [], A, _ => by simp
  | x :: r, A, hp => by
    have h1 : insR lt A x = A ++ [x] := by
      have := ins_back h (S := A) (x := x) (j := A.length) (List.pairwise_append.1 hp).1 (Nat.le_refl _) (fun q y hq hy => by have := (List.getElem?_eq_some_iff.1 hy).1; omega) (fun i y _ hy => (List.pairwise_append.1 hp).2.2 y (List.mem_of_getElem? hy) x List.mem_cons_self)
      rw [this, List.take_length, List.drop_length]
    rw [List.foldl_cons, h1, stab_self h r (A ++ [x]) (by rw [List.append_assoc]; exact hp), List.append_assoc]
    rfl
theorem stab_idem (h : SwoB lt) (l : List α) : stab lt (stab lt l) = stab lt l := stab_self h (stab lt l) [] (by simpa using stab_rise h l)
end
theorem routeE_take {L : List BE} {l : List PV} {k : Nat} {p : PV} (h : l[k]? = some p) : routeE L (l.take (k + 1)) = if findE L p.b = -1 then routeE L (l.take k) else insR (fun x y => decide (cR L x y < 0)) (routeE L (l.take k)) p := by
  unfold routeE thereE
  rw [List.take_add_one, h, Option.toList_some, List.filter_append]
  by_cases e : findE L p.b = -1
  · rw [if_pos e, List.filter_cons]
    simp [e]
  · rw [if_neg e, List.filter_cons]
    simp only [e, beq_iff_eq, Bool.not_eq_true', beq_eq_false_iff_ne, ne_eq, not_false_eq_true, if_true, List.filter_nil, decide_eq_true_eq]
    rw [stab_snoc]
theorem routeE_in {L : List BE} {l : List PV} {x : PV} (h : x ∈ routeE L l) : ∃ b, binE L x.b = some b := cR_there ((stab_perm _ _).mem_iff.1 h)
theorem routeE_len (L : List BE) (l : List PV) : (routeE L l).length ≤ l.length := by
  unfold routeE
  rw [stab_len]
  exact List.length_filter_le _ _
theorem routeE_idem (L : List BE) (l : List PV) : routeE L (routeE L l) = routeE L l := by
  have e : thereE L (routeE L l) = routeE L l := List.filter_eq_self.2 (fun p hp => by
    obtain ⟨b, hb⟩ := routeE_in hp
    rcases findE_cases L p.b with ⟨-, h2⟩ | ⟨j, x, -, -, h2, -⟩
    · rw [h2] at hb; cases hb
    · rw [h2]; simp)
  show stab _ (thereE L (routeE L l)) = _
  rw [e]
  exact stab_idem (cR_swo L) _
end Go.Proofs.YtlniekobijcanaaGreat
