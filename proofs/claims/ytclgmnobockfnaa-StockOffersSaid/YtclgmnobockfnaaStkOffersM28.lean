/- stock, plainly: what is offered can be held; what can be held is offered. Two stocks beside each other. -/
import Derived.Test.YtclgmnobockfnaaStkOffersM27
namespace Go.Proofs.Ytclgmnobockfnaa
open Go.RowKit Go.Maps
theorem itsOk_weak {a b : Str} : ∀ {L : Its}, itsOk b L = true → (a < b ∨ a = b) → itsOk a L = true
  | [], _, _ => rfl
  | p :: r, h, hab => by
    rw [itsOk_cons] at h ⊢
    simp only [Bool.and_eq_true, decide_eq_true_eq] at h ⊢
    refine ⟨⟨h.1.1, ?_⟩, h.2⟩
    rcases hab with hab | rfl
    · exact str_trans hab h.1.2
    · exact h.1.2
theorem itsOk_filter {f : Str × Int → Option (Str × Int)} (hf : ∀ p q, f p = some q → q.1 = p.1 ∧ 1 ≤ q.2 ∧ q.2 ≤ p.2) : ∀ {L : Its} {last : Str}, itsOk last L = true → itsOk last (L.filterMap f) = true
  | [], _, _ => rfl
  | p :: r, last, h => by
    obtain ⟨h1, h2, h3, h4, h5⟩ := its_cons h
    rw [List.filterMap_cons]
    cases e : f p with
    | none => exact itsOk_weak (itsOk_filter hf h5) (.inl h4)
    | some q =>
      obtain ⟨e1, e2, e3⟩ := hf p q e
      show itsOk last (q :: r.filterMap f) = true
      rw [itsOk_cons]
      simp only [Bool.and_eq_true, decide_eq_true_eq, mayI_iff]
      rw [e1]
      exact ⟨⟨⟨⟨h1, e2⟩, ⟨by omega, by omega⟩⟩, h4⟩, itsOk_filter hf h5⟩
theorem filterMap_self {α : Type} {f : α → Option α} : ∀ {L : List α}, L.filterMap f = L → ∀ p ∈ L, f p = some p
  | [], _, p, hp => by cases hp
  | a :: r, h, p, hp => by
    rw [List.filterMap_cons] at h
    cases e : f a with
    | none =>
      rw [e] at h
      have h1 := congrArg List.length h
      have h2 := List.length_filterMap_le f r
      simp only [List.length_cons] at h1
      omega
    | some q =>
      rw [e] at h
      injection h with h1 h2
      subst h1
      rcases List.mem_cons.1 hp with rfl | hp
      · exact e
      · exact filterMap_self h2 p hp
theorem filterMap_id {α : Type} {f : α → Option α} : ∀ {L : List α}, (∀ p ∈ L, f p = some p) → L.filterMap f = L
  | [], _ => rfl
  | a :: r, h => by
    rw [List.filterMap_cons, h a (by simp)]
    show a :: r.filterMap f = a :: r
    rw [filterMap_id (fun p hp => h p (by simp [hp]))]
theorem row_known {A : Stk} {g : Str} (h : 1 ≤ (rowAt A g).free) : (getS A g).isSome = true := by
  unfold rowAt at h
  cases e : getS A g with
  | some v => rfl
  | none => rw [e] at h; simp [SR.zero] at h
theorem hold_can {A : Stk} {L : Its} (hA : SOk A) (hm : mayL L = true) (h : ∀ p ∈ L, p.2 ≤ (rowAt A p.1).free) : ∃ B, doS A 2 L = (0, B) := by
  have hL := its_all (mayL_iff.1 hm).1
  have m2 : ∀ (r : SR) (n : Int), r.move 2 n = { r with free := r.free + -n, held := r.held + n } := fun r n => rfl
  refine doS_can (k := 2) (i := 0) hA (by omega) hm rfl (fun p hp => row_known (by have := h p hp; have := (hL.2 p hp).2.1; omega)) h (fun p hp => ?_)
  have hb := h p hp
  have h1 := (hL.2 p hp).2.1
  rw [m2]
  obtain ⟨⟨a0, a1, a2, a3, b0, b1, b2, b3, b4, b5⟩, hs, -⟩ := hA.at_ p.1
  unfold SR.sum at hs
  unfold SR.right
  rw [Bool.and_eq_true, SR.each_iff, mayI_iff]
  refine ⟨⟨?_, ?_, a2, a3, b0, b1, b2, b3, b4, b5⟩, ?_⟩ <;> (try unfold SR.sum) <;> simp only <;> omega
theorem offer_f {A : Stk} (p q : Str × Int) (h : (if 0 < min p.2 (rowAt A p.1).free then some (p.1, min p.2 (rowAt A p.1).free) else none) = some q) : q.1 = p.1 ∧ 1 ≤ q.2 ∧ q.2 ≤ p.2 ∧ q.2 ≤ (rowAt A q.1).free := by
  split at h
  · rename_i h0
    cases h
    simp only
    refine ⟨trivial, ?_, ?_, ?_⟩ <;> omega
  · cases h
theorem offer_can {A : Stk} {L : Its} (hA : SOk A) (hm : mayL L = true) : ∃ B, doS A 2 (offerS A L) = (0, B) := by
  refine hold_can hA ?_ ?_
  · rw [mayL_iff] at hm ⊢
    refine ⟨itsOk_filter (fun p q h => by have := offer_f p q h; exact ⟨this.1, this.2.1, this.2.2.1⟩) hm.1, Nat.le_trans (List.length_filterMap_le _ _) hm.2⟩
  · intro q hq
    obtain ⟨p, hp, e⟩ := List.mem_filterMap.1 hq
    exact (offer_f p q e).2.2.2
theorem hold_iff {A : Stk} {L : Its} (hA : SOk A) : (doS A 2 L).1 = 0 ↔ mayL L = true ∧ offerS A L = L := by
  constructor
  · intro h
    obtain ⟨-, -, hm, hd, -⟩ := doS_yes hA (B := (doS A 2 L).2) (Prod.ext h rfl)
    obtain ⟨hin, hf⟩ := doMay_0 (k := 2) (i := 0) rfl hd
    have hL := its_all (mayL_iff.1 hm).1
    refine ⟨hm, filterMap_id (fun p hp => ?_)⟩
    have h1 : p.2 ≤ (rowAt A p.1).free := hf p hp
    have h2 := (hL.2 p hp).2.1
    have e : min p.2 (rowAt A p.1).free = p.2 := by omega
    rw [e, if_pos (by omega)]
  · rintro ⟨hm, ho⟩
    obtain ⟨B, hB⟩ := hold_can hA hm (fun p hp => by
      have := filterMap_self ho p hp
      have := (offer_f p p this).2.2.2
      exact this)
    rw [hB]
theorem StI.beside {W0 W W2 : World} {g g' : Nat} {A B : Stk} (h : StI W0 g A W) (h2 : StI W g' B W2) : StI W0 g A W2 := by
  obtain ⟨TS, h1, h3⟩ := h.ex
  exact ⟨⟨TS, h1.fr h2.fr (fun b hb e => by have := h1.lt b hb; omega), h3⟩, h.fr.trans' h2.fr (fun b hb e => Nat.le_trans h.fr.size e), h.ok⟩
end Go.Proofs.Ytclgmnobockfnaa
