/- Plain: floors that may be; the orders of Put and Take. -/
import Derived.Test.YtlniekobijcanaaGreatBinsRoutesM9
namespace Go.Proofs.YtlniekobijcanaaGreat
open Go.RowKit
theorem idxK_map {α β : Type} (f : α → β) (L : List α) (isF : β → Bool) (k : Nat) : idxK (L.map f) isF k = idxK L (fun a => isF (f a)) k := by
  unfold idxK
  congr 1
  refine List.filter_congr fun i _ => ?_
  rw [List.getElem?_map]
  cases L[i]? <;> rfl
theorem cfI_map {α β : Type} (f : α → β) (L : List α) (cf : β → β → Int) (x y : Int) : cfI (L.map f) cf x y = cfI L (fun a b => cf (f a) (f b)) x y := by
  unfold cfI
  have e : ∀ x : Int, (if 0 ≤ x then (L.map f)[x.toNat]? else none) = (if 0 ≤ x then L[x.toNat]? else none).map f := fun x => by
    by_cases h : 0 ≤ x
    · rw [if_pos h, if_pos h, List.getElem?_map]
    · rw [if_neg h, if_neg h]; rfl
  rw [e, e]
  cases (if 0 ≤ x then L[x.toNat]? else none) <;> cases (if 0 ≤ y then L[y.toNat]? else none) <;> rfl
theorem ordI_map {α β : Type} (f : α → β) (L : List α) (isF : β → Bool) (cf : β → β → Int) : ordI (L.map f) isF cf = ordI L (fun a => isF (f a)) (fun a b => cf (f a) (f b)) := by
  unfold ordI
  rw [idxK_map, List.length_map]
  congr 1
  funext x y
  rw [cfI_map]
theorem cfI_cases {α : Type} (L : List α) (cf : α → α → Int) (x : Int) : (∃ a, ∀ y, (∀ b, (if 0 ≤ y then L[y.toNat]? else none) = some b → cfI L cf x y = cf a b ∧ cfI L cf y x = cf b a) ∧ ((if 0 ≤ y then L[y.toNat]? else none) = none → cfI L cf x y = -2 ∧ cfI L cf y x = 2) ∧ (if 0 ≤ x then L[x.toNat]? else none) = some a) ∨ ((if 0 ≤ x then L[x.toNat]? else none) = none ∧ ∀ y, cfI L cf x y = 2) := by
  cases h : (if 0 ≤ x then L[x.toNat]? else none) with
  | none => right; exact ⟨rfl, fun y => by unfold cfI; rw [h]⟩
  | some a =>
    left
    refine ⟨a, fun y => ⟨fun b hb => ⟨?_, ?_⟩, fun hn => ⟨?_, ?_⟩, rfl⟩⟩ <;> (unfold cfI; first | rw [h, hb] | rw [h, hn])
theorem swo_cfI {α : Type} {L : List α} {cf : α → α → Int} (h : SwoB (fun a b => decide (cf a b < 0))) : SwoB (fun x y => decide (cfI L cf x y < 0)) := by
  have key : ∀ x y, (∃ a b, (if 0 ≤ x then L[x.toNat]? else none) = some a ∧ (if 0 ≤ y then L[y.toNat]? else none) = some b ∧ cfI L cf x y = cf a b) ∨ (∃ a, (if 0 ≤ x then L[x.toNat]? else none) = some a ∧ (if 0 ≤ y then L[y.toNat]? else none) = none ∧ cfI L cf x y = -2) ∨ ((if 0 ≤ x then L[x.toNat]? else none) = none ∧ cfI L cf x y = 2) := fun x y => by
    unfold cfI
    cases h1 : (if 0 ≤ x then L[x.toNat]? else none) with
    | none => right; right; exact ⟨rfl, rfl⟩
    | some a =>
      cases h2 : (if 0 ≤ y then L[y.toNat]? else none) with
      | none => right; left; exact ⟨a, rfl, rfl, rfl⟩
      | some b => left; exact ⟨a, b, rfl, rfl, rfl⟩
  refine ⟨fun x => ?_, fun x y z h1 h2 => ?_, fun x y z h1 h2 => ?_⟩
  · rcases key x x with ⟨a, b, e1, e2, e3⟩ | ⟨a, e1, e2, e3⟩ | ⟨e1, e3⟩
    · rw [e1] at e2; cases e2; rw [e3]; exact h.irr a
    · rw [e1] at e2; cases e2
    · rw [e3]; rfl
  · rcases key x y with ⟨a, b, e1, e2, e3⟩ | ⟨a, e1, e2, e3⟩ | ⟨e1, e3⟩
    · rcases key y z with ⟨b', c, f1, f2, f3⟩ | ⟨b', f1, f2, f3⟩ | ⟨f1, f3⟩
      · rw [e2] at f1; cases f1
        rcases key x z with ⟨a', c', g1, g2, g3⟩ | ⟨a', g1, g2, g3⟩ | ⟨g1, g3⟩
        · rw [e1] at g1; cases g1; rw [f2] at g2; cases g2
          rw [g3]; rw [e3] at h1; rw [f3] at h2; exact h.tr _ _ _ h1 h2
        · rw [f2] at g2; cases g2
        · rw [e1] at g1; cases g1
      · rcases key x z with ⟨a', c', g1, g2, g3⟩ | ⟨a', g1, g2, g3⟩ | ⟨g1, g3⟩
        · rw [f2] at g2; cases g2
        · rw [g3]; rfl
        · rw [e1] at g1; cases g1
      · rw [e2] at f1; cases f1
    · rcases key y z with ⟨b', c, f1, f2, f3⟩ | ⟨b', f1, f2, f3⟩ | ⟨f1, f3⟩
      · rw [e2] at f1; cases f1
      · rw [e2] at f1; cases f1
      · rw [f3] at h2; cases h2
    · rw [e3] at h1; cases h1
  · rcases key x z with ⟨a, c, e1, e2, e3⟩ | ⟨a, e1, e2, e3⟩ | ⟨e1, e3⟩
    · rcases key x y with ⟨a', b, f1, f2, f3⟩ | ⟨a', f1, f2, f3⟩ | ⟨f1, f3⟩
      · rcases key y z with ⟨b', c', g1, g2, g3⟩ | ⟨b', g1, g2, g3⟩ | ⟨g1, g3⟩
        · rw [f2] at g1; cases g1; rw [e1] at f1; cases f1; rw [e2] at g2; cases g2
          rw [e3]; rw [f3] at h1; rw [g3] at h2; exact h.ntr _ _ _ h1 h2
        · rw [e2] at g2; cases g2
        · rw [f2] at g1; cases g1
      · rw [f3] at h1; cases h1
      · rw [e1] at f1; cases f1
    · rcases key x y with ⟨a', b, f1, f2, f3⟩ | ⟨a', f1, f2, f3⟩ | ⟨f1, f3⟩
      · rcases key y z with ⟨b', c', g1, g2, g3⟩ | ⟨b', g1, g2, g3⟩ | ⟨g1, g3⟩
        · rw [e2] at g2; cases g2
        · rw [g3] at h2; cases h2
        · rw [f2] at g1; cases g1
      · rw [f3] at h1; cases h1
      · rw [e1] at f1; cases f1
    · rw [e3]; rfl
theorem cmpI_lt {a b : Int} : cmpI a b < 0 ↔ a < b := by
  unfold cmpI
  by_cases h : a < b
  · simp [h]
  · by_cases h2 : b < a <;> simp [h, h2]
theorem cmpI_zero {a b : Int} : cmpI a b = 0 ↔ a = b := by
  unfold cmpI
  by_cases h : a < b
  · simp [h]; omega
  · by_cases h2 : b < a
    · simp [h, h2]; omega
    · simp [h, h2]; omega
theorem cmpI_in (a b : Int) : -1 ≤ cmpI a b ∧ cmpI a b ≤ 1 := by
  unfold cmpI
  split
  · omega
  · split <;> omega
theorem cfPut_lt {s : Str} {a b : BE} : cfPut s a b < 0 ↔ kindE a s < kindE b s ∨ (kindE a s = kindE b s ∧ kindE a s = 0 ∧ leftE a < leftE b) := by
  unfold cfPut
  by_cases h : cmpI (kindE a s) (kindE b s) ≠ 0 ∨ kindE a s ≠ 0
  · rw [if_pos h, cmpI_lt]
    rcases h with h | h
    · have h3 : ¬ kindE a s = kindE b s := fun e => h (cmpI_zero.2 e)
      omega
    · omega
  · rw [if_neg h, cmpI_lt]
    have h1 : cmpI (kindE a s) (kindE b s) = 0 := Classical.byContradiction fun e => h (.inl e)
    have h2 : kindE a s = 0 := Classical.byContradiction fun e => h (.inr e)
    have := cmpI_zero.1 h1
    omega
theorem cfPut_in (s : Str) (a b : BE) : -1 ≤ cfPut s a b ∧ cfPut s a b ≤ 1 := by
  unfold cfPut
  split
  · exact cmpI_in _ _
  · exact cmpI_in _ _
theorem cfPut_swo (s : Str) : SwoB (fun a b => decide (cfPut s a b < 0)) := by
  refine ⟨fun a => ?_, fun a b c h1 h2 => ?_, fun a b c h1 h2 => ?_⟩
  · refine decide_eq_false (fun h => ?_)
    have := cfPut_lt.1 h
    omega
  · have h1 := cfPut_lt.1 (of_decide_eq_true h1)
    have h2 := cfPut_lt.1 (of_decide_eq_true h2)
    exact decide_eq_true (cfPut_lt.2 (by omega))
  · have h1 : ¬ (kindE a s < kindE b s ∨ (kindE a s = kindE b s ∧ kindE a s = 0 ∧ leftE a < leftE b)) := fun e => of_decide_eq_false h1 (cfPut_lt.2 e)
    have h2 : ¬ (kindE b s < kindE c s ∨ (kindE b s = kindE c s ∧ kindE b s = 0 ∧ leftE b < leftE c)) := fun e => of_decide_eq_false h2 (cfPut_lt.2 e)
    refine decide_eq_false (fun h => ?_)
    have h := cfPut_lt.1 h
    omega
theorem cfTake_lt {s : Str} {a b : BE} : cfTake s a b < 0 ↔ ofF a.its s < ofF b.its s := cmpI_lt
theorem cfTake_in (s : Str) (a b : BE) : -1 ≤ cfTake s a b ∧ cfTake s a b ≤ 1 := cmpI_in _ _
theorem cfTake_swo (s : Str) : SwoB (fun a b => decide (cfTake s a b < 0)) := by
  refine ⟨fun a => ?_, fun a b c h1 h2 => ?_, fun a b c h1 h2 => ?_⟩
  · refine decide_eq_false (fun h => ?_)
    have := cfTake_lt.1 h
    omega
  · have h1 := cfTake_lt.1 (of_decide_eq_true h1)
    have h2 := cfTake_lt.1 (of_decide_eq_true h2)
    exact decide_eq_true (cfTake_lt.2 (by omega))
  · have h1 : ¬ ofF a.its s < ofF b.its s := fun e => of_decide_eq_false h1 (cfTake_lt.2 e)
    have h2 : ¬ ofF b.its s < ofF c.its s := fun e => of_decide_eq_false h2 (cfTake_lt.2 e)
    refine decide_eq_false (fun h => ?_)
    have h := cfTake_lt.1 h
    omega
/-- A bin that may be. -/
structure BEok (x : BE) : Prop where
  nu : 1 ≤ x.nu ∧ x.nu ≤ 4096
  zo : 0 ≤ x.zo ∧ x.zo ≤ 15
  ro : 1 ≤ x.ro ∧ x.ro ≤ 1099511627776
  may : mayL x.its = true
  tot : sumI x.its ≤ x.ro
theorem itsOk_rise : ∀ {L : Its} {last : Str}, itsOk last L = true → RiseI L ∧ ∀ p ∈ L, last < p.1
  | [], _, _ => ⟨List.Pairwise.nil, fun _ h => by cases h⟩
  | q :: r, last, h => by
    have h' : (goodB q.1 && decide (1 ≤ q.2) && mayI q.2 && decide (last < q.1) && itsOk q.1 r) = true := h
    simp only [Bool.and_eq_true, decide_eq_true_eq] at h'
    obtain ⟨⟨_, h4⟩, h5⟩ := h'
    obtain ⟨h6, h7⟩ := itsOk_rise h5
    exact ⟨List.pairwise_cons.2 ⟨h7, h6⟩, fun p hp => (List.mem_cons.1 hp).elim (fun e => e ▸ h4) (fun hp => str_trans h4 (h7 p hp))⟩
theorem itsOk_all : ∀ {L : Its} {last : Str}, itsOk last L = true → ∀ p ∈ L, goodB p.1 = true ∧ 1 ≤ p.2 ∧ mayI p.2 = true
  | [], _, _, p, hp => by cases hp
  | q :: r, last, h, p, hp => by
    have h' : (goodB q.1 && decide (1 ≤ q.2) && mayI q.2 && decide (last < q.1) && itsOk q.1 r) = true := h
    simp only [Bool.and_eq_true, decide_eq_true_eq] at h'
    obtain ⟨⟨⟨⟨h1, h2⟩, h3⟩, _⟩, h5⟩ := h'
    rcases List.mem_cons.1 hp with e | hp
    · rw [e]; exact ⟨h1, h2, h3⟩
    · exact itsOk_all h5 p hp
theorem good_lt {s : Str} (h : goodB s = true) : ([] : Str) < s := by
  cases s with
  | nil => simp [goodB] at h
  | cons a r => exact List.nil_lt_cons a r
theorem itsOk_of : ∀ {L : Its} {last : Str}, RiseI L → (∀ p ∈ L, last < p.1) → (∀ p ∈ L, goodB p.1 = true ∧ 1 ≤ p.2 ∧ mayI p.2 = true) → itsOk last L = true
  | [], _, _, _, _ => rfl
  | q :: r, last, h1, h2, h3 => by
    obtain ⟨k1, k2⟩ := List.pairwise_cons.1 h1
    obtain ⟨g1, g2, g3⟩ := h3 q List.mem_cons_self
    have ih := itsOk_of k2 (fun p hp => k1 p hp) (fun p hp => h3 p (List.mem_cons_of_mem _ hp))
    show (goodB q.1 && decide (1 ≤ q.2) && mayI q.2 && decide (last < q.1) && itsOk q.1 r) = true
    simp [g1, g2, g3, h2 q List.mem_cons_self, ih]
end Go.Proofs.YtlniekobijcanaaGreat
