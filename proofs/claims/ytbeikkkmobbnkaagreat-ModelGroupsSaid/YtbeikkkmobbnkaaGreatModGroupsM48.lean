/- Plain: the keys of the maps are what the reference puts in order. -/
import Derived.Test.YtbeikkkmobbnkaaGreatModGroupsM45
import Derived.Test.YtbeikkkmobbnkaaGreatModGroupsM39
import Derived.Test.YtbeikkkmobbnkaaGreatModGroupsM47
import Derived.Test.YtbeikkkmobbnkaaGreatModGroupsM41
namespace Go.Proofs.YtbeikkkmobbnkaaGreat
open Go.RowKit Go.Maps
section
variable {κ : Type} [DecidableEq κ] (lt : κ → κ → Bool)
/-- Into a row that rises, once. -/
def insK (x : κ) : List κ → List κ
  | [] => [x]
  | y :: r => if lt y x then y :: insK x r else if y = x then y :: r else x :: y :: r
theorem put_keys {ν : Type} (irr : ∀ a, lt a a = false) (tr : ∀ a b c, lt a b = true → lt b c = true → lt a c = true) (tot : ∀ a b, lt a b = false → a ≠ b → lt b a = true) (v : ν) (x : κ) :
    ∀ (l : List (κ × ν)), l.Pairwise (fun p q => lt p.1 q.1 = true) → (putS lt l x v).map (·.1) = insK lt x (l.map (·.1)) := by
  have hbig : ∀ (l : List (κ × ν)), (∀ p ∈ l, lt x p.1 = true) → delS l x = l ∧ insS lt (x, v) l = (x, v) :: l := by
    intro l h
    constructor
    · unfold delS
      rw [List.filter_eq_self]
      intro p hp
      have := h p hp
      have hne : p.1 ≠ x := fun e => by rw [e, irr] at this; cases this
      simpa using hne
    · cases l with
      | nil => rfl
      | cons p r => simp [insS, h p (List.mem_cons_self ..)]
  intro l
  induction l with
  | nil => intro _; rfl
  | cons p r ih =>
    intro h
    obtain ⟨h1, h2⟩ := List.pairwise_cons.1 h
    by_cases hl : lt p.1 x = true
    · have hne : p.1 ≠ x := fun e => by rw [e, irr] at hl; cases hl
      have hnx : lt x p.1 = false := by
        cases e : lt x p.1 with
        | false => rfl
        | true => have := tr _ _ _ hl e; rw [irr] at this; cases this
      have e1 : putS lt (p :: r) x v = p :: putS lt r x v := by
        unfold putS delS
        rw [List.filter_cons_of_pos (by simpa using hne)]
        simp [insS, hnx]
      rw [e1]
      simp [insK, hl, ih h2]
    · have hl : lt p.1 x = false := by simpa using hl
      by_cases he : p.1 = x
      · have hb := hbig r (fun q hq => by rw [← he]; exact h1 q hq)
        have e1 : putS lt (p :: r) x v = (x, v) :: r := by
          unfold putS delS
          rw [List.filter_cons_of_neg (by simpa using he)]
          have := hb.1
          unfold delS at this
          rw [this, hb.2]
        rw [e1]
        simp [insK, hl, he, irr]
      · have hx := tot _ _ hl he
        have hb := hbig (p :: r) (fun q hq => by
          rcases List.mem_cons.1 hq with rfl | hq
          · exact hx
          · exact tr _ _ _ hx (h1 q hq))
        have e1 : putS lt (p :: r) x v = (x, v) :: p :: r := by
          unfold putS
          rw [hb.1, hb.2]
        rw [e1]
        simp [insK, hl, he]
theorem ins_at (x : κ) : ∀ (S : List κ), (∀ a, lt a a = false) →
    insK lt x S = if S[(S.takeWhile fun y => lt y x).length]? = some x then S else S.take (S.takeWhile fun y => lt y x).length ++ x :: S.drop (S.takeWhile fun y => lt y x).length
  | [], _ => by simp [insK]
  | y :: r, irr => by
    have ih := ins_at x r irr
    by_cases hl : lt y x = true
    · simp only [insK, hl, if_true, List.takeWhile_cons, List.length_cons, List.getElem?_cons_succ, List.take_succ_cons, List.drop_succ_cons, List.cons_append, ih]
      split <;> rfl
    · have hl : lt y x = false := by simpa using hl
      by_cases he : y = x
      · subst he; simp [insK, irr]
      · simp [insK, hl, he]
end
theorem ktI_irr (a : Int) : ktI.lt a a = false := by show decide (a < a) = false; simp
theorem ktI_tr (a b c : Int) (h1 : ktI.lt a b = true) (h2 : ktI.lt b c = true) : ktI.lt a c = true := by
  have h1 : decide (a < b) = true := h1
  have h2 : decide (b < c) = true := h2
  show decide (a < c) = true
  simp at *; omega
theorem ktI_tot (a b : Int) (h1 : ktI.lt a b = false) (h2 : a ≠ b) : ktI.lt b a = true := by
  have h1 : decide (a < b) = false := h1
  show decide (b < a) = true
  simp at *; omega
theorem putI_keys (x : Int) (l : List (Int × Bool)) (h : l.Pairwise (fun p q => ktI.lt p.1 q.1 = true)) : (putS ktI.lt l x true).map (·.1) = putI (l.map (·.1)) x := by
  rw [put_keys ktI.lt ktI_irr ktI_tr ktI_tot true x l h, ins_at ktI.lt x _ ktI_irr]
  rfl
theorem ktS_irr (a : Str) : ktS.lt a a = false := by rw [ktS_lt]; simp
theorem ktS_tr (a b c : Str) (h1 : ktS.lt a b = true) (h2 : ktS.lt b c = true) : ktS.lt a c = true := by
  rw [ktS_lt] at *
  simp at *
  exact List.lt_trans h1 h2
theorem ktS_tot (a b : Str) (h1 : ktS.lt a b = false) (h2 : a ≠ b) : ktS.lt b a = true := by
  rw [ktS_lt] at *
  simp at *
  exact Decidable.byContradiction fun h => h2 (List.le_antisymm (by simpa using h) h1)
theorem putR_keys (x : Str) (l : List (Str × Bool)) (h : l.Pairwise (fun p q => ktS.lt p.1 q.1 = true)) : (putS ktS.lt l x true).map (·.1) = putR (l.map (·.1)) x := by
  rw [put_keys ktS.lt ktS_irr ktS_tr ktS_tot true x l h, ins_at ktS.lt x _ ktS_irr]
  have e : (fun y => ktS.lt y x) = (fun y : Str => decide (y < x)) := by funext y; rw [ktS_lt]
  rw [e]
  rfl
theorem riseI_put {l : List (Int × Bool)} {x : Int} (h : l.Pairwise (fun p q => ktI.lt p.1 q.1 = true)) : (putS ktI.lt l x true).Pairwise (fun p q => ktI.lt p.1 q.1 = true) := by
  have ins : ∀ (l : List (Int × Bool)), l.Pairwise (fun p q => ktI.lt p.1 q.1 = true) → (∀ p ∈ l, p.1 ≠ x) → (insS ktI.lt (x, true) l).Pairwise (fun p q => ktI.lt p.1 q.1 = true) ∧ ∀ q ∈ insS ktI.lt (x, true) l, q = (x, true) ∨ q ∈ l := by
    intro l
    induction l with
    | nil => intro _ _; exact ⟨by simp [insS], fun q hq => by simp [insS] at hq; exact .inl hq⟩
    | cons p r ih =>
      intro h hx
      obtain ⟨h1, h2⟩ := List.pairwise_cons.1 h
      unfold insS
      split
      · next hlt =>
        refine ⟨List.pairwise_cons.2 ⟨fun q hq => ?_, h⟩, fun q hq => List.mem_cons.1 hq⟩
        rcases List.mem_cons.1 hq with rfl | hq
        · exact hlt
        · exact ktI_tr _ _ _ hlt (h1 q hq)
      · next hlt =>
        obtain ⟨i1, i2⟩ := ih h2 (fun p hp => hx p (List.mem_cons_of_mem _ hp))
        refine ⟨List.pairwise_cons.2 ⟨fun q hq => ?_, i1⟩, fun q hq => ?_⟩
        · rcases i2 q hq with rfl | hq
          · exact ktI_tot _ _ (by simpa using hlt) (fun e => hx p (List.mem_cons_self ..) e.symm)
          · exact h1 q hq
        · rcases List.mem_cons.1 hq with rfl | hq
          · exact .inr (List.mem_cons_self ..)
          · exact (i2 q hq).imp id (List.mem_cons_of_mem _)
  exact (ins _ (h.sublist List.filter_sublist) (fun p hp => by simpa [delS] using (List.mem_filter.1 hp).2)).1
theorem ordF_nomay {a : AV} (h : a.may = false) : ordF a = 0 := by unfold ordF; rw [h]; simp
theorem ordF_pos (a : AV) : 0 < ordF a ↔ ordF a ≠ 0 := by
  constructor
  · intro h; omega
  · intro h
    unfold ordF at h ⊢
    split at h
    · next hc => obtain ⟨⟨h1, h2⟩, h3, h4⟩ := may_bounds hc.2; rw [if_pos hc]; omega
    · exact absurd rfl h
/-- The reference's orders are the map's keys. -/
theorem ord_keys (L : List AV) : (ordL (rightL L)).map (·.1) = ordR L := by
  have key : ∀ (L : List AV) (l : List (Int × Bool)), l.Pairwise (fun p q => ktI.lt p.1 q.1 = true) → ((rightL L).foldl ordPut l).map (·.1) = L.foldl ordStep (l.map (·.1)) := by
    intro L
    induction L with
    | nil => intro l _; rfl
    | cons a r ih =>
      intro l hl
      by_cases hm : a.may = true
      · have e : rightL (a :: r) = a :: rightL r := by unfold rightL; rw [List.filter_cons_of_pos hm]
        rw [e, List.foldl_cons, List.foldl_cons]
        by_cases hp : 0 < ordF a
        · have e1 : ordPut l a = putS ktI.lt l (ordF a) true := by unfold ordPut; rw [if_pos hp]
          have e2 : ordStep (l.map (·.1)) a = putI (l.map (·.1)) (ordF a) := by unfold ordStep; rw [if_neg ((ordF_pos a).1 hp)]
          rw [e1, e2, ih _ (riseI_put hl), putI_keys _ _ hl]
        · have e1 : ordPut l a = l := by unfold ordPut; rw [if_neg hp]
          have e2 : ordStep (l.map (·.1)) a = l.map (·.1) := by unfold ordStep; rw [if_pos (Decidable.byContradiction fun h => hp ((ordF_pos a).2 h))]
          rw [e1, e2, ih _ hl]
      · have e : rightL (a :: r) = rightL r := by unfold rightL; rw [List.filter_cons_of_neg hm]
        have e2 : ordStep (l.map (·.1)) a = l.map (·.1) := by unfold ordStep; rw [if_pos (ordF_nomay (by simpa using hm))]
        rw [e, List.foldl_cons, e2, ih _ hl]
  exact key L [] List.Pairwise.nil
theorem fld_good (k : Int) : (fldF k).contains 103 = decide (k = 7) := by
  by_cases h : 1 ≤ k ∧ k ≤ 11
  · rcases (by omega : k = 1 ∨ k = 2 ∨ k = 3 ∨ k = 4 ∨ k = 5 ∨ k = 6 ∨ k = 7 ∨ k = 8 ∨ k = 9 ∨ k = 10 ∨ k = 11) with rfl | rfl | rfl | rfl | rfl | rfl | rfl | rfl | rfl | rfl | rfl <;> rfl
  · rw [fldF_no (by omega)]
    have : k ≠ 7 := by omega
    simp [this]
theorem may_g {a : AV} (h : a.may = true) : a.g = [] ↔ a.k ≠ 7 := by
  unfold AV.may at h
  simp only [Bool.and_eq_true] at h
  have h := h.1.1.2
  unfold AV.rg rightB at h
  rw [fld_good] at h
  by_cases h7 : a.k = 7
  · rw [if_pos (by simpa using h7)] at h
    have : a.g ≠ [] := fun e => by rw [e] at h; simp [goodB] at h
    simp [h7, this]
  · rw [if_neg (by simpa using h7)] at h
    simp [h7]; simpa using h
theorem its_keys : ∀ (its : Its) (l : List (Str × Bool)), RiseS l → RiseS (gdIts l its) ∧ (gdIts l its).map (·.1) = putIts (l.map (·.1)) its
  | [], l, h => ⟨h, rfl⟩
  | p :: r, l, h => by
    have h1 := its_keys r (putS ktS.lt l p.1 true) (riseS_put h)
    have h2 := putR_keys p.1 l (h.imp (fun {p q} e => by rw [ktS_lt]; simpa using e))
    refine ⟨h1.1, ?_⟩
    show (gdIts (putS ktS.lt l p.1 true) r).map (·.1) = putIts (putR (l.map (·.1)) p.1) r
    rw [h1.2, h2]
/-- The reference's goods are the map's keys. -/
theorem goods_keys (L : List AV) : (goodsL (rightL L)).map (·.1) = goodsR (rightL L) := by
  have key : ∀ (R : List AV) (l : List (Str × Bool)), (∀ a ∈ R, a.may = true) → RiseS l → (R.foldl gdPut l).map (·.1) = R.foldl goodStep (l.map (·.1)) := by
    intro R
    induction R with
    | nil => intro l _ _; rfl
    | cons a r ih =>
      intro l hm hl
      rw [List.foldl_cons, List.foldl_cons]
      obtain ⟨i1, i2⟩ := its_keys a.its l hl
      have hg := may_g (hm a (List.mem_cons_self ..))
      by_cases h7 : a.k = 7
      · have e1 : gdPut l a = putS ktS.lt (gdIts l a.its) a.g true := by unfold gdPut; rw [if_neg (fun e => hg.1 e h7)]
        have e2 : goodStep (l.map (·.1)) a = putR (putIts (l.map (·.1)) a.its) a.g := by unfold goodStep; rw [if_pos h7]
        rw [e1, e2, ih _ (fun b hb => hm b (List.mem_cons_of_mem _ hb)) (riseS_put i1), putR_keys _ _ (i1.imp (fun {p q} e => by rw [ktS_lt]; simpa using e)), i2]
      · have e1 : gdPut l a = gdIts l a.its := by unfold gdPut; rw [if_pos (hg.2 h7)]
        have e2 : goodStep (l.map (·.1)) a = putIts (l.map (·.1)) a.its := by unfold goodStep; rw [if_neg h7]
        rw [e1, e2, ih _ (fun b hb => hm b (List.mem_cons_of_mem _ hb)) i1, i2]
  exact key _ [] (fun a ha => (List.mem_filter.1 ha).2) List.Pairwise.nil
end Go.Proofs.YtbeikkkmobbnkaaGreat
