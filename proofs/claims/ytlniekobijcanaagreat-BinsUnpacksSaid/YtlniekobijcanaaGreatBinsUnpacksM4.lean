/- Texts of this claim, joined: Plain: what a stable sort by blocks and merges does to a list; slices.SortStableFunc on []int: a row of the caller's, its elements named; swapRange, rotate; slices.SortStableFunc on []int: insertionSort of a part; slices.SortStableFunc on []int: symMerge where one part is of one element; slices.SortStableFunc on []int: symMerge where the right part is of one element; slices.SortStableFunc on []int: symMerge; slices.SortStableFunc on []int: symMerge, whatever the lengths; the blocks; the whole; bins: order's comparison; slices.SortStableFunc at a nil slice; bins: order: the places of the bins that are gone through, in order; bins: a floor as a thing of its own; slices.Clone on bins. -/
import Derived.Lib.Hide
import Derived.Test.YtlniekobijcanaaGreatBinsUnpacksM1
import Derived.BigRegion
import Derived.RegionTactic
import Derived.OwnWalk
import Derived.Test.YtlniekobijcanaaGreatBinsUnpacksM3
import Derived.Deep.QuietTactic
import Derived.BigQuiet
import Derived.Shelf.Abstract
import Derived.Deep.DeepCutAuto
import Derived.Test.YtlniekobijcanaaGreatBinsUnpacksM2
namespace Go.Proofs.YtlniekobijcanaaGreat
section
variable {β : Type} (T : β → β → Bool)
/-- It rises. -/
def Srt (l : List β) : Prop := l.Pairwise (fun a b => T a b = true)
variable {T}
theorem Srt.nil : Srt T [] := List.Pairwise.nil
theorem Srt.app {A B : List β} (hA : Srt T A) (hB : Srt T B) (h : ∀ x ∈ A, ∀ y ∈ B, T x y = true) : Srt T (A ++ B) := List.pairwise_append.2 ⟨hA, hB, h⟩
theorem Srt.left {A B : List β} (h : Srt T (A ++ B)) : Srt T A := (List.pairwise_append.1 h).1
theorem Srt.right {A B : List β} (h : Srt T (A ++ B)) : Srt T B := (List.pairwise_append.1 h).2.1
theorem Srt.cross {A B : List β} (h : Srt T (A ++ B)) : ∀ x ∈ A, ∀ y ∈ B, T x y = true := (List.pairwise_append.1 h).2.2
theorem Srt.perm_nil {Z : List β} (h : Z.Perm []) : Srt T Z := by rw [List.perm_nil.1 h]; exact Srt.nil
/-- One is put in its place. -/
theorem ins_done (tr : ∀ a b c, T a b = true → T b c = true → T a c = true) {Z1 Z2 : List β} {x : β} (h : Srt T (Z1 ++ Z2)) (hx : ∀ z ∈ Z2, T x z = true) (hy : ∀ W y, Z1 = W ++ [y] → T y x = true) : Srt T (Z1 ++ x :: Z2) := by
  refine Srt.app h.left (List.pairwise_cons.2 ⟨hx, h.right⟩) (fun z hz y hy' => ?_)
  rcases List.mem_cons.1 hy' with rfl | hy'
  · rcases List.eq_nil_or_concat Z1 with e | ⟨W, l, e⟩
    · rw [e] at hz; cases hz
    · have hl := hy W l (by rw [e, List.concat_eq_append])
      rw [List.concat_eq_append] at e
      rw [e] at hz h
      rcases List.mem_append.1 hz with hz | hz
      · exact tr _ _ _ (h.left.cross z hz l (List.mem_singleton_self _)) hl
      · rw [List.mem_singleton.1 hz]; exact hl
  · exact h.cross z hz y hy'
/-- What stands ahead of a place on the left is below what stands behind one on the right. -/
theorem ends_lt (tr : ∀ a b c, T a b = true → T b c = true → T a c = true) {A B : List β} (hA : Srt T A) (hB : Srt T B) (h : ∀ W x y V, A = W ++ [x] → B = y :: V → T x y = true) : ∀ x ∈ A, ∀ y ∈ B, T x y = true := by
  intro x hx y hy
  rcases List.eq_nil_or_concat A with e | ⟨W, l, e⟩
  · rw [e] at hx; cases hx
  · rw [List.concat_eq_append] at e
    cases B with
    | nil => cases hy
    | cons f V =>
      have hlf := h W l f V e rfl
      rw [e] at hx hA
      have h1 : x = l ∨ T x l = true := by
        rcases List.mem_append.1 hx with hx | hx
        · exact .inr (hA.cross x hx l (List.mem_singleton_self _))
        · exact .inl (List.mem_singleton.1 hx)
      have h2 : y = f ∨ T f y = true := by
        rcases List.mem_cons.1 hy with hy | hy
        · exact .inl hy
        · exact .inr ((List.pairwise_cons.1 hB).1 y hy)
      rcases h1 with rfl | h1 <;> rcases h2 with rfl | h2
      · exact hlf
      · exact tr _ _ _ hlf h2
      · exact tr _ _ _ h1 hlf
      · exact tr _ _ _ h1 (tr _ _ _ hlf h2)
theorem mrg_join {A1 A2 B1 B2 Z1 Z2 : List β} (hA : Srt T (A1 ++ A2)) (hB : Srt T (B1 ++ B2)) (c1 : ∀ x ∈ A1, ∀ y ∈ B2, T x y = true) (c2 : ∀ y ∈ B1, ∀ x ∈ A2, T y x = true)
    (s1 : Srt T Z1) (s2 : Srt T Z2) (p1 : Z1.Perm (A1 ++ B1)) (p2 : Z2.Perm (A2 ++ B2)) : Srt T (Z1 ++ Z2) ∧ (Z1 ++ Z2).Perm ((A1 ++ A2) ++ (B1 ++ B2)) := by
  refine ⟨s1.app s2 (fun x hx y hy => ?_), ?_⟩
  · rcases List.mem_append.1 (p1.mem_iff.1 hx) with hx | hx <;> rcases List.mem_append.1 (p2.mem_iff.1 hy) with hy | hy
    · exact hA.cross x hx y hy
    · exact c1 x hx y hy
    · exact c2 x hx y hy
    · exact hB.cross x hx y hy
  · refine (p1.append p2).trans ?_
    rw [List.append_assoc, List.append_assoc]
    refine List.Perm.append_left A1 ?_
    rw [← List.append_assoc, ← List.append_assoc]
    exact List.Perm.append_right B2 List.perm_append_comm
theorem srt_unique (irr : ∀ a, T a a = false) (tr : ∀ a b c, T a b = true → T b c = true → T a c = true) : ∀ {A B : List β}, Srt T A → Srt T B → A.Perm B → A = B
  | [], B, _, _, h => (List.nil_perm.1 h).symm
  | a :: A, [], _, _, h => absurd (List.perm_nil.1 h) (by simp)
  | a :: A, b :: B, hA, hB, h => by
    have e : a = b := by
      by_cases e : a = b
      · exact e
      · have h1 : a ∈ B := by
          rcases List.mem_cons.1 (h.mem_iff.1 (List.mem_cons_self ..)) with h | h
          · exact absurd h e
          · exact h
        have h2 : b ∈ A := by
          rcases List.mem_cons.1 (h.mem_iff.2 (List.mem_cons_self ..)) with h | h
          · exact absurd h.symm e
          · exact h
        have := tr _ _ _ ((List.pairwise_cons.1 hA).1 b h2) ((List.pairwise_cons.1 hB).1 a h1)
        rw [irr] at this
        cases this
    subst e
    rw [srt_unique irr tr (List.pairwise_cons.1 hA).2 (List.pairwise_cons.1 hB).2 (List.perm_cons a |>.1 h)]
end
section
variable {α : Type} (lt : α → α → Bool)
/-- By the test, then by the place. -/
def tagT (p q : α × Nat) : Bool := lt p.1 q.1 || (!lt q.1 p.1 && decide (p.2 < q.2))
/-- Put behind all that do not follow it. -/
def insR (l : List α) (x : α) : List α := l.takeWhile (fun y => !lt x y) ++ x :: l.dropWhile (fun y => !lt x y)
/-- A stable order. -/
def stab (l : List α) : List α := l.foldl (insR lt) []
structure SwoB : Prop where
  irr : ∀ a, lt a a = false
  tr : ∀ a b c, lt a b = true → lt b c = true → lt a c = true
  ntr : ∀ a b c, lt a b = false → lt b c = false → lt a c = false
variable {lt}
theorem SwoB.as (h : SwoB lt) {a b : α} (e : lt a b = true) : lt b a = false := by
  cases e2 : lt b a with
  | false => rfl
  | true => have := h.tr _ _ _ e e2; rw [h.irr] at this; cases this
theorem tag_irr (h : SwoB lt) (a : α × Nat) : tagT lt a a = false := by unfold tagT; rw [h.irr]; simp
theorem tag_iff {p q : α × Nat} : tagT lt p q = true ↔ lt p.1 q.1 = true ∨ (lt q.1 p.1 = false ∧ p.2 < q.2) := by unfold tagT; simp
theorem tag_tr (h : SwoB lt) (a b c : α × Nat) (h1 : tagT lt a b = true) (h2 : tagT lt b c = true) : tagT lt a c = true := by
  rw [tag_iff] at *
  cases e : lt a.1 c.1 with
  | true => exact .inl rfl
  | false =>
    right
    rcases h1 with h1 | ⟨h1, l1⟩ <;> rcases h2 with h2 | ⟨h2, l2⟩
    · rw [h.tr _ _ _ h1 h2] at e; cases e
    · rw [h.ntr _ _ _ e h2] at h1; cases h1
    · rw [h.ntr _ _ _ h1 e] at h2; cases h2
    · exact ⟨h.ntr _ _ _ h2 h1, by omega⟩
theorem tag_rgt (h : SwoB lt) {p q : α × Nat} (e : q.2 < p.2) : tagT lt p q = lt p.1 q.1 ∧ (tagT lt p q = false → tagT lt q p = true) := by
  have h1 : tagT lt p q = lt p.1 q.1 := by
    unfold tagT
    have : decide (p.2 < q.2) = false := by simp; omega
    rw [this]; simp
  refine ⟨h1, fun h2 => ?_⟩
  rw [h1] at h2
  rw [tag_iff]
  cases e2 : lt q.1 p.1 with
  | true => exact .inl rfl
  | false => exact .inr ⟨h2, e⟩
theorem insR_perm (l : List α) (x : α) : (insR lt l x).Perm (x :: l) := by
  unfold insR
  refine List.perm_middle.trans (List.Perm.cons x ?_)
  rw [List.takeWhile_append_dropWhile]
theorem mem_takeWhile {γ : Type} {p : γ → Bool} : ∀ {l : List γ} {x : γ}, x ∈ l.takeWhile p → p x = true ∧ x ∈ l
  | [], x, h => by cases h
  | y :: r, x, h => by
    rw [List.takeWhile_cons] at h
    split at h
    · next e =>
      rcases List.mem_cons.1 h with rfl | h
      · exact ⟨e, List.mem_cons_self ..⟩
      · exact ⟨(mem_takeWhile h).1, List.mem_cons_of_mem _ (mem_takeWhile h).2⟩
    · cases h
/-- The stable order, its elements named by their places. -/
theorem stab_tag (h : SwoB lt) : ∀ (l : List α) (k : Nat), ∃ Z : List (α × Nat), Srt (tagT lt) Z ∧ Z.Perm (l.zipIdx k) ∧ Z.map Prod.fst = stab lt l := by
  have key : ∀ (l : List α) (k : Nat) (Z0 D : List (α × Nat)), Srt (tagT lt) Z0 → Z0.Perm D → (∀ p ∈ Z0, p.2 < k) → ∃ Z : List (α × Nat), Srt (tagT lt) Z ∧ Z.Perm (D ++ l.zipIdx k) ∧ Z.map Prod.fst = l.foldl (insR lt) (Z0.map Prod.fst) := by
    intro l
    induction l with
    | nil => intro k Z0 D hs hp hk; exact ⟨Z0, hs, by simpa using hp, rfl⟩
    | cons x r ih =>
      intro k Z0 D hs hp hk
      have hst : Z0 = Z0.takeWhile (fun p => !lt x p.1) ++ Z0.dropWhile (fun p => !lt x p.1) := List.takeWhile_append_dropWhile.symm
      have hd : ∀ p ∈ Z0.dropWhile (fun p => !lt x p.1), lt x p.1 = true := by
        intro p hp
        cases hdw : Z0.dropWhile (fun p => !lt x p.1) with
        | nil => rw [hdw] at hp; cases hp
        | cons q V =>
          have hq : lt x q.1 = true := by
            have hne := List.head_dropWhile_not (fun p : α × Nat => !lt x p.1) (w := by rw [hdw]; simp) (l := Z0)
            simp only [hdw, List.head_cons] at hne
            simpa using hne
          rw [hdw] at hp
          rcases List.mem_cons.1 hp with rfl | hp
          · exact hq
          · have hs2 : Srt (tagT lt) (q :: V) := by rw [← hdw]; rw [hst] at hs; exact hs.right
            have := (List.pairwise_cons.1 hs2).1 p hp
            rw [tag_iff] at this
            rcases this with h1 | ⟨h1, -⟩
            · exact h.tr _ _ _ hq h1
            · cases e : lt x p.1 with
              | true => rfl
              | false => rw [h.ntr _ _ _ e h1] at hq; cases hq
      have hz : Srt (tagT lt) (Z0.takeWhile (fun p => !lt x p.1) ++ (x, k) :: Z0.dropWhile (fun p => !lt x p.1)) := by
        rw [hst] at hs
        refine Srt.app hs.left (List.pairwise_cons.2 ⟨fun p hp => ?_, hs.right⟩) (fun p hp q hq => ?_)
        · rw [tag_iff]; exact .inl (hd p hp)
        · rcases List.mem_cons.1 hq with rfl | hq
          · obtain ⟨h1, h2⟩ := mem_takeWhile hp
            rw [tag_iff]
            cases e : lt p.1 x with
            | true => exact .inl rfl
            | false => exact .inr ⟨by simpa using h1, hk p h2⟩
          · exact hs.cross p hp q hq
      have hpm : (Z0.takeWhile (fun p => !lt x p.1) ++ (x, k) :: Z0.dropWhile (fun p => !lt x p.1)).Perm (D ++ [(x, k)]) := by
        refine List.perm_middle.trans ?_
        rw [List.takeWhile_append_dropWhile]
        exact (List.Perm.cons _ hp).trans (List.perm_append_comm (l₁ := [(x, k)]))
      obtain ⟨Z, z1, z2, z3⟩ := ih (k + 1) _ (D ++ [(x, k)]) hz hpm (fun p hp => by
        rcases List.mem_append.1 (hpm.mem_iff.1 hp) with h1 | h1
        · have := hk p (‹Z0.Perm D›.mem_iff.2 h1); omega
        · rw [List.mem_singleton.1 h1]; exact Nat.lt_succ_self k)
      refine ⟨Z, z1, ?_, ?_⟩
      · rw [List.zipIdx_cons]
        rw [List.append_assoc] at z2
        exact z2
      · rw [z3, List.foldl_cons]
        congr 1
        unfold insR
        rw [List.map_append, List.map_cons, List.takeWhile_map, List.dropWhile_map]
        rfl
  intro l k
  obtain ⟨Z, h1, h2, h3⟩ := key l k [] [] Srt.nil (List.Perm.refl _) (fun p hp => by cases hp)
  exact ⟨Z, h1, by simpa using h2, h3⟩
/-- What rises by the test and the place, and holds what was there, is the stable order. -/
theorem stab_eq (h : SwoB lt) {l : List α} {k : Nat} {Z : List (α × Nat)} (hs : Srt (tagT lt) Z) (hp : Z.Perm (l.zipIdx k)) : Z.map Prod.fst = stab lt l := by
  obtain ⟨Z', h1, h2, h3⟩ := stab_tag h l k
  rw [srt_unique (tag_irr h) (tag_tr h) hs h1 (hp.trans h2.symm), h3]
theorem zip_mem {l : List α} {k : Nat} {p : α × Nat} (h : p ∈ l.zipIdx k) : p.1 ∈ l := by
  have : p.1 ∈ (l.zipIdx k).map Prod.fst := List.mem_map.2 ⟨p, h, rfl⟩
  rwa [List.zipIdx_map_fst] at this
theorem zip_pair (l : List α) : ∀ k, (l.zipIdx k).Pairwise (fun p q => p.2 < q.2) := by
  induction l with
  | nil => intro k; exact List.Pairwise.nil
  | cons x r ih =>
    intro k
    rw [List.zipIdx_cons]
    refine List.pairwise_cons.2 ⟨fun p hp => ?_, ih (k + 1)⟩
    have := List.le_snd_of_mem_zipIdx hp
    show k < p.2
    omega
end
end Go.Proofs.YtlniekobijcanaaGreat
namespace Go.Proofs.YtlniekobijcanaaGreat
open Go.RowKit
/-- An element: what is compared, where it stood. -/
abbrev EI := Int × Nat
abbrev encI (p : EI) : Value := .int .i64 p.1
/-- Block b begins with these. -/
def RwI (W : World) (b : Nat) (xs : List EI) : Prop := ∃ rest : List Value, W.heap[b]? = some (.cells (xs.map encI ++ rest).toArray 3)
theorem RwI.cell {W : World} {b : Nat} {xs : List EI} (h : RwI W b xs) {i : Nat} {p : EI} (hp : xs[i]? = some p) : W.cell? ⟨b, i, none⟩ = some (encI p) := by
  obtain ⟨rest, h⟩ := h
  refine cell_obj h i _ ?_
  have hi := (List.getElem?_eq_some_iff.1 hp).1
  rw [List.getElem?_toArray, List.getElem?_append_left (by simpa using hi), List.getElem?_map, hp]
  rfl
theorem RwI.frz {W : World} {b : Nat} {xs : List EI} (h : RwI W b xs) (i : Nat) : W.frozen? ⟨b, i, none⟩ = false := by
  obtain ⟨rest, h⟩ := h
  exact obj_frozen h i
theorem RwI.set {W : World} {b : Nat} {xs : List EI} (h : RwI W b xs) {i : Nat} (hi : i < xs.length) (p : EI) : RwI (W.setCell ⟨b, i, none⟩ (encI p)) b (xs.set i p) := by
  obtain ⟨rest, h⟩ := h
  refine ⟨rest, ?_⟩
  rw [obj_set h i (encI p)]
  congr 2
  rw [List.setIfInBounds_toArray, List.set_append_left _ _ (by simpa using hi), List.map_set]
theorem RwI.fr {S : Nat → Prop} {W W' : World} {b : Nat} {xs : List EI} (h : RwI W b xs) (hf : Fr S W W') (hS : ¬ S b) : RwI W' b xs := by
  obtain ⟨rest, h⟩ := h
  exact ⟨rest, hf.at_ h hS⟩
/-- Two change places. -/
theorem RwI.swap {W : World} {b : Nat} {A B C : List EI} {x y : EI} (h : RwI W b (A ++ x :: (B ++ y :: C))) {i j : Nat} (hi : i = A.length) (hj : j = A.length + 1 + B.length) :
    RwI ((W.setCell ⟨b, i, none⟩ (encI y)).setCell ⟨b, j, none⟩ (encI x)) b (A ++ y :: (B ++ x :: C)) := by
  subst hi hj
  have h1 := (h.set (i := A.length) (by simp) y).set (i := A.length + 1 + B.length) (by simp; omega) x
  have e : (((A ++ x :: (B ++ y :: C)).set A.length y).set (A.length + 1 + B.length) x) = A ++ y :: (B ++ x :: C) := by
    rw [List.set_append_right _ _ (Nat.le_refl _), Nat.sub_self, List.set_cons_zero, List.set_append_right _ _ (by omega)]
    have e2 : A.length + 1 + B.length - A.length = B.length + 1 := by omega
    rw [e2, List.set_cons_succ, List.set_append_right _ _ (Nat.le_refl _), Nat.sub_self, List.set_cons_zero]
  rw [e] at h1
  exact h1
/-- The same, the right one stored first. -/
theorem RwI.swap' {W : World} {b : Nat} {A B C : List EI} {x y : EI} (h : RwI W b (A ++ x :: (B ++ y :: C))) {i j : Nat} (hi : i = A.length) (hj : j = A.length + 1 + B.length) :
    RwI ((W.setCell ⟨b, j, none⟩ (encI x)).setCell ⟨b, i, none⟩ (encI y)) b (A ++ y :: (B ++ x :: C)) := by
  subst hi hj
  have h1 := (h.set (i := A.length + 1 + B.length) (by simp; omega) x).set (i := A.length) (by simp) y
  have e : (((A ++ x :: (B ++ y :: C)).set (A.length + 1 + B.length) x).set A.length y) = A ++ y :: (B ++ x :: C) := by
    rw [List.set_append_right _ _ (by omega)]
    have e2 : A.length + 1 + B.length - A.length = B.length + 1 := by omega
    rw [e2, List.set_cons_succ, List.set_append_right _ _ (Nat.le_refl _), Nat.sub_self, List.set_cons_zero, List.set_append_right _ _ (Nat.le_refl _), Nat.sub_self, List.set_cons_zero]
  rw [e] at h1
  exact h1
theorem at_left {A B : List EI} {x : EI} : (A ++ x :: B)[A.length]? = some x := by
  rw [List.getElem?_append_right (Nat.le_refl _), Nat.sub_self]; rfl
theorem at_right {A B C : List EI} {x y : EI} : (A ++ x :: (B ++ y :: C))[A.length + 1 + B.length]? = some y := by
  rw [List.getElem?_append_right (by omega)]
  have e2 : A.length + 1 + B.length - A.length = B.length + 1 := by omega
  rw [e2, List.getElem?_cons_succ]
  exact at_left
/-- A range is changed with another, i done. -/
theorem swp_step {P U M V S : List EI} {i : Nat} {x y : EI} (hx : U[i]? = some x) (hy : V[i]? = some y) :
    P ++ (V.take i ++ (U.drop i ++ (M ++ (U.take i ++ (V.drop i ++ S))))) = (P ++ V.take i) ++ x :: ((U.drop (i + 1) ++ (M ++ U.take i)) ++ y :: (V.drop (i + 1) ++ S)) ∧
    P ++ (V.take (i + 1) ++ (U.drop (i + 1) ++ (M ++ (U.take (i + 1) ++ (V.drop (i + 1) ++ S))))) = (P ++ V.take i) ++ y :: ((U.drop (i + 1) ++ (M ++ U.take i)) ++ x :: (V.drop (i + 1) ++ S)) := by
  have eu : U.drop i = x :: U.drop (i + 1) := by
    rw [List.drop_eq_getElem_cons (List.getElem?_eq_some_iff.1 hx).1, (List.getElem?_eq_some_iff.1 hx).2]
  have ev : V.drop i = y :: V.drop (i + 1) := by
    rw [List.drop_eq_getElem_cons (List.getElem?_eq_some_iff.1 hy).1, (List.getElem?_eq_some_iff.1 hy).2]
  constructor
  · rw [eu, ev]; simp
  · rw [List.take_add_one, List.take_add_one, hx, hy]; simp
set_option maxRecDepth 100000 in
set_option maxHeartbeats 4000000 in
theorem swapI (w : World) (b n cap pa pb k : Nat) (fv : Value) (P U M V S : List EI) (h : RwI w b (P ++ (U ++ (M ++ (V ++ S))))) (hn : n = (P ++ (U ++ (M ++ (V ++ S)))).length) (hm : n ≤ 1000000000000) (ha : pa = P.length) (hb : pb = pa + U.length + M.length) (hk : k = U.length) (hv : V.length = k) :
    Calls Tryz.prog 156 #[.slice (some ⟨b, 0, none⟩) n cap, .int .i64 pa, .int .i64 pb, .int .i64 k, fv] w fun e w' => e = .returned (.tuple #[]) ∧ RwI w' b (P ++ (V ++ (M ++ (U ++ S)))) ∧ Fr (fun c => c = b) w w' := by
  have hlen : n = pa + k + M.length + k + S.length := by simp at hn; omega
  have HN := Lib.hid hlen; have H0 := Lib.hid h
  have HA := Lib.hid ha; have HB := Lib.hid hb; have HK := Lib.hid hk; have HV := Lib.hid hv
  have i1 : (n : Int) ≤ 1000000000000 := by omega
  have i2 : (pa : Int) + k ≤ n := by omega
  have i3 : (pb : Int) + k ≤ n := by omega
  clear h hn hm ha hb hk hv hlen
  go_enter Tryz.func156, Tryz.ntmps156
  go_wp2_with fail
  go_loopw [10] (fun v wr => ∃ i : Nat, i ≤ k ∧ v = .int .i64 i ∧ RwI wr b (P ++ (V.take i ++ (U.drop i ++ (M ++ (U.take i ++ (V.drop i ++ S)))))) ∧ Fr (fun c => c = b) w wr) (fun v _ => k - (intOf v).toNat)
  case atStart => exact ⟨0, Nat.zero_le _, rfl, by simpa using H0.out, Fr.refl _ _⟩
  case round =>
    obtain ⟨i, hi, rfl, hr, hf⟩ := hrel
    by_cases hlt : i < k
    · obtain ⟨x, hx⟩ : ∃ x, U[i]? = some x := ⟨U[i]'(by have := HK.out; omega), List.getElem?_eq_getElem _⟩
      obtain ⟨y, hy⟩ : ∃ y, V[i]? = some y := ⟨V[i]'(by have := HV.out; omega), List.getElem?_eq_getElem _⟩
      obtain ⟨s1, s2⟩ := swp_step (P := P) (M := M) (S := S) hx hy
      rw [s1] at hr
      have e1 : pa + i = (P ++ V.take i).length := by have := HA.out; have := HV.out; simp; omega
      have e2 : pb + i = (P ++ V.take i).length + 1 + (U.drop (i + 1) ++ (M ++ U.take i)).length := by have := HA.out; have := HB.out; have := HK.out; have := HV.out; simp; omega
      have c1 := hr.cell (i := pa + i) (by rw [e1]; exact at_left)
      have c2 := hr.cell (i := pb + i) (by rw [e2]; exact at_right)
      have hsw := hr.swap (i := pa + i) (j := pb + i) e1 e2
      rw [← s2] at hsw
      have hne : pa + i ≠ pb + i := by have := HB.out; have := HK.out; omega
      have f1 := hr.frz (pa + i)
      have f2 := hr.frz (pb + i)
      have hltI : (i : Int) < k := by omega
      have HSW := Lib.hid hsw; have HF := Lib.hid hf; have HNE := Lib.hid hne
      have c3 := (hr.set (i := pa + i) (by rw [e1]; simp) y).cell (i := pb + i) (p := y) (by rw [List.getElem?_set_ne hne, e2]; exact at_right)
      clear hr hf hsw e1 e2 s1 s2 hx hy hne
      obtain ⟨ja, hja⟩ : ∃ j, pa + i = j := ⟨_, rfl⟩
      obtain ⟨jb, hjb⟩ : ∃ j, pb + i = j := ⟨_, rfl⟩
      rw [hja] at c1 f1 HSW HNE c3
      rw [hjb] at c2 f2 HSW HNE c3
      have ta : ((pa : Int) + i).toNat = ja := by omega
      have tb : ((pb : Int) + i).toNat = jb := by omega
      have za : (0 : Int) ≤ (pa : Int) + i := by omega
      have zb : (0 : Int) ≤ (pb : Int) + i := by omega
      have la : (pa : Int) + i < n := by omega
      have lb : (pb : Int) + i < n := by omega
      have ra : IntKind.i64.wrap ((pa : Int) + i) = (pa : Int) + i := IntWalk.i64_in _ (by omega)
      have rb : IntKind.i64.wrap ((pb : Int) + i) = (pb : Int) + i := IntWalk.i64_in _ (by omega)
      clear hja hjb
      go_wp2_with fail
      go_region
      have hfs : Fr (fun c => c = b) wr ((wr.setCell ⟨b, ja, none⟩ (encI y)).setCell ⟨b, jb, none⟩ (encI x)) := ((Fr.refl (fun c => c = b) wr).setCell (p := ⟨b, ja, none⟩) (fun _ => rfl) _).setCell (p := ⟨b, jb, none⟩) (fun _ => rfl) _
      have HFS := Lib.hid (HF.out.trans hfs)
      clear c1 c2 c3 f1 f2 hfs
      generalize (wr.setCell ⟨b, ja, none⟩ (encI y)).setCell ⟨b, jb, none⟩ (encI x) = w3 at HSW HFS ⊢
      go_wp2_with fail
      go_roundw
      case rel => exact ⟨i + 1, by omega, by go_num, HSW.out.fr (S := fun _ => False) (Fr.refl _ w3).drew (fun e => e), HFS.out.drew⟩
      case measure => simp [intOf]; omega
    · obtain rfl : i = k := by omega
      rw [List.take_of_length_le (by have := HV.out; have := HK.out; omega), List.take_of_length_le (by have := HV.out; have := HK.out; omega), List.drop_of_length_le (by have := HV.out; have := HK.out; omega), List.drop_of_length_le (by have := HV.out; have := HK.out; omega), List.nil_append, List.nil_append] at hr
      have HR := Lib.hid hr; have HF := Lib.hid hf
      have hltI : ¬ (i : Int) < i := by omega
      clear hr hf
      go_wp2_with fail
      go_end0
      exact ⟨rfl, HR.out, HF.out⟩
theorem swapX (w : World) (b n cap : Nat) (fv : Value) (P U M V S : List EI) {ia ib ik : Int} (h : RwI w b (P ++ (U ++ (M ++ (V ++ S))))) (hn : n = (P ++ (U ++ (M ++ (V ++ S)))).length) (hm : n ≤ 1000000000000) (ha : ia = (P.length : Int)) (hb : ib = ((P.length + U.length + M.length : Nat) : Int)) (hk : ik = (U.length : Int)) (hv : V.length = U.length) :
    Calls Tryz.prog 156 #[.slice (some ⟨b, 0, none⟩) n cap, .int .i64 ia, .int .i64 ib, .int .i64 ik, fv] w fun e w' => e = .returned (.tuple #[]) ∧ RwI w' b (P ++ (V ++ (M ++ (U ++ S)))) ∧ Fr (fun c => c = b) w w' := by
  subst ha hb hk
  exact swapI w b n cap P.length (P.length + U.length + M.length) U.length fv P U M V S h hn hm rfl rfl rfl hv
theorem split_len {α : Type} (L : List α) {k : Nat} (h : k ≤ L.length) : ∃ A B, L = A ++ B ∧ A.length = k ∧ B.length = L.length - k :=
  ⟨L.take k, L.drop k, (List.take_append_drop k L).symm, by simp; omega, by simp⟩
set_option maxRecDepth 100000 in
set_option maxHeartbeats 4000000 in
theorem rotI (w : World) (b n cap pa pm pb : Nat) (fv : Value) (P A B S : List EI) (h : RwI w b (P ++ (A ++ (B ++ S)))) (hn : n = (P ++ (A ++ (B ++ S))).length) (hm : n ≤ 1000000000000) (ha : pa = P.length) (hpm : pm = pa + A.length) (hb : pb = pm + B.length) (h1 : 0 < A.length) (h2 : 0 < B.length) :
    Calls Tryz.prog 150 #[.slice (some ⟨b, 0, none⟩) n cap, .int .i64 pa, .int .i64 pm, .int .i64 pb, fv] w fun e w' => e = .returned (.tuple #[]) ∧ RwI w' b (P ++ (B ++ (A ++ S))) ∧ Fr (fun c => c = b) w w' := by
  have hlen : n = pa + A.length + B.length + S.length := by simp at hn; omega
  have HN := Lib.hid hn; have HM := Lib.hid hm; have H0 := Lib.hid h; have HA := Lib.hid ha
  obtain ⟨la, hla⟩ : ∃ la, A.length = la := ⟨_, rfl⟩
  obtain ⟨lb, hlb⟩ : ∃ lb, B.length = lb := ⟨_, rfl⟩
  have HPM := Lib.hid hpm; have HPB := Lib.hid hb
  rw [hla] at hlen h1 hpm HPM
  rw [hlb] at hlen h2 hb HPB
  have HLA := Lib.hid hla; have HLB := Lib.hid hlb; have HLEN := Lib.hid hlen
  have i1 : (n : Int) ≤ 1000000000000 := by omega
  have i2 : (pm : Int) ≤ pa + la := by omega
  have i3 : (pa : Int) + la ≤ pm := by omega
  have i4 : (pb : Int) ≤ pm + lb := by omega
  have i5 : (pm : Int) + lb ≤ pb := by omega
  have i6 : (pb : Int) ≤ n := by omega
  clear h hn hm ha hpm hb hla hlb hlen
  go_enter Tryz.func150, Tryz.ntmps150
  go_wp2_with fail
  go_loopw [10, 11] (fun vi vj wr => ∃ (i j : Nat) (P' X Y S' : List EI), vi = .int .i64 i ∧ vj = .int .i64 j ∧ 0 < i ∧ 0 < j ∧ X.length = i ∧ Y.length = j ∧ P'.length + i = pm ∧ pm + j ≤ n ∧ RwI wr b (P' ++ (X ++ (Y ++ S'))) ∧ P' ++ (Y ++ (X ++ S')) = P ++ (B ++ (A ++ S)) ∧ n = (P' ++ (X ++ (Y ++ S'))).length ∧ Fr (fun c => c = b) w wr) (fun vi vj _ => (intOf vi).toNat + (intOf vj).toNat)
  case atStart => exact ⟨la, lb, P, A, B, S, by congr 1; omega, by congr 1; omega, h1, h2, HLA.out, HLB.out, by have := HA.out; omega, by omega, H0.out, rfl, HN.out, Fr.refl _ _⟩
  case round =>
    obtain ⟨i, j, P', X, Y, S', rfl, rfl, hi0, hj0, hX, hY, hP, hjn, hr, hEq, hN, hf⟩ := hrel
    have HX := Lib.hid hX; have HY := Lib.hid hY; have HP := Lib.hid hP; have HEQ := Lib.hid hEq; have HN2 := Lib.hid hN; have HR := Lib.hid hr; have HF := Lib.hid hf
    have g1 : (i : Int) ≤ pm := by omega
    have g2 : (pm : Int) + j ≤ n := by omega
    have g3 : 0 < (i : Int) := by omega
    have g4 : 0 < (j : Int) := by omega
    obtain ⟨qa, hqa⟩ : ∃ q, pm - i = q := ⟨_, rfl⟩
    have q1 : ((qa : Nat) : Int) ≤ pm - i := by omega
    have q2 : (pm : Int) - i ≤ qa := by omega
    clear hX hY hP hEq hN hr hf hqa hjn
    rcases (by omega : i < j ∨ i = j ∨ j < i) with hlt | heq | hgt
    · obtain ⟨Y1, Y2, rfl, hl1, hl2⟩ := split_len Y (k := j - i) (by have := HY.out; omega)
      have hl3 : Y2.length = i := by have := HY.out; omega
      have HL1 := Lib.hid hl1; have HL3 := Lib.hid hl3
      clear hl1 hl2 hl3
      have hltI : (i : Int) < j := by omega
      go_wp2_with fail
      refine (swapX wr b n cap fv P' X Y1 Y2 S' (by have := HR.out; rw [List.append_assoc] at this; exact this) (by have := HN2.out; simp at this ⊢; omega) HM.out (by have := HP.out; omega) (by have := HP.out; have := HX.out; have := HL1.out; omega) (by have := HX.out; omega) (by have := HX.out; have := HL3.out; omega)).mono ?_
      rintro e w3 ⟨rfl, hr3, hf3⟩
      have HR3 := Lib.hid hr3; have HF3 := Lib.hid (HF.out.trans hf3)
      clear hr3 hf3
      go_wp2_with fail
      go_roundw
      case rel => exact ⟨i, j - i, P', Y2, Y1, X ++ S', rfl, by congr 1; omega, by omega, by omega, HL3.out, HL1.out, HP.out, by omega, HR3.out, by rw [← HEQ.out]; simp, by have := HN2.out; simp at this ⊢; omega, HF3.out⟩
      case measure => simp [intOf]; omega
    · subst heq
      go_wp2_with fail
      refine (swapX wr b n cap fv P' X [] Y S' HR.out HN2.out HM.out (by have := HP.out; omega) (by have := HP.out; have := HX.out; simp; omega) (by have := HX.out; omega) (by have := HX.out; have := HY.out; omega)).mono ?_
      rintro e w3 ⟨rfl, hr3, hf3⟩
      have HR3 := Lib.hid hr3; have HF3 := Lib.hid (HF.out.trans hf3)
      clear hr3 hf3
      go_wp2_with fail
      go_end0
      exact ⟨rfl, by have := HR3.out; rw [← HEQ.out]; exact this, HF3.out⟩
    · obtain ⟨X1, X2, rfl, hl1, hl2⟩ := split_len X (k := j) (by have := HX.out; omega)
      have hl3 : X2.length = i - j := by have := HX.out; omega
      have HL1 := Lib.hid hl1; have HL3 := Lib.hid hl3
      clear hl1 hl2 hl3
      have hltI : (j : Int) < i := by omega
      go_wp2_with fail
      refine (swapX wr b n cap fv P' X1 X2 Y S' (by have := HR.out; rw [List.append_assoc] at this; exact this) (by have := HN2.out; simp at this ⊢; omega) HM.out (by have := HP.out; omega) (by have := HP.out; have := HL1.out; have := HL3.out; omega) (by have := HL1.out; omega) (by have := HL1.out; have := HY.out; omega)).mono ?_
      rintro e w3 ⟨rfl, hr3, hf3⟩
      have HR3 := Lib.hid hr3; have HF3 := Lib.hid (HF.out.trans hf3)
      clear hr3 hf3
      go_wp2_with fail
      go_roundw
      case rel => exact ⟨i - j, j, P' ++ Y, X2, X1, S', by congr 1; omega, rfl, by omega, by omega, HL3.out, HL1.out, by have := HP.out; have := HY.out; simp; omega, by omega, by have := HR3.out; rw [List.append_assoc]; exact this, by rw [← HEQ.out]; simp, by have := HN2.out; simp at this ⊢; omega, HF3.out⟩
      case measure => simp [intOf]; omega
end Go.Proofs.YtlniekobijcanaaGreat
namespace Go.Proofs.YtlniekobijcanaaGreat
open Go.RowKit
/-- What the comparison says of one that stands right of another. -/
def Rgt (cf : Int → Int → Int) (T : EI → EI → Bool) (p q : EI) : Prop := decide (cf p.1 q.1 < 0) = T p q ∧ (T p q = false → T q p = true) ∧ (-1 ≤ cf p.1 q.1 ∧ cf p.1 q.1 ≤ 1)
/-- The comparison, called while only block b has turned (where cf says less than -1 or more than 1 nothing is known of it). -/
def CmpI (g : Nat) (cb : Array Value) (cf : Int → Int → Int) (b : Nat) (w : World) : Prop :=
  ∀ (W : World) (x y : Int), Fr (fun c => c = b) w W → (-1 ≤ cf x y ∧ cf x y ≤ 1) → Calls Tryz.prog g (#[.int .i64 x, .int .i64 y] ++ cb) W fun e w' => e = .returned (.int .i64 (cf x y)) ∧ Fr (fun _ => False) W w'
theorem CmpI.fr {g : Nat} {cb : Array Value} {cf : Int → Int → Int} {b : Nat} {w w' : World} (h : CmpI g cb cf b w) (hf : Fr (fun c => c = b) w w') : CmpI g cb cf b w' := fun W x y hw => h W x y (hf.trans hw)
theorem ins_perm {A Z Z1 Z2 : List EI} {k : Nat} {x : EI} (hp : Z.Perm (A.take k)) (hz : Z1 ++ Z2 = Z) (hx : A[k]? = some x) : (Z1 ++ x :: Z2).Perm (A.take (k + 1)) := by
  rw [List.take_add_one, hx]
  refine List.perm_middle.trans ?_
  rw [hz]
  exact (List.Perm.cons x hp).trans (List.perm_append_comm (l₁ := [x]))
set_option maxRecDepth 100000 in
set_option maxHeartbeats 8000000 in
theorem insI (w : World) (b n cap g : Nat) (cb : Array Value) (cf : Int → Int → Int) (T : EI → EI → Bool) (P A S : List EI) {ia ib : Int} (eg : ∀ args w, (callFunc g args).run Tryz.prog w = .ok (.enter g args) w)
    (h : RwI w b (P ++ (A ++ S))) (hn : n = (P ++ (A ++ S)).length) (hm : n ≤ 1000000000000) (ha : ia = (P.length : Int)) (hb : ib = ((P.length + A.length : Nat) : Int)) (tr : ∀ a b c, T a b = true → T b c = true → T a c = true)
    (hR : A.Pairwise (fun q p => Rgt cf T p q)) (hc : CmpI g cb cf b w) :
    Calls Tryz.prog 137 #[.slice (some ⟨b, 0, none⟩) n cap, .int .i64 ia, .int .i64 ib, .func (.func g) #[] cb] w fun e w' => e = .returned (.tuple #[]) ∧ ∃ Z, RwI w' b (P ++ (Z ++ S)) ∧ Srt T Z ∧ Z.Perm A ∧ Fr (fun c => c = b) w w' := by
  obtain ⟨pa, hpa⟩ : ∃ pa, P.length = pa := ⟨_, rfl⟩
  obtain ⟨la, hla⟩ : ∃ la, A.length = la := ⟨_, rfl⟩
  have hlen : n = pa + la + S.length := by simp at hn; omega
  rw [hpa] at ha hb
  rw [hla] at hb
  subst ha hb
  have H0 := Lib.hid h; have HM := Lib.hid hm; have HPA := Lib.hid hpa; have HLA := Lib.hid hla; have HRR := Lib.hid hR; have HC := Lib.hid hc; have HTR := Lib.hid tr
  have i1 : (n : Int) ≤ 1000000000000 := by omega
  have i2 : (pa : Int) + la ≤ n := by omega
  clear h hn hm hpa hla hR hc tr hlen
  go_enter Tryz.func137, Tryz.ntmps137
  go_wp2_with fail
  go_loopw [8] (fun v wr => ∃ (k : Nat) (Z : List EI), v = .int .i64 ((pa : Int) + k) ∧ 1 ≤ k ∧ k ≤ la + 1 ∧ RwI wr b (P ++ (Z ++ (A.drop k ++ S))) ∧ Srt T Z ∧ Z.Perm (A.take k) ∧ Fr (fun c => c = b) w wr) (fun v _ => (pa + la + 1) - (intOf v).toNat)
  case atStart =>
    refine ⟨1, A.take 1, by simp, by omega, by omega, ?_, ?_, List.Perm.refl _, Fr.refl _ _⟩
    · have := H0.out
      rw [← List.append_assoc (A.take 1), List.take_append_drop]; exact this
    · cases A with
      | nil => exact Srt.nil
      | cons x r => exact List.pairwise_singleton _ _
  case round =>
    obtain ⟨k, Z, rfl, hk1, hk2, hr, hz, hp, hf⟩ := hrel
    have HR := Lib.hid hr; have HZ := Lib.hid hz; have HP := Lib.hid hp; have HF := Lib.hid hf
    clear hr hz hp hf
    by_cases hlt : k < la
    · obtain ⟨x, hx⟩ : ∃ x, A[k]? = some x := ⟨A[k]'(by rw [HLA.out]; exact hlt), List.getElem?_eq_getElem _⟩
      have hdr : A.drop k = x :: A.drop (k + 1) := by
        rw [List.drop_eq_getElem_cons (List.getElem?_eq_some_iff.1 hx).1, (List.getElem?_eq_some_iff.1 hx).2]
      have hrt : Hid (∀ z ∈ Z, Rgt cf T x z) := Lib.hid (fun z hz => by
        have h1 := HP.out.mem_iff.1 hz
        have h2 := HRR.out
        rw [← List.take_append_drop k A, hdr] at h2
        exact (List.pairwise_append.1 h2).2.2 z h1 x (List.mem_cons_self ..))
      have hzl : Hid (Z.length = k) := Lib.hid (by rw [HP.out.length_eq, List.length_take, HLA.out]; omega)
      obtain ⟨Q, hQ⟩ : ∃ Q, A.drop (k + 1) ++ S = Q := ⟨_, rfl⟩
      have HR2 : Hid (RwI wr b (P ++ (Z ++ x :: Q))) := Lib.hid (by have := HR.out; rw [hdr, List.cons_append, hQ] at this; exact this)
      have HX := Lib.hid hx; have HQ := Lib.hid hQ
      have hltI : (pa : Int) + k < pa + la := by omega
      clear hx hdr hQ HR
      obtain ⟨wo, rfl⟩ : ∃ wo : World, wo = wr := ⟨_, rfl⟩
      go_wp2_with fail
      go_loopw [9] (fun v wi => ∃ (j : Nat) (Z1 Z2 : List EI), v = .int .i64 j ∧ j = pa + Z1.length ∧ Z1 ++ Z2 = Z ∧ RwI wi b (P ++ (Z1 ++ x :: (Z2 ++ Q))) ∧ (∀ z ∈ Z2, T x z = true) ∧ Fr (fun c => c = b) w wi) (fun v _ => (intOf v).toNat)
      case atStart => exact ⟨pa + k, Z, [], by first | rfl | (congr 1; done) | (congr 1; omega), by rw [hzl.out], by simp, HR2.out, (fun z hz => absurd hz (by simp)), HF.out⟩
      case round =>
        obtain ⟨j, Z1, Z2, rfl, hj, hzz, hri, hz2, hfi⟩ := hrel
        have HZZ := Lib.hid hzz; have HRI := Lib.hid hri; have HZ2 := Lib.hid hz2; have HFI := Lib.hid hfi
        clear hzz hri hz2 hfi
        rcases List.eq_nil_or_concat Z1 with rfl | ⟨W, y, hW⟩
        · obtain rfl : j = pa := by simpa using hj
          have d1 : decide ((j : Int) < (j : Int)) = false := by simp
          clear hj
          go_wp2_with fail
          refine wp_region_fr (by kernel_rfl) (by kernel_rfl) ?_
          repeat (go_big_quiet_step (fail))
          refine wpQuiet_nil ?_
          rintro V ⟨⟨_, hV⟩, rfl⟩
          go_wp2_with fail
          have hr' := HRI.out.fr hV (fun e => e)
          go_roundw
          case rel =>
            refine ⟨k + 1, x :: Z2, by first | rfl | (congr 1; done) | (congr 1; omega), by omega, by omega, ?_, ?_, ins_perm (Z1 := []) HP.out HZZ.out HX.out, HFI.out.trans (hV.mono (fun _ _ e => e.elim))⟩
            · have := hr'; rw [← HQ.out] at this; simpa using this
            · exact ins_done (Z1 := []) HTR.out (by rw [HZZ.out]; exact HZ.out) HZ2.out (fun W y e => absurd e (by simp))
          case measure => first | (simp [intOf]; done) | (simp [intOf]; omega)
        · rw [List.concat_eq_append] at hW
          subst hW
          obtain ⟨q, hq⟩ : ∃ q, pa + W.length = q := ⟨_, rfl⟩
          have hjq : j = q + 1 := by rw [hj]; simp; omega
          have hrow : RwI wr b ((P ++ W) ++ y :: ([] ++ x :: (Z2 ++ Q))) := by have := HRI.out; simpa using this
          have e1 : q = (P ++ W).length := by have := HPA.out; simp; omega
          have hry : Rgt cf T x y := hrt.out y (by rw [← HZZ.out]; simp)
          have HDM := Lib.hid hry.2.2
          have c1 := hrow.cell (i := q) (by rw [e1]; exact at_left)
          have c2 := hrow.cell (i := q + 1) (by rw [e1]; exact at_right (B := []))
          have p1 := FrW.cell c1
          have p2 := FrW.cell c2
          have hqn : (q : Int) + 1 < n := by have := HRR; have h3 := hzl.out; rw [← HZZ.out] at h3; simp at h3; omega
          have HROW := Lib.hid hrow; have HE1 := Lib.hid e1; have HQQ := Lib.hid hq
          have hpq : (pa : Int) ≤ q := by omega
          subst hjq
          clear hj hq hrow e1 c1 c2 HRI
          have hjad : decide ((pa : Int) < (q : Int) + 1) = true := decide_eq_true (by omega)
          have ta : ((q : Int) + 1).toNat = q + 1 := by omega
          have tb : ((q : Int)).toNat = q := by omega
          obtain ⟨jb, hjb⟩ : ∃ jb, q + 1 = jb := ⟨_, rfl⟩
          rw [hjb] at ta p2
          have HJB := Lib.hid hjb
          clear hjb
          have ra : IntKind.i64.wrap ((q : Int) + 1) = (q : Int) + 1 := IntWalk.i64_in _ (by omega)
          cases hT : T x y with
          | true =>
            have hv : decide (cf x.1 y.1 < 0) = true := hry.1.trans hT
            go_wp2_with fail
            refine wp_region_fr (by kernel_rfl) (by kernel_rfl) ?_
            repeat (go_big_quiet_step ((go_at_fn g; rename_i X; refine (HC.out _ _ _ (HFI.out.trans (X.fr.mono (fun _ _ e => e.elim))) HDM.out).mono ?_; rintro e w2 ⟨rfl, hF⟩; exact ⟨rfl, ⟨w2, X.fr.trans hF⟩, rfl⟩)))
            refine wpQuiet_nil ?_
            rintro V ⟨⟨_, hV⟩, rfl⟩
            have hr' := HROW.out.fr hV (fun e => e)
            have HFV := Lib.hid (HFI.out.trans (hV.mono (fun _ _ e => e.elim)))
            have c1 := hr'.cell (i := q) (by rw [HE1.out]; exact at_left)
            have c2 := hr'.cell (i := q + 1) (by rw [HE1.out]; exact at_right (B := []))
            have c3 := (hr'.set (i := q + 1) (by rw [HE1.out]; simp; omega) y).cell (i := q) (p := y) (by rw [List.getElem?_set_ne (by omega), HE1.out]; exact at_left)
            have hsw := hr'.swap' (i := q) (j := q + 1) HE1.out (by rw [HE1.out]; rfl)
            have f1 := hr'.frz q
            have f2 := hr'.frz (q + 1)
            rw [HJB.out] at c2 c3 hsw f2
            have HSW := Lib.hid hsw
            have HNE : Hid (q ≠ jb) := Lib.hid (by have := HJB.out; omega)
            clear hsw hV hr' p1 p2 hjad
            have za : (0 : Int) ≤ (q : Int) + 1 := by omega
            have rb : IntKind.i64.wrap (q : Int) = (q : Int) := IntWalk.i64_in _ (by omega)
            have lb : (q : Int) < n := by omega
            go_wp2_with fail
            go_region
            have hfs : Fr (fun c => c = b) V ((V.setCell ⟨b, jb, none⟩ (encI y)).setCell ⟨b, q, none⟩ (encI x)) := ((Fr.refl (fun c => c = b) V).setCell (p := ⟨b, jb, none⟩) (fun _ => rfl) _).setCell (p := ⟨b, q, none⟩) (fun _ => rfl) _
            have HFS := Lib.hid (HFV.out.trans hfs)
            clear c1 c2 c3 f1 f2 hfs
            generalize (V.setCell ⟨b, jb, none⟩ (encI y)).setCell ⟨b, q, none⟩ (encI x) = w3 at HSW HFS ⊢
            go_wp2_with fail
            go_roundw
            case rel => exact ⟨q, W, y :: Z2, by first | rfl | (congr 1; done) | (congr 1; omega), HQQ.out.symm, by rw [← HZZ.out]; simp, by have := HSW.out.fr (S := fun _ => False) (Fr.refl _ w3).drew (fun e => e); simpa using this, (fun z hz => (List.mem_cons.1 hz).elim (fun e => e ▸ hT) (fun h => HZ2.out z h)), HFS.out.drew⟩
            case measure => first | (simp [intOf]; done) | (simp [intOf]; omega)
          | false =>
            have hv : decide (cf x.1 y.1 < 0) = false := hry.1.trans hT
            have hyx := hry.2.1 hT
            go_wp2_with fail
            refine wp_region_fr (by kernel_rfl) (by kernel_rfl) ?_
            repeat (go_big_quiet_step ((go_at_fn g; rename_i X; refine (HC.out _ _ _ (HFI.out.trans (X.fr.mono (fun _ _ e => e.elim))) HDM.out).mono ?_; rintro e w2 ⟨rfl, hF⟩; exact ⟨rfl, ⟨w2, X.fr.trans hF⟩, rfl⟩)))
            refine wpQuiet_nil ?_
            rintro V ⟨⟨_, hV⟩, rfl⟩
            have hr' := HROW.out.fr hV (fun e => e)
            have HR' := Lib.hid hr'
            have HFV := Lib.hid (HFI.out.trans (hV.mono (fun _ _ e => e.elim)))
            clear hr' hV p1 p2
            go_wp2_with fail
            go_roundw
            case rel =>
              refine ⟨k + 1, (W ++ [y]) ++ x :: Z2, by first | rfl | (congr 1; done) | (congr 1; omega), by omega, by omega, ?_, ?_, ins_perm HP.out HZZ.out HX.out, HFV.out⟩
              · have := HR'.out; rw [← HQ.out] at this; simpa using this
              · refine ins_done HTR.out (by rw [HZZ.out]; exact HZ.out) HZ2.out (fun W' y' e => ?_)
                have := List.append_inj_right' e rfl
                injection this with this
                rw [← this]; exact hyx
            case measure => first | (simp [intOf]; done) | (simp [intOf]; omega)
    · have hltI : ¬ (pa : Int) + k < pa + la := by omega
      have hek : A.take k = A ∧ A.drop k = [] := ⟨List.take_of_length_le (by rw [HLA.out]; omega), List.drop_of_length_le (by rw [HLA.out]; omega)⟩
      have HEK := Lib.hid hek
      clear hek
      go_wp2_with fail
      go_end0
      exact ⟨rfl, Z, by have := HR.out; rw [HEK.out.2] at this; exact this, HZ.out, by have := HP.out; rw [HEK.out.1] at this; exact this, HF.out⟩
end Go.Proofs.YtlniekobijcanaaGreat
namespace Go.Proofs.YtlniekobijcanaaGreat
open Go.RowKit
theorem lo_step {T : EI → EI → Bool} {B : List EI} {k : Nat} {x y : EI} (tr : ∀ a b c, T a b = true → T b c = true → T a c = true) (hB : Srt T B) (hy : B[k]? = some y) (h : T y x = true) : ∀ z ∈ B.take (k + 1), T z x = true := by
  intro z hz
  rw [List.take_add_one, hy] at hz
  rcases List.mem_append.1 hz with hz | hz
  · have hd : B.drop k = y :: B.drop (k + 1) := by rw [List.drop_eq_getElem_cons (List.getElem?_eq_some_iff.1 hy).1, (List.getElem?_eq_some_iff.1 hy).2]
    have hs := hB
    rw [← List.take_append_drop k B, hd] at hs
    exact tr _ _ _ (hs.cross z hz y (List.mem_cons_self ..)) h
  · have : z = y := by simpa using hz
    rw [this]; exact h
theorem up_step {T : EI → EI → Bool} {B : List EI} {k : Nat} {x y : EI} (tr : ∀ a b c, T a b = true → T b c = true → T a c = true) (hB : Srt T B) (hy : B[k]? = some y) (h : T x y = true) : ∀ z ∈ B.drop k, T x z = true := by
  intro z hz
  have hd : B.drop k = y :: B.drop (k + 1) := by rw [List.drop_eq_getElem_cons (List.getElem?_eq_some_iff.1 hy).1, (List.getElem?_eq_some_iff.1 hy).2]
  rw [hd] at hz
  rcases List.mem_cons.1 hz with rfl | hz
  · exact h
  · have hs := hB
    rw [← List.take_append_drop k B, hd] at hs
    exact tr _ _ _ h ((List.pairwise_cons.1 hs.right).1 z hz)
set_option maxRecDepth 100000 in
set_option maxHeartbeats 8000000 in
theorem symI1 (w : World) (b n cap g : Nat) (cb : Array Value) (cf : Int → Int → Int) (T : EI → EI → Bool) (P B S : List EI) (x : EI) {ia im ib : Int} (eg : ∀ args w, (callFunc g args).run Tryz.prog w = .ok (.enter g args) w)
    (h : RwI w b (P ++ (x :: (B ++ S)))) (hn : n = (P ++ (x :: (B ++ S))).length) (hm : n ≤ 1000000000000) (ha : ia = (P.length : Int)) (hpm : im = ((P.length + 1 : Nat) : Int)) (hb : ib = ((P.length + 1 + B.length : Nat) : Int)) (tr : ∀ a b c, T a b = true → T b c = true → T a c = true)
    (hB : Srt T B) (hR : ∀ p ∈ B, Rgt cf T p x) (hc : CmpI g cb cf b w) :
    Calls Tryz.prog 138 #[.slice (some ⟨b, 0, none⟩) n cap, .int .i64 ia, .int .i64 im, .int .i64 ib, .func (.func g) #[] cb] w fun e w' => e = .returned (.tuple #[]) ∧ ∃ Z, RwI w' b (P ++ (Z ++ S)) ∧ Srt T Z ∧ Z.Perm (x :: B) ∧ Fr (fun c => c = b) w w' := by
  obtain ⟨pa, hpa⟩ : ∃ pa, P.length = pa := ⟨_, rfl⟩
  obtain ⟨lb, hlb⟩ : ∃ lb, B.length = lb := ⟨_, rfl⟩
  have hlen : n = pa + 1 + lb + S.length := by simp at hn; omega
  rw [hpa] at ha hb hpm
  rw [hlb] at hb
  subst ha hb hpm
  have H0 := Lib.hid h; have HM := Lib.hid hm; have HPA := Lib.hid hpa; have HLB := Lib.hid hlb; have HRR := Lib.hid hR; have HC := Lib.hid hc; have HTR := Lib.hid tr; have HSB := Lib.hid hB
  have i1 : (n : Int) ≤ 1000000000000 := by omega
  have i2 : (pa : Int) + 1 + lb ≤ n := by omega
  have b1 : (((pa + 1 : Nat) : Int) - (pa : Int) == 1) = true := by simp; omega
  clear h hn hm hpa hlb hR hc tr hlen hB
  go_enter Tryz.func138, Tryz.ntmps138
  go_wp2_with fail
  go_loopw [10, 11] (fun vi vj wr => ∃ i j : Nat, vi = .int .i64 ((pa : Int) + 1 + i) ∧ vj = .int .i64 ((pa : Int) + 1 + j) ∧ i ≤ j ∧ j ≤ lb ∧ (∀ y ∈ B.take i, T y x = true) ∧ (∀ y ∈ B.drop j, T x y = true) ∧ Fr (fun _ => False) w wr) (fun vi vj _ => (intOf vj - intOf vi).toNat)
  case atStart => exact ⟨0, lb, by simp, by first | rfl | (congr 1; done) | (congr 1; omega), by omega, Nat.le_refl _, (fun y hy => absurd hy (by simp)), (fun y hy => absurd hy (by rw [List.drop_of_length_le (by rw [HLB.out]; exact Nat.le_refl _)]; simp)), Fr.refl _ _⟩
  case round =>
    obtain ⟨i, j, rfl, rfl, hij, hjl, hlo, hup, hf⟩ := hrel
    have HLO := Lib.hid hlo; have HUP := Lib.hid hup; have HF := Lib.hid hf
    clear hlo hup hf
    by_cases hlt : i < j
    · have hltI : (pa : Int) + 1 + i < (pa : Int) + 1 + j := by omega
      obtain ⟨hh, hhh⟩ : ∃ q, (i + j) / 2 = q := ⟨_, rfl⟩
      have hq1 : i ≤ hh := by omega
      have hq2 : hh < j := by omega
      have he : ((pa : Int) + 1 + i + ((pa : Int) + 1 + j)) / 2 = (pa : Int) + 1 + hh := by omega
      obtain ⟨y, hy⟩ : ∃ y, B[hh]? = some y := ⟨B[hh]'(by rw [HLB.out]; omega), List.getElem?_eq_getElem _⟩
      have hrw := H0.out.fr HF.out (fun e => e)
      have c1 := FrW.cell (hrw.cell (i := pa) (by rw [← HPA.out]; exact at_left))
      have hat : (P ++ (x :: (B ++ S)))[pa + 1 + hh]? = some y := by
        rw [List.getElem?_append_right (by rw [HPA.out]; omega), HPA.out, show pa + 1 + hh - pa = hh + 1 by omega, List.getElem?_cons_succ, List.getElem?_append_left (by rw [HLB.out]; omega)]
        exact hy
      have c2 := FrW.cell (hrw.cell hat)
      obtain ⟨q, hq⟩ : ∃ q, pa + 1 + hh = q := ⟨_, rfl⟩
      rw [hq] at c2
      have tq : ((pa : Int) + 1 + hh).toNat = q := by omega
      have zq : (0 : Int) ≤ (pa : Int) + 1 + hh := by omega
      have lq : (pa : Int) + 1 + hh < n := by omega
      have lp : (pa : Int) < n := by omega
      have hry := HRR.out y (List.mem_of_getElem? hy)
      have HDM := Lib.hid hry.2.2
      have HY := Lib.hid hy
      clear hrw hat hq hhh hy
      cases hT : T y x with
      | true =>
        have hv : decide (cf y.1 x.1 < 0) = true := hry.1.trans hT
        have hnx : Hid (∀ z ∈ B.take (hh + 1), T z x = true) := Lib.hid (lo_step HTR.out HSB.out HY.out hT)
        clear hry
        go_wp2_with fail
        refine wp_region_fr (by kernel_rfl) (by kernel_rfl) ?_
        repeat (go_big_quiet_step ((go_at_fn g; rename_i X; refine (HC.out _ _ _ ((HF.out.mono (fun _ _ e => e.elim)).trans (X.fr.mono (fun _ _ e => e.elim))) HDM.out).mono ?_; rintro e w2 ⟨rfl, hF⟩; exact ⟨rfl, ⟨w2, X.fr.trans hF⟩, rfl⟩)))
        refine wpQuiet_nil ?_
        rintro V ⟨⟨_, hV⟩, rfl⟩
        go_wp2_with fail
        go_roundw
        case rel => exact ⟨hh + 1, j, by first | rfl | (congr 1; done) | (congr 1; omega), rfl, by omega, hjl, hnx.out, HUP.out, HF.out.trans hV⟩
        case measure => simp [intOf]; omega
      | false =>
        have hv : decide (cf y.1 x.1 < 0) = false := hry.1.trans hT
        have hnx : Hid (∀ z ∈ B.drop hh, T x z = true) := Lib.hid (up_step HTR.out HSB.out HY.out (hry.2.1 hT))
        clear hry
        go_wp2_with fail
        refine wp_region_fr (by kernel_rfl) (by kernel_rfl) ?_
        repeat (go_big_quiet_step ((go_at_fn g; rename_i X; refine (HC.out _ _ _ ((HF.out.mono (fun _ _ e => e.elim)).trans (X.fr.mono (fun _ _ e => e.elim))) HDM.out).mono ?_; rintro e w2 ⟨rfl, hF⟩; exact ⟨rfl, ⟨w2, X.fr.trans hF⟩, rfl⟩)))
        refine wpQuiet_nil ?_
        rintro V ⟨⟨_, hV⟩, rfl⟩
        go_wp2_with fail
        go_roundw
        case rel => exact ⟨i, hh, rfl, by first | rfl | (congr 1; done) | (congr 1; omega), by omega, by omega, HLO.out, hnx.out, HF.out.trans hV⟩
        case measure => simp [intOf]; omega
    · obtain rfl : i = j := by omega
      have hltI : ¬ (pa : Int) + 1 + i < (pa : Int) + 1 + i := by omega
      obtain ⟨B1, B2, hBB, hl1, hl2⟩ := split_len B (k := i) (by rw [HLB.out]; omega)
      have e1 : B.take i = B1 := by rw [hBB, ← hl1, List.take_left]
      have e2 : B.drop i = B2 := by rw [hBB, ← hl1, List.drop_left]
      have HLO2 := Lib.hid (e1 ▸ HLO.out); have HUP2 := Lib.hid (e2 ▸ HUP.out)
      have HBB := Lib.hid hBB; have HL1 := Lib.hid hl1
      have hr0 : RwI wr b (P ++ (x :: (B1 ++ (B2 ++ S)))) := by have := H0.out.fr HF.out (fun e => e); rw [hBB, List.append_assoc] at this; exact this
      have HR0 := Lib.hid hr0
      clear e1 e2 hBB hl1 hl2 hr0 HLO HUP
      go_wp2_with fail
      clear hltI
      go_loopw [13] (fun v wr => ∃ t : Nat, v = .int .i64 ((pa : Int) + t) ∧ t ≤ i ∧ RwI wr b (P ++ (B1.take t ++ (x :: (B1.drop t ++ (B2 ++ S))))) ∧ Fr (fun c => c = b) w wr) (fun v _ => ((pa : Int) + i - intOf v).toNat)
      case atStart => exact ⟨0, by simp, Nat.zero_le _, HR0.out, HF.out.mono (fun _ _ e => e.elim)⟩
      case round =>
        obtain ⟨t, rfl, hti, hr, hf⟩ := hrel
        have HR := Lib.hid hr; have HF2 := Lib.hid hf
        clear hr hf
        by_cases hlt : t < i
        · obtain ⟨y, hy⟩ : ∃ y, B1[t]? = some y := ⟨B1[t]'(by rw [HL1.out]; exact hlt), List.getElem?_eq_getElem _⟩
          have hdr : B1.drop t = y :: B1.drop (t + 1) := by rw [List.drop_eq_getElem_cons (List.getElem?_eq_some_iff.1 hy).1, (List.getElem?_eq_some_iff.1 hy).2]
          have htk : B1.take (t + 1) = B1.take t ++ [y] := by rw [List.take_add_one, hy]; rfl
          have hrow : RwI wr b ((P ++ B1.take t) ++ x :: ([] ++ y :: (B1.drop (t + 1) ++ (B2 ++ S)))) := by have := HR.out; rw [hdr] at this; simpa using this
          have e1 : pa + t = (P ++ B1.take t).length := by have := HPA.out; have := HL1.out; simp; omega
          have c1 := hrow.cell (i := pa + t) (by rw [e1]; exact at_left)
          have c2 := hrow.cell (i := pa + t + 1) (by rw [e1]; exact at_right (B := []))
          have c3 := (hrow.set (i := pa + t) (by rw [e1]; simp) y).cell (i := pa + t + 1) (p := y) (by rw [List.getElem?_set_ne (by omega), e1]; exact at_right (B := []))
          have hsw := hrow.swap (i := pa + t) (j := pa + t + 1) e1 (by rw [e1]; rfl)
          have f1 := hrow.frz (pa + t)
          have f2 := hrow.frz (pa + t + 1)
          obtain ⟨q, hq⟩ : ∃ q, pa + t = q := ⟨_, rfl⟩
          rw [hq] at c1 c2 c3 hsw f1 f2
          obtain ⟨q2, hq2⟩ : ∃ q2, q + 1 = q2 := ⟨_, rfl⟩
          rw [hq2] at c2 c3 hsw f2
          have HSW := Lib.hid hsw; have HTK := Lib.hid htk
          have t1 : ((pa : Int) + t).toNat = q := by omega
          have t2 : ((pa : Int) + t + 1).toNat = q2 := by omega
          have z1 : (0 : Int) ≤ (pa : Int) + t := by omega
          have z2 : (0 : Int) ≤ (pa : Int) + t + 1 := by omega
          have l1 : (pa : Int) + t < n := by omega
          have l2 : (pa : Int) + t + 1 < n := by omega
          have r1 : IntKind.i64.wrap ((pa : Int) + t) = (pa : Int) + t := IntWalk.i64_in _ (by omega)
          have r2 : IntKind.i64.wrap ((pa : Int) + t + 1) = (pa : Int) + t + 1 := IntWalk.i64_in _ (by omega)
          have hltI : (pa : Int) + t < (pa : Int) + 1 + i - 1 := by omega
          clear hrow hsw e1 hdr htk hy hq hq2
          go_wp2_with fail
          go_region
          have hfs : Fr (fun c => c = b) wr ((wr.setCell ⟨b, q, none⟩ (encI y)).setCell ⟨b, q2, none⟩ (encI x)) := ((Fr.refl (fun c => c = b) wr).setCell (p := ⟨b, q, none⟩) (fun _ => rfl) _).setCell (p := ⟨b, q2, none⟩) (fun _ => rfl) _
          have HFS := Lib.hid (HF2.out.trans hfs)
          clear c1 c2 c3 f1 f2 hfs
          generalize (wr.setCell ⟨b, q, none⟩ (encI y)).setCell ⟨b, q2, none⟩ (encI x) = w3 at HSW HFS ⊢
          go_wp2_with fail
          go_roundw
          case rel => exact ⟨t + 1, by first | rfl | (congr 1; done) | (congr 1; omega), by omega, by have := HSW.out.fr (S := fun _ => False) (Fr.refl _ w3).drew (fun e => e); rw [HTK.out]; simpa using this, HFS.out.drew⟩
          case measure => simp [intOf]; omega
        · obtain rfl : t = i := by omega
          have hltI : ¬ (pa : Int) + t < (pa : Int) + 1 + t - 1 := by omega
          have e1 : B1.take t = B1 ∧ B1.drop t = [] := ⟨List.take_of_length_le (by rw [HL1.out]; exact Nat.le_refl _), List.drop_of_length_le (by rw [HL1.out]; exact Nat.le_refl _)⟩
          have HE1 := Lib.hid e1
          clear e1
          go_wp2_with fail
          refine bodyPost_ret (v := .tuple #[]) (by simp [results, Tryz.results138, go_sem]) rfl ?_
          refine ⟨rfl, B1 ++ x :: B2, ?_, ?_, ?_, HF2.out⟩
          · have := HR.out; rw [HE1.out.1, HE1.out.2] at this; simpa using this
          · refine ins_done HTR.out (by rw [← HBB.out]; exact HSB.out) HUP2.out (fun W y e => HLO2.out y (by rw [e]; simp))
          · rw [HBB.out]; exact List.perm_middle
end Go.Proofs.YtlniekobijcanaaGreat
namespace Go.Proofs.YtlniekobijcanaaGreat
open Go.RowKit
set_option maxRecDepth 100000 in
set_option maxHeartbeats 8000000 in
theorem symI2 (w : World) (b n cap g : Nat) (cb : Array Value) (cf : Int → Int → Int) (T : EI → EI → Bool) (P A S : List EI) (y : EI) {ia im ib : Int} (eg : ∀ args w, (callFunc g args).run Tryz.prog w = .ok (.enter g args) w)
    (h : RwI w b (P ++ (A ++ (y :: S)))) (hn : n = (P ++ (A ++ (y :: S))).length) (hm : n ≤ 1000000000000) (ha : ia = (P.length : Int)) (hpm : im = ((P.length + A.length : Nat) : Int)) (hb : ib = ((P.length + A.length + 1 : Nat) : Int)) (h2 : 2 ≤ A.length) (tr : ∀ a b c, T a b = true → T b c = true → T a c = true)
    (hA : Srt T A) (hR : ∀ q ∈ A, Rgt cf T y q) (hc : CmpI g cb cf b w) :
    Calls Tryz.prog 138 #[.slice (some ⟨b, 0, none⟩) n cap, .int .i64 ia, .int .i64 im, .int .i64 ib, .func (.func g) #[] cb] w fun e w' => e = .returned (.tuple #[]) ∧ ∃ Z, RwI w' b (P ++ (Z ++ S)) ∧ Srt T Z ∧ Z.Perm (A ++ [y]) ∧ Fr (fun c => c = b) w w' := by
  obtain ⟨pa, hpa⟩ : ∃ pa, P.length = pa := ⟨_, rfl⟩
  obtain ⟨la, hla⟩ : ∃ la, A.length = la := ⟨_, rfl⟩
  have hlen : n = pa + la + 1 + S.length := by simp at hn; omega
  rw [hpa] at ha hb hpm
  rw [hla] at hb hpm h2
  subst ha hb hpm
  have H0 := Lib.hid h; have HM := Lib.hid hm; have HPA := Lib.hid hpa; have HLA := Lib.hid hla; have HRR := Lib.hid hR; have HC := Lib.hid hc; have HTR := Lib.hid tr; have HSA := Lib.hid hA
  have i1 : (n : Int) ≤ 1000000000000 := by omega
  have i2 : (pa : Int) + la + 1 ≤ n := by omega
  have b1 : (((pa + la : Nat) : Int) - (pa : Int) == 1) = false := by simp; omega
  have b2 : (((pa + la + 1 : Nat) : Int) - ((pa + la : Nat) : Int) == 1) = true := by simp; omega
  clear h hn hm hpa hla hR hc tr hlen hA
  go_enter Tryz.func138, Tryz.ntmps138
  go_wp2_with fail
  go_loopw [14, 15] (fun vi vj wr => ∃ i j : Nat, vi = .int .i64 ((pa : Int) + i) ∧ vj = .int .i64 ((pa : Int) + j) ∧ i ≤ j ∧ j ≤ la ∧ (∀ z ∈ A.take i, T z y = true) ∧ (∀ z ∈ A.drop j, T y z = true) ∧ Fr (fun _ => False) w wr) (fun vi vj _ => (intOf vj - intOf vi).toNat)
  case atStart => exact ⟨0, la, by simp, by first | rfl | (congr 1; done) | (congr 1; omega), by omega, Nat.le_refl _, (fun y hy => absurd hy (by simp)), (fun y hy => absurd hy (by rw [List.drop_of_length_le (by rw [HLA.out]; exact Nat.le_refl _)]; simp)), Fr.refl _ _⟩
  case round =>
    obtain ⟨i, j, rfl, rfl, hij, hjl, hlo, hup, hf⟩ := hrel
    have HLO := Lib.hid hlo; have HUP := Lib.hid hup; have HF := Lib.hid hf
    clear hlo hup hf
    by_cases hlt : i < j
    · have hltI : (pa : Int) + i < (pa : Int) + j := by omega
      obtain ⟨hh, hhh⟩ : ∃ q, (i + j) / 2 = q := ⟨_, rfl⟩
      have hq1 : i ≤ hh := by omega
      have hq2 : hh < j := by omega
      have he : ((pa : Int) + i + ((pa : Int) + j)) / 2 = (pa : Int) + hh := by omega
      obtain ⟨z, hz⟩ : ∃ z, A[hh]? = some z := ⟨A[hh]'(by rw [HLA.out]; omega), List.getElem?_eq_getElem _⟩
      have hrw := H0.out.fr HF.out (fun e => e)
      have hay : (P ++ (A ++ (y :: S)))[pa + la]? = some y := by
        rw [List.getElem?_append_right (by rw [HPA.out]; omega), HPA.out, show pa + la - pa = la by omega, ← HLA.out]
        exact at_left
      have haz : (P ++ (A ++ (y :: S)))[pa + hh]? = some z := by
        rw [List.getElem?_append_right (by rw [HPA.out]; omega), HPA.out, show pa + hh - pa = hh by omega, List.getElem?_append_left (by rw [HLA.out]; omega)]
        exact hz
      have c1 := FrW.cell (hrw.cell hay)
      have c2 := FrW.cell (hrw.cell haz)
      obtain ⟨q, hq⟩ : ∃ q, pa + hh = q := ⟨_, rfl⟩
      rw [hq] at c2
      obtain ⟨qm, hqm⟩ : ∃ q, pa + la = q := ⟨_, rfl⟩
      rw [hqm] at c1
      have tq : ((pa : Int) + hh).toNat = q := by omega
      have tm : ((pa : Int) + la).toNat = qm := by omega
      have zq : (0 : Int) ≤ (pa : Int) + hh := by omega
      have zm : (0 : Int) ≤ (pa : Int) + la := by omega
      have lq : (pa : Int) + hh < n := by omega
      have lm : (pa : Int) + la < n := by omega
      have hry := HRR.out z (List.mem_of_getElem? hz)
      have HDM := Lib.hid hry.2.2
      have HZ := Lib.hid hz
      clear hrw hay haz hq hqm hhh hz
      cases hT : T y z with
      | true =>
        have hv : decide (cf y.1 z.1 < 0) = true := hry.1.trans hT
        have hnx : Hid (∀ u ∈ A.drop hh, T y u = true) := Lib.hid (up_step HTR.out HSA.out HZ.out hT)
        clear hry
        go_wp2_with fail
        refine wp_region_fr (by kernel_rfl) (by kernel_rfl) ?_
        repeat (go_big_quiet_step ((go_at_fn g; rename_i X; refine (HC.out _ _ _ ((HF.out.mono (fun _ _ e => e.elim)).trans (X.fr.mono (fun _ _ e => e.elim))) HDM.out).mono ?_; rintro e w2 ⟨rfl, hF⟩; exact ⟨rfl, ⟨w2, X.fr.trans hF⟩, rfl⟩)))
        refine wpQuiet_nil ?_
        rintro V ⟨⟨_, hV⟩, rfl⟩
        go_wp2_with fail
        go_roundw
        case rel => exact ⟨i, hh, rfl, by first | rfl | (congr 1; done) | (congr 1; omega), by omega, by omega, HLO.out, hnx.out, HF.out.trans hV⟩
        case measure => simp [intOf]; omega
      | false =>
        have hv : decide (cf y.1 z.1 < 0) = false := hry.1.trans hT
        have hnx : Hid (∀ u ∈ A.take (hh + 1), T u y = true) := Lib.hid (lo_step HTR.out HSA.out HZ.out (hry.2.1 hT))
        clear hry
        go_wp2_with fail
        refine wp_region_fr (by kernel_rfl) (by kernel_rfl) ?_
        repeat (go_big_quiet_step ((go_at_fn g; rename_i X; refine (HC.out _ _ _ ((HF.out.mono (fun _ _ e => e.elim)).trans (X.fr.mono (fun _ _ e => e.elim))) HDM.out).mono ?_; rintro e w2 ⟨rfl, hF⟩; exact ⟨rfl, ⟨w2, X.fr.trans hF⟩, rfl⟩)))
        refine wpQuiet_nil ?_
        rintro V ⟨⟨_, hV⟩, rfl⟩
        go_wp2_with fail
        go_roundw
        case rel => exact ⟨hh + 1, j, by first | rfl | (congr 1; done) | (congr 1; omega), rfl, by omega, hjl, hnx.out, HUP.out, HF.out.trans hV⟩
        case measure => simp [intOf]; omega
    · obtain rfl : i = j := by omega
      have hltI : ¬ (pa : Int) + i < (pa : Int) + i := by omega
      obtain ⟨A1, A2, hAA, hl1, hl2⟩ := split_len A (k := i) (by rw [HLA.out]; omega)
      obtain ⟨l2, hll⟩ : ∃ l, A2.length = l := ⟨_, rfl⟩
      have hla2 : la = i + l2 := by have := HLA.out; omega
      have e1 : A.take i = A1 := by rw [hAA, ← hl1, List.take_left]
      have e2 : A.drop i = A2 := by rw [hAA, ← hl1, List.drop_left]
      have HLO2 := Lib.hid (e1 ▸ HLO.out); have HUP2 := Lib.hid (e2 ▸ HUP.out)
      have HAA := Lib.hid hAA; have HL1 := Lib.hid hl1; have HLL := Lib.hid hll
      have hr0 : RwI wr b (P ++ (A1 ++ (A2 ++ (y :: S)))) := by have := H0.out.fr HF.out (fun e => e); rw [hAA, List.append_assoc] at this; exact this
      have HR0 := Lib.hid hr0
      clear e1 e2 hAA hl1 hl2 hll hr0 HLO HUP
      have g1 : (la : Int) ≤ i + l2 := by omega
      have g2 : (i : Int) + l2 ≤ la := by omega
      clear hla2
      go_wp2_with fail
      clear hltI
      go_loopw [17] (fun v wr => ∃ t : Nat, v = .int .i64 ((pa : Int) + i + t) ∧ t ≤ l2 ∧ RwI wr b (P ++ (A1 ++ (A2.take t ++ (y :: (A2.drop t ++ S))))) ∧ Fr (fun c => c = b) w wr) (fun v _ => (intOf v - (pa : Int) - i).toNat)
      case atStart => exact ⟨l2, by first | rfl | (congr 1; done) | (congr 1; omega), Nat.le_refl _, by have := HR0.out; rw [List.take_of_length_le (by rw [HLL.out]; exact Nat.le_refl _), List.drop_of_length_le (by rw [HLL.out]; exact Nat.le_refl _)]; exact this, HF.out.mono (fun _ _ e => e.elim)⟩
      case round =>
        obtain ⟨t, rfl, hti, hr, hf⟩ := hrel
        have HR := Lib.hid hr; have HF2 := Lib.hid hf
        clear hr hf
        cases t with
        | succ t =>
          obtain ⟨z, hz⟩ : ∃ z, A2[t]? = some z := ⟨A2[t]'(by rw [HLL.out]; omega), List.getElem?_eq_getElem _⟩
          have hdr : A2.drop t = z :: A2.drop (t + 1) := by rw [List.drop_eq_getElem_cons (List.getElem?_eq_some_iff.1 hz).1, (List.getElem?_eq_some_iff.1 hz).2]
          have htk : A2.take (t + 1) = A2.take t ++ [z] := by rw [List.take_add_one, hz]; rfl
          have hrow : RwI wr b ((P ++ (A1 ++ A2.take t)) ++ z :: ([] ++ y :: (A2.drop (t + 1) ++ S))) := by have := HR.out; rw [htk] at this; simpa using this
          have e1 : pa + i + t = (P ++ (A1 ++ A2.take t)).length := by have := HPA.out; have := HL1.out; have := HLL.out; simp; omega
          have c1 := hrow.cell (i := pa + i + t) (by rw [e1]; exact at_left)
          have c2 := hrow.cell (i := pa + i + t + 1) (by rw [e1]; exact at_right (B := []))
          have c3 := (hrow.set (i := pa + i + t + 1) (by rw [e1]; simp; omega) z).cell (i := pa + i + t) (p := z) (by rw [List.getElem?_set_ne (by omega), e1]; exact at_left)
          have hsw := hrow.swap' (i := pa + i + t) (j := pa + i + t + 1) e1 (by rw [e1]; rfl)
          have f1 := hrow.frz (pa + i + t)
          have f2 := hrow.frz (pa + i + t + 1)
          obtain ⟨q, hq⟩ : ∃ q, pa + i + t = q := ⟨_, rfl⟩
          rw [hq] at c1 c2 c3 hsw f1 f2
          obtain ⟨q2, hq2⟩ : ∃ q2, q + 1 = q2 := ⟨_, rfl⟩
          rw [hq2] at c2 c3 hsw f2
          have HSW := Lib.hid hsw; have HDR := Lib.hid hdr
          have t1 : ((pa : Int) + i + t).toNat = q := by omega
          have t2 : ((pa : Int) + i + (t + 1)).toNat = q2 := by omega
          have z1 : (0 : Int) ≤ (pa : Int) + i + t := by omega
          have z2 : (0 : Int) ≤ (pa : Int) + i + (t + 1) := by omega
          have l1 : (pa : Int) + i + t < n := by omega
          have l2' : (pa : Int) + i + (t + 1) < n := by omega
          have r1 : IntKind.i64.wrap ((pa : Int) + i + t) = (pa : Int) + i + t := IntWalk.i64_in _ (by omega)
          have r2 : IntKind.i64.wrap ((pa : Int) + i + (t + 1)) = (pa : Int) + i + (t + 1) := IntWalk.i64_in _ (by omega)
          have s1 : (pa : Int) + i + (t + 1) - 1 = (pa : Int) + i + t := by omega
          have hltI : (pa : Int) + i < (pa : Int) + i + (t + 1) := by omega
          clear hrow hsw e1 hdr htk hz hq hq2
          go_wp2_with fail
          go_region
          have hfs : Fr (fun c => c = b) wr ((wr.setCell ⟨b, q2, none⟩ (encI z)).setCell ⟨b, q, none⟩ (encI y)) := ((Fr.refl (fun c => c = b) wr).setCell (p := ⟨b, q2, none⟩) (fun _ => rfl) _).setCell (p := ⟨b, q, none⟩) (fun _ => rfl) _
          have HFS := Lib.hid (HF2.out.trans hfs)
          clear c1 c2 c3 f1 f2 hfs
          generalize (wr.setCell ⟨b, q2, none⟩ (encI z)).setCell ⟨b, q, none⟩ (encI y) = w3 at HSW HFS ⊢
          go_wp2_with fail
          go_roundw
          case rel => exact ⟨t, by first | rfl | (congr 1; done) | (congr 1; omega), by omega, by have := HSW.out.fr (S := fun _ => False) (Fr.refl _ w3).drew (fun e => e); rw [HDR.out]; simpa using this, HFS.out.drew⟩
          case measure => simp [intOf]; omega
        | zero =>
          have hltI : ¬ (pa : Int) + i < (pa : Int) + i := by omega
          go_wp2_with fail
          refine bodyPost_ret (v := .tuple #[]) (by simp [results, Tryz.results138, go_sem]) rfl ?_
          refine ⟨rfl, A1 ++ y :: A2, ?_, ?_, ?_, HF2.out⟩
          · have := HR.out; simpa using this
          · refine ins_done HTR.out (by rw [← HAA.out]; exact HSA.out) HUP2.out (fun W z e => HLO2.out z (by rw [e]; simp))
          · rw [HAA.out]
            refine List.perm_middle.trans ?_
            exact List.perm_append_comm (l₁ := [y])
end Go.Proofs.YtlniekobijcanaaGreat
namespace Go.Proofs.YtlniekobijcanaaGreat
open Go.RowKit
/-- What a merge does. -/
def SymOk (g : Nat) (cb : Array Value) (cf : Int → Int → Int) (T : EI → EI → Bool) (b n cap : Nat) (d : Nat) : Prop :=
  ∀ (w : World) (P A B S : List EI) (ia im ib : Int), A.length + B.length ≤ d → 0 < A.length → 0 < B.length → RwI w b (P ++ (A ++ (B ++ S))) → n = (P ++ (A ++ (B ++ S))).length → ia = (P.length : Int) → im = ((P.length + A.length : Nat) : Int) → ib = ((P.length + A.length + B.length : Nat) : Int) →
    Srt T A → Srt T B → (∀ p ∈ B, ∀ q ∈ A, Rgt cf T p q) → CmpI g cb cf b w →
    Calls Tryz.prog 138 #[.slice (some ⟨b, 0, none⟩) n cap, .int .i64 ia, .int .i64 im, .int .i64 ib, .func (.func g) #[] cb] w fun e w' => e = .returned (.tuple #[]) ∧ ∃ Z, RwI w' b (P ++ (Z ++ S)) ∧ Srt T Z ∧ Z.Perm (A ++ B) ∧ Fr (fun c => c = b) w w'
theorem snoc_of_take {A : List EI} {s : Nat} {x : EI} {W : List EI} {l : EI} (hx : A[s]? = some x) (h : A.take (s + 1) = W ++ [l]) : l = x := by
  rw [List.take_add_one, hx] at h
  have := List.append_inj_right' h rfl
  injection this with this
  exact this.symm
theorem cons_of_drop {B : List EI} {s : Nat} {y : EI} {V : List EI} {f : EI} (hy : B[s]? = some y) (h : B.drop s = f :: V) : f = y := by
  rw [List.drop_eq_getElem_cons (List.getElem?_eq_some_iff.1 hy).1, (List.getElem?_eq_some_iff.1 hy).2] at h
  injection h with h
  exact h.symm
theorem rotX (w : World) (b n cap : Nat) (fv : Value) (P A B S : List EI) {ia im ib : Int} (h : RwI w b (P ++ (A ++ (B ++ S)))) (hn : n = (P ++ (A ++ (B ++ S))).length) (hm : n ≤ 1000000000000) (ha : ia = (P.length : Int)) (hpm : im = ((P.length + A.length : Nat) : Int)) (hb : ib = ((P.length + A.length + B.length : Nat) : Int)) (h1 : 0 < A.length) (h2 : 0 < B.length) :
    Calls Tryz.prog 150 #[.slice (some ⟨b, 0, none⟩) n cap, .int .i64 ia, .int .i64 im, .int .i64 ib, fv] w fun e w' => e = .returned (.tuple #[]) ∧ RwI w' b (P ++ (B ++ (A ++ S))) ∧ Fr (fun c => c = b) w w' := by
  subst ha hpm hb
  exact rotI w b n cap P.length (P.length + A.length) (P.length + A.length + B.length) fv P A B S h hn hm rfl rfl rfl h1 h2
/-- The search's ends: what is known left of the place, right of it. -/
def LoC (T : EI → EI → Bool) (A B : List EI) (M u i : Nat) : Prop := i = u ∨ ∃ x y, 0 < i ∧ A[i - 1]? = some x ∧ B[M - i]? = some y ∧ T x y = true
def UpC (T : EI → EI → Bool) (A B : List EI) (M v j : Nat) : Prop := j = v ∨ ∃ x y, A[j]? = some x ∧ B[M - 1 - j]? = some y ∧ T y x = true
/-- Where the search ends, what stands left is below what stands right. -/
theorem cut_lt {T : EI → EI → Bool} {A B : List EI} {M u v s : Nat} (tr : ∀ a b c, T a b = true → T b c = true → T a c = true) (hA : Srt T A) (hB : Srt T B) (hu : u = M - B.length) (hv : v = min M A.length) (hs1 : u ≤ s) (hs2 : s ≤ v) (hlo : LoC T A B M u s) (hup : UpC T A B M v s) :
    (∀ x ∈ A.take s, ∀ y ∈ B.drop (M - s), T x y = true) ∧ (∀ y ∈ B.take (M - s), ∀ x ∈ A.drop s, T y x = true) := by
  have hA' : Srt T (A.take s ++ A.drop s) := by rw [List.take_append_drop]; exact hA
  have hB' : Srt T (B.take (M - s) ++ B.drop (M - s)) := by rw [List.take_append_drop]; exact hB
  constructor
  · refine ends_lt tr hA'.left hB'.right (fun W x y V e1 e2 => ?_)
    have l1 : 0 < s := by
      rcases Nat.eq_zero_or_pos s with h | h
      · subst h; rw [List.take_zero] at e1; simp at e1
      · exact h
    have l2 : M - s < B.length := by
      rcases Nat.lt_or_ge (M - s) B.length with h | h
      · exact h
      · rw [List.drop_of_length_le h] at e2; cases e2
    rcases hlo with h | ⟨x', y', _, h1, h2, h3⟩
    · exfalso; omega
    · rw [show s = (s - 1) + 1 by omega] at e1
      rw [snoc_of_take h1 e1, cons_of_drop h2 e2]; exact h3
  · refine ends_lt tr hB'.left hA'.right (fun W y x V e1 e2 => ?_)
    have l1 : 0 < M - s := by
      rcases Nat.eq_zero_or_pos (M - s) with h | h
      · rw [h, List.take_zero] at e1; simp at e1
      · exact h
    have l2 : s < A.length := by
      rcases Nat.lt_or_ge s A.length with h | h
      · exact h
      · rw [List.drop_of_length_le h] at e2; cases e2
    rcases hup with h | ⟨x', y', h1, h2, h3⟩
    · exfalso; omega
    · rw [show M - s = (M - 1 - s) + 1 by omega] at e1
      rw [snoc_of_take h2 e1, cons_of_drop h1 e2]; exact h3
set_option maxRecDepth 100000 in
set_option maxHeartbeats 16000000 in
theorem symI3 (b n cap g : Nat) (cb : Array Value) (cf : Int → Int → Int) (T : EI → EI → Bool) (d : Nat) (eg : ∀ args w, (callFunc g args).run Tryz.prog w = .ok (.enter g args) w) (hm : n ≤ 1000000000000) (tr : ∀ a b c, T a b = true → T b c = true → T a c = true) (ih : SymOk g cb cf T b n cap d)
    (w : World) (P A B S : List EI) (ia im ib : Int) (hd : A.length + B.length ≤ d + 1) (hA2 : 2 ≤ A.length) (hB2 : 2 ≤ B.length) (h : RwI w b (P ++ (A ++ (B ++ S)))) (hn : n = (P ++ (A ++ (B ++ S))).length) (ha : ia = (P.length : Int)) (hpm : im = ((P.length + A.length : Nat) : Int)) (hb : ib = ((P.length + A.length + B.length : Nat) : Int))
    (hA : Srt T A) (hB : Srt T B) (hR : ∀ p ∈ B, ∀ q ∈ A, Rgt cf T p q) (hc : CmpI g cb cf b w) :
    Calls Tryz.prog 138 #[.slice (some ⟨b, 0, none⟩) n cap, .int .i64 ia, .int .i64 im, .int .i64 ib, .func (.func g) #[] cb] w fun e w' => e = .returned (.tuple #[]) ∧ ∃ Z, RwI w' b (P ++ (Z ++ S)) ∧ Srt T Z ∧ Z.Perm (A ++ B) ∧ Fr (fun c => c = b) w w' := by
  obtain ⟨pa, hpa⟩ : ∃ pa, P.length = pa := ⟨_, rfl⟩
  obtain ⟨la, hla⟩ : ∃ la, A.length = la := ⟨_, rfl⟩
  obtain ⟨lb, hlb⟩ : ∃ lb, B.length = lb := ⟨_, rfl⟩
  have hlen : n = pa + la + lb + S.length := by simp at hn; omega
  rw [hpa] at ha hb hpm
  rw [hla] at hb hpm hA2 hd
  rw [hlb] at hb hB2 hd
  obtain ⟨pm, hpm'⟩ : ∃ pm, pa + la = pm := ⟨_, rfl⟩
  obtain ⟨pb, hpb'⟩ : ∃ pb, pm + lb = pb := ⟨_, rfl⟩
  rw [hpm'] at hpm hb
  rw [hpb'] at hb
  subst ha hb hpm
  have H0 := Lib.hid h; have HM := Lib.hid hm; have HN := Lib.hid hn; have HPA := Lib.hid hpa; have HLA := Lib.hid hla; have HLB := Lib.hid hlb; have HRR := Lib.hid hR; have HC := Lib.hid hc; have HTR := Lib.hid tr; have HSA := Lib.hid hA; have HSB := Lib.hid hB; have IH := Lib.hid ih
  have HD := Lib.hid hd; have HLEN := Lib.hid hlen
  have i1 : (n : Int) ≤ 1000000000000 := by omega
  have i2 : (pb : Int) ≤ n := by omega
  have i3 : (pa : Int) + la ≤ pm := by omega
  have i4 : (pm : Int) ≤ pa + la := by omega
  have i5 : (pm : Int) + lb ≤ pb := by omega
  have i6 : (pb : Int) ≤ pm + lb := by omega
  have b1 : ((pm : Int) - (pa : Int) == 1) = false := by simp; omega
  have b2 : ((pb : Int) - (pm : Int) == 1) = false := by simp; omega
  obtain ⟨mid, hmid⟩ : ∃ m, (pa + pb) / 2 = m := ⟨_, rfl⟩
  have he : ((pa : Int) + pb) / 2 = mid := by omega
  obtain ⟨M, hM⟩ : ∃ M, pa + M = mid := ⟨mid - pa, by omega⟩
  have hM1 : 2 * M ≤ la + lb := by omega
  have hM2 : la + lb ≤ 2 * M + 1 := by omega
  have j1 : (pa : Int) + M ≤ mid := by omega
  have j2 : (mid : Int) ≤ pa + M := by omega
  obtain ⟨u0, hu⟩ : ∃ u, u = M - lb := ⟨_, rfl⟩
  obtain ⟨v0, hv⟩ : ∃ v, v = min M la := ⟨_, rfl⟩
  have HU := Lib.hid hu; have HV := Lib.hid hv
  have k1 : u0 ≤ v0 := by omega
  have k2 : v0 ≤ la := by omega
  have k3 : v0 ≤ M := by omega
  have k4 : M ≤ u0 + lb := by omega
  have HPM := Lib.hid hpm'; have HPB := Lib.hid hpb'; have HMID := Lib.hid hM
  have hsl : (mid < pm ∧ (mid : Int) + pm - pb = pa + u0 ∧ (mid : Int) = pa + v0) ∨ (pm ≤ mid ∧ u0 = 0 ∧ (pm : Int) = pa + v0) := by omega
  clear h hn hpa hla hlb hR hc tr hlen hA hB ih hd hm hmid hM hu hv hpm' hpb'
  rcases hsl with ⟨hh, e1, e2⟩ | ⟨hh, e1, e2⟩
  all_goals
    first
    | have hhI : (mid : Int) < (pm : Int) := by omega
    | have hhI : ¬ (mid : Int) < (pm : Int) := by omega
    have E1 := Lib.hid e1; have E2 := Lib.hid e2
    clear e1 e2
    go_enter Tryz.func138, Tryz.ntmps138
    go_wp2_with fail
    go_loopw [20, 21] (fun vi vj wr => ∃ i j : Nat, vi = .int .i64 ((pa : Int) + i) ∧ vj = .int .i64 ((pa : Int) + j) ∧ u0 ≤ i ∧ i ≤ j ∧ j ≤ v0 ∧ LoC T A B M u0 i ∧ UpC T A B M v0 j ∧ Fr (fun _ => False) w wr) (fun vi vj _ => (intOf vj - intOf vi).toNat)
    case atStart => exact ⟨u0, v0, by first | rfl | (rw [E1.out]; done) | (rw [E1.out]; simp; done), by first | rfl | (rw [E2.out]; done), Nat.le_refl _, k1, Nat.le_refl _, .inl rfl, .inl rfl, Fr.refl _ _⟩
    case round => as_aux_lemma =>
      obtain ⟨i, j, rfl, rfl, hui, hij, hjl, hlo, hup, hf⟩ := hrel
      have HLO := Lib.hid hlo; have HUP := Lib.hid hup; have HF := Lib.hid hf
      clear hlo hup hf
      by_cases hlt : i < j
      · have hltI : (pa : Int) + i < (pa : Int) + j := by omega
        obtain ⟨hq, hhh⟩ : ∃ q, (i + j) / 2 = q := ⟨_, rfl⟩
        have hq1 : i ≤ hq := by omega
        have hq2 : hq < j := by omega
        have he2 : ((pa : Int) + i + ((pa : Int) + j)) / 2 = (pa : Int) + hq := by omega
        obtain ⟨x, hx⟩ : ∃ x, A[hq]? = some x := ⟨A[hq]'(by rw [HLA.out]; omega), List.getElem?_eq_getElem _⟩
        obtain ⟨y, hy⟩ : ∃ y, B[M - 1 - hq]? = some y := ⟨B[M - 1 - hq]'(by rw [HLB.out]; omega), List.getElem?_eq_getElem _⟩
        have hrw := H0.out.fr HF.out (fun e => e)
        have hax : (P ++ (A ++ (B ++ S)))[pa + hq]? = some x := by
          rw [List.getElem?_append_right (by rw [HPA.out]; omega), HPA.out, show pa + hq - pa = hq by omega, List.getElem?_append_left (by rw [HLA.out]; omega)]
          exact hx
        have hby : (P ++ (A ++ (B ++ S)))[pm + (M - 1 - hq)]? = some y := by
          rw [List.getElem?_append_right (by rw [HPA.out]; omega), HPA.out, show pm + (M - 1 - hq) - pa = la + (M - 1 - hq) by omega, List.getElem?_append_right (by rw [HLA.out]; omega), HLA.out, show la + (M - 1 - hq) - la = M - 1 - hq by omega, List.getElem?_append_left (by rw [HLB.out]; omega)]
          exact hy
        have c1 := FrW.cell (hrw.cell hax)
        have c2 := FrW.cell (hrw.cell hby)
        obtain ⟨qa, hqa⟩ : ∃ q, pa + hq = q := ⟨_, rfl⟩
        obtain ⟨qb, hqb⟩ : ∃ q, pm + (M - 1 - hq) = q := ⟨_, rfl⟩
        rw [hqa] at c1
        rw [hqb] at c2
        have ta : ((pa : Int) + hq).toNat = qa := by omega
        have tb : ((mid : Int) + pm - 1 - ((pa : Int) + hq)).toNat = qb := by omega
        have za : (0 : Int) ≤ (pa : Int) + hq := by omega
        have zb : (0 : Int) ≤ (mid : Int) + pm - 1 - ((pa : Int) + hq) := by omega
        have la1 : (pa : Int) + hq < n := by omega
        have lb1 : (mid : Int) + pm - 1 - ((pa : Int) + hq) < n := by omega
        have rb : IntKind.i64.wrap ((mid : Int) + pm - 1 - ((pa : Int) + hq)) = (mid : Int) + pm - 1 - ((pa : Int) + hq) := IntWalk.i64_in _ (by omega)
        have hry := HRR.out y (List.mem_of_getElem? hy) x (List.mem_of_getElem? hx)
        have HDM := Lib.hid hry.2.2
        have HX := Lib.hid hx; have HY := Lib.hid hy
        clear hrw hax hby hqa hqb hhh hx hy
        cases hT : T y x with
        | true =>
          have hv : decide (cf y.1 x.1 < 0) = true := hry.1.trans hT
          have hnx : Hid (UpC T A B M v0 hq) := Lib.hid (.inr ⟨x, y, HX.out, HY.out, hT⟩)
          clear hry
          go_wp2_with fail
          refine wp_region_fr (by kernel_rfl) (by kernel_rfl) ?_
          repeat (go_big_quiet_step ((go_at_fn g; rename_i X; refine (HC.out _ _ _ ((HF.out.mono (fun _ _ e => e.elim)).trans (X.fr.mono (fun _ _ e => e.elim))) HDM.out).mono ?_; rintro e w2 ⟨rfl, hF⟩; exact ⟨rfl, ⟨w2, X.fr.trans hF⟩, rfl⟩)))
          refine wpQuiet_nil ?_
          rintro V ⟨⟨_, hV⟩, rfl⟩
          go_wp2_with fail
          go_roundw
          case rel => exact ⟨i, hq, rfl, by first | rfl | (congr 1; done) | (congr 1; omega), hui, hq1, by omega, HLO.out, hnx.out, HF.out.trans hV⟩
          case measure => simp [intOf]; omega
        | false =>
          have hv : decide (cf y.1 x.1 < 0) = false := hry.1.trans hT
          have hnx : Hid (LoC T A B M u0 (hq + 1)) := Lib.hid (.inr ⟨x, y, by omega, by simpa using HX.out, by rw [show M - (hq + 1) = M - 1 - hq by omega]; exact HY.out, hry.2.1 hT⟩)
          clear hry
          go_wp2_with fail
          refine wp_region_fr (by kernel_rfl) (by kernel_rfl) ?_
          repeat (go_big_quiet_step ((go_at_fn g; rename_i X; refine (HC.out _ _ _ ((HF.out.mono (fun _ _ e => e.elim)).trans (X.fr.mono (fun _ _ e => e.elim))) HDM.out).mono ?_; rintro e w2 ⟨rfl, hF⟩; exact ⟨rfl, ⟨w2, X.fr.trans hF⟩, rfl⟩)))
          refine wpQuiet_nil ?_
          rintro V ⟨⟨_, hV⟩, rfl⟩
          go_wp2_with fail
          go_roundw
          case rel => exact ⟨hq + 1, j, by first | rfl | (congr 1; done) | (congr 1; omega), rfl, by omega, by omega, hjl, hnx.out, HUP.out, HF.out.trans hV⟩
          case measure => simp [intOf]; omega
      · obtain rfl : i = j := by omega
        have hltI : ¬ (pa : Int) + i < (pa : Int) + i := by omega
        obtain ⟨c1, c2⟩ := cut_lt HTR.out HSA.out HSB.out (by rw [HLB.out]; exact HU.out) (by rw [HLA.out]; exact HV.out) hui hjl HLO.out HUP.out
        obtain ⟨A1, A2, hAA, hl1, hl2⟩ := split_len A (k := i) (by rw [HLA.out]; omega)
        obtain ⟨B1, B2, hBB, hl3, hl4⟩ := split_len B (k := M - i) (by rw [HLB.out]; omega)
        have e1 : A.take i = A1 := by rw [hAA, ← hl1, List.take_left]
        have e2 : A.drop i = A2 := by rw [hAA, ← hl1, List.drop_left]
        have e3 : B.take (M - i) = B1 := by rw [hBB, ← hl3, List.take_left]
        have e4 : B.drop (M - i) = B2 := by rw [hBB, ← hl3, List.drop_left]
        rw [e1, e4] at c1
        rw [e3, e2] at c2
        obtain ⟨l2, hl2'⟩ : ∃ l, A2.length = l := ⟨_, rfl⟩
        obtain ⟨l3, hl3'⟩ : ∃ l, B1.length = l := ⟨_, rfl⟩
        obtain ⟨l4, hl4'⟩ : ∃ l, B2.length = l := ⟨_, rfl⟩
        have q1 : i + l2 = la := by have := HLA.out; omega
        have q2 : i + l3 = M := by omega
        have q3 : l3 + l4 = lb := by have := HLB.out; omega
        have HQ := Lib.hid (And.intro hl1 (And.intro hl2' (And.intro hl3' (And.intro hl4' (And.intro q1 (And.intro q2 q3))))))
        have HAA := Lib.hid hAA; have HBB := Lib.hid hBB; have HC1 := Lib.hid c1; have HC2 := Lib.hid c2
        have hr0 : RwI wr b (P ++ (A1 ++ (A2 ++ (B1 ++ (B2 ++ S))))) := by have := H0.out.fr HF.out (fun e => e); rw [hAA, hBB, List.append_assoc, List.append_assoc] at this; exact this
        have HR0 := Lib.hid hr0
        have HS1 : Hid (Srt T A1 ∧ Srt T A2 ∧ Srt T B1 ∧ Srt T B2) := Lib.hid (by have h1 := HSA.out; have h2 := HSB.out; rw [hAA] at h1; rw [hBB] at h2; exact ⟨h1.left, h1.right, h2.left, h2.right⟩)
        have HRG : Hid ((∀ p ∈ B1, ∀ q ∈ A1, Rgt cf T p q) ∧ (∀ p ∈ B2, ∀ q ∈ A2, Rgt cf T p q)) := Lib.hid (by
          have h1 := HRR.out
          rw [hAA, hBB] at h1
          exact ⟨fun p hp q hq => h1 p (by simp [hp]) q (by simp [hq]), fun p hp q hq => h1 p (by simp [hp]) q (by simp [hq])⟩)
        obtain ⟨pe, hpe⟩ : ∃ pe, pm + l3 = pe := ⟨_, rfl⟩
        have HPE := Lib.hid hpe
        have he3 : (mid : Int) + pm - ((pa : Int) + i) = (pe : Int) := by omega
        have v1 : (pe : Int) ≤ pm + l3 := by omega
        have v2 : (pm : Int) + l3 ≤ pe := by omega
        have v3 : (pa : Int) + i + l2 ≤ pm := by omega
        have v4 : (pm : Int) ≤ pa + i + l2 := by omega
        have v5 : (pa : Int) + i + l3 ≤ mid := by omega
        have v6 : (mid : Int) ≤ pa + i + l3 := by omega
        have v7 : (pe : Int) + l4 ≤ pb := by omega
        have v8 : (pb : Int) ≤ pe + l4 := by omega
        clear e1 e2 e3 e4 hl1 hl2 hl3 hl4 hl2' hl3' hl4' q1 q2 q3 hAA hBB c1 c2 hr0 hpe HLO HUP
        obtain ⟨G1, hG1⟩ : ∃ G, decide (0 < l2 ∧ 0 < l3) = G := ⟨_, rfl⟩
        obtain ⟨G2, hG2⟩ : ∃ G, decide (0 < i ∧ 0 < l3) = G := ⟨_, rfl⟩
        obtain ⟨G3, hG3⟩ : ∃ G, decide (0 < l2 ∧ 0 < l4) = G := ⟨_, rfl⟩
        have HG1 := Lib.hid hG1; have HG2 := Lib.hid hG2; have HG3 := Lib.hid hG3
        clear hG1 hG2 hG3
        go_upto_region 39 with (fail)
        go_cut [185] (fun s wx => s = .bool G1 ∧ wr = wx)
        case first => as_aux_lemma =>
          rcases (by omega : (0 < l2 ∧ 0 < l3) ∨ (l2 = 0) ∨ (0 < l2 ∧ l3 = 0)) with ⟨w1, w2⟩ | w1 | ⟨w1, w2⟩
          · have z1 : (pa : Int) + i < pm := by omega
            have z2 : (pm : Int) < pe := by omega
            have hg : G1 = true := by rw [← HG1.out]; simp [w1, w2]
            clear HG1
            go_wp2_with fail
            go_meet
            exact ⟨by rw [hg], rfl⟩
          · have z1 : ¬ (pa : Int) + i < pm := by omega
            have hg : G1 = false := by rw [← HG1.out]; simp [w1]
            clear HG1
            go_wp2_with fail
            go_meet
            exact ⟨by rw [hg], rfl⟩
          · have z1 : (pa : Int) + i < pm := by omega
            have z2 : ¬ (pm : Int) < pe := by omega
            have hg : G1 = false := by rw [← HG1.out]; simp [w2]
            clear HG1
            go_wp2_with fail
            go_meet
            exact ⟨by rw [hg], rfl⟩
        case rest => as_aux_lemma =>
          obtain ⟨rfl, rfl⟩ := hcut
          go_upto_if 185 with (fail)
          go_cut [191] (fun s wx => RwI wx b (P ++ (A1 ++ (B1 ++ (A2 ++ (B2 ++ S))))) ∧ Fr (fun c => c = b) w wx)
          case first => as_aux_lemma =>
            cases G1 with
            | true =>
              have hg : 0 < l2 ∧ 0 < l3 := of_decide_eq_true HG1.out
              go_wp2_with fail
              refine (rotX wr b n cap _ (P ++ A1) A2 B1 (B2 ++ S) (by have := HR0.out; simpa using this) (by have := HLEN.out; have := HQ.out; have := HPA.out; simp; omega) HM.out (by have := HQ.out; have := HPA.out; simp; omega) (by have := HQ.out; have := HPA.out; simp; omega) (by have := HQ.out; have := HPA.out; simp; omega) (by have := HQ.out; omega) (by have := HQ.out; omega)).mono ?_
              rintro e w3 ⟨rfl, hr3, hf3⟩
              have HR3 := Lib.hid hr3; have HF3 := Lib.hid ((HF.out.mono (fun _ _ e => e.elim)).trans hf3)
              clear hr3 hf3 hg
              go_wp2_with fail
              go_meet
              exact ⟨by have := HR3.out; simpa using this, HF3.out⟩
            | false =>
              have hg : l2 = 0 ∨ l3 = 0 := by have := of_decide_eq_false HG1.out; omega
              have hr1 : RwI wr b (P ++ (A1 ++ (B1 ++ (A2 ++ (B2 ++ S))))) := by
                rcases hg with hg | hg
                · have : A2 = [] := List.eq_nil_of_length_eq_zero (by have := HQ.out; omega)
                  have h := HR0.out; rw [this] at h ⊢; exact h
                · have : B1 = [] := List.eq_nil_of_length_eq_zero (by have := HQ.out; omega)
                  have h := HR0.out; rw [this] at h ⊢; exact h
              have HR1 := Lib.hid hr1
              clear hg hr1
              go_wp2_with fail
              go_meet
              exact ⟨HR1.out, HF.out.mono (fun _ _ e => e.elim)⟩
          case rest => as_aux_lemma =>
            obtain ⟨hr1, hf1⟩ := hcut
            have HR1 := Lib.hid hr1; have HF1 := Lib.hid hf1
            clear hr1 hf1 HR0 HF
            go_upto_region 41 with (fail)
            go_cut [199] (fun s wx => s = .bool G2 ∧ wc = wx)
            case first => as_aux_lemma =>
              rcases (by omega : (0 < i ∧ 0 < l3) ∨ (i = 0) ∨ (0 < i ∧ l3 = 0)) with ⟨w1, w2⟩ | w1 | ⟨w1, w2⟩
              · have z1 : (pa : Int) < (pa : Int) + i := by omega
                have z2 : (pa : Int) + i < mid := by omega
                have z3 : (0 : Int) < (i : Int) := by omega
                have hg : G2 = true := by rw [← HG2.out]; simp [w1, w2]
                clear HG2
                go_wp2_with fail
                go_meet
                exact ⟨by rw [hg], rfl⟩
              · have z1 : ¬ (pa : Int) < (pa : Int) + i := by omega
                have z3 : ¬ (0 : Int) < (i : Int) := by omega
                have hg : G2 = false := by rw [← HG2.out]; simp [w1]
                have w1' := Lib.hid w1
                clear HG2 w1
                go_wp2_with fail
                go_meet
                exact ⟨by rw [hg], rfl⟩
              · have z1 : (pa : Int) < (pa : Int) + i := by omega
                have z2 : ¬ (pa : Int) + i < mid := by omega
                have z3 : (0 : Int) < (i : Int) := by omega
                have hg : G2 = false := by rw [← HG2.out]; simp [w2]
                clear HG2
                go_wp2_with fail
                go_meet
                exact ⟨by rw [hg], rfl⟩
            case rest => as_aux_lemma =>
              obtain ⟨rfl, rfl⟩ := hcut
              go_upto_if 199 with (fail)
              go_cut [205] (fun s wx => ∃ Z1, RwI wx b (P ++ (Z1 ++ (A2 ++ (B2 ++ S)))) ∧ Srt T Z1 ∧ Z1.Perm (A1 ++ B1) ∧ Fr (fun c => c = b) w wx)
              case first => as_aux_lemma =>
                cases G2 with
                | true =>
                  have hg : 0 < i ∧ 0 < l3 := of_decide_eq_true HG2.out
                  go_wp2_with fail
                  refine (IH.out _ P A1 B1 (A2 ++ (B2 ++ S)) _ _ _ (by have := HQ.out; have := HD.out; omega) (by have := HQ.out; omega) (by have := HQ.out; omega) HR1.out (by have := HLEN.out; have := HQ.out; have := HPA.out; simp; omega) (by have := HPA.out; omega) (by have := HQ.out; have := HPA.out; omega) (by have := HQ.out; have := HPA.out; omega) HS1.out.1 HS1.out.2.2.1 HRG.out.1 (HC.out.fr HF1.out)).mono ?_
                  rintro e w3 ⟨rfl, Z1, hr3, hs3, hp3, hf3⟩
                  have HR3 := Lib.hid hr3; have HF3 := Lib.hid (HF1.out.trans hf3); have HS3 := Lib.hid hs3; have HP3 := Lib.hid hp3
                  clear hr3 hf3 hg hs3 hp3
                  go_wp2_with fail
                  go_meet
                  exact ⟨Z1, HR3.out, HS3.out, HP3.out, HF3.out⟩
                | false =>
                  have hg : i = 0 ∨ l3 = 0 := by have := of_decide_eq_false HG2.out; omega
                  have hs : Hid (Srt T (A1 ++ B1)) := Lib.hid (by
                    rcases hg with hg | hg
                    · have : A1 = [] := List.eq_nil_of_length_eq_zero (by have := HQ.out; omega)
                      rw [this]; exact HS1.out.2.2.1
                    · have : B1 = [] := List.eq_nil_of_length_eq_zero (by have := HQ.out; omega)
                      rw [this, List.append_nil]; exact HS1.out.1)
                  clear hg
                  go_wp2_with fail
                  go_meet
                  exact ⟨A1 ++ B1, by have := HR1.out; simpa using this, hs.out, List.Perm.refl _, HF1.out⟩
              case rest => as_aux_lemma =>
                obtain ⟨Z1, hr2, hs2, hp2, hf2⟩ := hcut
                have HR2 := Lib.hid hr2; have HF2 := Lib.hid hf2; have HS2 := Lib.hid hs2; have HP2 := Lib.hid hp2
                have HZL : Hid (Z1.length = M) := Lib.hid (by have := hp2.length_eq; have := HQ.out; simp at *; omega)
                clear hr2 hf2 hs2 hp2
                go_upto_region 43 with (fail)
                go_cut [213] (fun s wx => s = .bool G3 ∧ wc = wx)
                case first => as_aux_lemma =>
                  rcases (by omega : (0 < l2 ∧ 0 < l4) ∨ (l2 = 0) ∨ (0 < l2 ∧ l4 = 0)) with ⟨w1, w2⟩ | w1 | ⟨w1, w2⟩
                  · have z1 : (mid : Int) < pe := by omega
                    have z2 : (pe : Int) < pb := by omega
                    have hg : G3 = true := by rw [← HG3.out]; simp [w1, w2]
                    clear HG3
                    go_wp2_with fail
                    go_meet
                    exact ⟨by rw [hg], rfl⟩
                  · have z1 : ¬ (mid : Int) < pe := by omega
                    have hg : G3 = false := by rw [← HG3.out]; simp [w1]
                    clear HG3 w1
                    go_wp2_with fail
                    go_meet
                    exact ⟨by rw [hg], rfl⟩
                  · have z1 : (mid : Int) < pe := by omega
                    have z2 : ¬ (pe : Int) < pb := by omega
                    have hg : G3 = false := by rw [← HG3.out]; simp [w2]
                    clear HG3 w2
                    go_wp2_with fail
                    go_meet
                    exact ⟨by rw [hg], rfl⟩
                case rest => as_aux_lemma =>
                  obtain ⟨rfl, rfl⟩ := hcut
                  cases G3 with
                  | true =>
                    have hg : 0 < l2 ∧ 0 < l4 := of_decide_eq_true HG3.out
                    go_wp2_with fail
                    refine (IH.out _ (P ++ Z1) A2 B2 S _ _ _ (by have := HQ.out; have := HD.out; omega) (by have := HQ.out; omega) (by have := HQ.out; omega) (by have := HR2.out; rw [List.append_assoc]; exact this) (by have := HLEN.out; have := HQ.out; have := HPA.out; have := HZL.out; simp; omega) (by have := HPA.out; have := HZL.out; have := HQ.out; simp; omega) (by have := HQ.out; have := HPA.out; have := HZL.out; simp; omega) (by have := HQ.out; have := HPA.out; have := HZL.out; simp; omega) HS1.out.2.1 HS1.out.2.2.2 HRG.out.2 (HC.out.fr HF2.out)).mono ?_
                    rintro e w3 ⟨rfl, Z2, hr3, hs3, hp3, hf3⟩
                    have HR3 := Lib.hid hr3; have HF3 := Lib.hid (HF2.out.trans hf3); have HS3 := Lib.hid hs3; have HP3 := Lib.hid hp3
                    clear hr3 hf3 hg hs3 hp3
                    go_wp2_with fail
                    go_end0
                    have hj := mrg_join (by rw [← HAA.out]; exact HSA.out) (by rw [← HBB.out]; exact HSB.out) HC1.out HC2.out HS2.out HS3.out HP2.out HP3.out
                    refine ⟨rfl, Z1 ++ Z2, by have := HR3.out; simpa using this, hj.1, by rw [HAA.out, HBB.out]; exact hj.2, HF3.out⟩
                  | false =>
                    have hg : l2 = 0 ∨ l4 = 0 := by have := of_decide_eq_false HG3.out; omega
                    have hs : Hid (Srt T (A2 ++ B2)) := Lib.hid (by
                      rcases hg with hg | hg
                      · have : A2 = [] := List.eq_nil_of_length_eq_zero (by have := HQ.out; omega)
                        rw [this]; exact HS1.out.2.2.2
                      · have : B2 = [] := List.eq_nil_of_length_eq_zero (by have := HQ.out; omega)
                        rw [this, List.append_nil]; exact HS1.out.2.1)
                    clear hg
                    go_wp2_with fail
                    go_end0
                    have hj := mrg_join (by rw [← HAA.out]; exact HSA.out) (by rw [← HBB.out]; exact HSB.out) HC1.out HC2.out HS2.out hs.out HP2.out (List.Perm.refl _)
                    refine ⟨rfl, Z1 ++ (A2 ++ B2), by have := HR2.out; simpa using this, hj.1, by rw [HAA.out, HBB.out]; exact hj.2, HF2.out⟩
end Go.Proofs.YtlniekobijcanaaGreat
namespace Go.Proofs.YtlniekobijcanaaGreat
open Go.RowKit
theorem symAll (b n cap g : Nat) (cb : Array Value) (cf : Int → Int → Int) (T : EI → EI → Bool) (eg : ∀ args w, (callFunc g args).run Tryz.prog w = .ok (.enter g args) w) (hm : n ≤ 1000000000000) (tr : ∀ a b c, T a b = true → T b c = true → T a c = true) : ∀ d, SymOk g cb cf T b n cap d
  | 0 => fun w P A B S ia im ib hd hA hB => by omega
  | d + 1 => fun w P A B S ia im ib hd hA hB h hn ha hpm hb sA sB hR hc => by
    by_cases h1 : A.length = 1
    · obtain ⟨x, rfl⟩ := List.length_eq_one_iff.1 h1
      refine (symI1 w b n cap g cb cf T P B S x eg (by simpa using h) (by simpa using hn) hm ha hpm (by rw [hb]; simp) tr sB (fun p hp => hR p hp x (by simp)) hc).mono ?_
      rintro e w' ⟨he, Z, z1, z2, z3, z4⟩
      exact ⟨he, Z, z1, z2, by simpa using z3, z4⟩
    · by_cases h2 : B.length = 1
      · obtain ⟨y, rfl⟩ := List.length_eq_one_iff.1 h2
        refine (symI2 w b n cap g cb cf T P A S y eg (by simpa using h) (by simpa using hn) hm ha hpm (by rw [hb]; simp) (by omega) tr sA (fun q hq => hR y (by simp) q hq) hc).mono ?_
        rintro e w' ⟨he, Z, z1, z2, z3, z4⟩
        exact ⟨he, Z, z1, z2, z3, z4⟩
      · exact symI3 b n cap g cb cf T d eg hm tr (symAll b n cap g cb cf T eg hm tr d) w P A B S ia im ib hd (by omega) (by omega) h hn ha hpm hb sA sB hR hc
/-- A part of a list. -/
def seg (xs : List EI) (a b : Nat) : List EI := (xs.take b).drop a
/-- That part rises, and holds what it held in X. -/
def Blk (T : EI → EI → Bool) (X ys : List EI) (a b : Nat) : Prop := Srt T (seg ys a b) ∧ (seg ys a b).Perm (seg X a b)
theorem seg_len {xs : List EI} {a b : Nat} (hb : b ≤ xs.length) : (seg xs a b).length = b - a := by unfold seg; simp; omega
theorem seg_split (xs : List EI) {a b : Nat} (hab : a ≤ b) : xs = xs.take a ++ (seg xs a b ++ xs.drop b) := by
  unfold seg
  have h1 : xs.take a = (xs.take b).take a := by rw [List.take_take, Nat.min_eq_left hab]
  rw [h1, ← List.append_assoc, List.take_append_drop, List.take_append_drop]
theorem seg_get (xs : List EI) (c d i : Nat) : (seg xs c d)[i]? = if c + i < d then xs[c + i]? else none := by
  unfold seg
  rw [List.getElem?_drop, List.getElem?_take]
theorem put_get {xs Z : List EI} {a b : Nat} (hab : a ≤ b) (hb : b ≤ xs.length) (hZ : Z.length = b - a) (j : Nat) : (xs.take a ++ (Z ++ xs.drop b))[j]? = if j < a then xs[j]? else if j < b then Z[j - a]? else xs[j]? := by
  have hta : (xs.take a).length = a := by simp; omega
  by_cases h1 : j < a
  · rw [if_pos h1, List.getElem?_append_left (by omega), List.getElem?_take, if_pos h1]
  · rw [if_neg h1, List.getElem?_append_right (by omega), hta]
    by_cases h2 : j < b
    · rw [if_pos h2, List.getElem?_append_left (by omega)]
    · rw [if_neg h2, List.getElem?_append_right (by omega), List.getElem?_drop]
      congr 1; omega
/-- A part is changed for another of its length: the parts elsewhere are as they were. -/
theorem seg_put {xs Z : List EI} {a b : Nat} (hab : a ≤ b) (hb : b ≤ xs.length) (hZ : Z.length = b - a) :
    (xs.take a ++ (Z ++ xs.drop b)).length = xs.length ∧ seg (xs.take a ++ (Z ++ xs.drop b)) a b = Z ∧ (∀ c d, d ≤ a → seg (xs.take a ++ (Z ++ xs.drop b)) c d = seg xs c d) ∧ (∀ c d, b ≤ c → seg (xs.take a ++ (Z ++ xs.drop b)) c d = seg xs c d) := by
  refine ⟨by simp; omega, ?_, fun c d hd => ?_, fun c d hc => ?_⟩
  · apply List.ext_getElem?
    intro i
    rw [seg_get, put_get hab hb hZ]
    by_cases h : a + i < b
    · rw [if_pos h, if_neg (by omega), if_pos h]; congr 1; omega
    · rw [if_neg h]; exact (List.getElem?_eq_none (by omega)).symm
  · apply List.ext_getElem?
    intro i
    rw [seg_get, seg_get, put_get hab hb hZ]
    by_cases h : c + i < d
    · rw [if_pos h, if_pos h, if_pos (by omega)]
    · rw [if_neg h, if_neg h]
  · apply List.ext_getElem?
    intro i
    rw [seg_get, seg_get, put_get hab hb hZ]
    by_cases h : c + i < d
    · rw [if_pos h, if_pos h, if_neg (by omega), if_neg (by omega)]
    · rw [if_neg h, if_neg h]
theorem seg_app (xs : List EI) {a m b : Nat} (h1 : a ≤ m) (h2 : m ≤ b) : seg xs a b = seg xs a m ++ seg xs m b := by
  apply List.ext_getElem?
  intro i
  rw [seg_get]
  by_cases hm : m ≤ xs.length
  · have hl : (seg xs a m).length = m - a := seg_len hm
    by_cases h : i < m - a
    · rw [List.getElem?_append_left (by omega), seg_get, if_pos (by omega), if_pos (by omega)]
    · rw [List.getElem?_append_right (by omega), seg_get, hl]
      by_cases h3 : a + i < b
      · rw [if_pos h3, if_pos (by omega)]; congr 1; omega
      · rw [if_neg h3, if_neg (by omega)]
  · have e1 : seg xs m b = [] := by unfold seg; rw [List.drop_of_length_le]; simp; omega
    rw [e1, List.append_nil, seg_get]
    by_cases h3 : a + i < m
    · rw [if_pos (by omega), if_pos h3]
    · rw [if_neg h3]
      by_cases h4 : a + i < b
      · rw [if_pos h4]; exact List.getElem?_eq_none (by omega)
      · rw [if_neg h4]
theorem seg_sub {xs : List EI} {a b : Nat} {x : EI} (h : x ∈ seg xs a b) : x ∈ xs := by
  unfold seg at h
  exact List.mem_of_mem_take (List.mem_of_mem_drop h)
/-- What stands in a later part stands right of what stands in an earlier one. -/
theorem seg_pair {R : EI → EI → Prop} {X : List EI} (h : X.Pairwise R) {a m b : Nat} (h1 : a ≤ m) (h2 : m ≤ b) : ∀ q ∈ seg X a m, ∀ p ∈ seg X m b, R q p := by
  intro q hq p hp
  have hs : (seg X a b).Pairwise R := h.sublist ((List.drop_sublist _ _).trans (List.take_sublist _ _))
  rw [seg_app X h1 h2] at hs
  exact (List.pairwise_append.1 hs).2.2 q hq p hp
theorem seg_pw {R : EI → EI → Prop} {X : List EI} (h : X.Pairwise R) (a b : Nat) : (seg X a b).Pairwise R := h.sublist ((List.drop_sublist _ _).trans (List.take_sublist _ _))
/-- From lo to hi, in steps of s, each block rises and holds what it held. -/
def Okb (T : EI → EI → Bool) (X ys : List EI) (s lo hi : Nat) : Prop := ∀ q, lo + q * s < hi → Blk T X ys (lo + q * s) (min (lo + (q + 1) * s) hi)
theorem okb_head {T : EI → EI → Bool} {X ys : List EI} {s lo hi : Nat} (h : Okb T X ys s lo hi) (hl : lo < hi) : Blk T X ys lo (min (lo + s) hi) := by
  have := h 0 (by omega)
  simpa using this
theorem okb_tail {T : EI → EI → Bool} {X ys : List EI} {s lo hi : Nat} (h : Okb T X ys s lo hi) : Okb T X ys s (lo + s) hi := fun q hq => by
  have e1 : lo + s + q * s = lo + (q + 1) * s := by rw [Nat.add_mul]; omega
  have e2 : lo + s + (q + 1) * s = lo + (q + 1 + 1) * s := by rw [Nat.add_mul (q + 1)]; omega
  rw [e1] at hq ⊢
  rw [e2]
  exact h (q + 1) hq
theorem okb_nil {T : EI → EI → Bool} {X ys : List EI} {s lo hi : Nat} (h : hi ≤ lo) : Okb T X ys s lo hi := fun q hq => by omega
theorem okb_snoc {T : EI → EI → Bool} {X ys : List EI} {t a b k : Nat} (h : Okb T X ys t 0 a) (ha : a = k * t) (hab : a < b) (hb : b ≤ a + t) (hB : Blk T X ys a b) : Okb T X ys t 0 b := fun q hq => by
  rw [Nat.zero_add] at hq ⊢
  rw [Nat.zero_add]
  rcases Nat.lt_trichotomy q k with hl | he | hg
  · have h1 : (q + 1) * t ≤ k * t := Nat.mul_le_mul_right t hl
    have h2 := h q (by rw [Nat.zero_add]; rw [Nat.add_mul] at h1; omega)
    rw [Nat.zero_add, Nat.zero_add] at h2
    rw [Nat.min_eq_left (by omega)] at h2 ⊢
    exact h2
  · subst he
    rw [Nat.min_eq_right (by rw [Nat.add_mul]; omega), ← ha]
    exact hB
  · have h1 : (k + 1) * t ≤ q * t := Nat.mul_le_mul_right t hg
    rw [Nat.add_mul] at h1
    omega
theorem okb_low {T : EI → EI → Bool} {X ys Z : List EI} {t a b : Nat} (hab : a ≤ b) (hb : b ≤ ys.length) (hZ : Z.length = b - a) (h : Okb T X ys t 0 a) : Okb T X (ys.take a ++ (Z ++ ys.drop b)) t 0 a := fun q hq => by
  have := h q hq
  unfold Blk at this ⊢
  rw [(seg_put hab hb hZ).2.2.1 _ _ (Nat.min_le_right _ _)]
  exact this
theorem okb_high {T : EI → EI → Bool} {X ys Z : List EI} {s a b n : Nat} (hab : a ≤ b) (hb : b ≤ ys.length) (hZ : Z.length = b - a) (h : Okb T X ys s b n) : Okb T X (ys.take a ++ (Z ++ ys.drop b)) s b n := fun q hq => by
  have := h q hq
  unfold Blk at this ⊢
  rw [(seg_put hab hb hZ).2.2.2 _ _ (by omega)]
  exact this
theorem blk_put {T : EI → EI → Bool} {X ys Z : List EI} {a b : Nat} (hab : a ≤ b) (hb : b ≤ ys.length) (hZ : Z.length = b - a) (hs : Srt T Z) (hp : Z.Perm (seg X a b)) : Blk T X (ys.take a ++ (Z ++ ys.drop b)) a b := by
  unfold Blk
  rw [(seg_put hab hb hZ).2.1]
  exact ⟨hs, hp⟩
/-- What is not sorted yet is as it was. -/
def Rest (X ys : List EI) (a : Nat) : Prop := ∀ c d, a ≤ c → seg ys c d = seg X c d
set_option maxRecDepth 100000 in
set_option maxHeartbeats 16000000 in
theorem stabI (w : World) (bk n cap g : Nat) (cb : Array Value) (cf : Int → Int → Int) (T : EI → EI → Bool) (X : List EI) (eg : ∀ args w, (callFunc g args).run Tryz.prog w = .ok (.enter g args) w) (h : RwI w bk X) (hn : X.length = n) (hm : n ≤ 1000000000000)
    (tr : ∀ a b c, T a b = true → T b c = true → T a c = true) (hR : X.Pairwise (fun q p => Rgt cf T p q)) (hc : CmpI g cb cf bk w) :
    Calls Tryz.prog 127 #[.slice (some ⟨bk, 0, none⟩) n cap, .int .i64 n, .func (.func g) #[] cb] w fun e w' => e = .returned (.tuple #[]) ∧ ∃ Z, RwI w' bk Z ∧ Srt T Z ∧ Z.Perm X ∧ Fr (fun c => c = bk) w w' := by
  have H0 := Lib.hid h; have HN := Lib.hid hn; have HM := Lib.hid hm; have HTR := Lib.hid tr; have HRR := Lib.hid hR; have HC := Lib.hid hc
  have SYM := Lib.hid (symAll bk n cap g cb cf T eg hm tr)
  have INS := Lib.hid (fun w P A S ia ib h hn ha hb hR hc => @insI w bk n cap g cb cf T P A S ia ib eg h hn hm ha hb tr hR hc)
  have i1 : (n : Int) ≤ 1000000000000 := by omega
  clear h hn hm tr hR hc
  go_enter Tryz.func127, Tryz.ntmps127
  go_wp2_with fail
  go_loopw [7, 8] (fun va vb wr => ∃ (a k : Nat) (ys : List EI), va = .int .i64 a ∧ vb = .int .i64 ((a : Int) + 20) ∧ a = k * 20 ∧ a ≤ n ∧ ys.length = n ∧ RwI wr bk ys ∧ Okb T X ys 20 0 a ∧ Rest X ys a ∧ Fr (fun c => c = bk) w wr) (fun va _ _ => ((n : Int) - intOf va).toNat)
  case atStart => exact ⟨0, 0, X, rfl, by simp, rfl, Nat.zero_le _, HN.out, H0.out, okb_nil (Nat.le_refl _), fun _ _ _ => rfl, Fr.refl _ _⟩
  case round =>
    obtain ⟨a, k, ys, rfl, rfl, hk, han, hyl, hr, hok, hrest, hf⟩ := hrel
    have HK := Lib.hid hk; have HYL := Lib.hid hyl; have HR := Lib.hid hr; have HOK := Lib.hid hok; have HRS := Lib.hid hrest; have HF := Lib.hid hf
    clear hk hyl hr hok hrest hf
    by_cases hlt : a + 20 ≤ n
    · have hltI : (a : Int) + 20 ≤ n := by omega
      have hrow : Hid (RwI wr bk (ys.take a ++ (seg ys a (a + 20) ++ ys.drop (a + 20)))) := Lib.hid (by have := HR.out; rw [seg_split ys (show a ≤ a + 20 by omega)] at this; exact this)
      go_wp2_with fail
      refine (INS.out wr (ys.take a) (seg ys a (a + 20)) (ys.drop (a + 20)) _ _ hrow.out (by rw [← seg_split ys (show a ≤ a + 20 by omega), HYL.out]) (by have := HYL.out; simp; omega) (by rw [seg_len (by have := HYL.out; omega)]; have := HYL.out; simp; omega) (by rw [HRS.out a (a + 20) (Nat.le_refl _)]; exact seg_pw HRR.out _ _) (HC.out.fr HF.out)).mono ?_
      rintro e w3 ⟨rfl, Z, hz1, hz2, hz3, hz4⟩
      have hzl : Z.length = a + 20 - a := by rw [hz3.length_eq, seg_len (by have := HYL.out; omega)]
      rw [HRS.out a (a + 20) (Nat.le_refl _)] at hz3
      have HZ1 := Lib.hid hz1; have HZ2 := Lib.hid hz2; have HZ3 := Lib.hid hz3; have HZL := Lib.hid hzl; have HF3 := Lib.hid (HF.out.trans hz4)
      clear hz1 hz2 hz3 hz4 hzl
      go_wp2_with fail
      go_roundw
      case rel =>
        have hp := seg_put (xs := ys) (Z := Z) (a := a) (b := a + 20) (by omega) (by have := HYL.out; omega) HZL.out
        refine ⟨a + 20, k + 1, ys.take a ++ (Z ++ ys.drop (a + 20)), by first | rfl | (congr 1; done) | (congr 1; omega), by first | rfl | (congr 1; done) | (congr 1; omega), by have := HK.out; omega, hlt, by rw [hp.1]; exact HYL.out, HZ1.out, ?_, fun c d hcd => ?_, HF3.out⟩
        · exact okb_snoc (okb_low (by omega) (by have := HYL.out; omega) HZL.out HOK.out) HK.out (by omega) (Nat.le_refl _) (blk_put (by omega) (by have := HYL.out; omega) HZL.out HZ2.out HZ3.out)
        · rw [hp.2.2.2 c d hcd]; exact HRS.out c d (by omega)
      case measure => simp [intOf]; omega
    · have hltI : ¬ (a : Int) + 20 ≤ n := by omega
      have hrow : Hid (RwI wr bk (ys.take a ++ (seg ys a n ++ ys.drop n))) := Lib.hid (by have := HR.out; rw [seg_split ys han] at this; exact this)
      go_wp2_with fail
      refine (INS.out wr (ys.take a) (seg ys a n) (ys.drop n) _ _ hrow.out (by rw [← seg_split ys han, HYL.out]) (by have := HYL.out; simp; omega) (by rw [seg_len (by have := HYL.out; omega)]; have := HYL.out; simp; omega) (by rw [HRS.out a n (Nat.le_refl _)]; exact seg_pw HRR.out _ _) (HC.out.fr HF.out)).mono ?_
      rintro e w3 ⟨rfl, Z, hz1, hz2, hz3, hz4⟩
      have hzl : Z.length = n - a := by rw [hz3.length_eq, seg_len (by have := HYL.out; omega)]
      rw [HRS.out a n (Nat.le_refl _)] at hz3
      have hp := seg_put (xs := ys) (Z := Z) (a := a) (b := n) han (by have := HYL.out; omega) hzl
      have hok2 : Okb T X (ys.take a ++ (Z ++ ys.drop n)) 20 0 n := by
        have hlow := okb_low han (by have := HYL.out; omega) hzl HOK.out
        by_cases e : a = n
        · rw [e] at hlow ⊢; exact hlow
        · exact okb_snoc hlow HK.out (by omega) (by omega) (blk_put han (by have := HYL.out; omega) hzl hz2 hz3)
      obtain ⟨y2, hy2⟩ : ∃ y2, ys.take a ++ (Z ++ ys.drop n) = y2 := ⟨_, rfl⟩
      have hl2 := hp.1
      rw [hy2] at hz1 hok2 hl2
      have HZ1 := Lib.hid hz1; have HOK2 := Lib.hid hok2; have HL2 := Lib.hid (hl2.trans HYL.out); have HF3 := Lib.hid (HF.out.trans hz4)
      clear hz1 hz2 hz3 hz4 hzl hp hok2 hy2 hl2 hltI
      go_wp2_with fail
      go_loopw [6] (fun vs wr => ∃ (s : Nat) (y : List EI), vs = .int .i64 s ∧ 0 < s ∧ y.length = n ∧ RwI wr bk y ∧ Okb T X y s 0 n ∧ Fr (fun c => c = bk) w wr) (fun vs _ => ((n : Int) - intOf vs).toNat)
      case atStart => exact ⟨20, y2, rfl, by omega, HL2.out, HZ1.out, HOK2.out, HF3.out⟩
      case round =>
        obtain ⟨s, y, rfl, hs0, hyl, hr, hok, hf⟩ := hrel
        have HYL := Lib.hid hyl; have HR := Lib.hid hr; have HOK := Lib.hid hok; have HF := Lib.hid hf
        clear hyl hr hok hf
        by_cases hsn : s < n
        · have hsI : (s : Int) < n := by omega
          have hs0I : (0 : Int) < s := by omega
          obtain ⟨wo, rfl⟩ : ∃ wo : World, wo = wr := ⟨_, rfl⟩
          go_wp2_with fail
          go_loopw [7, 8] (fun va vb wr => ∃ (a k : Nat) (ys : List EI), va = .int .i64 a ∧ vb = .int .i64 ((a : Int) + 2 * s) ∧ a = k * (2 * s) ∧ a ≤ n ∧ ys.length = n ∧ RwI wr bk ys ∧ Okb T X ys (2 * s) 0 a ∧ Okb T X ys s a n ∧ Fr (fun c => c = bk) w wr) (fun va _ _ => ((n : Int) - intOf va).toNat)
          case atStart => exact ⟨0, 0, y, rfl, by simp, by simp, Nat.zero_le _, HYL.out, HR.out, okb_nil (Nat.le_refl _), HOK.out, HF.out⟩
          case round =>
            obtain ⟨a, k, ys, rfl, rfl, hk, han, hyl, hr, hok1, hok2, hf⟩ := hrel
            have HK := Lib.hid hk; have HYL := Lib.hid hyl; have HR := Lib.hid hr; have HOK1 := Lib.hid hok1; have HOK2 := Lib.hid hok2; have HF := Lib.hid hf
            clear hk hyl hr hok1 hok2 hf
            by_cases hlt : a + 2 * s ≤ n
            · have hltI : (a : Int) + 2 * s ≤ n := by omega
              have b1 := okb_head HOK2.out (by omega)
              have b2 := okb_head (okb_tail HOK2.out) (by omega)
              rw [Nat.min_eq_left (by omega)] at b1 b2
              rw [show a + s + s = a + 2 * s by omega] at b2
              have hsp : ys = ys.take a ++ (seg ys a (a + s) ++ (seg ys (a + s) (a + 2 * s) ++ ys.drop (a + 2 * s))) := by
                rw [← List.append_assoc (seg ys a (a + s)), ← seg_app ys (by omega) (by omega)]
                exact seg_split ys (by omega)
              have l1 : (seg ys a (a + s)).length = s := by rw [seg_len (by have := HYL.out; omega)]; omega
              have l2 : (seg ys (a + s) (a + 2 * s)).length = s := by rw [seg_len (by have := HYL.out; omega)]; omega
              have l3 : (ys.take a).length = a := by have := HYL.out; simp; omega
              have hrow : Hid (RwI wr bk (ys.take a ++ (seg ys a (a + s) ++ (seg ys (a + s) (a + 2 * s) ++ ys.drop (a + 2 * s))))) := Lib.hid (by rw [← hsp]; exact HR.out)
              have HSP := Lib.hid hsp; have L1 := Lib.hid l1; have L2 := Lib.hid l2; have L3 := Lib.hid l3; have B1 := Lib.hid b1; have B2 := Lib.hid b2
              clear hsp l1 l2 l3 b1 b2
              go_wp2_with fail
              refine (SYM.out _ wr (ys.take a) (seg ys a (a + s)) (seg ys (a + s) (a + 2 * s)) (ys.drop (a + 2 * s)) _ _ _ (Nat.le_refl _) (by rw [L1.out]; omega) (by rw [L2.out]; omega) hrow.out (by rw [← HSP.out, HYL.out]) (by rw [L3.out]) (by rw [L3.out, L1.out]; omega) (by rw [L3.out, L1.out, L2.out]; omega) B1.out.1 B2.out.1 (fun p hp q hq => seg_pair HRR.out (show a ≤ a + s by omega) (show a + s ≤ a + 2 * s by omega) q (B1.out.2.mem_iff.1 hq) p (B2.out.2.mem_iff.1 hp)) (HC.out.fr HF.out)).mono ?_
              rintro e w3 ⟨rfl, Z, hz1, hz2, hz3, hz4⟩
              have hzl : Z.length = a + 2 * s - a := by rw [hz3.length_eq, List.length_append, L1.out, L2.out]; omega
              have hz5 : Z.Perm (seg X a (a + 2 * s)) := by rw [seg_app X (show a ≤ a + s by omega) (show a + s ≤ a + 2 * s by omega)]; exact hz3.trans (B1.out.2.append B2.out.2)
              have HZ1 := Lib.hid hz1; have HZ2 := Lib.hid hz2; have HZ3 := Lib.hid hz5; have HZL := Lib.hid hzl; have HF3 := Lib.hid (HF.out.trans hz4)
              clear hz1 hz2 hz3 hz4 hz5 hzl
              go_wp2_with fail
              go_roundw
              case rel =>
                have hp := seg_put (xs := ys) (Z := Z) (a := a) (b := a + 2 * s) (by omega) (by have := HYL.out; omega) HZL.out
                refine ⟨a + 2 * s, k + 1, ys.take a ++ (Z ++ ys.drop (a + 2 * s)), by first | rfl | (congr 1; done) | (congr 1; omega), by first | rfl | (congr 1; done) | (congr 1; omega), by have := HK.out; rw [Nat.add_mul]; omega, hlt, by rw [hp.1]; exact HYL.out, HZ1.out, ?_, ?_, HF3.out⟩
                · exact okb_snoc (okb_low (by omega) (by have := HYL.out; omega) HZL.out HOK1.out) HK.out (by omega) (Nat.le_refl _) (blk_put (by omega) (by have := HYL.out; omega) HZL.out HZ2.out HZ3.out)
                · refine okb_high (by omega) (by have := HYL.out; omega) HZL.out ?_
                  have := okb_tail (okb_tail HOK2.out)
                  rw [show a + s + s = a + 2 * s by omega] at this
                  exact this
              case measure => simp [intOf]; omega
            · have hltI : ¬ (a : Int) + 2 * s ≤ n := by omega
              by_cases hmn : a + s < n
              · have hmI : (a : Int) + s < n := by omega
                have b1 := okb_head HOK2.out (by omega)
                have b2 := okb_head (okb_tail HOK2.out) hmn
                rw [Nat.min_eq_left (by omega)] at b1
                rw [Nat.min_eq_right (by omega)] at b2
                have hsp : ys = ys.take a ++ (seg ys a (a + s) ++ (seg ys (a + s) n ++ ys.drop n)) := by
                  rw [← List.append_assoc (seg ys a (a + s)), ← seg_app ys (by omega) (by omega)]
                  exact seg_split ys han
                have l1 : (seg ys a (a + s)).length = s := by rw [seg_len (by have := HYL.out; omega)]; omega
                have l2 : (seg ys (a + s) n).length = n - (a + s) := by rw [seg_len (by have := HYL.out; omega)]
                have l3 : (ys.take a).length = a := by have := HYL.out; simp; omega
                have hrow : Hid (RwI wr bk (ys.take a ++ (seg ys a (a + s) ++ (seg ys (a + s) n ++ ys.drop n)))) := Lib.hid (by rw [← hsp]; exact HR.out)
                have HSP := Lib.hid hsp; have L1 := Lib.hid l1; have L2 := Lib.hid l2; have L3 := Lib.hid l3; have B1 := Lib.hid b1; have B2 := Lib.hid b2
                clear hsp l1 l2 l3 b1 b2
                go_wp2_with fail
                refine (SYM.out _ wr (ys.take a) (seg ys a (a + s)) (seg ys (a + s) n) (ys.drop n) _ _ _ (Nat.le_refl _) (by rw [L1.out]; omega) (by rw [L2.out]; omega) hrow.out (by rw [← HSP.out, HYL.out]) (by rw [L3.out]) (by rw [L3.out, L1.out]; omega) (by rw [L3.out, L1.out, L2.out]; omega) B1.out.1 B2.out.1 (fun p hp q hq => seg_pair HRR.out (show a ≤ a + s by omega) (show a + s ≤ n by omega) q (B1.out.2.mem_iff.1 hq) p (B2.out.2.mem_iff.1 hp)) (HC.out.fr HF.out)).mono ?_
                rintro e w3 ⟨rfl, Z, hz1, hz2, hz3, hz4⟩
                have hzl : Z.length = n - a := by rw [hz3.length_eq, List.length_append, L1.out, L2.out]; omega
                have hz5 : Z.Perm (seg X a n) := by rw [seg_app X (show a ≤ a + s by omega) (show a + s ≤ n by omega)]; exact hz3.trans (B1.out.2.append B2.out.2)
                have hp := seg_put (xs := ys) (Z := Z) (a := a) (b := n) han (by have := HYL.out; omega) hzl
                have hfin : Okb T X (ys.take a ++ (Z ++ ys.drop n)) (2 * s) 0 n := okb_snoc (okb_low han (by have := HYL.out; omega) hzl HOK1.out) HK.out (by omega) (by omega) (blk_put han (by have := HYL.out; omega) hzl hz2 hz5)
                obtain ⟨y3, hy3⟩ : ∃ y3, ys.take a ++ (Z ++ ys.drop n) = y3 := ⟨_, rfl⟩
                have hl3 := hp.1
                rw [hy3] at hz1 hfin hl3
                have HZ1 := Lib.hid hz1; have HFIN := Lib.hid hfin; have HL3 := Lib.hid (hl3.trans HYL.out); have HF3 := Lib.hid (HF.out.trans hz4)
                clear hz1 hz2 hz3 hz4 hz5 hzl hp hfin hy3 hl3
                go_wp2_with fail
                go_roundw
                case rel => exact ⟨2 * s, y3, by first | rfl | (congr 1; done) | (congr 1; omega), by omega, HL3.out, HZ1.out, HFIN.out, HF3.out⟩
                case measure => simp [intOf]; omega
              · have hmI : ¬ (a : Int) + s < n := by omega
                have hfin : Okb T X ys (2 * s) 0 n := by
                  by_cases e : a = n
                  · rw [← e]; exact HOK1.out
                  · have b1 := okb_head HOK2.out (by omega)
                    rw [Nat.min_eq_right (by omega)] at b1
                    exact okb_snoc HOK1.out HK.out (by omega) (by omega) b1
                have HFIN := Lib.hid hfin
                clear hfin
                go_wp2_with fail
                go_roundw
                case rel => exact ⟨2 * s, ys, by first | rfl | (congr 1; done) | (congr 1; omega), by omega, HYL.out, HR.out, HFIN.out, HF.out⟩
                case measure => simp [intOf]; omega
        · have hsI : ¬ (s : Int) < n := by omega
          have hfin : Srt T y ∧ y.Perm X := by
            by_cases e : n = 0
            · have e1 : y = [] := List.eq_nil_of_length_eq_zero (by rw [HYL.out]; exact e)
              have e2 : X = [] := List.eq_nil_of_length_eq_zero (by rw [HN.out]; exact e)
              rw [e1, e2]; exact ⟨Srt.nil, List.Perm.refl _⟩
            · have b1 := okb_head HOK.out (by omega)
              rw [Nat.zero_add, Nat.min_eq_right (by omega)] at b1
              have e1 : ∀ u : List EI, u.length = n → seg u 0 n = u := fun u hu => by unfold seg; rw [List.drop_zero, List.take_of_length_le (by omega)]
              unfold Blk at b1
              rw [e1 y HYL.out, e1 X HN.out] at b1
              exact b1
          have HFIN := Lib.hid hfin
          clear hfin
          go_wp2_with fail
          go_end0
          exact ⟨rfl, y, HR.out, HFIN.out.1, HFIN.out.2, HF.out⟩
/-- The same, its elements named by their places. -/
theorem rwI_zip {W : World} {b : Nat} {l : List Int} {rest : List Value} (h : W.heap[b]? = some (.cells (l.map (Value.int .i64) ++ rest).toArray 3)) : RwI W b (l.zipIdx 0) := ⟨rest, by
  have e : (l.zipIdx 0).map encI = l.map (Value.int .i64) := by
    apply List.ext_getElem?
    intro i
    rw [List.getElem?_map, List.getElem?_zipIdx, List.getElem?_map]
    cases l[i]? <;> rfl
  rw [e]; exact h⟩
set_option maxRecDepth 100000 in
set_option maxHeartbeats 4000000 in
/-- slices.SortStableFunc: a row of ints of the caller's own is laid in the stable order. -/
theorem sortStableI (w : World) (bk n cap g : Nat) (cb : Array Value) (cf : Int → Int → Int) (l : List Int) (eg : ∀ args w, (callFunc g args).run Tryz.prog w = .ok (.enter g args) w) (hl : l.length = n) (hm : n ≤ 1000000000000) (hS : SwoB (fun x y => decide (cf x y < 0)))
    (h : RwI w bk (l.zipIdx 0)) (hD : ∀ x ∈ l, ∀ y ∈ l, -1 ≤ cf x y ∧ cf x y ≤ 1) (hc : CmpI g cb cf bk w) :
    Calls Tryz.prog 93 #[.slice (some ⟨bk, 0, none⟩) n cap, .func (.func g) #[] cb] w fun e w' => e = .returned (.tuple #[]) ∧ (∃ rest : List Value, w'.heap[bk]? = some (.cells ((stab (fun x y => decide (cf x y < 0)) l).map (Value.int .i64) ++ rest).toArray 3)) ∧ Fr (fun c => c = bk) w w' := by
  have hst := Lib.hid (stabI w bk n cap g cb cf (tagT (fun x y => decide (cf x y < 0))) (l.zipIdx 0) eg h (by rw [List.length_zipIdx]; exact hl) hm (tag_tr hS) ((zip_pair l 0).imp_of_mem (fun {q p} hq hp hlt => by
    obtain ⟨h1, h2⟩ := tag_rgt hS hlt
    exact ⟨h1.symm, h2, hD _ (zip_mem hp) _ (zip_mem hq)⟩)) hc)
  have HS := Lib.hid hS
  have hnI : (n : Int) ≤ 1000000000000 := by omega
  clear h hc hl hm hS hD
  go_enter Tryz.func93, Tryz.ntmps93
  go_wp2_with (go_at_call 127; refine hst.out.mono ?_; rintro e w' ⟨rfl, Z, hz1, hz2, hz3, hz4⟩; have HZ1 := Lib.hid hz1; have HZ2 := Lib.hid hz2; have HZ3 := Lib.hid hz3; have HZ4 := Lib.hid hz4; clear hz1 hz2 hz3 hz4)
  go_end0
  refine ⟨rfl, ?_, HZ4.out⟩
  obtain ⟨rest, hr⟩ := HZ1.out
  refine ⟨rest, ?_⟩
  rw [← stab_eq HS.out HZ2.out HZ3.out, List.map_map]
  exact hr
end Go.Proofs.YtlniekobijcanaaGreat
namespace Go.Proofs.YtlniekobijcanaaGreat
open Go.RowKit Go.Maps
set_option maxRecDepth 100000 in
set_option maxHeartbeats 8000000 in
theorem bOrd1 (w : World) (g gc b5 b3 i j : Nat) (cbc : Array Value) (L : List BV) (A B : BV) (C : Int) (eg : ∀ args w, (callFunc gc args).run Tryz.prog w = .ok (.enter gc args) w) (h : Fl w g L) (hi : L[i]? = some A) (hj : L[j]? = some B)
    (h5 : w.cell? ⟨b5, 0, none⟩ = some (.func (.func gc) #[] cbc)) (h3 : w.cell? ⟨b3, 0, none⟩ = some (.pointer (some ⟨g, 0, none⟩)))
    (hC : ∀ W, Fr (fun _ => False) w W → Calls Tryz.prog gc (#[.agg A.cs, .agg B.cs] ++ cbc) W fun e w' => e = .returned (.int .i64 C) ∧ Fr (fun _ => False) W w') :
    Calls Tryz.prog 94 #[.int .i64 i, .int .i64 j, .pointer (some ⟨b5, 0, none⟩), .pointer (some ⟨b3, 0, none⟩)] w fun e w' => e = .returned (.int .i64 C) ∧ Fr (fun _ => False) w w' := by
  obtain ⟨a, c, q1, q2⟩ := h
  have hiN := (List.getElem?_eq_some_iff.1 hi).1
  have hjN := (List.getElem?_eq_some_iff.1 hj).1
  have hNI := q2.len
  obtain ⟨N, hN⟩ : ∃ N, L.length = N := ⟨_, rfl⟩
  rw [hN] at q1 q2 hNI hiN hjN
  have hiI : (i : Int) < N := by omega
  have hjI : (j : Int) < N := by omega
  obtain ⟨ad, rfl, okA, z0, zs⟩ := q2.at_ hi
  obtain ⟨ad', e', okB, y0, ys⟩ := q2.at_ hj
  cases e'
  obtain ⟨la, lc, hl⟩ := okA.l.sl
  obtain ⟨lb, ld, hm⟩ := okB.l.sl
  have HC : Hid (∀ W, Fr (fun _ => False) w W → Calls Tryz.prog gc (#[.agg #[.int .i64 A.nu, .int .i64 A.zo, .int .i64 A.ro, .slice la A.its.length lc], .agg #[.int .i64 B.nu, .int .i64 B.zo, .int .i64 B.ro, .slice lb B.its.length ld]] ++ cbc) W fun e w' => e = .returned (.int .i64 C) ∧ Fr (fun _ => False) W w') := Lib.hid (fun W hf => by
    have := hC W hf
    unfold BV.cs at this
    rw [hl, hm] at this
    exact this)
  have u0 := FrW.cell (cell_obj q1 0 (.slice (some ad) N c) rfl)
  have u1 := FrW.cell (z0 (.int .i64 A.nu) rfl)
  have u2 := FrW.cell (zs 0 (.int .i64 A.zo) rfl)
  have u3 := FrW.cell (zs 1 (.int .i64 A.ro) rfl)
  have u4 := FrW.cell (zs 2 (.slice la A.its.length lc) (by rw [← hl]; rfl))
  have u5 := FrW.cell (y0 (.int .i64 B.nu) rfl)
  have u6 := FrW.cell (ys 0 (.int .i64 B.zo) rfl)
  have u7 := FrW.cell (ys 1 (.int .i64 B.ro) rfl)
  have u8 := FrW.cell (ys 2 (.slice lb B.its.length ld) (by rw [← hm]; rfl))
  have u9 := FrW.cell h5
  have u10 := FrW.cell h3
  clear hC h5 h3 q1 q2 hi hj z0 zs y0 ys okA okB hl hm hN
  go_enter Tryz.func94, Tryz.ntmps94
  go_wp2_with fail
  refine wp_region_fr (by kernel_rfl) (by kernel_rfl) ?_
  repeat (go_big_quiet_step ((go_at_fn gc; rename_i X; refine (HC.out X.val X.fr).mono ?_; rintro e w2 ⟨rfl, hF⟩; exact ⟨rfl, ⟨w2, X.fr.trans hF⟩, rfl⟩)))
  refine wpQuiet_nil ?_
  rintro _ ⟨⟨V, hV⟩, rfl⟩
  go_wp2_with fail
  go_ret
  exact ⟨rfl, hV⟩
end Go.Proofs.YtlniekobijcanaaGreat
namespace Go.Proofs.YtlniekobijcanaaGreat
open Go.RowKit
set_option maxRecDepth 100000 in
set_option maxHeartbeats 1000000 in
theorem insNil (w : World) (fv : Value) : Calls Tryz.prog 137 #[.slice none 0 0, .int .i64 0, .int .i64 0, fv] w fun e w' => e = .returned (.tuple #[]) ∧ Fr (fun _ => False) w w' := by
  go_enter Tryz.func137, Tryz.ntmps137
  go_wp2
  refine wp_loop_rounds 2 ?_
  repeat (rw [rounds_succ]; go_wp2)
  go_end0
  exact ⟨rfl, Fr.refl _ _⟩
set_option maxRecDepth 100000 in
set_option maxHeartbeats 1000000 in
theorem stabNil (w : World) (fv : Value) : Calls Tryz.prog 127 #[.slice none 0 0, .int .i64 0, fv] w fun e w' => e = .returned (.tuple #[]) ∧ Fr (fun _ => False) w w' := by
  go_enter Tryz.func127, Tryz.ntmps127
  go_wp2_with fail
  refine wp_loop_rounds 2 ?_
  repeat (rw [rounds_succ]; go_wp2_with fail)
  refine (insNil _ _).mono ?_
  rintro e w1 ⟨rfl, hf1⟩
  go_wp2_with fail
  refine wp_loop_rounds 2 ?_
  repeat (rw [rounds_succ]; go_wp2_with fail)
  go_end0
  exact ⟨rfl, hf1⟩
set_option maxRecDepth 100000 in
set_option maxHeartbeats 1000000 in
theorem sortNil (w : World) (fv : Value) : Calls Tryz.prog 93 #[.slice none 0 0, fv] w fun e w' => e = .returned (.tuple #[]) ∧ Fr (fun _ => False) w w' := by
  go_enter Tryz.func93, Tryz.ntmps93
  go_wp2_with fail
  refine (stabNil _ _).mono ?_
  rintro e w1 ⟨rfl, hf1⟩
  go_wp2_with fail
  go_end0
  exact ⟨rfl, hf1⟩
set_option maxRecDepth 100000 in
set_option maxHeartbeats 1000000 in
theorem insNilP (w : World) (fv : Value) : Calls Tryz.prog 124 #[.slice none 0 0, .int .i64 0, .int .i64 0, fv] w fun e w' => e = .returned (.tuple #[]) ∧ Fr (fun _ => False) w w' := by
  go_enter Tryz.func124, Tryz.ntmps124
  go_wp2
  refine wp_loop_rounds 2 ?_
  repeat (rw [rounds_succ]; go_wp2)
  go_end0
  exact ⟨rfl, Fr.refl _ _⟩
set_option maxRecDepth 100000 in
set_option maxHeartbeats 1000000 in
theorem stabNilP (w : World) (fv : Value) : Calls Tryz.prog 90 #[.slice none 0 0, .int .i64 0, fv] w fun e w' => e = .returned (.tuple #[]) ∧ Fr (fun _ => False) w w' := by
  go_enter Tryz.func90, Tryz.ntmps90
  go_wp2_with fail
  refine wp_loop_rounds 2 ?_
  repeat (rw [rounds_succ]; go_wp2_with fail)
  refine (insNilP _ _).mono ?_
  rintro e w1 ⟨rfl, hf1⟩
  go_wp2_with fail
  refine wp_loop_rounds 2 ?_
  repeat (rw [rounds_succ]; go_wp2_with fail)
  go_end0
  exact ⟨rfl, hf1⟩
set_option maxRecDepth 100000 in
set_option maxHeartbeats 1000000 in
theorem sortNilP (w : World) (fv : Value) : Calls Tryz.prog 40 #[.slice none 0 0, fv] w fun e w' => e = .returned (.tuple #[]) ∧ Fr (fun _ => False) w w' := by
  go_enter Tryz.func40, Tryz.ntmps40
  go_wp2_with fail
  refine (stabNilP _ _).mono ?_
  rintro e w1 ⟨rfl, hf1⟩
  go_wp2_with fail
  go_end0
  exact ⟨rfl, hf1⟩
end Go.Proofs.YtlniekobijcanaaGreat
namespace Go.Proofs.YtlniekobijcanaaGreat
open Go.RowKit Go.Maps
theorem infoIntB : (Tryz.prog.info? 3).map (fun i => (i.zero, i.size, i.bytes)) = some (some (.int .i64 0), 1, 8) := by kernel_rfl
/-- A comparison of bins, as one of places (out of L: behind all others). -/
def cfI {α : Type} (L : List α) (cf : α → α → Int) (x y : Int) : Int :=
  match (if 0 ≤ x then L[x.toNat]? else none), (if 0 ≤ y then L[y.toNat]? else none) with
  | some a, some b => cf a b
  | some _, none => -2
  | none, _ => 2
/-- The places of the bins that are so, of the first k. -/
def idxK {α : Type} (L : List α) (isF : α → Bool) (k : Nat) : List Int := ((List.range k).filter fun i => (L[i]?).any isF).map Int.ofNat
theorem idxK_succ {α : Type} {L : List α} {isF : α → Bool} {k : Nat} {x : α} (h : L[k]? = some x) : idxK L isF (k + 1) = idxK L isF k ++ (if isF x = true then [(k : Int)] else []) := by
  unfold idxK
  rw [List.range_succ, List.filter_append, List.map_append]
  congr 1
  by_cases hx : isF x = true <;> simp [h, hx]
theorem idxK_len {α : Type} (L : List α) (isF : α → Bool) (k : Nat) : (idxK L isF k).length ≤ k := by
  unfold idxK
  rw [List.length_map]
  exact Nat.le_trans (List.length_filter_le _ _) (by simp)
theorem idxK_mem {α : Type} {L : List α} {isF : α → Bool} {k : Nat} {x : Int} (h : x ∈ idxK L isF k) : ∃ (i : Nat) (b : α), x = (i : Int) ∧ i < k ∧ L[i]? = some b ∧ isF b = true := by
  unfold idxK at h
  obtain ⟨i, hi, rfl⟩ := List.mem_map.1 h
  obtain ⟨h1, h2⟩ := List.mem_filter.1 hi
  cases hb : L[i]? with
  | none => rw [hb] at h2; cases h2
  | some b => rw [hb] at h2; exact ⟨i, b, rfl, List.mem_range.1 h1, hb, h2⟩
theorem cfI_at {α : Type} {L : List α} {cf : α → α → Int} {i j : Nat} {a b : α} (hi : L[i]? = some a) (hj : L[j]? = some b) : cfI L cf (i : Int) (j : Int) = cf a b := by
  unfold cfI
  rw [if_pos (by omega), if_pos (by omega)]
  simp [hi, hj]
theorem cfI_in {α : Type} {L : List α} {cf : α → α → Int} {x y : Int} (h : -1 ≤ cfI L cf x y ∧ cfI L cf x y ≤ 1) : ∃ (i j : Nat) (a b : α), x = (i : Int) ∧ y = (j : Int) ∧ L[i]? = some a ∧ L[j]? = some b := by
  unfold cfI at h
  have key : ∀ x : Int, (∃ (i : Nat) (a : α), x = (i : Int) ∧ (if 0 ≤ x then L[x.toNat]? else none) = some a ∧ L[i]? = some a) ∨ (if 0 ≤ x then L[x.toNat]? else none) = none := fun x => by
    by_cases hx : 0 ≤ x
    · cases hl : L[x.toNat]? with
      | none => right; rw [if_pos hx]
      | some a => left; exact ⟨x.toNat, a, by omega, by rw [if_pos hx], hl⟩
    · right; rw [if_neg hx]
  rcases key x with ⟨i, a, e1, e2, e3⟩ | e2
  · rcases key y with ⟨j, b, f1, f2, f3⟩ | f2
    · exact ⟨i, j, a, b, e1, f1, e3, f3⟩
    · rw [e2, f2] at h; dsimp only at h; omega
  · rw [e2] at h; dsimp only at h; omega
theorem stab_perm {α : Type} (lt : α → α → Bool) (l : List α) : (stab lt l).Perm l := by
  suffices h : ∀ (l acc : List α), (l.foldl (insR lt) acc).Perm (acc ++ l) from h l []
  intro l
  induction l with
  | nil => intro acc; simp
  | cons x r ih =>
    intro acc
    rw [List.foldl_cons]
    refine (ih (insR lt acc x)).trans ?_
    refine ((insR_perm acc x).append_right r).trans ?_
    rw [List.cons_append]
    exact List.perm_middle.symm
theorem stab_len {α : Type} (lt : α → α → Bool) (l : List α) : (stab lt l).length = l.length := (stab_perm lt l).length_eq
/-- A slice of numbers. -/
abbrev Sn (w : World) (v : Value) (L : List Int) : Prop := Sq 1 (fun x : Int => #[Value.int .i64 x]) (fun _ _ => True) w v L
/-- The order: the places. -/
def ordI {α : Type} (L : List α) (isF : α → Bool) (cf : α → α → Int) : List Int := stab (fun x y => decide (cfI L cf x y < 0)) (idxK L isF L.length)
set_option maxRecDepth 100000 in
set_option maxHeartbeats 8000000 in
theorem bOrder (w : World) (g gi gc : Nat) (cbi cbc : Array Value) (L : List BV) (isF : BV → Bool) (cf : BV → BV → Int) (egi : ∀ args w, (callFunc gi args).run Tryz.prog w = .ok (.enter gi args) w) (egc : ∀ args w, (callFunc gc args).run Tryz.prog w = .ok (.enter gc args) w)
    (h : Fl w g L) (hL : 0 < L.length) (hL2 : L.length ≤ 1000000)
    (hI : ∀ (W : World) (x : BV), x ∈ L → Fr (fun _ => False) w W → Calls Tryz.prog gi (#[.agg x.cs] ++ cbi) W fun e w' => e = .returned (.bool (isF x)) ∧ Fr (fun _ => False) W w')
    (hC : ∀ (W : World) (x y : BV), x ∈ L → y ∈ L → Fr (fun _ => False) w W → Calls Tryz.prog gc (#[.agg x.cs, .agg y.cs] ++ cbc) W fun e w' => e = .returned (.int .i64 (cf x y)) ∧ Fr (fun _ => False) W w')
    (hS : SwoB (fun x y => decide (cfI L cf x y < 0))) (hD : ∀ x ∈ L, ∀ y ∈ L, -1 ≤ cf x y ∧ cf x y ≤ 1) :
    Calls Tryz.prog 47 #[.pointer (some ⟨g, 0, none⟩), .func (.func gi) #[] cbi, .func (.func gc) #[] cbc] w fun e w' => ∃ v, e = .returned v ∧ Sn w' v (ordI L isF cf) ∧ (∀ b, v.ownBlock = some b → w.heap.size ≤ b) ∧ Fr (fun _ => False) w w' := by
  obtain ⟨i0, hi', hz0, hz1, hz2⟩ := info_parts infoIntB
  obtain ⟨n0, hn0⟩ : ∃ n0, w.heap.size = n0 := ⟨_, rfl⟩
  obtain ⟨W0, hW0⟩ : ∃ W0, (w.alloc (.cells #[.pointer (some ⟨g, 0, none⟩)] 25)).alloc (.cells #[.func (.func gc) #[] cbc] 91) = W0 := ⟨_, rfl⟩
  have hb0 : W0.heap[n0]? = some (.cells #[.pointer (some ⟨g, 0, none⟩)] 25) := by rw [← hW0]; exact heap_keep (heap_at hn0.symm _) _
  have hb1 : W0.heap[n0 + 1]? = some (.cells #[.func (.func gc) #[] cbc] 91) := by rw [← hW0]; exact heap_at (by simp; omega) _
  have hF0 : Fr (fun _ => False) w W0 := by rw [← hW0]; exact ((Fr.refl _ w).alloc _).alloc _
  have HB0 := Lib.hid hb0; have HB1 := Lib.hid hb1; have HF0 := Lib.hid hF0; have HN0 := Lib.hid hn0
  have HI := Lib.hid hI; have HC := Lib.hid hC; have HS := Lib.hid hS; have HD := Lib.hid hD; have HFL := Lib.hid h
  obtain ⟨a, c, q1, q2⟩ := h.keep hF0
  have hNb := q2.len
  obtain ⟨N, hN⟩ : ∃ N, L.length = N := ⟨_, rfl⟩
  have HN := Lib.hid hN
  rw [hN] at q1 q2 hNb hL hL2
  have HL2 := Lib.hid hL2
  have HQ2 := Lib.hid q2
  have c0 := cell_obj q1 0 (.slice a N c) rfl
  have p0 := cell_obj hb0 0 (.pointer (some ⟨g, 0, none⟩)) rfl
  clear hI hC hS hD h q1 q2 hb0 hb1 hF0 hN
  go_enter Tryz.func47, Tryz.ntmps47
  go_wp2_with fail
  have hs0 : Hid (W0.heap.size = n0 + 2) := Lib.hid (by rw [← hW0]; simp; omega)
  go_loopw [7, 15] (fun vo vi wr => ∃ k : Nat, k ≤ N ∧ vi = .int .i64 k ∧ wr.ownsRow (n0 + 2) 3 1 vo (idxK L isF k).length ((idxK L isF k).map (Value.int .i64)) ∧ Fr (fun c => n0 + 2 ≤ c) W0 wr) (fun _ vi _ => N - (intOf vi).toNat)
  case atStart => exact ⟨0, Nat.zero_le _, rfl, World.ownsRow_nil _ _ _ _, Fr.refl _ _⟩
  case round =>
    obtain ⟨k, hk, rfl, hown, hfr⟩ := hrel
    have HOW := Lib.hid hown; have HFR := Lib.hid hfr
    have HF := Lib.hid (HF0.out.trans' hfr (fun b hb (e : n0 + 2 ≤ b) => by have := HN0.out; omega))
    obtain ⟨ao, co, rfl⟩ := row_sl hown
    have HKL := Lib.hid (idxK_len L isF k)
    by_cases hlt : k < N
    · obtain ⟨x, hx⟩ : ∃ x, L[k]? = some x := ⟨L[k]'(by rw [HN.out]; exact hlt), List.getElem?_eq_getElem _⟩
      have HIX := Lib.hid (idxK_succ (isF := isF) hx)
      have hxm := List.mem_of_getElem? hx
      obtain ⟨ad, rfl, hok, z0, zs⟩ := (HQ2.out.fr bokKeeps hfr (fun b e => by have := hs0.out; omega)).at_ hx
      have hkI : (k : Int) < N := by omega
      obtain ⟨la, lc, hl⟩ := hok.l.sl
      have x0 := z0 (.int .i64 x.nu) rfl
      have x1 := zs 0 (.int .i64 x.zo) rfl
      have x2 := zs 1 (.int .i64 x.ro) rfl
      have x3 := zs 2 x.l rfl
      dsimp only [Nat.zero_add, Nat.reduceAdd] at x0 x1 x2 x3
      rw [hl] at x3
      have hCI : Hid (Calls Tryz.prog gi (#[.agg #[.int .i64 x.nu, .int .i64 x.zo, .int .i64 x.ro, .slice la x.its.length lc]] ++ cbi) (wr.alloc (.cells #[.int .i64 x.nu, .int .i64 x.zo, .int .i64 x.ro, .slice la x.its.length lc] 76)) fun e w' => e = .returned (.bool (isF x)) ∧ Fr (fun _ => False) (wr.alloc (.cells #[.int .i64 x.nu, .int .i64 x.zo, .int .i64 x.ro, .slice la x.its.length lc] 76)) w') := Lib.hid (by
        have := HI.out (wr.alloc (.cells #[.int .i64 x.nu, .int .i64 x.zo, .int .i64 x.ro, .slice la x.its.length lc] 76)) x hxm (HF.out.alloc _)
        unfold BV.cs at this
        rw [hl] at this
        exact this)
      clear hx hxm hok z0 zs hl hown hfr
      cases hb : isF x with
      | false =>
        rw [hb] at hCI HIX
        rw [if_neg (by simp), List.append_nil] at HIX
        clear hb
        go_wp2_with (go_at_fn gi; refine hCI.out.mono ?_; rintro e w2 ⟨rfl, hf2⟩; have HF2 := Lib.hid (((Fr.refl (fun _ => False) wr).alloc _).trans hf2); clear hf2)
        go_roundw
        case rel => exact ⟨k + 1, by omega, by go_num, by rw [HIX.out]; exact HF2.out.row HOW.out (fun _ _ e => e), HFR.out.trans (HF2.out.mono (fun _ _ e => e.elim))⟩
        case measure => simp [intOf]; omega
      | true =>
        rw [hb] at hCI HIX
        rw [if_pos rfl] at HIX
        clear hb
        go_wp2_with (first
          | (go_at_fn gi; refine hCI.out.mono ?_; rintro e w2 ⟨rfl, hf2⟩; have HF2 := Lib.hid (((Fr.refl (fun _ => False) wr).alloc _).trans hf2); clear hf2)
          | (at_builtin; refine wpList_append_src rfl _ _ 87 rfl (n0 + 2) 3 i0 (.int .i64 0) 8 Tryz.underlying87 hi' hz0 hz1 hz2 rfl (by decide) (.slice ao (idxK L isF k).length co) (idxK L isF k).length ((idxK L isF k).map (Value.int .i64)) rfl (((HF2.out.alloc _).row HOW.out (fun _ _ e => e))) 1 rfl (rd_obj (cs := [.int .i64 k]) (heap_new _ _) rfl) (by intro u hu; simp only [List.mem_cons, List.not_mem_nil, or_false] at hu; rcases hu with rfl; rfl) (by have := HKL.out; have := HL2.out; unfold maxLen; omega) (by have := HKL.out; have := HL2.out; omega) (by have := hs0.out; have := HFR.out.size; have := HF2.out.size; simp; omega) ?_; intro v3 w3 hown3 hgrow3 hloc3; have HO3 := Lib.hid hown3; have HW3 := Lib.hid ((HFR.out.trans (HF2.out.mono (fun _ _ e => e.elim))).trans (((Fr.refl (fun c => n0 + 2 ≤ c) w2).alloc _).trans' (Fr.grown (S := fun c => n0 + 2 ≤ c) hgrow3 (fun r hr _ => (HOW.out.lt r hr).1)) (fun _ _ e => e))); obtain ⟨a3, c3, rfl⟩ := row_sl hown3; clear hown3 hgrow3 hloc3))
        go_roundw
        case rel => exact ⟨k + 1, by omega, by go_num, by rw [HIX.out, List.length_append, List.map_append]; exact HO3.out, HW3.out⟩
        case measure => simp [intOf]; omega
    · obtain rfl : k = N := by omega
      have hkI : ¬ (k : Int) < k := by omega
      have hidx : idxK L isF k = idxK L isF L.length := by rw [HN.out]
      obtain ⟨l, hl⟩ : ∃ l, idxK L isF k = l := ⟨_, rfl⟩
      have hord : ordI L isF cf = stab (fun x y => decide (cfI L cf x y < 0)) l := by unfold ordI; rw [← hidx, hl]
      have HORD := Lib.hid hord
      have HMEM : Hid (∀ x ∈ l, ∃ (i : Nat) (b : BV), x = (i : Int) ∧ L[i]? = some b) := Lib.hid (fun x hx => by
        rw [← hl] at hx
        obtain ⟨i, b, e, _, hb, _⟩ := idxK_mem hx
        exact ⟨i, b, e, hb⟩)
      rw [hl] at HOW hown HKL
      rw [hl]
      clear hidx hl hord hfr
      rcases hown.2 with ⟨e, h0⟩ | ⟨bk, cap, cur, e, hbase, hb, hn, hm, hsz, ht⟩
      · injection e with e1 e2 e3
        subst e1 e3
        have hl0 : l = [] := List.eq_nil_of_length_eq_zero h0
        subst hl0
        clear hown h0 e2
        go_wp2_with (go_at_call 93; refine (sortNil _ _).mono ?_; rintro e w2 ⟨rfl, hf2⟩; have HF2 := Lib.hid hf2; clear hf2)
        go_ret
        refine ⟨_, rfl, by rw [HORD.out]; exact Sq.nil, fun b hb => by simp [Value.ownBlock] at hb, HF.out.trans HF2.out⟩
      · injection e with e1 e2 e3
        subst e1 e3
        have hcur : cur = (l.map (Value.int .i64) ++ cur.toList.drop l.length).toArray := by
          apply Array.toList_inj.1
          rw [← ht, Nat.mul_one, List.take_append_drop]
        have hrw : RwI wr bk (l.zipIdx 0) := rwI_zip (rest := cur.toList.drop l.length) (by rw [← hcur]; exact hb)
        have hsl := sortStableI wr bk l.length co 94 #[.pointer (some ⟨n0 + 1, 0, none⟩), .pointer (some ⟨n0, 0, none⟩)] (cfI L cf) l (enters_of Tryz.func94 (by kernel_rfl) rfl) rfl (by have := HKL.out; have := HL2.out; omega) HS.out hrw
          (fun x hx y hy => by
            obtain ⟨i, a', rfl, ha⟩ := HMEM.out x hx
            obtain ⟨j, b', rfl, hb'⟩ := HMEM.out y hy
            rw [cfI_at ha hb']
            exact HD.out a' (List.mem_of_getElem? ha) b' (List.mem_of_getElem? hb'))
          (fun W x y hw hdom => by
            obtain ⟨i, j, a', b', rfl, rfl, ha, hb'⟩ := cfI_in hdom
            rw [cfI_at ha hb']
            have hWW : Fr (fun _ => False) w W := HF.out.trans' hw (fun b hb e => by have := HN0.out; omega)
            exact bOrd1 W g gc (n0 + 1) n0 i j cbc L a' b' (cf a' b') egc (HFL.out.keep hWW) ha hb' (hw.cell (HFR.out.cell (cell_obj HB1.out 0 (.func (.func gc) #[] cbc) rfl) (by show ¬ n0 + 2 ≤ n0 + 1; omega)) (by show ¬ n0 + 1 = bk; omega)) (hw.cell (HFR.out.cell (cell_obj HB0.out 0 (.pointer (some ⟨g, 0, none⟩)) rfl) (by show ¬ n0 + 2 ≤ n0; omega)) (by show ¬ n0 = bk; omega))
              (fun W' hf => HC.out W' a' b' (List.mem_of_getElem? ha) (List.mem_of_getElem? hb') (hWW.trans hf)))
        have HSL := Lib.hid hsl
        have HBK := Lib.hid hbase
        have hlen : (ordI L isF cf).length = l.length := by rw [HORD.out]; exact stab_len _ _
        have HLEN := Lib.hid hlen
        clear hown hb hn hm hsz ht hcur hrw hsl hbase hlen e2
        go_wp2_with (go_at_call 93; refine HSL.out.mono ?_; rintro e w2 ⟨rfl, hrow, hf2⟩; have HROW := Lib.hid hrow; have HF2 := Lib.hid hf2; clear hrow hf2)
        go_ret
        refine ⟨.slice (some ⟨bk, 0, none⟩) l.length co, rfl, ?_, fun b hb => by (have e : bk = b := (by simpa [Value.ownBlock] using hb)); have := HBK.out; have := HN0.out; omega, HF.out.trans' HF2.out (fun b hb e => by have := HBK.out; have := HN0.out; omega)⟩
        obtain ⟨rest, hr⟩ := HROW.out
        rw [← HORD.out] at hr
        have hl2 := HLEN.out
        refine ⟨by have := HKL.out; have := HL2.out; unfold maxLen; omega, some ⟨bk, 0, none⟩, co, by rw [hl2], fun i x hx => ⟨trivial, _, rfl, fun j u hu => ?_⟩⟩
        have hj : j = 0 := by have := (Array.getElem?_eq_some_iff.1 hu).1; simp at this; omega
        subst hj
        have hu' : Value.int .i64 x = u := by simpa using hu
        subst hu'
        have hil := (List.getElem?_eq_some_iff.1 hx).1
        have e0 : (⟨bk, 0, none⟩ : Addr).add (i * 1 + 0) = ⟨bk, i, none⟩ := by unfold Addr.add; simp; try omega
        rw [e0]
        refine cell_obj hr i _ ?_
        rw [List.getElem?_toArray, List.getElem?_append_left (by simpa using hil), List.getElem?_map, hx]
        rfl
end Go.Proofs.YtlniekobijcanaaGreat
namespace Go.Proofs.YtlniekobijcanaaGreat
open Go.RowKit Go.Maps
/-- What a bin is, wherever its goods lie. -/
structure BE where
  nu : Int
  zo : Int
  ro : Int
  its : Its
def BV.e (b : BV) : BE := ⟨b.nu, b.zo, b.ro, b.its⟩
def leftE (b : BE) : Int := wrap64 (b.ro - totF b.its)
def kindE (b : BE) (s : Str) : Int := if 0 < ofF b.its s then 0 else if b.its.length = 0 then 1 else if b.its.length < 16 then 2 else 3
theorem leftE_e (b : BV) : leftF b = leftE b.e := rfl
theorem kindE_e (b : BV) (s : Str) : kindF b s = kindE b.e s := rfl
def BE.put (b : BE) (s : Str) (n : Int) : BE := ⟨b.nu, b.zo, b.ro, setF b.its s n⟩
theorem put_e (b : BV) (v : Value) (s : Str) (n : Int) : (b.put v s n).e = b.e.put s n := rfl
theorem BOk.keep {S : Nat → Prop} {w w' : World} {b : BV} (h : BOk w b) (hf : Fr S w w') (hS : b.its ≠ [] → ∀ c, b.l.ownBlock = some c → ¬ S c) : BOk w' b := ⟨h.nu, h.zo, h.ro, h.l.keep hf hS⟩
/-- Floor g is these bins, and owns the blocks of TS. -/
structure FA (w : World) (g : Nat) (TS : Nat → Prop) (L : List BV) : Prop where
  ex : ∃ r cap cur, w.heap[g]? = some (.cells #[.slice (some ⟨r, 0, none⟩) L.length cap] 79) ∧ w.heap[r]? = some (.cells cur 76) ∧ L.length ≤ cap ∧ cap ≤ maxLen ∧ cur.size = cap * 4 ∧ cur.toList.take (L.length * 4) = flat BV.cs L ∧ TS r ∧ r ≠ g ∧
    ∀ b ∈ L, BOk w b ∧ (b.its ≠ [] → ∀ c, b.l.ownBlock = some c → TS c ∧ c ≠ g ∧ c ≠ r)
  own : TS g
  lt : ∀ b, TS b → b < w.heap.size
theorem FA.fr {S TS : Nat → Prop} {w w' : World} {g : Nat} {L : List BV} (h : FA w g TS L) (hf : Fr S w w') (hS : ∀ b, TS b → ¬ S b) : FA w' g TS L := by
  obtain ⟨⟨r, cap, cur, h1, h2, h3, h4, h5, h6, h7, h8, h9⟩, ho, hl⟩ := h
  exact ⟨⟨r, cap, cur, hf.at_ h1 (hS _ ho), hf.at_ h2 (hS _ h7), h3, h4, h5, h6, h7, h8, fun b hb => ⟨(h9 b hb).1.keep hf (fun hne c hc => hS _ ((h9 b hb).2 hne c hc).1), (h9 b hb).2⟩⟩, ho, fun b hb => Nat.lt_of_lt_of_le (hl b hb) hf.size⟩
theorem FA.row {TS : Nat → Prop} {w : World} {g : Nat} {L : List BV} (h : FA w g TS L) : ∃ r cap, w.heap[g]? = some (.cells #[.slice (some ⟨r, 0, none⟩) L.length cap] 79) ∧ w.ownsRow 0 76 4 (.slice (some ⟨r, 0, none⟩) L.length cap) L.length (flat BV.cs L) ∧ Bl w (.slice (some ⟨r, 0, none⟩) L.length cap) L := by
  obtain ⟨⟨r, cap, cur, h1, h2, h3, h4, h5, h6, h7, h8, h9⟩, ho, hl⟩ := h
  have hr : w.ownsRow 0 76 4 (.slice (some ⟨r, 0, none⟩) L.length cap) L.length (flat BV.cs L) := ⟨flat_len1 bvSize L, .inr ⟨r, cap, cur, rfl, Nat.zero_le _, h2, h3, h4, h5, h6⟩⟩
  exact ⟨r, cap, h1, hr, Sq.own bvSize hr (fun b hb => (h9 b hb).1)⟩
theorem FA.fl {TS : Nat → Prop} {w : World} {g : Nat} {L : List BV} (h : FA w g TS L) : Fl w g L := by
  obtain ⟨r, cap, h1, _, h3⟩ := h.row
  exact ⟨_, cap, h1, h3⟩
theorem infoBin : (Tryz.prog.info? 76).map (fun i => (i.zero, i.size, i.bytes)) = some (some (.agg #[.int .i64 0, .int .i64 0, .int .i64 0, .slice none 0 0]), 4, 48) := by kernel_rfl
theorem bv_one {L : List BV} (h : ∀ b ∈ L, ∃ a n c, b.l = .slice a n c) : ∀ u ∈ flat BV.cs L, u.oneCell' = true := by
  intro u hu
  simp only [flat, List.mem_flatMap] at hu
  obtain ⟨b, hb, hr⟩ := hu
  obtain ⟨a, n, c, e⟩ := h b hb
  simp only [BV.cs, e, List.mem_cons, List.not_mem_nil, or_false] at hr
  rcases hr with rfl | rfl | rfl | rfl <;> rfl
set_option maxRecDepth 100000 in
set_option maxHeartbeats 4000000 in
theorem bnClone (w : World) (v : Value) (L : List BV) (h : Bl w v L) (hl : L.length ≤ 1000) (hL : 0 < L.length) : Calls Tryz.prog 97 #[v] w fun e w' =>
    ∃ v', e = .returned v' ∧ w'.ownsRow w.heap.size 76 4 v' L.length (flat BV.cs L) ∧ Fr (fun _ => False) w w' := by
  obtain ⟨i0, hi', hz0, hz1, hz2⟩ := info_parts infoBin
  have hone : ∀ u ∈ flat BV.cs L, u.oneCell' = true := bv_one (fun b hb => by obtain ⟨a, c, e⟩ := (h.okm hb).l.sl; exact ⟨a, _, c, e⟩)
  obtain ⟨hb1, a, c, rfl, hbx⟩ := id h
  obtain ⟨n, hn⟩ : ∃ n, L.length = n := ⟨_, rfl⟩
  have HN := Lib.hid hn
  rw [hn] at hl hb1 hL ⊢
  have hq := fun (w : World) (a : Option Addr) (n c n' c' : Nat) => Lib.run_eql_slice_nil (P := Tryz.prog) w 77 _ a n c n' c' Tryz.underlying77
  obtain ⟨x0, hx0⟩ : ∃ x, L[0]? = some x := ⟨L[0]'(by omega), List.getElem?_eq_getElem _⟩
  obtain ⟨-, ad, rfl, -⟩ := hbx 0 x0 hx0
  have hown : (w.alloc (.cells #[] 76)).ownsRow w.heap.size 76 4 (.slice (some ⟨w.heap.size, 0, none⟩) 0 0) 0 [] := World.ownsRow_made w #[] 0 (Nat.le_refl _) (Nat.zero_le _) rfl
  have hnews : ∀ (i : Nat) (u : Value), (flat BV.cs L)[i]? = some u → (w.alloc (.cells #[] 76)).cell? (ad.add i) = some u := fun i u hu => by
    have hi := (List.getElem?_eq_some_iff.1 hu).1
    rw [flat_len1 bvSize] at hi
    obtain ⟨x, hx⟩ : ∃ x, L[i / 4]? = some x := ⟨L[i / 4]'(by omega), List.getElem?_eq_getElem _⟩
    obtain ⟨-, ad', e, hc⟩ := hbx (i / 4) x hx
    cases e
    have hxs : (BV.cs x)[i % 4]? = some ((BV.cs x)[i % 4]'(by rw [bvSize]; omega)) := Array.getElem?_eq_getElem _
    have h2 := flat_at bvSize hx (i % 4) _ hxs
    have h3 := hc (i % 4) _ hxs
    rw [show i / 4 * 4 + i % 4 = i by omega] at h2 h3
    rw [h2] at hu
    cases hu
    exact ((Fr.refl (fun _ => False) w).alloc _).cell h3 (fun h => h)
  have hul : (flat BV.cs L).length = n * 4 := by rw [flat_len1 bvSize, hn]
  have HNEWS := Lib.hid hnews; have HALL := Lib.hid hone; have HUL := Lib.hid hul; have HO := Lib.hid hown
  clear hnews hone hul hown hbx h hn hx0
  go_enter Tryz.func97, Tryz.ntmps97
  go_wp2_with (at_builtin; refine wpList_append_own_at _ rfl _ _ 77 rfl w.heap.size 76 i0 _ 4 48 Tryz.underlying77 hi' hz0 hz1 hz2 rfl (by decide) (.slice (some ⟨w.heap.size, 0, none⟩) 0 0) 0 [] rfl HO.out ad n _ (flat BV.cs L) rfl HUL.out HNEWS.out HALL.out (by unfold maxLen; omega) (by omega) (by simp) ?_; intro v' w5 hown' hgrow _ hat)
  go_ret
  refine ⟨_, rfl, by simpa using hown', ((Fr.refl (fun _ => False) w).alloc _).trans' (Fr.grown (S := fun b => b = w.heap.size) hgrow (fun r hr _ => by cases hr; rfl)) (fun b hb e => by omega)⟩
end Go.Proofs.YtlniekobijcanaaGreat
