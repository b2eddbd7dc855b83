/- Timers in the order in which they get due: plain facts on lists; no program in sight. -/
import Derived.Test.YtakjiicnbocjeaaMaps
namespace Go.Proofs.Ytakjiicnbocjeaa
abbrev KV := Int × Int
def tlt (p q : KV) : Bool := decide (p.2 < q.2 ∨ (p.2 = q.2 ∧ p.1 < q.1))
theorem tlt_iff {p q : KV} : tlt p q = true ↔ (p.2 < q.2 ∨ (p.2 = q.2 ∧ p.1 < q.1)) := by simp [tlt]
theorem tlt_irrefl (p : KV) : tlt p p = false := by simp [tlt]
theorem tlt_trans {p q r : KV} (h : tlt p q = true) (h' : tlt q r = true) : tlt p r = true := by rw [tlt_iff] at *; omega
theorem tlt_total {p q : KV} (h : tlt p q = false) (h' : tlt q p = false) : p = q := by
  have a : ¬ (tlt p q = true) := by simp [h]
  have b : ¬ (tlt q p = true) := by simp [h']
  rw [tlt_iff] at a b
  obtain ⟨p1, p2⟩ := p; obtain ⟨q1, q2⟩ := q
  simp only [Prod.mk.injEq] at *
  omega
def tIns (x : KV) : List KV → List KV
  | [] => [x]
  | y :: r => if tlt x y then x :: y :: r else y :: tIns x r
def tSet (l : List KV) (k a : Int) : List KV := tIns (k, a) (delS l k)
def TSort (l : List KV) : Prop := l.Pairwise fun p q => tlt p q = true
theorem tIns_perm (x : KV) : ∀ l, (tIns x l).Perm (x :: l)
  | [] => List.Perm.refl _
  | y :: r => by
    unfold tIns
    split
    · exact List.Perm.refl _
    · exact ((tIns_perm x r).cons y).trans (List.Perm.swap x y r)
theorem tIns_sort {x : KV} : ∀ {l : List KV}, TSort l → (∀ p ∈ l, p ≠ x) → TSort (tIns x l)
  | [], _, _ => by simp [tIns, TSort]
  | y :: r, h, hne => by
    unfold tIns
    have hc := List.pairwise_cons.1 h
    split
    · rename_i hxy
      refine List.pairwise_cons.2 ⟨fun p hp => ?_, h⟩
      rcases List.mem_cons.1 hp with rfl | hp
      · exact hxy
      · exact tlt_trans hxy (hc.1 p hp)
    · rename_i hxy
      have hyx : tlt y x = true := by
        cases hh : tlt y x
        · exact absurd (tlt_total hh (by simpa using hxy)) (hne y (by simp))
        · rfl
      refine List.pairwise_cons.2 ⟨fun p hp => ?_, tIns_sort hc.2 fun p hp => hne p (by simp [hp])⟩
      rcases List.mem_cons.1 ((tIns_perm x r).mem_iff.1 hp) with rfl | hp
      · exact hyx
      · exact hc.1 p hp
/-- Two lists in one order, of one make, are one. -/
theorem sorted_one {α : Type} {lt : α → α → Bool} (irr : ∀ x, lt x x = false) (tr : ∀ x y z, lt x y = true → lt y z = true → lt x z = true) :
    ∀ {l l' : List α}, l.Perm l' → l.Pairwise (fun p q => lt p q = true) → l'.Pairwise (fun p q => lt p q = true) → l = l'
  | [], l', hp, _, _ => by simpa using hp.symm
  | x :: r, [], hp, _, _ => by simp at hp
  | x :: r, y :: s, hp, h, h' => by
    have hc := List.pairwise_cons.1 h
    have hc' := List.pairwise_cons.1 h'
    have hxy : x = y := by
      rcases List.mem_cons.1 (hp.mem_iff.1 (List.mem_cons_self : x ∈ x :: r)) with e | hx
      · exact e
      · rcases List.mem_cons.1 (hp.mem_iff.2 (List.mem_cons_self : y ∈ y :: s)) with e | hy
        · exact e.symm
        · have h1 := hc'.1 x hx
          have h2 := hc.1 y hy
          have := tr _ _ _ h1 h2
          rw [irr] at this
          cases this
    subst hxy
    rw [sorted_one irr tr (List.Perm.cons_inv hp) hc.2 hc'.2]
section
variable {ν : Type}
def KeysND (l : List (Int × ν)) : Prop := l.Pairwise fun p q => p.1 ≠ q.1
theorem getS_mem {l : List (Int × ν)} {x : Int} {v : ν} (h : getS l x = some v) : (x, v) ∈ l := by
  induction l with
  | nil => cases h
  | cons p r ih =>
    simp only [getS] at h
    split at h
    · rename_i e
      cases h
      rw [← e]
      exact List.mem_cons_self
    · exact List.mem_cons_of_mem _ (ih h)
theorem getS_of {l : List (Int × ν)} (h : KeysND l) {x : Int} {v : ν} (hm : (x, v) ∈ l) : getS l x = some v := by
  induction l with
  | nil => cases hm
  | cons p r ih =>
    have hc := List.pairwise_cons.1 h
    simp only [getS]
    rcases List.mem_cons.1 hm with rfl | hm
    · simp
    · rw [if_neg (hc.1 _ hm), ih hc.2 hm]
theorem getS_none {l : List (Int × ν)} {x : Int} : getS l x = none ↔ ∀ p ∈ l, p.1 ≠ x := by
  induction l with
  | nil => simp [getS]
  | cons p r ih =>
    simp only [getS]
    split
    · rename_i e; simp [e]
    · rename_i e; simp [e, ih]
theorem KeysND.perm {l l' : List (Int × ν)} (h : KeysND l) (hp : l.Perm l') : KeysND l' := (hp.pairwise_iff (fun {_ _} e => Ne.symm e)).1 h
theorem getS_perm {l l' : List (Int × ν)} (h : KeysND l) (hp : l.Perm l') (x : Int) : getS l x = getS l' x := by
  cases e : getS l x with
  | none => exact (getS_none.2 fun p hp' => getS_none.1 e p (hp.mem_iff.2 hp')).symm
  | some v => exact (getS_of (h.perm hp) (hp.mem_iff.1 (getS_mem e))).symm
theorem delS_perm {l l' : List (Int × ν)} (hp : l.Perm l') (x : Int) : (delS l x).Perm (delS l' x) := hp.filter _
theorem delS_nd {l : List (Int × ν)} (h : KeysND l) (x : Int) : KeysND (delS l x) := List.Pairwise.filter _ h
theorem delS_not {l : List (Int × ν)} {x : Int} {p : Int × ν} (h : p ∈ delS l x) : p.1 ≠ x := by simpa using (List.mem_filter.1 h).2
theorem insS_perm (lt : Int → Int → Bool) (x : Int × ν) : ∀ l, (insS lt x l).Perm (x :: l)
  | [] => List.Perm.refl _
  | y :: r => by
    unfold insS
    split
    · exact List.Perm.refl _
    · exact ((insS_perm lt x r).cons y).trans (List.Perm.swap x y r)
theorem putS_perm (lt : Int → Int → Bool) (l : List (Int × ν)) (x : Int) (v : ν) : (putS lt l x v).Perm ((x, v) :: delS l x) := insS_perm lt _ _
end
/-- l, in the order in which they get due, is X. -/
structure Rp (l X : List KV) : Prop where
  perm : X.Perm l
  sort : TSort X
  nd : KeysND l
theorem Rp.set {l X : List KV} (h : Rp l X) (lt : Int → Int → Bool) (k a : Int) : Rp (putS lt l k a) (tSet X k a) where
  perm := (tIns_perm _ _).trans (((delS_perm h.perm k).cons (k, a)).trans (putS_perm lt l k a).symm)
  sort := tIns_sort (List.Pairwise.filter _ h.sort) fun p hp e => delS_not hp (by rw [e])
  nd := by
    refine KeysND.perm ?_ (putS_perm lt l k a).symm
    exact List.pairwise_cons.2 ⟨fun p hp e => delS_not hp e.symm, delS_nd h.nd k⟩
theorem Rp.del {l X : List KV} (h : Rp l X) (k : Int) : Rp (delS l k) (delS X k) := ⟨delS_perm h.perm k, List.Pairwise.filter _ h.sort, delS_nd h.nd k⟩
theorem Rp.nil : Rp [] [] := ⟨List.Perm.refl _, List.Pairwise.nil, List.Pairwise.nil⟩
theorem Rp.get {l X : List KV} (h : Rp l X) (x : Int) : getS l x = getS X x := getS_perm h.nd h.perm.symm x
theorem Rp.len {l X : List KV} (h : Rp l X) : l.length = X.length := h.perm.length_eq.symm
end Go.Proofs.Ytakjiicnbocjeaa
