/- ident and its document (entrepotref09): plain facts: rising lists. -/
import Derived.Test.YtakjiicnbocjeaaIdDoesM2
import Derived.Test.YtakjiicnbocjeaaIdDoesM13
namespace Go.Proofs.Ytakjiicnbocjeaa
open Go.RowKit Go.Maps
section
variable {ν : Type}
/-- The keys rise. -/
def Rise (l : List (Int × ν)) : Prop := l.Pairwise fun p q => p.1 < q.1
theorem rise_of_lt {l : List (Int × ν)} (h : l.Pairwise (fun p q => ktI.lt p.1 q.1 = true)) : Rise l := h.imp fun {p q} e => by have e : decide (p.1 < q.1) = true := e; simpa using e
theorem mp_rise {w : World} {b : Nat} {enc : ν → Value} {l : List (Int × ν)} (h : Mp Try.prog w 3 ktI enc b l) : Rise l := rise_of_lt (h.ok idK).2
theorem getS_app {L M : List (Int × ν)} {n : Int} (h : ∀ p ∈ L, p.1 < n) : getS (L ++ M) n = getS M n := by
  induction L with
  | nil => rfl
  | cons p r ih =>
    have := h p (by simp)
    show (if p.1 = n then _ else _) = _
    rw [if_neg (by omega)]
    exact ih fun q hq => h q (by simp [hq])
theorem getS_behind {M : List (Int × ν)} {n : Int} (h : ∀ p ∈ M, n < p.1) : getS M n = none := getS_none.2 fun p hp e => by have := h p hp; omega
theorem insS_app {L M : List (Int × ν)} {n : Int} {v : ν} (h1 : ∀ p ∈ L, p.1 < n) (h2 : ∀ p ∈ M, n < p.1) : insS ktI.lt (n, v) (L ++ M) = L ++ (n, v) :: M := by
  induction L with
  | nil => cases M with
    | nil => rfl
    | cons q s =>
      have : ktI.lt n q.1 = true := by show decide (n < q.1) = true; simpa using h2 q (by simp)
      show (if ktI.lt n q.1 = true then _ else _) = _
      rw [if_pos this]; rfl
  | cons p r ih =>
    have : ¬ ktI.lt n p.1 = true := by show ¬ decide (n < p.1) = true; have := h1 p (by simp); simp; omega
    show (if ktI.lt n p.1 = true then _ else _) = _
    rw [if_neg this]
    show p :: insS ktI.lt (n, v) (r ++ M) = p :: (r ++ (n, v) :: M)
    rw [ih fun q hq => h1 q (by simp [hq])]
theorem delS_no {l : List (Int × ν)} {n : Int} (h : ∀ p ∈ l, p.1 ≠ n) : delS l n = l := by
  unfold delS
  rw [List.filter_eq_self]
  intro p hp
  simpa using h p hp
theorem putS_app {L M : List (Int × ν)} {n : Int} {v : ν} (h1 : ∀ p ∈ L, p.1 < n) (h2 : ∀ p ∈ M, n < p.1) : putS ktI.lt (L ++ M) n v = L ++ (n, v) :: M := by
  unfold putS
  rw [delS_no (fun p hp => by rcases List.mem_append.1 hp with hp | hp; (have := h1 p hp; omega); (have := h2 p hp; omega)), insS_app h1 h2]
theorem putS_over {L M : List (Int × ν)} {n : Int} {u v : ν} (h1 : ∀ p ∈ L, p.1 < n) (h2 : ∀ p ∈ M, n < p.1) : putS ktI.lt (L ++ (n, u) :: M) n v = L ++ (n, v) :: M := by
  unfold putS
  have : delS (L ++ (n, u) :: M) n = L ++ M := by
    unfold delS
    rw [List.filter_append, List.filter_cons_of_neg (by simp)]
    have e1 := delS_no (l := L) (n := n) (fun p hp => by have := h1 p hp; omega)
    have e2 := delS_no (l := M) (n := n) (fun p hp => by have := h2 p hp; omega)
    unfold delS at e1 e2
    rw [e1, e2]
  rw [this, insS_app h1 h2]
theorem rise_at {l : List (Int × ν)} {k : Nat} {p : Int × ν} (h : Rise l) (hp : l[k]? = some p) : (∀ q ∈ l.take k, q.1 < p.1) ∧ (∀ q ∈ l.drop (k + 1), p.1 < q.1) := by
  have hk : k < l.length := (List.getElem?_eq_some_iff.1 hp).1
  have e : l = l.take k ++ p :: l.drop (k + 1) := by
    rw [← (List.getElem?_eq_some_iff.1 hp).2, ← List.drop_eq_getElem_cons hk, List.take_append_drop]
  unfold Rise at h
  rw [e, List.pairwise_append] at h
  refine ⟨fun q hq => h.2.2 q hq p (by simp), fun q hq => (List.pairwise_cons.1 h.2.1).1 q hq⟩
theorem rise_split {l : List (Int × ν)} {k : Nat} {p : Int × ν} (hp : l[k]? = some p) : l = l.take k ++ p :: l.drop (k + 1) := by
  have hk : k < l.length := (List.getElem?_eq_some_iff.1 hp).1
  rw [← (List.getElem?_eq_some_iff.1 hp).2, ← List.drop_eq_getElem_cons hk, List.take_append_drop]
/-- Where number n is found, or would go: k. -/
theorem rise_get {l : List (Int × ν)} {k : Nat} {n : Int} (h : Rise l) (hlo : ∀ q ∈ l.take k, q.1 < n) : (∀ r, l[k]? = some (n, r) → getS l n = some r) ∧ ((∀ p, l[k]? = some p → n < p.1) → getS l n = none ∧ ∀ v, putS ktI.lt l n v = l.take k ++ (n, v) :: l.drop k) := by
  refine ⟨fun r hr => ?_, fun hhi => ?_⟩
  · rw [rise_split hr, getS_app hlo]
    simp [getS]
  · have hb : ∀ q ∈ l.drop k, n < q.1 := by
      intro q hq
      cases e : l[k]? with
      | none =>
        rw [List.getElem?_eq_none_iff] at e
        rw [List.drop_eq_nil_of_le e] at hq; cases hq
      | some p =>
        have hk : k < l.length := (List.getElem?_eq_some_iff.1 e).1
        rw [List.drop_eq_getElem_cons hk, (List.getElem?_eq_some_iff.1 e).2] at hq
        have := hhi p e
        rcases List.mem_cons.1 hq with rfl | hq
        · exact this
        · have := (rise_at h e).2 q hq; omega
    have e := List.take_append_drop k l
    refine ⟨by rw [← e, getS_app hlo, getS_behind hb], fun v => ?_⟩
    have := putS_app (v := v) hlo hb
    rw [e] at this
    exact this
theorem rise_put_at {l : List (Int × ν)} {k : Nat} {n : Int} {u v : ν} (h : Rise l) (hp : l[k]? = some (n, u)) : putS ktI.lt l n v = l.take k ++ (n, v) :: l.drop (k + 1) := by
  obtain ⟨h1, h2⟩ := rise_at h hp
  have := putS_over (u := u) (v := v) h1 h2
  rw [← rise_split hp] at this
  exact this
theorem rise_step {l : List (Int × ν)} {k : Nat} {n : Int} {p : Int × ν} (hlo : ∀ q ∈ l.take k, q.1 < n) (hp : l[k]? = some p) (hn : p.1 < n) : ∀ q ∈ l.take (k + 1), q.1 < n := by
  intro q hq
  rw [List.take_add_one, hp] at hq
  rcases List.mem_append.1 hq with hq | hq
  · exact hlo q hq
  · simp at hq; subst hq; exact hn
/-- Keys below a bound. -/
theorem filter_succ {l : List (Int × ν)} (h : Rise l) (c : Int) : (l.filter fun p => decide (p.1 < c + 1)) = (l.filter fun p => decide (p.1 < c)) ++ (match getS l c with | some v => [(c, v)] | none => []) := by
  induction l with
  | nil => rfl
  | cons p r ih =>
    obtain ⟨h1, h2⟩ := List.pairwise_cons.1 h
    have ih := ih h2
    rcases (by omega : p.1 < c ∨ p.1 = c ∨ c < p.1) with hc | hc | hc
    · rw [List.filter_cons_of_pos (by simp; omega), List.filter_cons_of_pos (by simpa using hc), ih]
      have : getS (p :: r) c = getS r c := by show (if p.1 = c then _ else _) = _; rw [if_neg (by omega)]
      rw [this]; rfl
    · have hr : ∀ q ∈ r, c < q.1 := fun q hq => by have := h1 q hq; omega
      have e1 : (r.filter fun q => decide (q.1 < c + 1)) = [] := by rw [List.filter_eq_nil_iff]; intro q hq; have := hr q hq; simp; omega
      have e2 : (r.filter fun q => decide (q.1 < c)) = [] := by rw [List.filter_eq_nil_iff]; intro q hq; have := hr q hq; simp; omega
      rw [List.filter_cons_of_pos (by simp; omega), List.filter_cons_of_neg (by simp; omega), e1, e2]
      have : getS (p :: r) c = some p.2 := by show (if p.1 = c then _ else _) = _; rw [if_pos hc]
      rw [this, ← hc]; rfl
    · have hr : ∀ q ∈ r, c < q.1 := fun q hq => by have := h1 q hq; omega
      have e1 : (r.filter fun q => decide (q.1 < c + 1)) = [] := by rw [List.filter_eq_nil_iff]; intro q hq; have := hr q hq; simp; omega
      have e2 : (r.filter fun q => decide (q.1 < c)) = [] := by rw [List.filter_eq_nil_iff]; intro q hq; have := hr q hq; simp; omega
      rw [List.filter_cons_of_neg (by simp; omega), List.filter_cons_of_neg (by simp; omega), e1, e2]
      have : getS (p :: r) c = none := getS_behind (fun q hq => by rcases List.mem_cons.1 hq with rfl | hq; exact hc; exact hr q hq)
      rw [this]; rfl
theorem filter_all {l : List (Int × ν)} {c : Int} (h : ∀ p ∈ l, p.1 < c) : (l.filter fun p => decide (p.1 < c)) = l := by
  rw [List.filter_eq_self]; intro p hp; simpa using h p hp
theorem rise_filter {l : List (Int × ν)} (f : Int × ν → Bool) (h : Rise l) : Rise (l.filter f) := List.Pairwise.filter _ h
end
end Go.Proofs.Ytakjiicnbocjeaa
