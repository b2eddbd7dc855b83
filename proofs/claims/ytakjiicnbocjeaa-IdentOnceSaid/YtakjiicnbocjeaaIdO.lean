/- ident's law IdentOnce, plainly: what is new is new once; what was told is told again. -/
import Derived.Test.YtakjiicnbocjeaaIdM
import Derived.Test.YtakjiicnbocjeaaPair
namespace Go.Proofs.Ytakjiicnbocjeaa
open Go.RowKit Go.Maps
section
variable {κ ν : Type} [DecidableEq κ]
theorem getK_ins {lt : κ → κ → Bool} {x : κ} {v : ν} (y : κ) : ∀ {l : List (κ × ν)}, (∀ p ∈ l, p.1 ≠ x) → getS (insS lt (x, v) l) y = if x = y then some v else getS l y
  | [], _ => by simp [insS, getS]
  | p :: r, h => by
    unfold insS
    by_cases hl : lt (x, v).1 p.1 = true
    · simp only [hl, if_true]; rw [getS]
    · simp only [hl, Bool.false_eq_true, if_false]
      rw [getS, getK_ins y (l := r) (fun q hq => h q (by simp [hq])), getS]
      have := h p (by simp)
      by_cases e1 : p.1 = y
      · have : x ≠ y := fun e => this (e1.trans e.symm)
        simp [e1, this]
      · simp [e1]
theorem getK_del {x : κ} (y : κ) : ∀ {l : List (κ × ν)}, getS (delS l x) y = if x = y then none else getS l y
  | [] => by simp [delS, getS]
  | p :: r => by
    have ih := getK_del (x := x) y (l := r)
    simp only [delS] at ih ⊢
    by_cases e : p.1 = x
    · simp only [List.filter_cons, e, decide_true, Bool.not_true, Bool.false_eq_true, if_false, getS, ih]
      by_cases e2 : x = y <;> simp [e2]
    · simp only [List.filter_cons, e, decide_false, Bool.not_false, if_true, getS, ih]
      by_cases e2 : p.1 = y
      · have : x ≠ y := fun h => e (e2.trans h.symm)
        simp [e2, this]
      · simp [e2]
theorem getK_put {lt : κ → κ → Bool} {x : κ} {v : ν} (y : κ) (l : List (κ × ν)) : getS (putS lt l x v) y = if x = y then some v else getS l y := by
  unfold putS
  rw [getK_ins y (fun p hp => by simpa using (List.mem_filter.1 hp).2), getK_del]
  by_cases e : x = y <;> simp [e]
omit [DecidableEq κ] in
theorem insK_len {lt : κ → κ → Bool} (x : κ × ν) : ∀ l : List (κ × ν), (insS lt x l).length = l.length + 1
  | [] => rfl
  | y :: r => by
    unfold insS
    split
    · simp
    · simp [insK_len x r]
theorem putK_len {lt : κ → κ → Bool} (l : List (κ × ν)) (x : κ) (v : ν) : (putS lt l x v).length ≤ l.length + 1 := by
  unfold putS
  rw [insK_len]
  have := List.length_filter_le (fun p : κ × ν => !decide (p.1 = x)) l
  simp only [delS]; omega
end
theorem getS_filter {ν : Type} {f : Int → Bool} (n : Int) : ∀ l : List (Int × ν), getS (l.filter fun p => f p.1) n = if f n = true then getS l n else none
  | [] => by simp [getS]
  | p :: r => by
    have ih := getS_filter (f := f) n r
    by_cases e : f p.1 = true
    · simp only [List.filter_cons, e, if_true, getS, ih]
      by_cases e2 : p.1 = n
      · rw [e2] at e; simp [e2, e]
      · simp [e2]
    · simp only [List.filter_cons, e, Bool.false_eq_true, if_false, getS, ih]
      by_cases e2 : p.1 = n
      · rw [e2] at e; simp [e2, e]
      · simp [e2]
/-- What the law's two maps say of the table. -/
structure Inv (A : Tbl) (F : List (PK × Bool)) (T : List (PK × Ans)) : Prop where
  fresh : ∀ p : PK, getS F p = some true → p.1.2 < (cli A p.1.1).1 ∨ getS (cli A p.1.1).2 p.1.2 ≠ none
  told : ∀ (p : PK) (r : RowV), getS (cli A p.1.1).2 p.1.2 = some r → r.done = true → getS T p = some r.a
theorem Inv.nil : Inv [] [] [] := ⟨fun p h => (by cases h), fun p r h => (by cases h)⟩
variable {A : Tbl} {F : List (PK × Bool)} {T : List (PK × Ans)}
/-- What Ask may say. -/
theorem ask_cases (A : Tbl) (c n M : Int) :
    ((askA A c n M).1 = 1 ∧ (askA A c n M).2 = Ans.zero ∧ (cli A c).1 ≤ n ∧ getS (cli A c).2 n = none ∧ (isCl c && isNu n && (askM (cli A c) n M).2.2) = true) ∨
    ((askA A c n M).1 = 3 ∧ (∃ r, getS (cli A c).2 n = some r ∧ r.done = true ∧ (askA A c n M).2 = r.a) ∧ (isCl c && isNu n && (askM (cli A c) n M).2.2) = false) ∨
    ((askA A c n M).1 ≠ 1 ∧ (askA A c n M).1 ≠ 3 ∧ (askA A c n M).2 = Ans.zero ∧ (isCl c && isNu n && (askM (cli A c) n M).2.2) = false) := by
  unfold askA
  by_cases h : (isCl c && isNu n) = true
  · rw [if_pos h, h]
    unfold askM
    by_cases h1 : n < (cli A c).1
    · rw [if_pos h1]; right; right; simp
    · rw [if_neg h1]
      cases e : getS (cli A c).2 n with
      | some r =>
        simp only
        by_cases h2 : r.mix ≠ M
        · rw [if_pos h2]; right; right; simp
        · rw [if_neg h2]
          cases e3 : r.done with
          | true => right; left; simp [e3]
          | false => right; right; simp
      | none =>
        simp only
        by_cases h2 : 128 ≤ (cli A c).2.length
        · rw [if_pos h2]; right; right; simp
        · rw [if_neg h2]; left; simp; omega
  · rw [if_neg h]; right; right; simp at h; simp; intro a b; exact absurd b (by simp [h a])
theorem Inv.ask (h : Inv A F T) (p : PK) (M : Int) :
    ((askA A p.1.1 p.1.2 M).1 = 1 ∧ (askA A p.1.1 p.1.2 M).2 = Ans.zero ∧ (getS F p).getD false = false ∨
      (askA A p.1.1 p.1.2 M).1 = 3 ∧ getS T p = some (askA A p.1.1 p.1.2 M).2 ∨ (askA A p.1.1 p.1.2 M).1 ≠ 1 ∧ (askA A p.1.1 p.1.2 M).1 ≠ 3 ∧ (askA A p.1.1 p.1.2 M).2 = Ans.zero) ∧
    Inv (askT A p.1.1 p.1.2 M) (putS ktP.lt F p ((getS F p).getD false || decide ((askA A p.1.1 p.1.2 M).1 = 1))) T := by
  have old : (askA A p.1.1 p.1.2 M).1 ≠ 1 → (isCl p.1.1 && isNu p.1.2 && (askM (cli A p.1.1) p.1.2 M).2.2) = false → Inv (askT A p.1.1 p.1.2 M) (putS ktP.lt F p ((getS F p).getD false || decide ((askA A p.1.1 p.1.2 M).1 = 1))) T := by
    intro h1 h2
    have e : askT A p.1.1 p.1.2 M = A := by unfold askT; rw [h2]; rfl
    rw [e]
    refine ⟨fun q hq => ?_, h.told⟩
    rw [getK_put] at hq
    by_cases e2 : p = q
    · subst e2
      rw [if_pos rfl] at hq
      refine h.fresh p ?_
      cases e3 : getS F p with
      | none => rw [e3] at hq; simp [h1] at hq
      | some b => rw [e3] at hq; simp [h1] at hq; rw [hq]
    · rw [if_neg e2] at hq; exact h.fresh q hq
  rcases ask_cases A p.1.1 p.1.2 M with ⟨h1, h2, h3, h4, h5⟩ | ⟨h1, ⟨r, h2, h3, h4⟩, h5⟩ | ⟨h1, h2, h3, h5⟩
  · refine ⟨.inl ⟨h1, h2, ?_⟩, ?_⟩
    · cases e : getS F p with
      | none => rfl
      | some b =>
        cases b with
        | false => rfl
        | true =>
          rcases h.fresh p e with h6 | h6
          · omega
          · exact absurd h4 h6
    · have hcl : ∀ d, cli (askT A p.1.1 p.1.2 M) d = if p.1.1 = d then ((cli A p.1.1).1, putS ktI.lt (cli A p.1.1).2 p.1.2 ⟨M, false, Ans.zero⟩) else cli A d := fun d => by
        rw [cli_ask, h5]; simp
      refine ⟨fun q hq => ?_, fun q r hq hd => ?_⟩
      · rw [hcl]
        by_cases e1 : p.1.1 = q.1.1
        · rw [if_pos e1]
          simp only [getS_put]
          by_cases e2 : p.1.2 = q.1.2
          · right; simp [e2]
          · have hne : p ≠ q := fun e => e2 (by rw [e])
            rw [getK_put, if_neg hne] at hq
            have := h.fresh q hq
            rw [← e1] at this
            simpa [e2] using this
        · rw [if_neg e1]
          have hne : p ≠ q := fun e => e1 (by rw [e])
          rw [getK_put, if_neg hne] at hq
          exact h.fresh q hq
      · rw [hcl] at hq
        by_cases e1 : p.1.1 = q.1.1
        · rw [if_pos e1] at hq
          simp only [getS_put] at hq
          by_cases e2 : p.1.2 = q.1.2
          · rw [if_pos e2] at hq; cases hq; cases hd
          · rw [if_neg e2, e1] at hq; exact h.told q r hq hd
        · rw [if_neg e1] at hq; exact h.told q r hq hd
  · exact ⟨.inr (.inl ⟨h1, by rw [h4]; exact h.told p r h2 h3⟩), old (by rw [h1]; decide) h5⟩
  · exact ⟨.inr (.inr ⟨h1, h2, h3⟩), old h1 h5⟩
theorem Inv.tell (h : Inv A F T) (a : Ans) (p : PK) (hp : p.1 = (a.c, a.n)) : (tellA A a = 0 → Inv (tellT A a) F (putS ktP.lt T p a)) ∧ (tellA A a ≠ 0 → Inv (tellT A a) F T) := by
  constructor
  · intro h0
    unfold tellA at h0
    split at h0
    · rename_i hok
      have hd : (tellOk a && decide (tellM (cli A a.c) a.n = 0)) = true := by simp [hok, h0]
      have hcl : ∀ d, cli (tellT A a) d = if a.c = d then ((cli A a.c).1, tellR (cli A a.c).2 a) else cli A d := fun d => by
        rw [cli_tell, hd]; simp
      have hr : ∃ r, getS (cli A a.c).2 a.n = some r := by
        unfold tellM at h0
        cases e : getS (cli A a.c).2 a.n with
        | none => rw [e] at h0; cases h0
        | some r => exact ⟨r, rfl⟩
      obtain ⟨r0, hr0⟩ := hr
      have hR : tellR (cli A a.c).2 a = putS ktI.lt (cli A a.c).2 a.n ⟨r0.mix, true, a⟩ := by unfold tellR; rw [hr0]
      refine ⟨fun q hq => ?_, fun q r hq hdn => ?_⟩
      · have := h.fresh q hq
        rw [hcl]
        by_cases e1 : a.c = q.1.1
        · rw [if_pos e1, hR]
          simp only [getS_put]
          rw [← e1] at this
          by_cases e2 : a.n = q.1.2
          · right; simp [e2]
          · simpa [e2] using this
        · rw [if_neg e1]; exact this
      · rw [hcl] at hq
        rw [getK_put]
        by_cases e1 : a.c = q.1.1
        · rw [if_pos e1, hR] at hq
          simp only [getS_put] at hq
          by_cases e2 : a.n = q.1.2
          · have : p = q := Subtype.ext (by rw [hp]; exact Prod.ext e1 e2)
            rw [if_pos e2] at hq
            cases hq
            rw [if_pos this]
          · have : p ≠ q := fun e => e2 (by rw [← e, hp])
            rw [if_neg this]
            rw [if_neg e2, e1] at hq
            exact h.told q r hq hdn
        · have : p ≠ q := fun e => e1 (by rw [← e, hp])
          rw [if_neg this]
          rw [if_neg e1] at hq
          exact h.told q r hq hdn
    · cases h0
  · intro h0
    have : tellT A a = A := by
      unfold tellT
      rw [if_neg]
      intro hd
      simp at hd
      unfold tellA at h0
      rw [if_pos hd.1] at h0
      exact h0 hd.2
    rw [this]; exact h
theorem Inv.low (h : Inv A F T) (c mark : Int) : Inv (lowT A c mark) F T := by
  by_cases hd : (lowOk c mark && !lowBad (cli A c).2 mark && decide ((cli A c).1 < mark)) = true
  · have hcl : ∀ d, cli (lowT A c mark) d = if c = d then (mark, (cli A c).2.filter fun p => !decide (p.1 < mark)) else cli A d := fun d => by
      rw [cli_low, hd]; simp
    have hlt : (cli A c).1 < mark := by simp at hd; exact hd.2
    have hf : ∀ n, getS ((cli A c).2.filter fun p => !decide (p.1 < mark)) n = if (!decide (n < mark)) = true then getS (cli A c).2 n else none := fun n => getS_filter (f := fun m => !decide (m < mark)) n _
    refine ⟨fun q hq => ?_, fun q r hq hdn => ?_⟩
    · have := h.fresh q hq
      rw [hcl]
      by_cases e1 : c = q.1.1
      · rw [if_pos e1]
        simp only [hf]
        by_cases e2 : q.1.2 < mark
        · exact .inl e2
        · right
          rw [if_pos (by simp; omega)]
          rw [← e1] at this
          rcases this with this | this
          · omega
          · exact this
      · rw [if_neg e1]; exact this
    · rw [hcl] at hq
      by_cases e1 : c = q.1.1
      · rw [if_pos e1] at hq
        simp only [hf] at hq
        split at hq
        · rw [e1] at hq; exact h.told q r hq hdn
        · cases hq
      · rw [if_neg e1] at hq; exact h.told q r hq hdn
  · have : lowT A c mark = A := by unfold lowT; rw [if_neg hd]
    rw [this]; exact h
end Go.Proofs.Ytakjiicnbocjeaa
