/- ident: plain facts on what tables say. -/
import Derived.Test.YtakjiicnbocjeaaIdJ
namespace Go.Proofs.Ytakjiicnbocjeaa
open Go.RowKit Go.Maps
section
variable {ν : Type}
theorem getS_ins {lt : Int → Int → Bool} {x : Int} {v : ν} (y : Int) : ∀ {l : List (Int × ν)}, (∀ p ∈ l, p.1 ≠ x) → getS (insS lt (x, v) l) y = if x = y then some v else getS l y
  | [], _ => by simp [insS, getS]
  | p :: r, h => by
    unfold insS
    by_cases hl : lt (x, v).1 p.1 = true
    · simp only [hl, if_true]; rw [getS]
    · simp only [hl, Bool.false_eq_true, if_false]
      rw [getS, getS_ins y (l := r) (fun q hq => h q (by simp [hq])), getS]
      have := h p (by simp)
      by_cases e1 : p.1 = y
      · have : x ≠ y := fun e => this (e1.trans e.symm)
        simp [e1, this]
      · simp [e1]
theorem getS_del {x : Int} (y : Int) : ∀ {l : List (Int × ν)}, getS (delS l x) y = if x = y then none else getS l y
  | [] => by simp [delS, getS]
  | p :: r => by
    have ih := getS_del (x := x) y (l := r)
    simp only [delS] at ih ⊢
    by_cases e : p.1 = x
    · simp only [List.filter_cons, e, decide_true, Bool.not_true, Bool.false_eq_true, if_false, getS, ih]
      by_cases e2 : x = y <;> simp [e2]
    · simp only [List.filter_cons, e, decide_false, Bool.not_false, if_true, getS, ih]
      by_cases e2 : p.1 = y
      · have : x ≠ y := fun h => e (e2.trans h.symm)
        simp [e2, this]
      · simp [e2]
theorem getS_put {lt : Int → Int → Bool} {x : Int} {v : ν} (y : Int) (l : List (Int × ν)) : getS (putS lt l x v) y = if x = y then some v else getS l y := by
  unfold putS
  rw [getS_ins y (fun p hp => delS_not hp), getS_del]
  by_cases e : x = y <;> simp [e]
theorem getS_upd {c : Int} {v : ν} (d : Int) : ∀ {l : List (Int × ν)}, getS (updS l c v) d = if c = d then (getS l d).map (fun _ => v) else getS l d
  | [] => by simp [updS, getS]
  | p :: r => by
    have ih := getS_upd (c := c) (v := v) d (l := r)
    simp only [updS] at ih ⊢
    simp only [List.map_cons, getS, ih]
    by_cases e : p.1 = c
    · simp only [e, if_true]
      by_cases e2 : c = d <;> simp [e2]
    · simp only [e, if_false]
      by_cases e2 : p.1 = d
      · have : c ≠ d := fun h => e (e2.trans h.symm)
        simp [e2, this]
      · simp [e2]
end
theorem cli_put {lt : Int → Int → Bool} (A : Tbl) (c : Int) (v : Int × Rows) (d : Int) : cli (putS lt A c v) d = if c = d then v else cli A d := by
  unfold cli
  rw [getS_put]
  by_cases e : c = d <;> simp [e]
theorem cli_upd (A : Tbl) (c : Int) (v : Int × Rows) (d : Int) (h : getS A c ≠ none) : cli (updS A c v) d = if c = d then v else cli A d := by
  unfold cli
  rw [getS_upd]
  by_cases e : c = d
  · subst e
    cases e2 : getS A c with
    | none => exact absurd e2 h
    | some x => simp
  · simp [e]
theorem cli_some {A : Tbl} {c : Int} {n : Int} {r : RowV} (h : getS (cli A c).2 n = some r) : getS A c ≠ none := by
  intro e
  unfold cli at h
  rw [e] at h
  cases h
theorem lenM_cli (A : Tbl) (c : Int) : lenM A c = ((cli A c).2.length : Int) := by
  unfold lenM cli
  cases getS A c <;> simp
/-- What each call does to a client, and to others. -/
theorem cli_ask (A : Tbl) (c n mix d : Int) : cli (askT A c n mix) d = if c = d ∧ (isCl c && isNu n && (askM (cli A c) n mix).2.2) = true then ((cli A c).1, putS ktI.lt (cli A c).2 n ⟨mix, false, Ans.zero⟩) else cli A d := by
  unfold askT
  by_cases h : (isCl c && isNu n && (askM (cli A c) n mix).2.2) = true
  · simp only [h, if_true, cli_put, and_true]
  · simp only [h, if_false, and_false, Bool.false_eq_true]
theorem cli_tell (A : Tbl) (a : Ans) (d : Int) : cli (tellT A a) d = if a.c = d ∧ (tellOk a && decide (tellM (cli A a.c) a.n = 0)) = true then ((cli A a.c).1, tellR (cli A a.c).2 a) else cli A d := by
  unfold tellT
  by_cases h : (tellOk a && decide (tellM (cli A a.c) a.n = 0)) = true
  · simp only [h, if_true, and_true]
    refine cli_upd _ _ _ _ ?_
    have h2 : tellM (cli A a.c) a.n = 0 := by simp at h; exact h.2
    unfold tellM at h2
    cases e : getS (cli A a.c).2 a.n with
    | none => rw [e] at h2; cases h2
    | some r => exact cli_some e
  · simp only [h, if_false, and_false, Bool.false_eq_true]
theorem cli_low (A : Tbl) (c mark d : Int) : cli (lowT A c mark) d = if c = d ∧ (lowOk c mark && !lowBad (cli A c).2 mark && decide ((cli A c).1 < mark)) = true then (mark, (cli A c).2.filter fun p => !decide (p.1 < mark)) else cli A d := by
  unfold lowT
  by_cases h : (lowOk c mark && !lowBad (cli A c).2 mark && decide ((cli A c).1 < mark)) = true
  · simp only [h, if_true, cli_put, and_true]
  · simp only [h, if_false, and_false, Bool.false_eq_true]
end Go.Proofs.Ytakjiicnbocjeaa
