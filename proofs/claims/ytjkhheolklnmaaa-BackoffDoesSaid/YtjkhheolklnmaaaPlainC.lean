/- Plain facts on lists in due order: inserting, one element after another. -/
import Derived.Test.YtjkhheolklnmaaaPlainB
namespace Go.Proofs.Ytjkhheolklnmaaa
theorem tIns_pass {nw y : KV} : ∀ {l : List KV}, (∀ p ∈ l, tlt nw p = false) → tIns nw (l ++ [y]) = if tlt nw y then l ++ [nw, y] else l ++ [y, nw]
  | [], _ => by simp only [List.nil_append, tIns]
  | q :: r, h => by
    have h1 := h q (by simp)
    simp only [List.cons_append, tIns, h1, Bool.false_eq_true, if_false]
    rw [tIns_pass (fun p hp => h p (by simp [hp]))]
    split <;> rfl
theorem tIns_end {nw : KV} : ∀ {l : List KV}, (∀ p ∈ l, tlt nw p = false) → tIns nw l = l ++ [nw]
  | [], _ => rfl
  | q :: r, h => by
    have h1 := h q (by simp)
    simp only [List.cons_append, tIns, h1, Bool.false_eq_true, if_false]
    rw [tIns_end (fun p hp => h p (by simp [hp]))]
theorem tIns_done {nw y : KV} : ∀ {l : List KV}, (∃ p ∈ l, tlt nw p = true) → tIns nw (l ++ [y]) = tIns nw l ++ [y]
  | [], h => by obtain ⟨p, hp, _⟩ := h; cases hp
  | q :: r, h => by
    by_cases h1 : tlt nw q = true
    · simp [tIns, h1]
    · obtain ⟨p, hp, hl⟩ := h
      have hr : ∃ p ∈ r, tlt nw p = true := by
        rcases List.mem_cons.1 hp with rfl | hp
        · exact absurd hl h1
        · exact ⟨p, hp, hl⟩
      simp only [List.cons_append, tIns, h1, Bool.false_eq_true, if_false]
      rw [tIns_done hr]
/-- What the reference has built when it has gone over r: done: whether the new one is in. -/
def built (nw : KV) (done : Bool) (r : List KV) : List KV := if done then tIns nw r else r
def builtOk (nw : KV) (done : Bool) (r : List KV) : Prop := if done then ∃ p ∈ r, tlt nw p = true else ∀ p ∈ r, tlt nw p = false
theorem built_step {nw y : KV} {r : List KV} {done : Bool} (h : builtOk nw done r) :
    builtOk nw (done || tlt nw y) (r ++ [y]) ∧ built nw (done || tlt nw y) (r ++ [y]) = (if !done && tlt nw y then built nw done r ++ [nw, y] else built nw done r ++ [y]) := by
  cases done with
  | true =>
    obtain ⟨p, hp, hl⟩ : ∃ p ∈ r, tlt nw p = true := h
    refine ⟨⟨p, by simp [hp], hl⟩, ?_⟩
    simp [built, tIns_done ⟨p, hp, hl⟩]
  | false =>
    have h' : ∀ p ∈ r, tlt nw p = false := h
    cases hy : tlt nw y with
    | true => exact ⟨⟨y, by simp, hy⟩, by simp [built, tIns_pass h', hy]⟩
    | false =>
      refine ⟨fun p hp => ?_, by simp [built]⟩
      rcases List.mem_append.1 hp with hp | hp
      · exact h' p hp
      · have : p = y := by simpa using hp
        rw [this]; exact hy
theorem built_end {nw : KV} {r : List KV} {done : Bool} (h : builtOk nw done r) : tIns nw r = if done then built nw done r else built nw done r ++ [nw] := by
  cases done with
  | true => rfl
  | false => exact tIns_end h
theorem tIns_len (nw : KV) (l : List KV) : (tIns nw l).length = l.length + 1 := by rw [(tIns_perm _ _).length_eq]; rfl
theorem built_len (nw : KV) (done : Bool) (r : List KV) : (built nw done r).length ≤ r.length + 1 := by
  unfold built; split
  · rw [tIns_len]; omega
  · omega
end Go.Proofs.Ytjkhheolklnmaaa
