/- ident: a good table stays good under ask, tell, low: plainly. -/
import Derived.Test.YtakjiicnbocjeaaIdDoesM26
namespace Go.Proofs.Ytakjiicnbocjeaa
open Go.RowKit Go.Maps
section
variable {ν : Type}
theorem rise_insI {n : Int} {v : ν} : ∀ {l : List (Int × ν)}, Rise l → (∀ p ∈ l, p.1 ≠ n) → Rise (insS ktI.lt (n, v) l)
  | [], _, _ => by simp [insS, Rise]
  | y :: r, h, hx => by
    obtain ⟨h1, h2⟩ := List.pairwise_cons.1 h
    have hy := hx y (by simp)
    show Rise (if ktI.lt n y.1 = true then (n, v) :: y :: r else y :: insS ktI.lt (n, v) r)
    by_cases hlt : n < y.1
    · have e : ktI.lt n y.1 = true := by show decide (n < y.1) = true; simpa using hlt
      rw [if_pos e]
      refine List.pairwise_cons.2 ⟨fun p hp => ?_, h⟩
      rcases List.mem_cons.1 hp with rfl | hp
      · exact hlt
      · have := h1 p hp; show n < p.1; omega
    · have e : ¬ ktI.lt n y.1 = true := by show ¬ decide (n < y.1) = true; simpa using hlt
      rw [if_neg e]
      refine List.pairwise_cons.2 ⟨fun p hp => ?_, rise_insI h2 (fun p hp => hx p (List.mem_cons_of_mem _ hp))⟩
      rcases List.mem_cons.1 ((insS_perm ktI.lt (n, v) r).mem_iff.1 hp) with rfl | hp
      · show y.1 < n; omega
      · exact h1 p hp
theorem rise_putI {n : Int} {v : ν} {l : List (Int × ν)} (h : Rise l) : Rise (putS ktI.lt l n v) :=
  rise_insI (rise_filter _ h) (fun p hp => (mem_delS.1 hp).2)
end
theorem Good.cli {A : Tbl} (h : Good A) (c : Int) : (1 ≤ (cli A c).1 ∧ (cli A c).1 ≤ 4294967297) ∧ (cli A c).2.length ≤ 128 ∧ (∀ q ∈ (cli A c).2, GoodR c q) ∧ Rise (cli A c).2 ∧ ∀ q ∈ (cli A c).2, (cli A c).1 ≤ q.1 := by
  unfold Go.Proofs.Ytakjiicnbocjeaa.cli
  cases e : getS A c with
  | none => exact ⟨by simp, by simp, by simp, by simp [Rise], by simp⟩
  | some x =>
    have := h.all _ (getS_mem e)
    exact ⟨this.mark, this.len, this.rows, this.rise, this.low⟩
theorem Good.put {A : Tbl} (h : Good A) {c : Int} {x : Int × Rows} (hx : GoodC (c, x)) : Good (putS ktI.lt A c x) where
  all p hp := by
    rcases mem_putS.1 hp with rfl | hp
    · exact hx
    · exact h.all p (mem_delS.1 hp).1
  rise := rise_putI h.rise
theorem isCl_iff {c : Int} (h : isCl c = true) : 0 ≤ c ∧ c ≤ 63 := by unfold isCl at h; simp at h; omega
theorem isNu_iff {c : Int} (h : isNu c = true) : 1 ≤ c ∧ c ≤ 4294967296 := by unfold isNu at h; simpa using h
theorem askM_new {x : Int × Rows} {n M : Int} (h : (askM x n M).2.2 = true) : x.1 ≤ n ∧ getS x.2 n = none ∧ x.2.length < 128 := by
  unfold askM at h
  by_cases h1 : n < x.1
  · rw [if_pos h1] at h; cases h
  · rw [if_neg h1] at h
    cases e : getS x.2 n with
    | some r =>
      rw [e] at h
      simp only at h
      split at h
      · cases h
      · split at h <;> cases h
    | none =>
      rw [e] at h
      simp only at h
      split at h
      · cases h
      · exact ⟨by omega, rfl, by omega⟩
theorem Good.ask {A : Tbl} (h : Good A) (c n M : Int) (hM : RowOk ⟨M, false, Ans.zero⟩) : Good (askT A c n M) := by
  unfold askT
  split
  · rename_i hc
    simp only [Bool.and_eq_true] at hc
    obtain ⟨⟨h1, h2⟩, h3⟩ := hc
    obtain ⟨a1, a2, a3⟩ := askM_new h3
    obtain ⟨b1, b2, b3, b4, b5⟩ := h.cli c
    have hk := isCl_iff h1
    have hn := isNu_iff h2
    refine h.put ⟨hk, b1, ?_, ?_, .inr ?_, rise_putI b4, ?_⟩
    · show (putS _ _ _ _).length ≤ 128
      have := putS_len ktI.lt (Go.Proofs.Ytakjiicnbocjeaa.cli A c).2 n ⟨M, false, Ans.zero⟩
      omega
    · intro q hq
      rcases mem_putS.1 hq with rfl | hq
      · exact ⟨hn, hM, by simp [Ans.zero], by simp⟩
      · exact b3 q (mem_delS.1 hq).1
    · show 0 < (putS _ _ _ _).length
      rw [(putS_perm _ _ _ _).length_eq]; simp
    · intro q hq
      rcases mem_putS.1 hq with rfl | hq
      · exact a1
      · exact b5 q (mem_delS.1 hq).1
  · exact h
theorem Good.tell {A : Tbl} (h : Good A) (a : Ans) (hk : okI a.k) (hn : okI a.n) : Good (tellT A a) := by
  unfold tellT
  split
  · rename_i hc
    simp only [Bool.and_eq_true, decide_eq_true_eq] at hc
    obtain ⟨h1, h2⟩ := hc
    have h1' := h1
    unfold tellOk at h1'
    simp only [Bool.and_eq_true, decide_eq_true_eq] at h1'
    obtain ⟨⟨⟨h3, h4⟩, h5⟩, h6⟩ := h1'
    have kc := isCl_iff h3
    have kn := isNu_iff h4
    obtain ⟨b1, b2, b3, b4, b5⟩ := h.cli a.c
    obtain ⟨r, hr, hd⟩ : ∃ r, getS (Go.Proofs.Ytakjiicnbocjeaa.cli A a.c).2 a.n = some r ∧ r.done = false := by
      unfold tellM at h2
      cases e : getS (Go.Proofs.Ytakjiicnbocjeaa.cli A a.c).2 a.n with
      | none => rw [e] at h2; simp at h2
      | some r =>
        rw [e] at h2
        simp only at h2
        cases hd : r.done with
        | true => rw [hd] at h2; simp at h2
        | false => exact ⟨r, rfl, hd⟩
    have hrm := getS_mem hr
    have hR : tellR (Go.Proofs.Ytakjiicnbocjeaa.cli A a.c).2 a = putS ktI.lt (Go.Proofs.Ytakjiicnbocjeaa.cli A a.c).2 a.n ⟨r.mix, true, a⟩ := by unfold tellR; rw [hr]
    have hget : getS A a.c = some (Go.Proofs.Ytakjiicnbocjeaa.cli A a.c) := by
      have := cli_some hr
      unfold Go.Proofs.Ytakjiicnbocjeaa.cli
      cases e : getS A a.c with
      | none => exact absurd e this
      | some x => rfl
    have hgr := b3 _ hrm
    have hx : GoodC (a.c, ((Go.Proofs.Ytakjiicnbocjeaa.cli A a.c).1, tellR (Go.Proofs.Ytakjiicnbocjeaa.cli A a.c).2 a)) := by
      rw [hR]
      refine ⟨kc, b1, ?_, ?_, .inr ?_, rise_putI b4, ?_⟩
      · have := tellR_len (Go.Proofs.Ytakjiicnbocjeaa.cli A a.c).2 a
        rw [hR] at this
        show (putS _ _ _ _).length ≤ 128
        omega
      · intro q hq
        rcases mem_putS.1 hq with rfl | hq
        · refine ⟨kn, ?_, ⟨h5, h6⟩, by simp⟩
          have := hgr.ok
          exact ⟨this.mix0, this.mix1, by show (-9223372036854775808 : Int) ≤ a.code ∧ a.code ≤ 9223372036854775807; omega, hk⟩
        · exact b3 q (mem_delS.1 hq).1
      · show 0 < (putS _ _ _ _).length
        rw [(putS_perm _ _ _ _).length_eq]; simp
      · intro q hq
        rcases mem_putS.1 hq with rfl | hq
        · exact b5 (a.n, r) hrm
        · exact b5 q (mem_delS.1 hq).1
    refine ⟨fun p hp => ?_, ?_⟩
    · unfold updS at hp
      obtain ⟨q, hq, rfl⟩ := List.mem_map.1 hp
      by_cases e : q.1 = a.c
      · rw [if_pos e, e]; exact hx
      · rw [if_neg e]; exact h.all q hq
    · have hr := h.rise
      unfold Rise updS at *
      rw [List.pairwise_map]
      refine hr.imp (fun {p q} e => ?_)
      have hkey : ∀ (x : Int × (Int × Rows)) (v : Int × Rows), (if x.1 = a.c then (x.1, v) else x).1 = x.1 := fun x v => by split <;> rfl
      rw [hkey, hkey]
      exact e
  · exact h
theorem Good.lowT {A : Tbl} (h : Good A) (c mark : Int) : Good (lowT A c mark) := by
  unfold Go.Proofs.Ytakjiicnbocjeaa.lowT
  split
  · rename_i hc
    simp only [Bool.and_eq_true, Bool.not_eq_true', decide_eq_true_eq] at hc
    obtain ⟨⟨h1, h2⟩, h3⟩ := hc
    unfold lowOk at h1
    simp only [Bool.and_eq_true, decide_eq_true_eq] at h1
    obtain ⟨⟨h4, h5⟩, h6⟩ := h1
    obtain ⟨b1, b2, b3, b4, b5⟩ := h.cli c
    refine h.put ⟨isCl_iff h4, ⟨h5, h6⟩, Nat.le_trans (List.length_filter_le _ _) b2, fun q hq => b3 q (List.mem_filter.1 hq).1, .inl (by show 1 < mark; omega), rise_filter _ b4, fun q hq => ?_⟩
    have := (List.mem_filter.1 hq).2
    simpa using this
  · exact h
end Go.Proofs.Ytakjiicnbocjeaa
