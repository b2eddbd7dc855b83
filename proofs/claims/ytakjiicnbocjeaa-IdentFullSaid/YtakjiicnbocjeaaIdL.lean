/- ident's law IdentFull, plain: what 128 rows say. -/
import Derived.Test.YtakjiicnbocjeaaIdK
namespace Go.Proofs.Ytakjiicnbocjeaa
open Go.RowKit Go.Maps
theorem insS_last {ν : Type} {lt : Int → Int → Bool} {x : Int × ν} : ∀ {l : List (Int × ν)}, (∀ p ∈ l, lt x.1 p.1 = false) → insS lt x l = l ++ [x]
  | [], _ => rfl
  | p :: r, h => by
    unfold insS
    have := h p (by simp)
    simp only [this, Bool.false_eq_true, if_false, List.cons_append]
    rw [insS_last (fun q hq => h q (by simp [hq]))]
theorem delS_none {ν : Type} {l : List (Int × ν)} {x : Int} (h : ∀ p ∈ l, p.1 ≠ x) : delS l x = l := by
  simp only [delS]
  rw [List.filter_eq_self]
  intro p hp
  have := h p hp
  simp [this]
/-- k rows from f on. -/
def fR (f M : Int) (k : Nat) : Rows := (List.range k).map fun (i : Nat) => (f + (i : Int), (⟨M, false, Ans.zero⟩ : RowV))
theorem fR_mem {f M : Int} {k : Nat} {p : Int × RowV} (h : p ∈ fR f M k) : ∃ i : Nat, i < k ∧ p = (f + (i : Int), ⟨M, false, Ans.zero⟩) := by
  obtain ⟨i, hi, rfl⟩ := List.mem_map.1 h
  exact ⟨i, by simpa using hi, rfl⟩
theorem fR_len (f M : Int) (k : Nat) : (fR f M k).length = k := by simp [fR]
theorem fR_put (f M : Int) (k : Nat) : putS ktI.lt (fR f M k) (f + (k : Int)) ⟨M, false, Ans.zero⟩ = fR f M (k + 1) := by
  unfold putS
  rw [delS_none (fun p hp => by obtain ⟨i, hi, rfl⟩ := fR_mem hp; simp; omega), insS_last (fun p hp => by
    obtain ⟨i, hi, rfl⟩ := fR_mem hp
    show decide (f + (k : Int) < f + (i : Int)) = false
    simp; omega)]
  simp [fR, List.range_succ]
theorem fR_none {f M n : Int} {k : Nat} (h : n < f ∨ f + k ≤ n) : getS (fR f M k) n = none := getS_none.2 fun p hp => by
  obtain ⟨i, hi, rfl⟩ := fR_mem hp
  simp; omega
theorem fR_nd (f M : Int) (k : Nat) : KeysND (fR f M k) := by
  unfold KeysND fR
  rw [List.pairwise_map]
  refine List.Pairwise.imp (R := fun a b => a < b) (fun {a b} h => ?_) List.pairwise_lt_range
  simp; omega
theorem fR_some {f M : Int} {k i : Nat} (h : i < k) : getS (fR f M k) (f + (i : Int)) = some ⟨M, false, Ans.zero⟩ := by
  refine getS_of (fR_nd f M k) ?_
  exact List.mem_map.2 ⟨i, by simpa using h, rfl⟩
section
variable {A : Tbl} {c f M mk : Int}
/-- A number is new. -/
theorem full_new {b : Int} {k : Nat} (hc : isCl c = true) (h1 : 1 ≤ mk) (h2 : mk ≤ b) (h3 : b + k ≤ 4294967296) (hk : k < 128) (hA : cli A c = (mk, fR b M k)) :
    askA A c (b + k) M = (1, Ans.zero) ∧ cli (askT A c (b + k) M) c = (mk, fR b M (k + 1)) := by
  have hn : isNu (b + k) = true := by unfold isNu; simp; omega
  have hM : askM (mk, fR b M k) (b + k) M = (1, Ans.zero, true) := by
    unfold askM
    simp only [fR_none (f := b) (M := M) (n := b + k) (k := k) (.inr (Int.le_refl _)), fR_len]
    rw [if_neg (by omega), if_neg (by omega)]
  refine ⟨by simp [askA, hc, hn, hA, hM], ?_⟩
  rw [cli_ask]
  simp only [hc, hn, hA, hM, Bool.and_self, and_self, if_true, fR_put]
theorem full_full (hc : isCl c = true) (h1 : 1 ≤ f) (h3 : f ≤ 1073741824) (hA : cli A c = (1, fR f M 128)) : askA A c (f + 128) M = (6, Ans.zero) ∧ cli (askT A c (f + 128) M) c = (1, fR f M 128) := by
  have hn : isNu (f + 128) = true := by unfold isNu; simp; omega
  have hM : askM (1, fR f M 128) (f + 128) M = (6, Ans.zero, false) := by
    unfold askM
    simp only [fR_none (f := f) (M := M) (n := f + 128) (k := 128) (.inr (Int.le_refl _)), fR_len]
    rw [if_neg (by omega), if_pos (by omega)]
  refine ⟨by simp [askA, hc, hn, hA, hM], ?_⟩
  rw [cli_ask]
  simp [hc, hn, hA, hM]
theorem full_open (hc : isCl c = true) (h1 : 1 ≤ f) (h3 : f ≤ 1073741824) (hA : cli A c = (1, fR f M 128)) : askA A c (f + 5) M = (2, Ans.zero) ∧ cli (askT A c (f + 5) M) c = (1, fR f M 128) := by
  have hn : isNu (f + 5) = true := by unfold isNu; simp; omega
  have hM : askM (1, fR f M 128) (f + 5) M = (2, Ans.zero, false) := by
    unfold askM
    rw [show f + 5 = f + ((5 : Nat) : Int) from rfl, fR_some (k := 128) (i := 5) (by omega)]
    rw [if_neg (by simp; omega)]
    simp
  refine ⟨by simp [askA, hc, hn, hA, hM], ?_⟩
  rw [cli_ask]
  simp [hc, hn, hA, hM]
theorem full_lowOk (hc : isCl c = true) (h1 : 1 ≤ f) (h3 : f ≤ 1073741824) : lowOk c (f + 1) = true := by unfold lowOk; simp [hc]; omega
theorem full_low (hc : isCl c = true) (h1 : 1 ≤ f) (h3 : f ≤ 1073741824) (hA : cli A c = (1, fR f M 128)) : lowA A c (f + 1) = 80 ∧ cli (lowT A c (f + 1)) c = (1, fR f M 128) := by
  have hb : lowBad (fR f M 128) (f + 1) = true := by
    unfold lowBad
    refine List.any_eq_true.2 ⟨(f + ((0 : Nat) : Int), ⟨M, false, Ans.zero⟩), List.mem_map.2 ⟨0, by simp, rfl⟩, ?_⟩
    simp; omega
  refine ⟨by simp [lowA, full_lowOk hc h1 h3, hA, hb], ?_⟩
  rw [cli_low]
  simp [hA, hb]
/-- The rows behind the first's Tell. -/
def fT (c f M : Int) : Rows := (f, ⟨M, true, ⟨c, f, 0, 0⟩⟩) :: fR (f + 1) M 127
theorem fR_cons (f M : Int) (k : Nat) : fR f M (k + 1) = (f, ⟨M, false, Ans.zero⟩) :: fR (f + 1) M k := by
  unfold fR
  rw [List.range_succ_eq_map]
  simp only [List.map_cons, List.map_map]
  congr 1
  · simp
  · refine List.map_congr_left fun i _ => ?_
    simp only [Function.comp]
    congr 1
    push_cast; omega
theorem full_tell (hc : isCl c = true) (h1 : 1 ≤ f) (h3 : f ≤ 1073741824) (hA : cli A c = (1, fR f M 128)) : tellA A ⟨c, f, 0, 0⟩ = 0 ∧ cli (tellT A ⟨c, f, 0, 0⟩) c = (1, fT c f M) := by
  have hok : tellOk ⟨c, f, 0, 0⟩ = true := by unfold tellOk isNu; simp [hc]; omega
  have hg : getS (fR f M 128) f = some ⟨M, false, Ans.zero⟩ := by
    have := fR_some (f := f) (M := M) (k := 128) (i := 0) (by omega)
    simpa using this
  have hM : tellM (1, fR f M 128) f = 0 := by simp [tellM, hg]
  refine ⟨by simp [tellA, hok, hA, hM], ?_⟩
  rw [cli_tell]
  simp only [hok, hA, hM, decide_true, Bool.and_self, and_self, if_true, tellR, hg]
  congr 1
  unfold putS fT
  rw [fR_cons f M 127]
  have : delS ((f, (⟨M, false, Ans.zero⟩ : RowV)) :: fR (f + 1) M 127) f = fR (f + 1) M 127 := by
    have h := delS_none (l := fR (f + 1) M 127) (x := f) (fun p hp => by obtain ⟨i, hi, rfl⟩ := fR_mem hp; simp; omega)
    simp only [delS, List.filter_cons, decide_true, Bool.not_true, Bool.false_eq_true, if_false] at h ⊢
    exact h
  rw [this, fR_cons (f + 1) M 126]
  unfold insS
  exact if_pos (show decide (f < f + 1) = true by simp; omega)
theorem full_low2 (hc : isCl c = true) (h1 : 1 ≤ f) (h3 : f ≤ 1073741824) (hA : cli A c = (1, fT c f M)) : lowA A c (f + 1) = 0 ∧ cli (lowT A c (f + 1)) c = (f + 1, fR (f + 1) M 127) := by
  have hb : lowBad (fT c f M) (f + 1) = false := by
    unfold lowBad fT
    rw [List.any_eq_false]
    intro p hp
    rcases List.mem_cons.1 hp with rfl | hp
    · simp
    · obtain ⟨i, hi, rfl⟩ := fR_mem hp
      simp; omega
  refine ⟨by simp [lowA, full_lowOk hc h1 h3, hA, hb], ?_⟩
  rw [cli_low]
  simp only [full_lowOk hc h1 h3, hA, hb]
  rw [if_pos (by simp; omega)]
  congr 1
  unfold fT
  rw [List.filter_cons, if_neg (by simp; omega), List.filter_eq_self]
  intro p hp
  obtain ⟨i, hi, rfl⟩ := fR_mem hp
  simp; omega
theorem full_last (hc : isCl c = true) (h1 : 1 ≤ f) (h3 : f ≤ 1073741824) (hA : cli A c = (f + 1, fR (f + 1) M 127)) : askA A c (f + 128) M = (1, Ans.zero) ∧ lenM (askT A c (f + 128) M) c = 128 := by
  have := full_new (A := A) (c := c) (M := M) (mk := f + 1) (b := f + 1) (k := 127) hc (by omega) (by omega) (by omega) (by omega) hA
  rw [show f + 1 + ((127 : Nat) : Int) = f + 128 by omega] at this
  refine ⟨this.1, ?_⟩
  rw [lenM_cli, this.2, fR_len]
  rfl
end
end Go.Proofs.Ytakjiicnbocjeaa
