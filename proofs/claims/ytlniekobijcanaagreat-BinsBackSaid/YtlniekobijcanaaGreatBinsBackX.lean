/- What this claim needs beyond the texts joined before. -/
import Derived.Test.YtlniekobijcanaaGreatBinsDoesM10
import Derived.Test.YtlniekobijcanaaGreatBinsDoesM12
import Derived.Test.YtlniekobijcanaaGreatBinsDoesM13
import Derived.ChangeMaps5
namespace Go.Proofs.YtlniekobijcanaaGreat
open Go.RowKit Go.Maps
theorem sumW_nn {f : BE → Int} {M : List BE} (h : ∀ b ∈ M, 0 ≤ f b) : 0 ≤ sumW f M := by
  induction M with
  | nil => exact Int.le_refl _
  | cons b r ih =>
    rw [sumW_cons]
    have := h b List.mem_cons_self
    have := ih (fun q hq => h q (List.mem_cons_of_mem _ hq))
    omega
theorem sumW_le {f : BE → Int} {X : Int} {M : List BE} (h : ∀ b ∈ M, f b ≤ X) : sumW f M ≤ X * M.length := by
  induction M with
  | nil => simp [sumW]
  | cons b r ih =>
    rw [sumW_cons, List.length_cons]
    have := h b List.mem_cons_self
    have := ih (fun q hq => h q (List.mem_cons_of_mem _ hq))
    rw [Int.natCast_succ, Int.mul_add]
    omega
section
variable {M : List BE} {s : Str} {n : Int}
theorem put_sum (h : ∀ b ∈ M, BEok b) (hg : goodB s = true) (hn : 0 ≤ n) : SpS leftE (fun b => ofF b.its s) s (ordI M (fun b => kindE b s != 3) (cfPut s)) M n [] (putF M s n) := by
  unfold putF spF
  refine spF_sum BEok (fun b => kindE b s ≠ 3) _ _ _ s (fun b hb => hb.left.2.1) (fun b k hq hp h0 h1 => ?_) _ M n [] (ordI_nodup _ _ _) (fun i hi => ?_) h hn
  · have := beok_put hp hg hq h0 h1
    have h2 := (hp.ofs s).2.1
    refine ⟨this, ?_⟩
    rw [of_put this (by omega)]
  · obtain ⟨h0, b, hb, hf⟩ := ordI_is hi
    exact ⟨h0, b, hb, by simpa using hf⟩
end
end Go.Proofs.YtlniekobijcanaaGreat

namespace Go.Proofs.YtlniekobijcanaaGreat
open Go.RowKit Go.Maps
def sumP (L : List PV) : Int := (L.map PV.n).sum
theorem sumP_take {L : List PV} {k : Nat} {p : PV} (h : L[k]? = some p) : sumP (L.take (k + 1)) = sumP (L.take k) + p.n := by
  unfold sumP
  rw [List.take_add_one, h]
  simp
theorem sumP_nn {L : List PV} (h : ∀ p ∈ L, 1 ≤ p.n) : (L.length : Int) ≤ sumP L := by
  induction L with
  | nil => simp [sumP]
  | cons a r ih =>
    have h1 := h a List.mem_cons_self
    have h2 := ih (fun p hp => h p (List.mem_cons_of_mem _ hp))
    have e : sumP (a :: r) = a.n + sumP r := by simp [sumP]
    rw [e, List.length_cons]
    omega
theorem sumP_part {L : List PV} (h : ∀ p ∈ L, 1 ≤ p.n) (k : Nat) : 0 ≤ sumP (L.take k) ∧ sumP (L.take k) ≤ sumP L := by
  have h1 := sumP_nn (L := L.take k) (fun p hp => h p (List.mem_of_mem_take hp))
  have h2 := sumP_nn (L := L.drop k) (fun p hp => h p (List.mem_of_mem_drop hp))
  have e : sumP L = sumP (L.take k) + sumP (L.drop k) := by
    have := congrArg sumP (List.take_append_drop k L)
    rw [← this]
    unfold sumP
    rw [List.map_append, List.sum_append_int]
  omega
section
variable {M : List BE} {s : Str} {n : Int}
theorem have_in (h : ∀ b ∈ M, BEok b) (hl : M.length ≤ 64) : sumE M s = sumW (fun b => ofF b.its s) M ∧ 0 ≤ sumE M s ∧ sumE M s ≤ 70368744177664 := by
  have e := sumE_sum (s := s) h hl
  have h1 := sumW_nn (f := fun b => ofF b.its s) (M := M) (fun b hb => ((h b hb).ofs s).2.1)
  have h2 := sumW_le (f := fun b => ofF b.its s) (X := 1099511627776) (M := M) (fun b hb => ((h b hb).ofs s).2.2)
  rw [e]
  refine ⟨rfl, h1, ?_⟩
  have : (1099511627776 : Int) * (M.length : Int) ≤ 1099511627776 * 64 := Int.mul_le_mul_of_nonneg_left (by omega) (by omega)
  omega
theorem putA_cases (h : ∀ b ∈ M, BEok b) (hl : M.length ≤ 64) : ((putA M s n).1 ≠ 0 ∧ (putA M s n).2.1 = [] ∧ (putA M s n).2.2 = M) ∨
    ((putA M s n).1 = 0 ∧ mayF s n = 0 ∧ (∀ p ∈ (putA M s n).2.1, p.g = s ∧ 1 ≤ p.n) ∧ sumP (putA M s n).2.1 = n ∧ sumE (putA M s n).2.2 s = sumE M s + n) := by
  unfold putA
  by_cases hm : mayF s n = 0
  · rw [if_pos hm]
    obtain ⟨hg, h1, h2⟩ := mayF_zero hm
    have hp := put_sum h hg (n := n) (by omega)
    by_cases hr : 0 < (putF M s n).2.1
    · rw [if_pos hr]
      exact .inl ⟨by simp, rfl, rfl⟩
    · rw [if_neg hr]
      have hz : (putF M s n).2.1 = 0 := by have := hp.nn; omega
      obtain ⟨o', ho, ho2, ho3⟩ := hp.out
      rw [List.nil_append] at ho
      have hi := putF_inv (n := n) h hg
      refine .inr ⟨rfl, hm, ?_, ?_, ?_⟩
      · dsimp only; rw [ho]; exact ho2
      · dsimp only; rw [ho]; unfold sumP; rw [ho3, hz]; omega
      · dsimp only
        rw [(have_in hi.1 (by rw [binI_len hi.2]; exact hl)).1, (have_in h hl).1, hp.wt, hz]
        omega
  · rw [if_neg hm]
    exact .inl ⟨by simp, rfl, rfl⟩
theorem takeA_ok (h : ∀ b ∈ M, BEok b) (hl : M.length ≤ 64) (hm : mayF s n = 0) (hn : n ≤ sumE M s) : (takeA M s n).1 = 0 ∧ 0 < (takeA M s n).2.1.length ∧ sumE (takeA M s n).2.2 s = sumE M s - n := by
  obtain ⟨hg, h1, h2⟩ := mayF_zero hm
  have hv := have_in (s := s) h hl
  have hf := full_take h hg (R := n) (by omega) (by omega)
  have hp := take_sum h hg (n := n) (by omega)
  have hi := takeF_inv (n := n) h hg
  unfold takeA
  rw [if_pos hm, if_neg (by omega)]
  obtain ⟨o', ho, ho2, ho3⟩ := hp.out
  rw [List.nil_append] at ho
  refine ⟨rfl, ?_, ?_⟩
  · dsimp only
    rw [ho]
    cases o' with
    | nil => exfalso; rw [hf.1] at ho3; simp at ho3; omega
    | cons a r => simp
  · dsimp only
    rw [(have_in hi.1 (by rw [binI_len hi.2]; exact hl)).1, hv.1, hf.2]
theorem takeA_more (h : ∀ b ∈ M, BEok b) (hl : M.length ≤ 64) (hg : goodB s = true) : (takeA M s (sumE M s + 1)).2.2 = M ∧ ((takeA M s (sumE M s + 1)).1 = 51 ∨ ((takeA M s (sumE M s + 1)).1 = 60 ∧ 1099511627776 < sumE M s + 1)) := by
  have hv := have_in (s := s) h hl
  unfold takeA
  by_cases hm : mayF s (sumE M s + 1) = 0
  · have hf := take_less h hg (n := sumE M s + 1) (by omega) (by omega)
    rw [if_pos hm, if_pos hf]
    exact ⟨rfl, .inl rfl⟩
  · rw [if_neg hm]
    refine ⟨rfl, .inr ⟨rfl, ?_⟩⟩
    apply Classical.byContradiction
    intro hle
    refine hm ?_
    unfold mayF
    rw [if_pos ⟨hg, by omega, mayI_iff.2 ⟨by omega, by omega⟩⟩]
end
end Go.Proofs.YtlniekobijcanaaGreat

namespace Go.Proofs.YtlniekobijcanaaGreat
open Go.ChangeShapes Go.WideShapes Go.RowKit Go.Deep Go.ChangeMaps
section
variable {H : Type} {enc : TypeId × Value → H} {P : Program} {w : World} {base : Nat} {spare : Nat → Bool} {held : Bool}
theorem open_strV {r : Reach} {b0 : Nat} {t : TypeId} {v : Value} {d : DataW H} {p : List MemPlace} (hs : P.underlying t = some .string) (hv : Value.okWide P w r b0 t v) (h : DataW.Trod enc P w base spare held t v d p) : ∃ s : Str, v = vS s ∧ okS s := by
  obtain ⟨s, rfl, -⟩ := open_string hs hv h
  obtain ⟨n, h⟩ := h
  exact leaf_str hs h
end
end Go.Proofs.YtlniekobijcanaaGreat

