/- Plain: how far a way is. -/
import Derived.Test.YtlniekobijcanaaGreatBinsShortM44
namespace Go.Proofs.YtlniekobijcanaaGreat
open Go.RowKit Go.Maps
theorem stab_sorted {α : Type} {lt : α → α → Bool} (h : SwoB lt) (l : List α) : (stab lt l).Pairwise (fun a b => lt b a = false) := by
  obtain ⟨Z, h1, -, h3⟩ := stab_tag h l 0
  rw [← h3]
  refine List.pairwise_map.2 (List.Pairwise.imp (fun {p q} e => ?_) h1)
  rcases tag_iff.1 e with e | ⟨e, -⟩
  · exact h.as e
  · exact e
/-- The way's bound at a place. -/
def bnd (z n : Int) : Int := 100 * z + 4096 * z + (if z.tmod 2 = 1 then 4096 - n else n)
theorem bnd_step {z n z' n' : Int} (hz : 0 ≤ z ∧ z ≤ 15) (hz' : 0 ≤ z' ∧ z' ≤ 15) (hn : 0 ≤ n ∧ n ≤ 4096) (hn' : 0 ≤ n' ∧ n' ≤ 4096) (h : z < z' ∨ (z = z' ∧ (if z.tmod 2 = 1 then n' ≤ n else n ≤ n'))) : bnd z n + (100 * apartI z' z + apartI n' n) ≤ bnd z' n' := by
  unfold bnd apartI
  have p1 : z.tmod 2 = z % 2 := by rw [Int.tmod_eq_emod_of_nonneg hz.1]
  have p2 : z'.tmod 2 = z' % 2 := by rw [Int.tmod_eq_emod_of_nonneg hz'.1]
  rw [p1] at h ⊢
  rw [p2]
  rcases h with h | ⟨rfl, h⟩
  · split <;> split <;> split <;> split <;> omega
  · split <;> rename_i e <;> simp only [e, if_true, if_false] at h <;> split <;> (try split) <;> omega
theorem way_bnd {L : List BE} (hL : ∀ b ∈ L, BEok b) : ∀ (R : List PV) (s : Int × Int × Int), (0 ≤ s.2.1 ∧ s.2.1 ≤ 4096) → (0 ≤ s.2.2 ∧ s.2.2 ≤ 15) → s.1 ≤ bnd s.2.2 s.2.1 →
    (∀ p ∈ R, ∃ b, binE L p.b = some b ∧ (s.2.2 < b.zo ∨ (s.2.2 = b.zo ∧ (if s.2.2.tmod 2 = 1 then b.nu ≤ s.2.1 else s.2.1 ≤ b.nu)))) → R.Pairwise (fun p q => decide (cR L q p < 0) = false) →
    (R.foldl (fun s p => match binE L p.b with | some b => wayS b s | none => s) s).1 ≤ 1500 + 4096 * 16
  | [], s, h1, h2, h3, _, _ => by
    rw [List.foldl_nil]
    unfold bnd at h3
    split at h3 <;> omega
  | p :: r, s, h1, h2, h3, h4, h5 => by
    obtain ⟨b, hb, hs⟩ := h4 p List.mem_cons_self
    obtain ⟨k1, k2⟩ := List.pairwise_cons.1 h5
    have hbo := hL b (binE_mem hb)
    have hnu := hbo.nu; have hzo := hbo.zo
    rw [List.foldl_cons]
    simp only [hb]
    have hst := bnd_step h2 hzo h1 (by omega) hs
    clear hs
    refine way_bnd hL r (wayS b s) (show 0 ≤ b.nu ∧ b.nu ≤ 4096 by omega) (show 0 ≤ b.zo ∧ b.zo ≤ 15 by omega) (show s.1 + (100 * apartI b.zo s.2.2 + apartI b.nu s.2.1) ≤ bnd b.zo b.nu by omega) (fun q hq => ?_) k2
    obtain ⟨c, hc, -⟩ := h4 q (List.mem_cons_of_mem _ hq)
    refine ⟨c, hc, ?_⟩
    have hcz := (hL c (binE_mem hc)).zo
    have h6 : ¬ cR L q p < 0 := of_decide_eq_false (k1 q hq)
    unfold cR at h6
    rw [optC_some (a := (c, q.g)) (b := (b, p.g)) (by rw [hc]; rfl) (by rw [hb]; rfl), compE_lt] at h6
    unfold wayS
    dsimp only at h6 ⊢
    have h8 : ¬ c.zo < b.zo := fun h => h6 (.inl h)
    by_cases e : b.zo = c.zo
    · right
      have h7 : ¬ kN c < kN b := fun h => h6 (.inr ⟨e.symm, .inl h⟩)
      refine ⟨e, ?_⟩
      unfold kN at h7
      rw [← e] at h7
      split <;> rename_i e2 <;> simp only [e2, if_true, if_false] at h7 <;> omega
    · left; omega
theorem wayE_nil (L : List BE) : wayE L [] = 0 := by simp [wayE, routeE, thereE, stab, wayG]
theorem wayE_le {L : List BE} (hL : ∀ b ∈ L, BEok b) (l : List PV) : 0 ≤ wayE L l ∧ wayE L l ≤ 1500 + 4096 * 16 := by
  refine ⟨?_, ?_⟩
  · obtain ⟨⟨N, -, h, -⟩, -⟩ := wayG_in hL (routeE L l); exact h
  · refine way_bnd hL (routeE L l) (0, 0, 0) (by simp) (by simp) (by unfold bnd; simp) (fun p hp => ?_) (stab_sorted (cR_swo L) _)
    obtain ⟨b, hb⟩ := cR_there ((stab_perm _ _).mem_iff.1 hp)
    have hbo := hL b (binE_mem hb)
    have hnu := hbo.nu; have hzo := hbo.zo
    refine ⟨b, hb, ?_⟩
    dsimp only
    by_cases e : 0 = b.zo
    · right; refine ⟨e, ?_⟩
      rw [if_neg (by simp)]; omega
    · left; omega
end Go.Proofs.YtlniekobijcanaaGreat
