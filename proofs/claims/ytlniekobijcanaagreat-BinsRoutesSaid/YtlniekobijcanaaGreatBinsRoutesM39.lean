/- Plain: floors stay floors. -/
import Derived.Test.YtlniekobijcanaaGreatBinsRoutesM34
namespace Go.Proofs.YtlniekobijcanaaGreat
open Go.RowKit Go.Maps
theorem setF_len {L : Its} {s : Str} {n : Int} : (setF L s n).length = (L.filter fun p => !decide (p.1 = s)).length + (if 0 < n then 1 else 0) := by
  rw [(setF_perm L s n).length_eq, List.length_append]
  split <;> rfl
theorem filt_len {L : Its} {s : Str} (h : ∃ p ∈ L, p.1 = s) : (L.filter fun p => !decide (p.1 = s)).length + 1 ≤ L.length := by
  obtain ⟨p, hp, rfl⟩ := h
  have h1 : (L.filter fun q => !decide (q.1 = p.1)).length < L.length := by
    refine List.length_filter_lt_length_iff_exists.2 ⟨p, hp, by simp⟩
  omega
theorem ofF_has {L : Its} {s : Str} (h : 0 < getI L s) : ∃ p ∈ L, p.1 = s := by
  by_cases hn : ∃ p ∈ L, p.1 = s
  · exact hn
  · exfalso
    have h0 : getI L s = 0 := by
      unfold getI
      have : L.filter (fun p => decide (p.1 = s)) = [] := List.filter_eq_nil_iff.2 (fun p hp => by simp; exact fun e => hn ⟨p, hp, e⟩)
      rw [this]; rfl
    omega
theorem beok_set {b : BE} {s : Str} {m : Int} (h : BEok b) (hg : goodB s = true) (h0 : 0 ≤ m) (hl : m = 0 ∨ (b.its.filter fun p => !decide (p.1 = s)).length + 1 ≤ 16) (ht : sumI b.its - getI b.its s + m ≤ b.ro) : BEok (b.put s m) := by
  have hw := (h.bw s).put hg h0 ht
  refine ⟨h.nu, h.zo, h.ro, ?_, hw.tot⟩
  unfold mayL
  rw [Bool.and_eq_true, decide_eq_true_eq]
  refine ⟨itsOk_of hw.ri (fun p hp => good_lt (hw.it p hp).1) (fun p hp => ⟨(hw.it p hp).1, (hw.it p hp).2.1, mayI_iff.2 ⟨by have := (hw.it p hp).2.1; omega, (hw.it p hp).2.2⟩⟩), ?_⟩
  show (setF b.its s m).length ≤ 16
  rw [setF_len]
  have hf := (h.bw s).fl
  split
  · rcases hl with hl | hl <;> omega
  · omega
theorem kind_room {b : BE} {s : Str} (h : BEok b) (hk : kindE b s ≠ 3) : (b.its.filter fun p => !decide (p.1 = s)).length + 1 ≤ 16 := by
  have hl := h.items.1
  unfold kindE at hk
  split at hk
  · rename_i h1
    rw [(h.bw s).of s] at h1
    have := filt_len (ofF_has h1)
    omega
  · have h2 : b.its.length < 16 := by split at hk <;> (try split at hk) <;> omega
    have := List.length_filter_le (fun p : Str × Int => !decide (p.1 = s)) b.its
    omega
theorem beok_put {b : BE} {s : Str} {k : Int} (h : BEok b) (hg : goodB s = true) (hk : kindE b s ≠ 3) (h0 : 0 < k) (h1 : k ≤ leftE b) : BEok (b.put s (ofF b.its s + k)) := by
  have hw := h.bw s
  rw [hw.left] at h1
  rw [hw.of s]
  have := getI_nn s hw.pos
  exact beok_set h hg (by omega) (.inr (kind_room h hk)) (by omega)
theorem beok_take {b : BE} {s : Str} {k : Int} (h : BEok b) (hg : goodB s = true) (h0 : 0 < k) (h1 : k ≤ ofF b.its s) : BEok (b.put s (ofF b.its s - k)) := by
  have hw := h.bw s
  rw [hw.of s] at h1 ⊢
  have h2 := filt_len (ofF_has (L := b.its) (s := s) (by omega))
  have h3 := h.items.1
  have h4 := hw.tot
  exact beok_set h hg (by omega) (.inr (by omega)) (by omega)
/-- What stays of a bin. -/
def binI (b : BE) : BI := ⟨b.nu, b.zo, b.ro⟩
theorem spF_inv (P Q : BE → Prop) (can : BE → Int) (nE : BE → Int → Int) (s : Str) (hstep : ∀ b k, Q b → P b → 0 < k → k ≤ can b → P (b.put s (nE b k))) :
    ∀ (ord : List Int) (M : List BE) (n : Int) (o : List PV), ord.Nodup → (∀ i ∈ ord, 0 ≤ i ∧ ∃ b, M[i.toNat]? = some b ∧ Q b) → (∀ b ∈ M, P b) →
      (∀ b ∈ (ord.foldl (stepS can nE s) (M, n, o)).1, P b) ∧ (ord.foldl (stepS can nE s) (M, n, o)).1.map binI = M.map binI
  | [], M, n, o, _, _, hM => ⟨hM, rfl⟩
  | i :: r, M, n, o, hn, hi, hM => by
    obtain ⟨h0, b, hb, hq⟩ := hi i List.mem_cons_self
    obtain ⟨hn1, hn2⟩ := List.nodup_cons.1 hn
    rw [List.foldl_cons]
    have hs : stepS can nE s (M, n, o) i = if min n (can b) ≤ 0 then (M, n, o) else (M.set i.toNat (b.put s (nE b (min n (can b)))), n - min n (can b), o ++ [⟨b.nu, s, min n (can b)⟩]) := by
      unfold stepS; dsimp only; rw [hb]
    rw [hs]
    by_cases hk : min n (can b) ≤ 0
    · rw [if_pos hk]
      exact spF_inv P Q can nE s hstep r M n o hn2 (fun j hj => hi j (List.mem_cons_of_mem _ hj)) hM
    · rw [if_neg hk]
      have hbM := List.mem_of_getElem? hb
      have := spF_inv P Q can nE s hstep r (M.set i.toNat (b.put s (nE b (min n (can b))))) (n - min n (can b)) (o ++ [⟨b.nu, s, min n (can b)⟩]) hn2 (fun j hj => by
        obtain ⟨k0, c, hc, hq'⟩ := hi j (List.mem_cons_of_mem _ hj)
        have hne : i.toNat ≠ j.toNat := fun e => by
          have e2 : i = j := by omega
          exact hn1 (e2 ▸ hj)
        refine ⟨k0, c, ?_, hq'⟩
        rw [List.getElem?_set_ne hne]
        exact hc) (fun c hc => by
        obtain ⟨q, hq'⟩ := List.getElem?_of_mem hc
        rcases set_get hq' with ⟨-, rfl⟩ | ⟨-, e2⟩
        · exact hstep b _ hq (hM b hbM) (by omega) (by omega)
        · exact hM c (List.mem_of_getElem? e2))
      refine ⟨this.1, this.2.trans ?_⟩
      rw [List.map_set]
      have e : binI (b.put s (nE b (min n (can b)))) = binI b := rfl
      rw [e]
      apply List.ext_getElem?
      intro q
      rw [List.getElem?_set]
      split
      · rename_i hq'
        subst hq'
        rw [List.getElem?_map, hb]
        simp [(List.getElem?_eq_some_iff.1 hb).1]
      · rfl
theorem ordI_nodup {α : Type} (L : List α) (isF : α → Bool) (cf : α → α → Int) : (ordI L isF cf).Nodup := by
  unfold ordI
  refine (stab_perm _ _).nodup_iff.2 ?_
  unfold idxK
  refine List.pairwise_map.2 (List.Pairwise.imp (fun {a b} hne e => hne (Int.ofNat.inj e)) (List.Pairwise.filter _ List.nodup_range))
theorem ordI_is {α : Type} {L : List α} {isF : α → Bool} {cf : α → α → Int} {x : Int} (h : x ∈ ordI L isF cf) : 0 ≤ x ∧ ∃ b, L[x.toNat]? = some b ∧ isF b = true := by
  obtain ⟨i, b, rfl, -, hb, hi⟩ := idxK_mem ((stab_perm _ _).mem_iff.1 h)
  exact ⟨by omega, b, by simpa using hb, hi⟩
theorem putF_inv {M : List BE} {s : Str} {n : Int} (h : ∀ b ∈ M, BEok b) (hg : goodB s = true) : (∀ b ∈ (putF M s n).1, BEok b) ∧ (putF M s n).1.map binI = M.map binI := by
  unfold putF spF
  refine spF_inv BEok (fun b => kindE b s ≠ 3) _ _ s (fun b k hq hp h0 h1 => beok_put hp hg hq h0 h1) _ M n [] (ordI_nodup _ _ _) (fun i hi => ?_) h
  obtain ⟨h0, b, hb, hf⟩ := ordI_is hi
  exact ⟨h0, b, hb, by simpa using hf⟩
theorem takeF_inv {M : List BE} {s : Str} {n : Int} (h : ∀ b ∈ M, BEok b) (hg : goodB s = true) : (∀ b ∈ (takeF M s n).1, BEok b) ∧ (takeF M s n).1.map binI = M.map binI := by
  unfold takeF spF
  refine spF_inv BEok (fun _ => True) _ _ s (fun b k hq hp h0 h1 => beok_take hp hg h0 h1) _ M n [] (ordI_nodup _ _ _) (fun i hi => ?_) h
  obtain ⟨h0, b, hb, hf⟩ := ordI_is hi
  exact ⟨h0, b, hb, trivial⟩
theorem binI_len {M M' : List BE} (h : M'.map binI = M.map binI) : M'.length = M.length := by have := congrArg List.length h; rwa [List.length_map, List.length_map] at this
end Go.Proofs.YtlniekobijcanaaGreat
