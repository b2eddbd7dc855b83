/- Plain: with one more answer the span gets no wider. -/
import Derived.Test.YtbeikkkmobbnkaaGreatModMoreM31
import Derived.Test.YtbeikkkmobbnkaaGreatModMoreM24
namespace Go.Proofs.YtbeikkkmobbnkaaGreat
open Go.RowKit Go.Maps
theorem of_bd (s : Str) : ∀ (L : Its) (a : Int), (∀ p ∈ L, 1 ≤ p.2 ∧ p.2 ≤ 1099511627776) → 0 ≤ a → a + (L.length : Int) * 1099511627776 ≤ 9223372036854775807 →
    0 ≤ L.foldl (ofStep s) a ∧ L.foldl (ofStep s) a ≤ a + (L.length : Int) * 1099511627776
  | [], a, _, h0, _ => by simp; exact h0
  | p :: r, a, h, h0, hb => by
    obtain ⟨h1, h2⟩ := h p (List.mem_cons_self ..)
    rw [List.length_cons] at hb ⊢
    have e : 0 ≤ ofStep s a p ∧ ofStep s a p ≤ a + 1099511627776 := by
      unfold ofStep
      split
      · have : wrap64 (a + p.2) = a + p.2 := by unfold wrap64; omega
        omega
      · omega
    have := of_bd s r (ofStep s a p) (fun q hq => h q (List.mem_cons_of_mem _ hq)) e.1 (by omega)
    rw [List.foldl_cons]
    omega
theorem ofF_bd {a : AV} (hm : a.may = true) (g : Str) : 0 ≤ ofF a.its g ∧ ofF a.its g ≤ 17592186044416 := by
  obtain ⟨h1, h2⟩ := mayK_all (may_its hm)
  have h1I : (a.its.length : Int) ≤ 16 := by omega
  have := of_bd g a.its 0 (fun p hp => (h2 p hp).2) (by omega) (by omega)
  unfold ofF
  omega
theorem most_bd (o : Int) (g : Str) : ∀ (R : List AV) (m : Int), (∀ a ∈ R, a.may = true) → 0 ≤ m ∧ m ≤ 17592186044416 → 0 ≤ R.foldl (mstep o g) m ∧ R.foldl (mstep o g) m ≤ 17592186044416
  | [], m, _, h => h
  | a :: r, m, h, hm => by
    rw [List.foldl_cons]
    refine most_bd o g r _ (fun b hb => h b (List.mem_cons_of_mem _ hb)) ?_
    have := ofF_bd (h a (List.mem_cons_self ..)) g
    unfold mstep
    split <;> omega
theorem movF_bd {a : AV} (hm : a.may = true) (kind : Int) (g : Str) (L : List AV) : 0 ≤ movF a kind g L ∧ movF a kind g L ≤ 17592186044416 := by
  unfold movF
  split
  · split
    · exact ofF_bd hm g
    · split
      · exact most_bd a.o g _ 0 (fun b hb => (List.mem_filter.1 hb).2) (by omega)
      · omega
  · omega
theorem mx_bd (kind : Int) (g : Str) (L : List AV) : ∀ (G : List AV) (m : Int), (∀ a ∈ G, a.may = true) → 0 ≤ m ∧ m ≤ 17592186044416 →
    m ≤ G.foldl (fun m x => max m (movF x kind g L)) m ∧ G.foldl (fun m x => max m (movF x kind g L)) m ≤ 17592186044416 ∧ ∀ a ∈ G, movF a kind g L ≤ G.foldl (fun m x => max m (movF x kind g L)) m
  | [], m, _, h => ⟨Int.le_refl _, h.2, fun _ h => by cases h⟩
  | a :: r, m, h, hm => by
    rw [List.foldl_cons]
    have hb := movF_bd (h a (List.mem_cons_self ..)) kind g L
    obtain ⟨i1, i2, i3⟩ := mx_bd kind g L r (max m (movF a kind g L)) (fun b hb => h b (List.mem_cons_of_mem _ hb)) (by omega)
    refine ⟨by omega, i2, fun b hb => ?_⟩
    rcases List.mem_cons.1 hb with rfl | hb
    · omega
    · exact i3 b hb
theorem grp_bd (kind : Int) (g : Str) (L : List AV) (c n : Int) : 0 ≤ headM kind g L (grpL c n L) ∧ headM kind g L (grpL c n L) ≤ mxF kind g L (grpL c n L) ∧ mxF kind g L (grpL c n L) ≤ 17592186044416 := by
  have hm : ∀ a ∈ grpL c n L, a.may = true := fun a ha => (grp_may ha).1
  obtain ⟨h1, h2, h3⟩ := mx_bd kind g L (grpL c n L) 0 hm (by omega)
  unfold mxF
  generalize grpL c n L = G at *
  cases G with
  | nil => exact ⟨Int.le_refl _, h1, h2⟩
  | cons a r => exact ⟨(movF_bd (hm a (List.mem_cons_self ..)) kind g L).1, h3 a (List.mem_cons_self ..), h2⟩
theorem lm_bd (kind : Int) (g : Str) (L : List AV) (Y : List YV) (c n : Int) : 0 ≤ leastG kind g L Y c n ∧ leastG kind g L Y c n ≤ mostG kind g L Y c n ∧ mostG kind g L Y c n ≤ 17592186044416 := by
  obtain ⟨h1, h2, h3⟩ := grp_bd kind g L c n
  unfold leastG mostG
  split
  · next h =>
    rw [if_neg (by omega)]
    exact ⟨h1, h2, h3⟩
  · split
    · omega
    · omega
theorem spanT_le {f h : Int → Int → Int} (hf : ∀ c n, f c n ≤ h c n) (R : List AV) : ∀ k, spanT f R k ≤ spanT h R k
  | 0 => Int.le_refl _
  | k + 1 => by
    have ih := spanT_le hf R k
    unfold spanT
    cases R[k]? with
    | none => dsimp only; omega
    | some a =>
      dsimp only
      have := hf a.c a.n
      split <;> omega
theorem spanT_bd {f : Int → Int → Int} (hf : ∀ c n, 0 ≤ f c n ∧ f c n ≤ 17592186044416) (R : List AV) : ∀ k : Nat, 0 ≤ spanT f R k ∧ spanT f R k ≤ (k : Int) * 17592186044416
  | 0 => by unfold spanT; omega
  | k + 1 => by
    have ih := spanT_bd hf R k
    unfold spanT
    cases R[k]? with
    | none => dsimp only; omega
    | some a =>
      dsimp only
      have := hf a.c a.n
      split <;> omega
theorem st_same {c n : Int} {Y : List YV} {y : YV} (h : isY c n y = false) : stF c n (Y ++ [y]) = stF c n Y := by
  unfold stF
  rw [List.find?_append]
  cases e : Y.find? (isY c n) with
  | some z => rfl
  | none => simp [h]
theorem st_open {c n : Int} {Y : List YV} (h : ∀ z ∈ Y, isY c n z = false) : stF c n Y = 3 := by
  unfold stF
  rw [List.find?_eq_none.2 (fun z hz => by simp [h z hz])]
theorem isY_iff {c n : Int} {y : YV} : isY c n y = true ↔ y.c = c ∧ y.n = n := by simp [isY]
theorem least_more (kind : Int) (g : Str) (L : List AV) (Y : List YV) (y : YV) (hno : ∀ z ∈ Y, isY y.c y.n z = false) (c n : Int) : leastG kind g L Y c n ≤ leastG kind g L (Y ++ [y]) c n := by
  have hb := lm_bd kind g L (Y ++ [y]) c n
  by_cases h : isY c n y = true
  · obtain ⟨h1, h2⟩ := isY_iff.1 h
    have e : leastG kind g L Y c n = 0 := by
      unfold leastG
      rw [if_neg]
      rintro ⟨h3, -⟩
      rw [st_open (by rw [← h1, ← h2]; exact hno)] at h3
      cases h3
    omega
  · have e : leastG kind g L (Y ++ [y]) c n = leastG kind g L Y c n := by unfold leastG; rw [st_same (by simpa using h)]
    omega
theorem most_more (kind : Int) (g : Str) (L : List AV) (Y : List YV) (y : YV) (hno : ∀ z ∈ Y, isY y.c y.n z = false) (c n : Int) : mostG kind g L (Y ++ [y]) c n ≤ mostG kind g L Y c n := by
  by_cases h : isY c n y = true
  · obtain ⟨h1, h2⟩ := isY_iff.1 h
    have e : mostG kind g L Y c n = mxF kind g L (grpL c n L) := by
      unfold mostG
      rw [if_neg]
      intro h3
      rw [st_open (by rw [← h1, ← h2]; exact hno)] at h3
      cases h3
    obtain ⟨h1, h2, h3⟩ := grp_bd kind g L c n
    rw [e]
    unfold mostG
    split <;> omega
  · have e : mostG kind g L (Y ++ [y]) c n = mostG kind g L Y c n := by unfold mostG; rw [st_same (by simpa using h)]
    omega
/-- The least, the most. -/
def loF (kind : Int) (g : Str) (L : List AV) (Y : List YV) : Int := wrap64 (spanT (leastG kind g L Y) (rightL L) (rightL L).length)
def hiF (kind : Int) (g : Str) (L : List AV) (Y : List YV) : Int := wrap64 (spanT (mostG kind g L Y) (rightL L) (rightL L).length)
theorem wrap_in {x : Int} (h0 : 0 ≤ x) (h1 : x ≤ 9223372036854775807) : wrap64 x = x := by unfold wrap64; omega
theorem lo_hi (kind : Int) (g : Str) (L : List AV) (Y : List YV) (hl : L.length ≤ 40) :
    loF kind g L Y = spanT (leastG kind g L Y) (rightL L) (rightL L).length ∧ hiF kind g L Y = spanT (mostG kind g L Y) (rightL L) (rightL L).length := by
  have hn : ((rightL L).length : Int) ≤ 40 := by have := List.length_filter_le AV.may L; unfold rightL; omega
  have h1 := spanT_bd (fun c n => ⟨(lm_bd kind g L Y c n).1, Int.le_trans (lm_bd kind g L Y c n).2.1 (lm_bd kind g L Y c n).2.2⟩) (rightL L) (rightL L).length
  have h2 := spanT_bd (fun c n => ⟨Int.le_trans (lm_bd kind g L Y c n).1 (lm_bd kind g L Y c n).2.1, (lm_bd kind g L Y c n).2.2⟩) (rightL L) (rightL L).length
  exact ⟨wrap_in h1.1 (by omega), wrap_in h2.1 (by omega)⟩
theorem more_plain (kind : Int) (g : Str) (L : List AV) (Y : List YV) (y : YV) (hl : L.length ≤ 40) (hno : ∀ z ∈ Y, isY y.c y.n z = false) :
    loF kind g L Y ≤ loF kind g L (Y ++ [y]) ∧ hiF kind g L (Y ++ [y]) ≤ hiF kind g L Y ∧ loF kind g L Y ≤ hiF kind g L Y := by
  obtain ⟨e1, e2⟩ := lo_hi kind g L Y hl
  obtain ⟨e3, e4⟩ := lo_hi kind g L (Y ++ [y]) hl
  rw [e1, e2, e3, e4]
  exact ⟨spanT_le (least_more kind g L Y y hno) _ _, spanT_le (most_more kind g L Y y hno) _ _, spanT_le (fun c n => (lm_bd kind g L Y c n).2.1) _ _⟩
end Go.Proofs.YtbeikkkmobbnkaaGreat
