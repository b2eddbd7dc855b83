/- Plain: how many Put and Take put or take, in sum. -/
import Derived.Test.YtlniekobijcanaaGreatBinsFullM37
namespace Go.Proofs.YtlniekobijcanaaGreat
open Go.RowKit Go.Maps
def sumW (f : BE → Int) (M : List BE) : Int := (M.map f).sum
theorem sumW_cons (f : BE → Int) (b : BE) (M : List BE) : sumW f (b :: M) = f b + sumW f M := by simp [sumW]
theorem sumW_app (f : BE → Int) (A B : List BE) : sumW f (A ++ B) = sumW f A + sumW f B := by simp [sumW]
theorem sum_permZ {A B : List Int} (h : A.Perm B) : A.sum = B.sum := by
  induction h with
  | nil => rfl
  | cons x _ ih => rw [List.sum_cons, List.sum_cons, ih]
  | swap x y l => simp only [List.sum_cons]; omega
  | trans _ _ h1 h2 => exact h1.trans h2
theorem sumW_set (f : BE → Int) : ∀ (M : List BE) (i : Nat) (b x : BE), M[i]? = some b → sumW f (M.set i x) = sumW f M - f b + f x
  | [], i, b, x, h => by simp at h
  | c :: r, 0, b, x, h => by cases h; rw [List.set_cons_zero, sumW_cons, sumW_cons]; omega
  | c :: r, i + 1, b, x, h => by rw [List.set_cons_succ, sumW_cons, sumW_cons, sumW_set f r i b x (by simpa using h)]; omega
theorem sumW_nn {f : BE → Int} {M : List BE} (h : ∀ b ∈ M, 0 ≤ f b) : 0 ≤ sumW f M := by
  induction M with
  | nil => exact Int.le_refl _
  | cons b r ih =>
    rw [sumW_cons]
    have := h b List.mem_cons_self
    have := ih (fun q hq => h q (List.mem_cons_of_mem _ hq))
    omega
theorem sumW_le {f : BE → Int} {X : Int} {M : List BE} (h : ∀ b ∈ M, f b ≤ X) : sumW f M ≤ X * M.length := by
  induction M with
  | nil => simp [sumW]
  | cons b r ih =>
    rw [sumW_cons, List.length_cons]
    have := h b List.mem_cons_self
    have := ih (fun q hq => h q (List.mem_cons_of_mem _ hq))
    rw [Int.natCast_succ, Int.mul_add]
    omega
theorem sumW_filter {f : BE → Int} {M : List BE} (p : BE → Bool) (h : ∀ b ∈ M, 0 ≤ f b) : sumW f (M.filter p) ≤ sumW f M := by
  induction M with
  | nil => exact Int.le_refl _
  | cons b r ih =>
    have h0 := h b List.mem_cons_self
    have := ih (fun q hq => h q (List.mem_cons_of_mem _ hq))
    rw [List.filter_cons]
    split
    · rw [sumW_cons, sumW_cons]; omega
    · rw [sumW_cons]; omega
theorem sumW_filter_eq {f : BE → Int} {M : List BE} (p : BE → Bool) (h : ∀ b ∈ M, p b = false → f b = 0) : sumW f (M.filter p) = sumW f M := by
  induction M with
  | nil => rfl
  | cons b r ih =>
    have h0 := h b List.mem_cons_self
    have := ih (fun q hq => h q (List.mem_cons_of_mem _ hq))
    rw [List.filter_cons]
    split
    · rw [sumW_cons, sumW_cons]; omega
    · rename_i e
      rw [sumW_cons, h0 (by simpa using e)]; omega
theorem sum_zeroL {α : Type} (l : List α) : (l.map (fun _ => (0 : Int))).sum = 0 := by
  induction l with
  | nil => rfl
  | cons a r ih => rw [List.map_cons, List.sum_cons, ih]; rfl
def atE (f : BE → Int) (M : List BE) (i : Int) : Int := match M[i.toNat]? with | some b => f b | none => 0
theorem idx_sum (f : BE → Int) (M : List BE) (isF : BE → Bool) : ∀ k, k ≤ M.length → ((idxK M isF k).map (atE f M)).sum = sumW f ((M.take k).filter isF)
  | 0, _ => by simp [idxK, sumW]
  | k + 1, hk => by
    have ih := idx_sum f M isF k (by omega)
    have hM : M[k]? = some (M[k]'(by omega)) := List.getElem?_eq_getElem _
    rw [List.take_add_one, List.filter_append, sumW_app, ← ih]
    unfold idxK
    rw [List.range_succ, List.filter_append, List.map_append, List.map_append, List.sum_append]
    congr 1
    rw [List.filter_cons]
    cases hf : isF (M[k]'(by omega)) with
    | true =>
      have e1 : (M[k]?).any isF = true := by rw [hM]; simpa using hf
      rw [if_pos e1, hM]
      simp [sumW, hf, atE, hM]
    | false =>
      have e1 : ¬ (M[k]?).any isF = true := by rw [hM]; simpa using hf
      rw [if_neg e1, hM]
      simp [sumW, hf]
theorem ord_sum (f : BE → Int) (M : List BE) (isF : BE → Bool) (cf : BE → BE → Int) : ((ordI M isF cf).map (atE f M)).sum = sumW f (M.filter isF) := by
  unfold ordI
  rw [sum_permZ ((stab_perm _ _).map _), idx_sum f M isF _ (Nat.le_refl _), List.take_length]
structure SpS (can wt : BE → Int) (s : Str) (ord : List Int) (M : List BE) (n : Int) (o : List PV) (F : List BE × Int × List PV) : Prop where
  nn : 0 ≤ F.2.1
  le : F.2.1 ≤ n
  wt : sumW wt F.1 = sumW wt M + (n - F.2.1)
  all : F.2.1 = 0 ∨ n - F.2.1 = (ord.map (atE can M)).sum
  most : n - F.2.1 ≤ (ord.map (atE can M)).sum
  out : ∃ o', F.2.2 = o ++ o' ∧ (∀ p ∈ o', p.g = s ∧ 1 ≤ p.n) ∧ (o'.map PV.n).sum = n - F.2.1
theorem spF_sum (P Q : BE → Prop) (can wt : BE → Int) (nE : BE → Int → Int) (s : Str) (hcan : ∀ b, P b → 0 ≤ can b) (hstep : ∀ b k, Q b → P b → 0 < k → k ≤ can b → P (b.put s (nE b k)) ∧ wt (b.put s (nE b k)) = wt b + k) :
    ∀ (ord : List Int) (M : List BE) (n : Int) (o : List PV), ord.Nodup → (∀ i ∈ ord, 0 ≤ i ∧ ∃ b, M[i.toNat]? = some b ∧ Q b) → (∀ b ∈ M, P b) → 0 ≤ n →
      SpS can wt s ord M n o (ord.foldl (stepS can nE s) (M, n, o))
  | [], M, n, o, _, _, hM, hn => ⟨hn, Int.le_refl _, by dsimp only [List.foldl_nil]; omega, .inr (by simp), by simp, [], by simp, by simp, by simp⟩
  | i :: r, M, n, o, hnd, hi, hM, hn => by
    obtain ⟨h0, b, hb, hq⟩ := hi i List.mem_cons_self
    obtain ⟨hn1, hn2⟩ := List.nodup_cons.1 hnd
    rw [List.foldl_cons]
    have hs : stepS can nE s (M, n, o) i = if min n (can b) ≤ 0 then (M, n, o) else (M.set i.toNat (b.put s (nE b (min n (can b)))), n - min n (can b), o ++ [⟨b.nu, s, min n (can b)⟩]) := by
      unfold stepS; dsimp only; rw [hb]
    rw [hs]
    have hbM := List.mem_of_getElem? hb
    have hcb := hcan b (hM b hbM)
    have hat : atE can M i = can b := by unfold atE; rw [hb]
    by_cases hk : min n (can b) ≤ 0
    · rw [if_pos hk]
      have h := spF_sum P Q can wt nE s hcan hstep r M n o hn2 (fun j hj => hi j (List.mem_cons_of_mem _ hj)) hM hn
      have hnn := h.nn; have hle := h.le; have hal := h.all; have hmo := h.most
      refine ⟨h.nn, h.le, h.wt, ?_, ?_, h.out⟩
      · rw [List.map_cons, List.sum_cons, hat]
        omega
      · rw [List.map_cons, List.sum_cons, hat]
        omega
    · rw [if_neg hk]
      obtain ⟨hst1, hst2⟩ := hstep b (min n (can b)) hq (hM b hbM) (by omega) (by omega)
      have hne : ∀ j ∈ r, i.toNat ≠ j.toNat := fun j hj e => by
        obtain ⟨k0, -⟩ := hi j (List.mem_cons_of_mem _ hj)
        have e2 : i = j := by omega
        exact hn1 (e2 ▸ hj)
      have h := spF_sum P Q can wt nE s hcan hstep r (M.set i.toNat (b.put s (nE b (min n (can b))))) (n - min n (can b)) (o ++ [⟨b.nu, s, min n (can b)⟩]) hn2 (fun j hj => by
        obtain ⟨k0, c, hc, hq'⟩ := hi j (List.mem_cons_of_mem _ hj)
        refine ⟨k0, c, ?_, hq'⟩
        rw [List.getElem?_set_ne (hne j hj)]
        exact hc) (fun c hc => by
        obtain ⟨q, hq'⟩ := List.getElem?_of_mem hc
        rcases set_get hq' with ⟨-, rfl⟩ | ⟨-, e2⟩
        · exact hst1
        · exact hM c (List.mem_of_getElem? e2)) (by omega)
      have e : (r.map (atE can (M.set i.toNat (b.put s (nE b (min n (can b))))))) = r.map (atE can M) := List.map_congr_left (fun j hj => by
        unfold atE
        rw [List.getElem?_set_ne (hne j hj)])
      have hnn := h.nn; have hle := h.le; have hal := h.all; have hmo := h.most; have hwt := h.wt
      rw [e] at hal hmo
      rw [sumW_set wt M i.toNat b _ hb, hst2] at hwt
      generalize hF : (List.foldl (stepS can nE s) (M.set i.toNat (b.put s (nE b (min n (can b)))), n - min n (can b), o ++ [⟨b.nu, s, min n (can b)⟩]) r) = F at *
      refine ⟨h.nn, by omega, by omega, ?_, ?_, ?_⟩
      · rw [List.map_cons, List.sum_cons, hat]
        omega
      · rw [List.map_cons, List.sum_cons, hat]
        omega
      · obtain ⟨o', h1, h2, h3⟩ := h.out
        refine ⟨⟨b.nu, s, min n (can b)⟩ :: o', by rw [h1, List.append_assoc]; rfl, fun p hp => ?_, ?_⟩
        · rcases List.mem_cons.1 hp with rfl | hp
          · exact ⟨rfl, by dsimp only; omega⟩
          · exact h2 p hp
        · rw [List.map_cons, List.sum_cons, h3]; dsimp only; omega
theorem BEok.left {b : BE} (h : BEok b) : leftE b = b.ro - sumI b.its ∧ 0 ≤ leftE b ∧ leftE b ≤ 1099511627776 := by
  have h1 := (h.bw []).left; have h2 := h.tot; have h3 := h.ro; have h4 := sumI_nn (h.bw []).pos
  omega
theorem BEok.ofs {b : BE} (h : BEok b) (s : Str) : ofF b.its s = getI b.its s ∧ 0 ≤ ofF b.its s ∧ ofF b.its s ≤ 1099511627776 := by
  have h1 := (h.bw s).of s; have h2 := getI_nn s (h.bw s).pos; have h3 := getI_le s (h.bw s).pos; have h4 := h.tot; have h5 := h.ro
  omega
theorem of_put {b : BE} {s : Str} {m : Int} (hp : BEok (b.put s m)) (h0 : 0 ≤ m) : ofF (b.put s m).its s = m := by
  rw [(hp.ofs s).1]
  show getI (setF b.its s m) s = m
  rw [getI_set, if_pos rfl]
  split <;> omega
theorem left_put {b : BE} {s : Str} {m : Int} (h : BEok b) (hp : BEok (b.put s m)) (h0 : 0 ≤ m) : leftE (b.put s m) = leftE b + ofF b.its s - m := by
  rw [hp.left.1, h.left.1, (h.ofs s).1]
  show b.ro - sumI (setF b.its s m) = _
  rw [sumI_set]
  split <;> omega
section
variable {M : List BE} {s : Str} {n : Int}
theorem put_sum (h : ∀ b ∈ M, BEok b) (hg : goodB s = true) (hn : 0 ≤ n) : SpS leftE (fun b => ofF b.its s) s (ordI M (fun b => kindE b s != 3) (cfPut s)) M n [] (putF M s n) := by
  unfold putF spF
  refine spF_sum BEok (fun b => kindE b s ≠ 3) _ _ _ s (fun b hb => hb.left.2.1) (fun b k hq hp h0 h1 => ?_) _ M n [] (ordI_nodup _ _ _) (fun i hi => ?_) h hn
  · have := beok_put hp hg hq h0 h1
    have h2 := (hp.ofs s).2.1
    refine ⟨this, ?_⟩
    rw [of_put this (by omega)]
  · obtain ⟨h0, b, hb, hf⟩ := ordI_is hi
    exact ⟨h0, b, hb, by simpa using hf⟩
theorem put_left (h : ∀ b ∈ M, BEok b) (hg : goodB s = true) (hn : 0 ≤ n) : SpS leftE (fun b => - leftE b) s (ordI M (fun b => kindE b s != 3) (cfPut s)) M n [] (putF M s n) := by
  unfold putF spF
  refine spF_sum BEok (fun b => kindE b s ≠ 3) _ _ _ s (fun b hb => hb.left.2.1) (fun b k hq hp h0 h1 => ?_) _ M n [] (ordI_nodup _ _ _) (fun i hi => ?_) h hn
  · have := beok_put hp hg hq h0 h1
    have h2 := (hp.ofs s).2.1
    refine ⟨this, ?_⟩
    rw [left_put hp this (by omega)]
    omega
  · obtain ⟨h0, b, hb, hf⟩ := ordI_is hi
    exact ⟨h0, b, hb, by simpa using hf⟩
theorem take_sum (h : ∀ b ∈ M, BEok b) (hg : goodB s = true) (hn : 0 ≤ n) : SpS (fun b => ofF b.its s) (fun b => - ofF b.its s) s (ordI M (fun b => decide (0 < ofF b.its s)) (cfTake s)) M n [] (takeF M s n) := by
  unfold takeF spF
  refine spF_sum BEok (fun _ => True) _ _ _ s (fun b hb => (hb.ofs s).2.1) (fun b k hq hp h0 h1 => ?_) _ M n [] (ordI_nodup _ _ _) (fun i hi => ?_) h hn
  · have := beok_take hp hg h0 h1
    have h2 := (hp.ofs s).2.1
    refine ⟨this, ?_⟩
    rw [of_put this (by omega)]
    omega
  · obtain ⟨h0, b, hb, hf⟩ := ordI_is hi
    exact ⟨h0, b, hb, trivial⟩
theorem sumE_aux (s : Str) : ∀ (M : List BE) (a : Int), (∀ b ∈ M, BEok b) → 0 ≤ a → a + 1099511627776 * (M.length : Int) ≤ 9223372036854775807 → M.foldl (fun a b => wrap64 (a + ofF b.its s)) a = a + sumW (fun b => ofF b.its s) M
  | [], a, _, _, _ => by simp [sumW]
  | b :: r, a, h, h0, h1 => by
    have hb := ((h b List.mem_cons_self).ofs s).2
    rw [List.length_cons, Int.natCast_succ, Int.mul_add] at h1
    rw [List.foldl_cons, wrap64_in ⟨by omega, by omega⟩, sumE_aux s r _ (fun c hc => h c (List.mem_cons_of_mem _ hc)) (by omega) (by omega), sumW_cons]
    omega
theorem sumE_sum (h : ∀ b ∈ M, BEok b) (hl : M.length ≤ 64) : sumE M s = sumW (fun b => ofF b.its s) M := by
  have := sumE_aux s M 0 h (Int.le_refl _) (by omega)
  unfold sumE
  omega
theorem take_all (h : ∀ b ∈ M, BEok b) : sumW (fun b => ofF b.its s) (M.filter fun b => decide (0 < ofF b.its s)) = sumW (fun b => ofF b.its s) M :=
  sumW_filter_eq _ (fun b hb hp => by
    have := ((h b hb).ofs s).2.1
    have := of_decide_eq_false hp
    omega)
end
/-- A floor with nothing in it takes just its room. -/
theorem full_put {B : List BI} (h : ∀ b ∈ B.map BI.e, BEok b) {s : Str} (hg : goodB s = true) {R : Int} (hR : R = (B.map BI.ro).sum) (h0 : 0 ≤ R) :
    (putF (B.map BI.e) s R).2.1 = 0 ∧ sumW (fun b => ofF b.its s) (putF (B.map BI.e) s R).1 = R ∧ sumW leftE (putF (B.map BI.e) s R).1 = 0 := by
  have p1 := put_sum h hg h0
  have p2 := put_left h hg h0
  have e1 : sumW leftE (B.map BI.e) = R := by
    rw [hR]
    unfold sumW
    rw [List.map_map]
    congr 1
    refine List.map_congr_left (fun b hb => ?_)
    have := (h b.e (List.mem_map_of_mem hb)).left.1
    have h9 : sumI b.e.its = 0 := rfl
    show leftE b.e = b.ro
    rw [this, h9]
    show b.ro - 0 = b.ro
    omega
  have e2 : (B.map BI.e).filter (fun b => kindE b s != 3) = B.map BI.e := by
    refine List.filter_eq_self.2 (fun b hb => ?_)
    obtain ⟨x, hx, rfl⟩ := List.mem_map.1 hb
    rfl
  have e3 : sumW (fun b => ofF b.its s) (B.map BI.e) = 0 := by
    unfold sumW
    rw [List.map_map]
    have : B.map ((fun b => ofF b.its s) ∘ BI.e) = B.map (fun _ => (0 : Int)) := List.map_congr_left (fun b hb => rfl)
    rw [this, sum_zeroL]
  have hal := p1.all; have hwt := p1.wt; have hwl := p2.wt; have hnn := p1.nn
  rw [ord_sum, e2, e1] at hal
  rw [e3] at hwt
  have e4 : ∀ L, sumW (fun b => - leftE b) L = - sumW leftE L := fun L => by
    induction L with
    | nil => rfl
    | cons b r ih => rw [sumW_cons, sumW_cons, ih]; omega
  rw [e4, e4, e1] at hwl
  omega
theorem full_more {M : List BE} (h : ∀ b ∈ M, BEok b) {s : Str} (hg : goodB s = true) {m : Int} (h0 : 0 < m) (hl : sumW leftE M = 0) : 0 < (putF M s m).2.1 := by
  have p1 := (put_sum h hg (n := m) (by omega)).most
  rw [ord_sum] at p1
  have := sumW_filter (fun b => kindE b s != 3) (f := leftE) (fun b hb => (h b hb).left.2.1)
  omega
theorem full_take {M : List BE} (h : ∀ b ∈ M, BEok b) {s : Str} (hg : goodB s = true) {R : Int} (h0 : 0 ≤ R) (hl : R ≤ sumW (fun b => ofF b.its s) M) : (takeF M s R).2.1 = 0 ∧ sumW (fun b => ofF b.its s) (takeF M s R).1 = sumW (fun b => ofF b.its s) M - R := by
  have p1 := take_sum h hg h0
  have hal := p1.all; have hwt := p1.wt; have hnn := p1.nn
  rw [ord_sum, take_all h] at hal
  have e4 : ∀ L, sumW (fun b => - ofF b.its s) L = - sumW (fun b => ofF b.its s) L := fun L => by
    induction L with
    | nil => rfl
    | cons b r ih => rw [sumW_cons, sumW_cons, ih]; omega
  rw [e4, e4] at hwt
  omega
theorem take_less {M : List BE} (h : ∀ b ∈ M, BEok b) {s : Str} (hg : goodB s = true) {n : Int} (h0 : 0 ≤ n) (hl : sumW (fun b => ofF b.its s) M < n) : 0 < (takeF M s n).2.1 := by
  have p1 := (take_sum h hg (n := n) (by omega)).most
  rw [ord_sum, take_all h] at p1
  omega
end Go.Proofs.YtlniekobijcanaaGreat
