/- Texts of this claim, joined: Plain: what bins unpacks was packed so, and the other way round; An argument that is a slice of bytes, opened: its bytes, its block, its reach (no other package in sight). -/
import Derived.Test.YtlniekobijcanaaGreatBinsUnpacksM11
import Derived.Test.YtlniekobijcanaaGreatBinsUnpacksM10
import Derived.Test.YtlniekobijcanaaGreatBinsUnpacksM12
import Derived.Test.YtlniekobijcanaaGreatBinsUnpacksM1
import Derived.Test.YtlniekobijcanaaGreatBinsUnpacksM3
import Derived.SizedLaws
namespace Go.Proofs.YtlniekobijcanaaGreat
open Go.RowKit Go.Maps
theorem tkTb_take {t : Tst} {m : Int} (hb : Byt t.1) (h : (tkT t m).2.2 = false) : t.1 = textB (tkT t m).1 ++ (tkT t m).2.1 ∧ t.2 = false ∧ Byt (tkT t m).2.1 := by
  obtain ⟨q, hq⟩ : ∃ q, tk t 0 m = q := ⟨_, rfl⟩
  unfold tkT at *
  rw [hq] at h ⊢
  dsimp only at h ⊢
  by_cases h1 : q.2.2 = true
  · rw [if_pos h1] at h
    dsimp only at h
    rw [h1] at h
    cases h
  · rw [if_neg h1] at h ⊢
    have h1 : q.2.2 = false := by simpa using h1
    by_cases h2 : (q.2.1.length : Int) < q.1
    · rw [if_pos h2] at h; cases h
    · rw [if_neg h2]
      dsimp only
      have := tk_take hb (a := 0) (b := m) (by rw [hq]; exact h1)
      rw [hq] at this
      obtain ⟨h3, h4, ⟨h5, h6⟩, h7, h8⟩ := this
      refine ⟨?_, h7, fun x hx => h8 x (List.mem_of_mem_drop hx)⟩
      have hl : (q.2.1.take q.1.toNat).length = q.1.toNat := by rw [List.length_take]; omega
      unfold textB
      rw [sB_bS (fun x hx => h8 x (List.mem_of_mem_take hx))]
      have : ((bS (q.2.1.take q.1.toNat)).length : Int) = q.1 := by unfold bS; rw [List.length_map, hl]; omega
      rw [this, List.append_assoc, List.take_append_drop]
      exact h4
theorem tkTb_give {s : Str} (h : s.length ≤ 16) (r : List Int) : tkT (textB s ++ r, false) 16 = (s, (r, false)) := by
  unfold tkT textB
  rw [List.append_assoc, tk_give (n := (s.length : Int)) (by unfold okI; omega) (by omega) (by omega)]
  have h1 : ¬ (((sB s ++ r).length : Int) < (s.length : Int)) := by rw [List.length_append, sB_len]; omega
  simp only [Bool.false_eq_true, if_false]
  rw [if_neg h1]
  have h2 : ((s.length : Int)).toNat = (sB s).length := by rw [sB_len]; omega
  rw [h2, List.take_left, List.drop_left, bS_sB]
theorem bool_false {b : Bool} (h : ¬ b = true) : b = false := by cases b <;> simp_all
theorem itF_bytes : ∀ (n : Nat) (s : Tst × Its), (itF n s).1.2 = false → Byt s.1.1 → s.1.2 = false ∧ ∃ x, (itF n s).2 = s.2 ++ x ∧ x.length = n ∧ s.1.1 = itsQ x ++ (itF n s).1.1 ∧ Byt (itF n s).1.1
  | 0, s, h, hb => ⟨h, [], by simp [itF], rfl, by simp [itF, itsQ], hb⟩
  | n + 1, s, h, hb => by
    have h1 : (it1 s).1.2 = false := bool_false (fun e => by have := itF_stay n e; have h' : (itF n (it1 s)).1.2 = false := h; rw [this] at h'; cases h')
    have h2 : (tkT s.1 16).2.2 = false := bool_false (fun e => by have : (it1 s).1.2 = true := tkb_stay e _ _; rw [h1] at this; cases this)
    obtain ⟨a1, a2, a3⟩ := tkTb_take hb h2
    obtain ⟨b1, b2, b3, b4, b5⟩ := tk_take a3 (show (tk (tkT s.1 16).2 1 1099511627776).2.2 = false from h1)
    obtain ⟨-, x, c1, c2, c3, c4⟩ := itF_bytes n (it1 s) h b5
    refine ⟨a2, ((tkT s.1 16).1, (tk (tkT s.1 16).2 1 1099511627776).1) :: x, ?_, by rw [List.length_cons, c2], ?_, c4⟩
    · show (itF n (it1 s)).2 = _
      rw [c1]
      show (s.2 ++ [_]) ++ x = _
      rw [List.append_assoc]
      rfl
    · have e : itsQ (((tkT s.1 16).1, (tk (tkT s.1 16).2 1 1099511627776).1) :: x) = textB (tkT s.1 16).1 ++ numB (tk (tkT s.1 16).2 1 1099511627776).1 ++ itsQ x := by simp [itsQ]
      rw [e]
      have c3' : (tk (tkT s.1 16).2 1 1099511627776).2.1 = itsQ x ++ (itF n (it1 s)).1.1 := c3
      rw [a1, b2, c3']
      show _ = _ ++ (itF n (it1 s)).1.1
      simp only [List.append_assoc]
theorem itemsT_bytes {t : Tst} (h : (itemsT t).2.2 = false) (hb : Byt t.1) : t.2 = false ∧ t.1 = numB ((itemsT t).1.length : Int) ++ itsQ (itemsT t).1 ++ (itemsT t).2.1 ∧ Byt (itemsT t).2.1 := by
  unfold itemsT at *
  dsimp only at *
  rw [itG_F] at *
  by_cases hm : mayL (itF (tk t 0 16).1.toNat ((tk t 0 16).2, [])).2 = true
  · rw [if_pos hm] at h ⊢
    dsimp only at h ⊢
    have h1 : (tk t 0 16).2.2 = false := bool_false (fun e => by have := itF_stay (tk t 0 16).1.toNat (s := ((tk t 0 16).2, [])) e; rw [h] at this; cases this)
    obtain ⟨a1, a2, a3, a4, a5⟩ := tk_take hb h1
    obtain ⟨-, x, c1, c2, c3, c4⟩ := itF_bytes _ ((tk t 0 16).2, []) h a5
    rw [List.nil_append] at c1
    refine ⟨a4, ?_, c4⟩
    rw [c1, c2, Int.toNat_of_nonneg a3.1]
    dsimp only at c3
    rw [List.append_assoc, ← c3]
    exact a2
  · rw [if_neg hm] at h
    cases h
theorem unF_bytes : ∀ (n : Nat) (s : Tst × List BI × List Its), (unF n s).1.2 = false → Byt s.1.1 → s.1.2 = false ∧ ∃ x y, (unF n s).2.1 = s.2.1 ++ x ∧ (unF n s).2.2 = s.2.2 ++ y ∧ x.length = n ∧ y.length = n ∧ s.1.1 = (List.zipWith putI x y).flatMap binB ++ (unF n s).1.1 ∧ Byt (unF n s).1.1
  | 0, s, h, hb => ⟨h, [], [], by simp [unF], by simp [unF], rfl, rfl, by simp [unF], hb⟩
  | n + 1, s, h, hb => by
    have h1 : (un1 s).1.2 = false := bool_false (fun e => by have := unF_stay n e; have h' : (unF n (un1 s)).1.2 = false := h; rw [this] at h'; cases h')
    have h1' : (itemsT (tk (tk (tk s.1 1 4096).2 0 15).2 1 1099511627776).2).2.2 = false := h1
    have g3 : (tk (tk (tk s.1 1 4096).2 0 15).2 1 1099511627776).2.2 = false := bool_false (fun e => by have := itemsT_stay e; rw [h1'] at this; cases this)
    have g2 : (tk (tk s.1 1 4096).2 0 15).2.2 = false := bool_false (fun e => by have := tkb_stay e 1 1099511627776; rw [g3] at this; cases this)
    have g1 : (tk s.1 1 4096).2.2 = false := bool_false (fun e => by have := tkb_stay e 0 15; rw [g2] at this; cases this)
    obtain ⟨a1, a2, a3, a4, a5⟩ := tk_take hb g1
    obtain ⟨b1, b2, b3, b4, b5⟩ := tk_take a5 g2
    obtain ⟨d1, d2, d3, d4, d5⟩ := tk_take b5 g3
    obtain ⟨-, e2, e3⟩ := itemsT_bytes h1' d5
    obtain ⟨-, x, y, c1, c2, c3, c4, c5, c6⟩ := unF_bytes n (un1 s) h e3
    refine ⟨a4, ⟨(tk s.1 1 4096).1, (tk (tk s.1 1 4096).2 0 15).1, (tk (tk (tk s.1 1 4096).2 0 15).2 1 1099511627776).1⟩ :: x, (itemsT (tk (tk (tk s.1 1 4096).2 0 15).2 1 1099511627776).2).1 :: y, ?_, ?_, by rw [List.length_cons, c3], by rw [List.length_cons, c4], ?_, c6⟩
    · show (unF n (un1 s)).2.1 = _
      rw [c1]
      show (s.2.1 ++ [_]) ++ x = _
      rw [List.append_assoc]
      rfl
    · show (unF n (un1 s)).2.2 = _
      rw [c2]
      show (s.2.2 ++ [_]) ++ y = _
      rw [List.append_assoc]
      rfl
    · have c5' : (itemsT (tk (tk (tk s.1 1 4096).2 0 15).2 1 1099511627776).2).2.1 = (List.zipWith putI x y).flatMap binB ++ (unF n (un1 s)).1.1 := c5
      rw [c5'] at e2
      rw [List.zipWith_cons_cons, List.flatMap_cons]
      show s.1.1 = (numB (tk s.1 1 4096).1 ++ numB (tk (tk s.1 1 4096).2 0 15).1 ++ numB (tk (tk (tk s.1 1 4096).2 0 15).2 1 1099511627776).1 ++ (numB ((itemsT (tk (tk (tk s.1 1 4096).2 0 15).2 1 1099511627776).2).1.length : Int) ++ itsQ (itemsT (tk (tk (tk s.1 1 4096).2 0 15).2 1 1099511627776).2).1)) ++ _ ++ (unF n (un1 s)).1.1
      rw [a2, b2, d2, e2]
      simp only [List.append_assoc]
theorem itemsT_may (t : Tst) : mayL (itemsT t).1 = true := by
  unfold itemsT
  dsimp only
  split
  · assumption
  · rfl
theorem unF_may : ∀ (n : Nat) (s : Tst × List BI × List Its), (∀ i ∈ s.2.2, mayL i = true) → ∀ i ∈ (unF n s).2.2, mayL i = true
  | 0, s, h => h
  | n + 1, s, h => unF_may n (un1 s) (fun i hi => by
    have hi : i ∈ s.2.2 ++ [(itemsT (tk (tk (tk s.1 1 4096).2 0 15).2 1 1099511627776).2).1] := hi
    rcases List.mem_append.1 hi with hi | hi
    · exact h i hi
    · rw [List.mem_singleton.1 hi]; exact itemsT_may _)
theorem zipP_mem {b : BE} : ∀ {B : List BI} {I : List Its}, b ∈ List.zipWith putI B I → ∃ x i, x ∈ B ∧ i ∈ I ∧ b = putI x i
  | [], _, h => by simp at h
  | _ :: _, [], h => by simp at h
  | x :: r, i :: j, h => by
    rw [List.zipWith_cons_cons] at h
    rcases List.mem_cons.1 h with h | h
    · exact ⟨x, i, List.mem_cons_self, List.mem_cons_self, h⟩
    · obtain ⟨x', i', h1, h2, h3⟩ := zipP_mem h
      exact ⟨x', i', List.mem_cons_of_mem _ h1, List.mem_cons_of_mem _ h2, h3⟩
theorem may_sum {L : Its} (h : mayL L = true) : 0 ≤ sumI L ∧ sumI L ≤ 17592186044416 ∧ ∀ p ∈ L, 0 ≤ p.2 := by
  unfold mayL at h
  simp only [Bool.and_eq_true, decide_eq_true_eq] at h
  have hp : ∀ p ∈ L, 1 ≤ p.2 ∧ p.2 ≤ 1099511627776 := fun p hp => by
    obtain ⟨-, h2, h3⟩ := itsOk_all h.1 p hp
    exact ⟨h2, (mayI_iff.1 h3).2⟩
  have key : ∀ (L : Its), (∀ p ∈ L, 1 ≤ p.2 ∧ p.2 ≤ 1099511627776) → sumI L ≤ 1099511627776 * (L.length : Int) := fun L => by
    induction L with
    | nil => intro _; simp [sumI]
    | cons q r ih =>
      intro hq
      have h1 := hq q List.mem_cons_self
      have h2 := ih (fun p hp => hq p (List.mem_cons_of_mem _ hp))
      rw [sumI_cons, List.length_cons, Int.natCast_succ, Int.mul_add]
      omega
  have h1 := key L hp
  exact ⟨sumI_nn (fun p h => by have := (hp p h).1; omega), by omega, fun p h => by have := (hp p h).1; omega⟩
theorem bOkL_rise : ∀ {last : Int} {B : List BI}, bOkL last B = true → (∀ b ∈ B, last < b.nu) ∧ B.Pairwise (fun a b => a.nu < b.nu)
  | _, [], _ => ⟨fun _ h => (by cases h), List.Pairwise.nil⟩
  | last, c :: r, h => by
    have h' : (mayBinF c.nu c.zo c.ro && decide (last < c.nu) && bOkL c.nu r) = true := h
    simp only [Bool.and_eq_true, decide_eq_true_eq] at h'
    obtain ⟨h1, h2⟩ := bOkL_rise h'.2
    refine ⟨fun b hb => ?_, List.pairwise_cons.2 ⟨h1, h2⟩⟩
    rcases List.mem_cons.1 hb with rfl | hb
    · exact h'.1.2
    · have := h1 b hb; omega
theorem mayBs_rise {M : List BE} (h : mayBs (M.map binI) = true) : M.Pairwise (fun a b => a.nu < b.nu) ∧ 0 < M.length ∧ M.length ≤ 64 ∧ ∀ b ∈ M, (1 ≤ b.nu ∧ b.nu ≤ 4096) ∧ (0 ≤ b.zo ∧ b.zo ≤ 15) ∧ (1 ≤ b.ro ∧ b.ro ≤ 1099511627776) := by
  have h1 := mayBs_ok h
  unfold mayBs at h
  simp only [Bool.and_eq_true, decide_eq_true_eq, List.length_map] at h
  have h2 := (bOkL_rise h.2).2
  rw [List.pairwise_map] at h2
  refine ⟨h2, by omega, by omega, fun b hb => ?_⟩
  have := h1.1 (binI b).e (List.mem_map_of_mem (List.mem_map_of_mem hb))
  exact ⟨this.nu, this.zo, this.ro⟩
/-- What is unpacked: a floor that may be, and its code is what it was. -/
theorem unpackE_some {bs : List Int} {M : List BE} (h : unpackE bs = some M) : mayBs (M.map binI) = true ∧ (∀ b ∈ M, BEok b) ∧ (Byt bs → packE M = bs) := by
  unfold unpackE at h
  dsimp only at h
  rw [unG_F] at h
  obtain ⟨s, hs⟩ : ∃ s, unF (tk (bs, false) 1 64).1.toNat ((tk (bs, false) 1 64).2, [], []) = s := ⟨_, rfl⟩
  have hmay := unF_may (tk (bs, false) 1 64).1.toNat ((tk (bs, false) 1 64).2, [], []) (fun i hi => by cases hi)
  have hl : s.2.1.length = s.2.2.length := by
    have h1 := unG_len (tk (bs, false) 1 64).2 (tk (bs, false) 1 64).1.toNat
    rw [unG_F, hs] at h1
    rw [h1.1, h1.2]
  have hby := unF_bytes (tk (bs, false) 1 64).1.toNat ((tk (bs, false) 1 64).2, [], [])
  rw [hs] at h hmay hby
  by_cases hc : mayBs s.2.1 = true ∧ doneT s.1.1 s.1.2 = 0 ∧ ((List.zipWith putI s.2.1 s.2.2).all fun b => decide (0 ≤ leftE b)) = true
  · rw [if_pos hc] at h
    injection h with h
    obtain ⟨h1, h2, h3⟩ := hc
    rw [doneT_iff] at h2
    have hmb : mayBs (M.map binI) = true := by rw [← h, zip_binI hl]; exact h1
    refine ⟨hmb, fun b hb => ?_, fun hB => ?_⟩
    · obtain ⟨-, -, -, hr⟩ := mayBs_rise hmb
      obtain ⟨r1, r2, r3⟩ := hr b hb
      rw [← h] at hb
      have hle := of_decide_eq_true (List.all_eq_true.1 h3 b hb)
      obtain ⟨x, i, hx, hi, rfl⟩ := zipP_mem hb
      obtain ⟨m1, m2, m3⟩ := may_sum (hmay i hi)
      refine ⟨r1, r2, r3, hmay i hi, ?_⟩
      unfold leftE at hle
      rw [totF_sum (L := (putI x i).its) m3 (by show sumI i ≤ _; omega), wrap64_in ⟨by show _ ≤ x.ro - sumI i; have : 1 ≤ x.ro := r3.1; omega, by show x.ro - sumI i ≤ _; have : x.ro ≤ 1099511627776 := r3.2; omega⟩] at hle
      show sumI i ≤ x.ro
      have hle : 0 ≤ x.ro - sumI i := hle
      omega
    · have g1 : (tk (bs, false) 1 64).2.2 = false := bool_false (fun e => by
        have := unF_stay (tk (bs, false) 1 64).1.toNat (s := ((tk (bs, false) 1 64).2, [], [])) e
        rw [hs, h2.1] at this; cases this)
      obtain ⟨a1, a2, a3, a4, a5⟩ := tk_take (t := (bs, false)) hB g1
      obtain ⟨-, x, y, c1, c2, c3, c4, c5, c6⟩ := hby h2.1 a5
      rw [List.nil_append] at c1 c2
      have hlen : (M.length : Int) = (tk (bs, false) 1 64).1 := by
        rw [← h, List.length_zipWith, c1, c2, c3, c4, Nat.min_self]
        omega
      have hnil : s.1.1 = [] := List.eq_nil_of_length_eq_zero h2.2
      rw [hnil, List.append_nil] at c5
      unfold packE
      rw [hlen, ← h, c1, c2, ← c5]
      exact a2.symm
  · rw [if_neg hc] at h; cases h
theorem itF_give : ∀ (L : Its) (A : Its) (r : List Int), (∀ p ∈ L, p.1.length ≤ 16 ∧ 1 ≤ p.2 ∧ p.2 ≤ 1099511627776) → itF L.length ((itsQ L ++ r, false), A) = ((r, false), A ++ L)
  | [], A, r, _ => by simp [itF, itsQ]
  | p :: l, A, r, h => by
    obtain ⟨h1, h2, h3⟩ := h p List.mem_cons_self
    have e : itsQ (p :: l) = textB p.1 ++ (numB p.2 ++ itsQ l) := by simp [itsQ]
    have e1 : it1 ((itsQ (p :: l) ++ r, false), A) = ((itsQ l ++ r, false), A ++ [p]) := by
      unfold it1
      dsimp only
      rw [e, List.append_assoc, tkTb_give h1]
      dsimp only
      rw [List.append_assoc, tk_give (by unfold okI; omega) h2 h3]
    show itF l.length (it1 ((itsQ (p :: l) ++ r, false), A)) = _
    rw [e1, itF_give l _ r (fun q hq => h q (List.mem_cons_of_mem _ hq)), List.append_assoc]
    rfl
theorem itemsT_give {L : Its} (h : mayL L = true) (r : List Int) : itemsT (numB (L.length : Int) ++ itsQ L ++ r, false) = (L, (r, false)) := by
  have hm := h
  unfold mayL at h
  simp only [Bool.and_eq_true, decide_eq_true_eq] at h
  have hp : ∀ p ∈ L, p.1.length ≤ 16 ∧ 1 ≤ p.2 ∧ p.2 ≤ 1099511627776 := fun p hp => by
    obtain ⟨h1, h2, h3⟩ := itsOk_all h.1 p hp
    exact ⟨goodB_len h1, h2, (mayI_iff.1 h3).2⟩
  unfold itemsT
  dsimp only
  rw [List.append_assoc, tk_give (by unfold okI; omega) (by omega) (by omega), itG_F]
  dsimp only
  rw [Int.toNat_natCast, itF_give L [] r hp]
  dsimp only
  rw [List.nil_append, if_pos hm]
theorem unF_give : ∀ (M : List BE) (B : List BI) (I : List Its) (r : List Int), (∀ b ∈ M, BEok b) → unF M.length ((M.flatMap binB ++ r, false), B, I) = ((r, false), B ++ M.map binI, I ++ M.map BE.its)
  | [], B, I, r, _ => by simp [unF]
  | b :: l, B, I, r, h => by
    have hb := h b List.mem_cons_self
    have hnu := hb.nu; have hzo := hb.zo; have hro := hb.ro
    have e : (b :: l).flatMap binB ++ r = numB b.nu ++ (numB b.zo ++ (numB b.ro ++ (numB (b.its.length : Int) ++ itsQ b.its ++ (l.flatMap binB ++ r)))) := by
      rw [List.flatMap_cons]
      show (numB b.nu ++ numB b.zo ++ numB b.ro ++ (numB (b.its.length : Int) ++ itsQ b.its)) ++ _ ++ r = _
      simp only [List.append_assoc]
    have e1 : un1 (((b :: l).flatMap binB ++ r, false), B, I) = ((l.flatMap binB ++ r, false), B ++ [binI b], I ++ [b.its]) := by
      unfold un1
      dsimp only
      rw [e, tk_give (by unfold okI; omega) hnu.1 hnu.2]
      dsimp only
      rw [tk_give (by unfold okI; omega) hzo.1 hzo.2]
      dsimp only
      rw [tk_give (by unfold okI; omega) hro.1 hro.2]
      dsimp only
      rw [itemsT_give hb.may]
      rfl
    show unF l.length (un1 (((b :: l).flatMap binB ++ r, false), B, I)) = _
    rw [e1, unF_give l _ _ r (fun c hc => h c (List.mem_cons_of_mem _ hc)), List.append_assoc, List.append_assoc]
    rfl
theorem zip_self : ∀ (M : List BE), List.zipWith putI (M.map binI) (M.map BE.its) = M
  | [] => rfl
  | b :: l => by
    rw [List.map_cons, List.map_cons, List.zipWith_cons_cons, zip_self l]
    rfl
/-- What is packed is unpacked. -/
theorem unpackE_give {M : List BE} (hm : mayBs (M.map binI) = true) (h : ∀ b ∈ M, BEok b) : unpackE (packE M) = some M := by
  obtain ⟨-, h0, h64, -⟩ := mayBs_rise hm
  unfold unpackE packE
  dsimp only
  rw [tk_give (by unfold okI; omega) (by omega) (by omega)]
  dsimp only
  rw [Int.toNat_natCast, unG_F]
  have := unF_give M [] [] [] h
  rw [List.append_nil] at this
  rw [this]
  dsimp only
  rw [List.nil_append, List.nil_append, zip_self, if_pos ⟨hm, by rw [doneT_iff]; exact ⟨rfl, rfl⟩, List.all_eq_true.2 (fun b hb => decide_eq_true (h b hb).left.2.1)⟩]
end Go.Proofs.YtlniekobijcanaaGreat
namespace Go.Proofs.YtlniekobijcanaaGreat
open Go.ChangeShapes Go.WideShapes Go.RowKit Go.Deep
theorem Bs.rdA {w : World} {a : Option Addr} {n c : Nat} {bs : List Int} (h : Bs w (.slice a n c) bs) : Rd w 1 a bs.length (u8s bs) := by
  obtain ⟨_, a', c', e, hx⟩ := h
  injection e with e1 e2 e3
  subst e1
  refine ⟨by simp [u8s], fun hp => ?_⟩
  obtain ⟨x0, hx0⟩ : ∃ x0, bs[0]? = some x0 := ⟨bs[0], List.getElem?_eq_getElem hp⟩
  obtain ⟨_, _, ad, rfl, _⟩ := hx 0 x0 hx0
  refine ⟨ad, rfl, fun j u hu => ?_⟩
  simp only [u8s, List.getElem?_map, Option.map_eq_some_iff] at hu
  obtain ⟨x, hx', rfl⟩ := hu
  obtain ⟨_, _, ad', e, hcl⟩ := hx j x hx'
  cases e
  exact hcl
section
variable {H : Type} {enc : TypeId × Value → H} {w : World} {base : Nat} {spare : Nat → Bool} {held : Bool}
set_option maxRecDepth 100000 in
theorem leaf_bytes {n : Nat} {v : Value} {y : DataW H × List MemPlace} (h : DataW.trod enc Tryz.prog w base spare held n 42 [v] = some y) : ∃ bs, Bs w v bs := by
  obtain ⟨len, hmax, hs⟩ := leaf_slice (d := 0) Tryz.underlying42 (by kernel_rfl) (by kernel_rfl) h
  have hmax : len ≤ 9223372036854775807 := hmax
  rcases hs with ⟨rfl, rfl⟩ | ⟨a, cap, rfl, hl, hb, hi⟩
  · exact ⟨[], Bs.nil w⟩
  · have key : ∀ i, i < len → ∃ x : Int, 0 ≤ x ∧ x < 256 ∧ w.cell? (a.add i) = some (.int .u8 x) := fun i hil => by
      obtain ⟨u, m, y, hc, ht⟩ := hi i hil 0 5 rfl
      obtain ⟨x, rfl, hw⟩ := leaf_int Tryz.underlying5 ht
      simp [Lit.wf, IntKind.min, IntKind.max, IntKind.signed, IntKind.bits] at hw
      refine ⟨x, by omega, by omega, ?_⟩
      have e : (leaves Tryz.prog 0 5).length = 1 := rfl
      rw [e, Nat.mul_one, Nat.add_zero] at hc
      exact hc
    obtain ⟨X, hX⟩ := Go.Deep.choose_lt key
    refine ⟨(List.range len).map X, ⟨(by rw [List.length_map, List.length_range]; exact hmax), some a, cap, (by rw [List.length_map, List.length_range]), fun i x hx => ?_⟩⟩
    rw [List.getElem?_map] at hx
    obtain ⟨i', hi', rfl⟩ := Option.map_eq_some_iff.1 hx
    obtain ⟨hlt, e⟩ := List.getElem?_eq_some_iff.1 hi'
    rw [List.getElem_range] at e
    subst e
    obtain ⟨x0, x1, x2⟩ := hX i (by simpa using hlt)
    exact ⟨x0, x1, a, rfl, x2⟩
end
theorem own_of_ok {P : Program} {w : World} {r : Reach} {b0 : Nat} {t e : TypeId} {v : Value} (ht : P.underlying t = some (.slice e)) (h : Value.okWide P w r b0 t v) :
    (∀ a n c, v = .slice a n c → n ≤ c) ∧ ∀ b, v.ownBlock = some b → b < w.heap.size := by
  simp only [Value.okWide, ht, Cell.okWide] at h
  obtain ⟨a, n, c, rfl⟩ : ∃ a n c, v = .slice a n c := by
    cases v <;> simp_all [Cell.ok]
  cases a with
  | none =>
    have h : n = 0 ∧ c = 0 := by
      simp only [Cell.ok, ht] at h
      split at h <;> simp_all
    obtain ⟨rfl, rfl⟩ := h
    exact ⟨fun a n c e => by injection e with _ e1 e2; omega, fun b e => by cases e⟩
  | some a =>
    have h : n ≤ c ∧ (c : Int) ≤ IntKind.i64.max ∧ w.has P r b0 a e c := by
      simpa [Cell.ok, ht] using h
    obtain ⟨h1, h2, h3, h4, row, cells, h5, h6⟩ := h
    refine ⟨fun a n c e => by injection e with _ e1 e2; omega, fun b e => ?_⟩
    cases e
    refine Nat.lt_of_not_le fun hle => ?_
    simp [World.shape?, Array.getElem?_eq_none hle] at h5
set_option maxRecDepth 100000 in
theorem open_bytes {H : Type} {enc : TypeId × Value → H} {w : World} {spare : Nat → Bool} {held : Bool} {r : Reach} {b0 : Nat} {v : Value} {d : DataW H} {p : List MemPlace} {ts : List TypeId} {ds : List (DataW H)} {j : Nat}
    (hv : Value.okWide Tryz.prog w r b0 42 v) (h : DataW.Trod enc Tryz.prog w 0 spare held 42 v d p)
    (hs : (DataW.weightsEach Tryz.prog ts ds).all (· ≤ reachBytes) = true) (ht : ts[j]? = some 42) (hd : ds[j]? = some d) :
    ∃ bs, Bs w v bs ∧ (∀ a n c, v = .slice a n c → n ≤ c) ∧ (∀ b, v.ownBlock = some b → b < w.heap.size) ∧ (bs.length : Int) ≤ 140737488351232 := by
  obtain ⟨o1, o2⟩ := own_of_ok Tryz.underlying42 hv
  obtain ⟨fuel, h⟩ := h
  obtain ⟨a0, l0, c0, rfl⟩ := okWide_slice Tryz.underlying42 hv
  have h' := h
  simp only [Value.cells] at h'
  obtain ⟨bs, hb⟩ := leaf_bytes (n := fuel) (v := .slice a0 l0 c0) h'
  refine ⟨bs, hb, o1, o2, ?_⟩
  have hl : l0 = bs.length := by
    obtain ⟨_, a, c, e, _⟩ := hb
    injection e
  rcases open_slice Tryz.underlying42 h with ⟨h0, _⟩ | ⟨a, len, cap, m, k, D, Pl, hcs, hbb, hle, hm, hmm, hx, hi⟩
  · have h0' : Value.slice a0 l0 c0 = .slice none 0 0 := by simpa [Value.cells] using h0
    injection h0' with _ e2 _
    omega
  · have h0' : Value.slice a0 l0 c0 = .slice (some a) len cap := by simpa [Value.cells] using hcs
    injection h0' with _ e2 _
    injection hx with hx _
    subst hx
    have := sized_slice hs ht hd Tryz.underlying42
    have e : Tryz.prog.bytesOf 5 = 1 := by kernel_rfl
    rw [e] at this
    simp only [List.length_map, List.length_range, reachBytes] at this
    omega
end Go.Proofs.YtlniekobijcanaaGreat
