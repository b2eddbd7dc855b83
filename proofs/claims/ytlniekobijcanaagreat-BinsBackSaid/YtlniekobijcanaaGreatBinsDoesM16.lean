/- Texts of this claim, joined: Plain: what bins unpacks was packed so, and the other way round; The pair of floors: the start, another floor of the same bins, looks. -/
import Derived.Test.YtlniekobijcanaaGreatBinsDoesM13
import Derived.Test.YtlniekobijcanaaGreatBinsDoesM9
import Derived.Test.YtlniekobijcanaaGreatBinsDoesM12
import Derived.Test.YtlniekobijcanaaGreatBinsDoesM10
import Derived.Test.YtlniekobijcanaaGreatBinsDoesM14
import Derived.Test.YtlniekobijcanaaGreatBinsDoesM15
import Derived.Test.YtlniekobijcanaaGreatBinsDoesM8
namespace Go.Proofs.YtlniekobijcanaaGreat
open Go.RowKit Go.Maps
theorem tkTb_give {s : Str} (h : s.length ≤ 16) (r : List Int) : tkT (textB s ++ r, false) 16 = (s, (r, false)) := by
  unfold tkT textB
  rw [List.append_assoc, tk_give (n := (s.length : Int)) (by unfold okI; omega) (by omega) (by omega)]
  have h1 : ¬ (((sB s ++ r).length : Int) < (s.length : Int)) := by rw [List.length_append, sB_len]; omega
  simp only [Bool.false_eq_true, if_false]
  rw [if_neg h1]
  have h2 : ((s.length : Int)).toNat = (sB s).length := by rw [sB_len]; omega
  rw [h2, List.take_left, List.drop_left, bS_sB]
theorem bOkL_rise : ∀ {last : Int} {B : List BI}, bOkL last B = true → (∀ b ∈ B, last < b.nu) ∧ B.Pairwise (fun a b => a.nu < b.nu)
  | _, [], _ => ⟨fun _ h => (by cases h), List.Pairwise.nil⟩
  | last, c :: r, h => by
    have h' : (mayBinF c.nu c.zo c.ro && decide (last < c.nu) && bOkL c.nu r) = true := h
    simp only [Bool.and_eq_true, decide_eq_true_eq] at h'
    obtain ⟨h1, h2⟩ := bOkL_rise h'.2
    refine ⟨fun b hb => ?_, List.pairwise_cons.2 ⟨h1, h2⟩⟩
    rcases List.mem_cons.1 hb with rfl | hb
    · exact h'.1.2
    · have := h1 b hb; omega
theorem mayBs_rise {M : List BE} (h : mayBs (M.map binI) = true) : M.Pairwise (fun a b => a.nu < b.nu) ∧ 0 < M.length ∧ M.length ≤ 64 ∧ ∀ b ∈ M, (1 ≤ b.nu ∧ b.nu ≤ 4096) ∧ (0 ≤ b.zo ∧ b.zo ≤ 15) ∧ (1 ≤ b.ro ∧ b.ro ≤ 1099511627776) := by
  have h1 := mayBs_ok h
  unfold mayBs at h
  simp only [Bool.and_eq_true, decide_eq_true_eq, List.length_map] at h
  have h2 := (bOkL_rise h.2).2
  rw [List.pairwise_map] at h2
  refine ⟨h2, by omega, by omega, fun b hb => ?_⟩
  have := h1.1 (binI b).e (List.mem_map_of_mem (List.mem_map_of_mem hb))
  exact ⟨this.nu, this.zo, this.ro⟩
theorem itF_give : ∀ (L : Its) (A : Its) (r : List Int), (∀ p ∈ L, p.1.length ≤ 16 ∧ 1 ≤ p.2 ∧ p.2 ≤ 1099511627776) → itF L.length ((itsQ L ++ r, false), A) = ((r, false), A ++ L)
  | [], A, r, _ => by simp [itF, itsQ]
  | p :: l, A, r, h => by
    obtain ⟨h1, h2, h3⟩ := h p List.mem_cons_self
    have e : itsQ (p :: l) = textB p.1 ++ (numB p.2 ++ itsQ l) := by simp [itsQ]
    have e1 : it1 ((itsQ (p :: l) ++ r, false), A) = ((itsQ l ++ r, false), A ++ [p]) := by
      unfold it1
      dsimp only
      rw [e, List.append_assoc, tkTb_give h1]
      dsimp only
      rw [List.append_assoc, tk_give (by unfold okI; omega) h2 h3]
    show itF l.length (it1 ((itsQ (p :: l) ++ r, false), A)) = _
    rw [e1, itF_give l _ r (fun q hq => h q (List.mem_cons_of_mem _ hq)), List.append_assoc]
    rfl
theorem itemsT_give {L : Its} (h : mayL L = true) (r : List Int) : itemsT (numB (L.length : Int) ++ itsQ L ++ r, false) = (L, (r, false)) := by
  have hm := h
  unfold mayL at h
  simp only [Bool.and_eq_true, decide_eq_true_eq] at h
  have hp : ∀ p ∈ L, p.1.length ≤ 16 ∧ 1 ≤ p.2 ∧ p.2 ≤ 1099511627776 := fun p hp => by
    obtain ⟨h1, h2, h3⟩ := itsOk_all h.1 p hp
    exact ⟨goodB_len h1, h2, (mayI_iff.1 h3).2⟩
  unfold itemsT
  dsimp only
  rw [List.append_assoc, tk_give (by unfold okI; omega) (by omega) (by omega), itG_F]
  dsimp only
  rw [Int.toNat_natCast, itF_give L [] r hp]
  dsimp only
  rw [List.nil_append, if_pos hm]
theorem unF_give : ∀ (M : List BE) (B : List BI) (I : List Its) (r : List Int), (∀ b ∈ M, BEok b) → unF M.length ((M.flatMap binB ++ r, false), B, I) = ((r, false), B ++ M.map binI, I ++ M.map BE.its)
  | [], B, I, r, _ => by simp [unF]
  | b :: l, B, I, r, h => by
    have hb := h b List.mem_cons_self
    have hnu := hb.nu; have hzo := hb.zo; have hro := hb.ro
    have e : (b :: l).flatMap binB ++ r = numB b.nu ++ (numB b.zo ++ (numB b.ro ++ (numB (b.its.length : Int) ++ itsQ b.its ++ (l.flatMap binB ++ r)))) := by
      rw [List.flatMap_cons]
      show (numB b.nu ++ numB b.zo ++ numB b.ro ++ (numB (b.its.length : Int) ++ itsQ b.its)) ++ _ ++ r = _
      simp only [List.append_assoc]
    have e1 : un1 (((b :: l).flatMap binB ++ r, false), B, I) = ((l.flatMap binB ++ r, false), B ++ [binI b], I ++ [b.its]) := by
      unfold un1
      dsimp only
      rw [e, tk_give (by unfold okI; omega) hnu.1 hnu.2]
      dsimp only
      rw [tk_give (by unfold okI; omega) hzo.1 hzo.2]
      dsimp only
      rw [tk_give (by unfold okI; omega) hro.1 hro.2]
      dsimp only
      rw [itemsT_give hb.may]
      rfl
    show unF l.length (un1 (((b :: l).flatMap binB ++ r, false), B, I)) = _
    rw [e1, unF_give l _ _ r (fun c hc => h c (List.mem_cons_of_mem _ hc)), List.append_assoc, List.append_assoc]
    rfl
theorem zip_self : ∀ (M : List BE), List.zipWith putI (M.map binI) (M.map BE.its) = M
  | [] => rfl
  | b :: l => by
    rw [List.map_cons, List.map_cons, List.zipWith_cons_cons, zip_self l]
    rfl
/-- What is packed is unpacked. -/
theorem unpackE_give {M : List BE} (hm : mayBs (M.map binI) = true) (h : ∀ b ∈ M, BEok b) : unpackE (packE M) = some M := by
  obtain ⟨-, h0, h64, -⟩ := mayBs_rise hm
  unfold unpackE packE
  dsimp only
  rw [tk_give (by unfold okI; omega) (by omega) (by omega)]
  dsimp only
  rw [Int.toNat_natCast, unG_F]
  have := unF_give M [] [] [] h
  rw [List.append_nil] at this
  rw [this]
  dsimp only
  rw [List.nil_append, List.nil_append, zip_self, if_pos ⟨hm, by rw [doneT_iff]; exact ⟨rfl, rfl⟩, List.all_eq_true.2 (fun b hb => decide_eq_true (h b hb).left.2.1)⟩]
end Go.Proofs.YtlniekobijcanaaGreat

namespace Go.Proofs.YtlniekobijcanaaGreat
open Go.RowKit Go.Maps
theorem okBopKeeps : Keeps okBop := fun _ _ _ _ h _ _ => h
theorem packE_len {M : List BE} (hL : M.length ≤ 64) (h : ∀ b ∈ M, BEok b) : (packE M).length ≤ 40000 := by
  unfold packE
  have h1 := binsB_len h
  have h2 := (numB_len (n := (M.length : Int)) (by unfold okI; omega)).2
  rw [List.length_append]
  omega
theorem binI_e (B : List BI) : (B.map BI.e).map binI = B := by
  rw [List.map_map]
  exact List.map_id' B
theorem ra_new {w : World} {gr : Nat} {vr : Value} {B : List BI} (hB : ∀ b ∈ B, okI b.nu ∧ okI b.zo ∧ okI b.ro) (h0 : 0 < B.length) (h : w.heap[gr]? = some (.cells #[vr] 85)) (hr : w.ownsRow (gr + 1) 82 4 vr B.length (flat BV.cs (B.map BI.bv))) : ∃ TX, RA w gr TX (B.map BI.bv) ∧ ∀ b, TX b → gr ≤ b := by
  rcases hr.2 with ⟨e, h1⟩ | ⟨r, cap, cur, e, hbase, hb, hn', hm, hsz, ht⟩
  · omega
  · subst e
    have hl : (B.map BI.bv).length = B.length := List.length_map _
    have hrl := (Array.getElem?_eq_some_iff.1 hb).1
    refine ⟨fun b => b = gr ∨ b = r, ⟨⟨r, cap, cur, by rw [hl]; exact h, hb, by rw [hl]; exact hn', hm, hsz, by rw [hl]; exact ht, .inr rfl, by omega, fun b hb => ?_⟩, .inl rfl, fun b hb => ?_⟩, fun b hb => ?_⟩
    · obtain ⟨x, hx, rfl⟩ := List.mem_map.1 hb
      exact ⟨bi_bok (w := w) (hB x hx), fun hn => absurd rfl hn⟩
    · rcases hb with e | e <;> omega
    · rcases hb with e | e <;> omega
def KN : Nat → Prop := fun _ => False
section
variable {w W W' : World} {g gx : Nat} {M N : List BE} {KF KX : Nat → Prop}
theorem PQ.start {wa : World} {gr : Nat} {vr : Value} {B : List BI} (hB : ∀ b ∈ B, okI b.nu ∧ okI b.zo ∧ okI b.ro) (hm : mayBs B = true) (hS : FS w wa g (B.map BI.e)) (hgr : wa.heap.size ≤ gr) (hf : Fr (fun _ => False) wa W) (h : W.heap[gr]? = some (.cells #[vr] 85)) (hr : W.ownsRow (gr + 1) 82 4 vr B.length (flat BV.cs (B.map BI.bv))) : PQ w W g gr (B.map BI.e) (B.map BI.e) KN KN := by
  obtain ⟨⟨TS, L, h1, h2, h3⟩, h4, h5, h6⟩ := hS
  have hl : (B.map BI.e).length = B.length := List.length_map _
  obtain ⟨TX, k1, k2⟩ := ra_new hB (by omega) h hr
  have hz := h4.size
  refine ⟨⟨TS, TX, L, B.map BI.bv, h1.fr hf (fun _ _ e => e), k1, h2, bv_map B, fun b hb => ⟨h3 b hb, fun e => e, fun e => ?_⟩, fun b hb => ⟨?_, fun e => e⟩⟩, fun b hb => (hb.elim id id).elim, h4.trans hf, h5, h5, h6, h6⟩
  · have := h1.lt b hb
    have := k2 b e
    omega
  · have := k2 b hb
    omega
theorem PQ.swap {g' : Nat} {TS' : Nat → Prop} {L' : List BV} (h : PQ w W g gx M N KF KX) (hf : Fr (fun _ => False) W W') (hA : FA W' g' TS' L') (hM : L'.map BV.e = M) (hT : ∀ b, TS' b → W.heap.size ≤ b) : PQ w W' g' gx M N KF KX := by
  obtain ⟨⟨TS, TX, L, X, p1, p2, p3, p4, p5, p6⟩, q1, q2, q3, q4, q5, q6⟩ := h
  have hz := hf.size
  have hw := q2.size
  refine ⟨⟨TS', TX, L', X, hA, p2.fr hf (fun _ _ e => e), hM, p4, fun b hb => ⟨?_, fun e => ?_, fun e => ?_⟩, p6⟩, fun b hb => Nat.lt_of_lt_of_le (q1 b hb) hz, q2.trans hf, q3, q4, q5, q6⟩
  · have := hT b hb; omega
  · have := hT b hb
    have := q1 b (.inl e)
    omega
  · have := hT b hb
    have := p2.lt b e
    omega
theorem PQ.looks (h : PQ w W g gx M M KF KX) (hm : mayBs (M.map binI) = true) : Calls Tryz.prog 24 #[.pointer (some ⟨g, 0, none⟩), .pointer (some ⟨gx, 0, none⟩)] W fun e W' => e = .returned (.bool true) ∧ Fr (fun _ => False) W W' := by
  obtain ⟨⟨TS, TX, L, X, p1, p2, p3, p4, p5, p6⟩, q1, q2, q3, q4, q5, q6⟩ := h
  exact lLooks W g gx TS L X M p1 p2.rl p3 p4 q5.1 q5.2 q3 (mayBs_rise hm).1
/-- Packed and unpacked: another floor of the same bins. -/
theorem PQ.unpack {W2 : World} {v : Value} (h : PQ w W g gx M M KF KX) (hf : Fr (fun _ => False) W W2) (hm : mayBs (M.map binI) = true) (hb : Bs W2 v (packE M)) : Calls Tryz.prog 22 #[v] W2 fun e W' => ∃ g', e = .returned (.tuple #[.pointer (some ⟨g', 0, none⟩), .int .i64 0]) ∧ PQ w W' g' gx M M KF KX ∧ Fr (fun _ => False) W2 W' := by
  have h2 := h.keep hf
  have hl := packE_len h.lenM.2 h.okM
  refine (bUnpack W2 v (packE M) hb (by omega) (packE_byt (by have := h.lenM; omega) h.okM)).mono ?_
  intro e W' hU
  rw [unpackE_give hm h.okM] at hU
  obtain ⟨hf2, g', TS, L, rfl, k1, k2, k3⟩ := hU
  exact ⟨g', rfl, h2.swap hf2 k1 k2 k3, hf2⟩
end
end Go.Proofs.YtlniekobijcanaaGreat

