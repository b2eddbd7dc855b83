/- bins' laws: floor. -/
import Derived.Test.YtlniekobijcanaaGreatBinsRoutesM37
import Derived.Test.YtlniekobijcanaaGreatBinsRoutesM38
import Derived.Test.YtlniekobijcanaaGreatBinsRoutesM39
import Derived.Test.YtlniekobijcanaaGreatBinsRoutesM2
namespace Go.Proofs.YtlniekobijcanaaGreat
open Go.RowKit Go.Maps
/-- A slice, read cell by cell. -/
theorem Sq.rd {α : Type} {k : Nat} {cs : α → Array Value} {ok : World → α → Prop} {w : World} {a : Option Addr} {n c : Nat} {L : List α} (h : Sq k cs ok w (.slice a n c) L) (hcs : ∀ r, (cs r).size = k) (hk : 0 < k) : Rd w k a L.length (flat cs L) := by
  obtain ⟨_, a', c', e, h1⟩ := h
  injection e with e1 _ _
  refine ⟨flat_len1 hcs L, fun hm => ?_⟩
  obtain ⟨p0, hp0⟩ : ∃ p, L[0]? = some p := ⟨L[0], List.getElem?_eq_getElem hm⟩
  obtain ⟨-, ad, ha, -⟩ := h1 0 p0 hp0
  refine ⟨ad, by rw [e1, ha], fun j u hu => ?_⟩
  have hj := (List.getElem?_eq_some_iff.1 hu).1
  rw [flat_len1 hcs] at hj
  have hil : j / k < L.length := (Nat.div_lt_iff_lt_mul hk).2 hj
  have hmk : j % k < k := Nat.mod_lt _ hk
  obtain ⟨p, hp⟩ : ∃ p, L[j / k]? = some p := ⟨L[j / k], List.getElem?_eq_getElem hil⟩
  obtain ⟨-, ad', ha', k0⟩ := h1 (j / k) p hp
  have : ad' = ad := by rw [ha] at ha'; exact (Option.some.inj ha').symm
  subst this
  have hps : (cs p)[j % k]? = some ((cs p)[j % k]'(by rw [hcs]; exact hmk)) := Array.getElem?_eq_getElem _
  have h10 := flat_at hcs hp (j % k) _ hps
  have hjj : j / k * k + j % k = j := by rw [Nat.mul_comm]; exact Nat.div_add_mod j k
  have h11 := k0 (j % k) _ hps
  rw [hjj] at h10 h11
  rw [h10] at hu
  cases hu
  exact h11
/-- What floor gives. -/
def FlP (w : World) (B : List BI) (e : Ending) (w' : World) : Prop :=
  (mayBs B = false ∧ e = .returned (.tuple #[.pointer none, .pointer none, .bool false]) ∧ Fr (fun _ => False) w w') ∨
  (mayBs B = true ∧ ∃ g gr vr wa, e = .returned (.tuple #[.pointer (some ⟨g, 0, none⟩), .pointer (some ⟨gr, 0, none⟩), .bool true]) ∧ FS w wa g (B.map BI.e) ∧ wa.heap.size ≤ gr ∧ Fr (fun _ => False) wa w' ∧ w'.heap[gr]? = some (.cells #[vr] 85) ∧ w'.ownsRow (gr + 1) 82 4 vr B.length (flat BV.cs (B.map BI.bv)))
theorem bOkL_all : ∀ {last : Int} {B : List BI}, bOkL last B = true → ∀ b ∈ B, beokB b.e = true
  | _, [], _, _, h => by cases h
  | last, c :: r, h, b, hb => by
    have h' : (mayBinF c.nu c.zo c.ro && decide (last < c.nu) && bOkL c.nu r) = true := h
    unfold mayBinF at h'
    simp only [Bool.and_eq_true, decide_eq_true_eq] at h'
    obtain ⟨⟨⟨⟨⟨⟨⟨h1, h2⟩, h3⟩, h4⟩, h5⟩, h6⟩, h7⟩, h8⟩ := h'
    rcases List.mem_cons.1 hb with rfl | hb
    · have h9 : sumI ([] : Its) = 0 := rfl
      have h10 : mayL ([] : Its) = true := rfl
      unfold beokB BI.e
      simp [h1, h2, h3, h4, h5, h6, h9, h10]; omega
    · exact bOkL_all h8 b hb
theorem mayBs_ok {B : List BI} (h : mayBs B = true) : (∀ x ∈ B.map BI.e, BEok x) ∧ 0 < B.length ∧ B.length ≤ 64 := by
  unfold mayBs at h
  simp only [Bool.and_eq_true, decide_eq_true_eq] at h
  refine ⟨fun x hx => ?_, by omega, by omega⟩
  obtain ⟨b, hb, rfl⟩ := List.mem_map.1 hx
  exact beok_of (bOkL_all h.2 b hb)
set_option maxRecDepth 100000 in
set_option maxHeartbeats 8000000 in
theorem lFloor (w : World) (v : Value) (B : List BI) (h : Sbi w v B) : Calls Tryz.prog 11 #[v] w fun e w' => FlP w B e w' := by
  obtain ⟨i0, hi', hz0, hz1, hz2⟩ := info_parts infoBi
  obtain ⟨a, c, rfl⟩ := h.sl
  have HB := Lib.hid h
  have hM := Lib.hid (rMay w _ B h)
  obtain ⟨N, hN⟩ : ∃ N, B.length = N := ⟨_, rfl⟩
  have HN := Lib.hid hN
  obtain ⟨PP, hPP⟩ : ∃ PP, FlP w B = PP := ⟨_, rfl⟩
  have HPP := Lib.hid hPP
  rw [hPP]
  clear hPP h
  cases hm : mayBs B with
  | false =>
    have HM := Lib.hid hm
    rw [hm] at hM
    clear hm
    rw [hN] at hM ⊢
    go_enter Tryz.func11, Tryz.ntmps11
    go_wp2_with (go_at_call 12; refine hM.out.mono ?_; rintro e w1 ⟨rfl, hf1⟩; have HF1 := Lib.hid hf1; clear hf1)
    rw [← HPP.out]
    exact .inl ⟨HM.out, rfl, HF1.out⟩
  | true =>
    have HM := Lib.hid hm
    have hok := mayBs_ok hm
    have HOK := Lib.hid hok
    rw [hm] at hM
    have hN64 : N ≤ 64 := by omega
    clear hm hok
    rw [hN] at hM ⊢
    go_enter Tryz.func11, Tryz.ntmps11
    go_wp2_with (first
      | (go_at_call 12; refine hM.out.mono ?_; rintro e w1 ⟨rfl, hf1⟩; have HF1 := Lib.hid hf1; have hrd := ((HB.out.fr0 okBiKeeps hf1).fr0 okBiKeeps ((Fr.refl (fun _ => False) w1).alloc (.cells #[] 36))).rd biSize (by omega); rw [HN.out] at hrd; have HRD := Lib.hid hrd; clear hf1 hrd)
      | (at_builtin; refine wpList_append_src rfl _ _ 22 rfl w1.heap.size 36 i0 (.agg #[.int .i64 0, .int .i64 0, .int .i64 0]) 24 Tryz.underlying22 hi' hz0 hz1 hz2 rfl (by decide) (.slice (some ⟨w1.heap.size, 0, none⟩) 0 0) 0 [] rfl (World.ownsRow_made w1 #[] 0 (Nat.le_refl _) (Nat.zero_le _) rfl) _ rfl HRD.out (by intro u hu; simp only [flat, List.mem_flatMap] at hu; obtain ⟨b, _, hr⟩ := hu; simp only [biC, List.mem_cons, List.not_mem_nil, or_false] at hr; rcases hr with rfl | rfl | rfl <;> rfl) (by unfold maxLen; omega) (by omega) (by simp) ?_; intro v6 w6 hown6 hgrow6 hloc6; have HO6 := Lib.hid hown6; have HG6 := Lib.hid hgrow6; clear hown6 hgrow6 hloc6))
    have hf6 : Fr (fun _ => False) w w6 := (HF1.out.trans ((Fr.refl _ w1).alloc _)).trans' (Fr.grown (S := fun b => w1.heap.size ≤ b) HG6.out (fun r hr _ => by cases hr; exact Nat.le_refl _)) (fun b hb e => by have := HF1.out.size; omega)
    have hS6 : Sbi w6 v6 B := Sq.own biSize (by have := HO6.out; rw [Nat.zero_add, List.nil_append] at this; rw [HN.out]; exact this) (fun b hb => HB.out.okm hb)
    have HF6 := Lib.hid hf6
    clear hf6
    refine (bNew w6 _ B hS6).mono ?_
    rintro e w7 ⟨hf7, ⟨hm, -⟩ | ⟨-, g, TS, L, rfl, hFA, hLm, hTS⟩⟩
    · rw [HM.out] at hm; cases hm
    have HFS : Hid (FS w w7 g (B.map BI.e)) := Lib.hid ⟨⟨TS, L, hFA, hLm, fun b hb => Nat.le_trans HF6.out.size (hTS b hb)⟩, HF6.out.trans hf7, HOK.out.1, by rw [List.length_map]; exact HOK.out.2⟩
    have hRN := Lib.hid (rNew w7 _ B (HB.out.fr0 okBiKeeps (HF6.out.trans hf7)) HOK.out.2.2)
    rw [HN.out] at hRN
    clear hS6 hf7 hFA hLm hTS
    go_wp2_with fail
    refine hRN.out.mono ?_
    rintro e w8 ⟨gr, vr, rfl, hgr, hobj, hrow, hf8⟩
    have HR8 := Lib.hid (show FlP w B (.returned (.tuple #[.pointer (some ⟨g, 0, none⟩), .pointer (some ⟨gr, 0, none⟩), .bool true])) w8 from .inr ⟨HM.out, g, gr, vr, w7, rfl, HFS.out, hgr, hf8, hobj, hrow⟩)
    clear hgr hobj hrow hf8
    go_wp2_with fail
    rw [← HPP.out]
    exact HR8.out
end Go.Proofs.YtlniekobijcanaaGreat
