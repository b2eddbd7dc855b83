/- bins: for every input BinsFull returns true and leaves its input as it was. -/
import Derived.Test.YtlniekobijcanaaGreatRows
import Derived.Test.YtlniekobijcanaaGreatBinsFullM36
import Derived.Test.YtlniekobijcanaaGreatBinsFullM38
import Derived.Test.YtlniekobijcanaaGreatBinsFullM41
import Derived.Test.YtlniekobijcanaaGreatBinsFullM42
import Derived.Test.YtlniekobijcanaaGreatBinsFullM43
import Derived.Test.YtlniekobijcanaaGreatBinsFullM2
namespace Go.Proofs.YtlniekobijcanaaGreat.binsFull
open Go.ChangeShapes Go.WideShapes Go.ChangeAt Go.RowKit Go.Maps
def roomF (B : List BI) : Int := (B.map BI.ro).sum
theorem room_take {B : List BI} {k : Nat} {b : BI} (h : B[k]? = some b) : roomF (B.take (k + 1)) = roomF (B.take k) + b.ro := by
  unfold roomF
  rw [List.take_add_one, h]
  simp
theorem room_all : ∀ {L : List BI}, (∀ b ∈ L, 1 ≤ b.ro ∧ b.ro ≤ 1099511627776) → (L.length : Int) ≤ roomF L ∧ roomF L ≤ 1099511627776 * (L.length : Int)
  | [], _ => by simp [roomF]
  | b :: r, h => by
    have h1 := h b List.mem_cons_self
    have h2 := room_all (L := r) (fun c hc => h c (List.mem_cons_of_mem _ hc))
    have e : roomF (b :: r) = b.ro + roomF r := by simp [roomF]
    rw [e, List.length_cons, Int.natCast_succ, Int.mul_add]
    omega
theorem room_in {B : List BI} (h : mayBs B = true) (k : Nat) : 0 ≤ roomF (B.take k) ∧ roomF (B.take k) ≤ 70368744177664 := by
  have h1 := mayBs_ok h
  have h2 := room_all (L := B.take k) (fun b hb => (h1.1 b.e (List.mem_map_of_mem (List.mem_of_mem_take hb))).ro)
  have h3 : (B.take k).length ≤ B.length := by rw [List.length_take]; omega
  omega
theorem room_pos {B : List BI} (h : mayBs B = true) : 1 ≤ roomF B ∧ roomF B ≤ 70368744177664 := by
  have h1 := mayBs_ok h
  have h2 := room_all (L := B) (fun b hb => (h1.1 b.e (List.mem_map_of_mem hb)).ro)
  omega
theorem mayF_of {s : Str} {n : Int} (hg : goodB s = true) (h1 : 1 ≤ n) (h2 : n ≤ 1099511627776) : mayF s n = 0 := by
  unfold mayF
  rw [if_pos ⟨hg, h1, mayI_iff.2 ⟨by omega, h2⟩⟩]
set_option maxRecDepth 100000 in
set_option maxHeartbeats 8000000 in
theorem walk (v0 : Value) (B : List BI) (s : Str) (m : Int) (w : World) (hB : Sbi w v0 B) (hs : okS s) (hm : okI m) : Calls Tryz.prog 5 #[v0, vS s, .int .i64 m] w fun e w' => e = .returned (.bool true) ∧ Below w.heap.size w w' := by
  have hlen := hB.len
  obtain ⟨va, vl, vc, rfl⟩ : ∃ a n c, v0 = .slice a n c := by obtain ⟨a, c, e⟩ := hB.sl; exact ⟨a, _, c, e⟩
  have hvl : vl = B.length := by obtain ⟨a, c, e⟩ := hB.sl; injection e
  obtain ⟨N, hN⟩ : ∃ N, B.length = N := ⟨_, rfl⟩
  rw [hN] at hvl hlen
  subst hvl
  have HN := Lib.hid hN; have HB := Lib.hid hB
  obtain ⟨G, hG⟩ : ∃ G, goodB s = G := ⟨_, rfl⟩
  have hGd := fun W => r6Good W s hs
  simp only [hG] at hGd
  have HGD := Lib.hid hGd; have HGE := Lib.hid hG
  clear hB hN hGd hG hs
  have hfin : ∀ w', Fr (fun _ => False) w w' → Below w.heap.size w w' := fun w' h => h.toBelow (fun b e => e.elim) (Nat.le_refl _)
  have HFIN := Lib.hid hfin
  clear hfin
  go_enter Tryz.func5, Tryz.ntmps5
  go_wp2_with fail
  refine (lFloor w _ B HB.out).mono ?_
  rintro e w1 (⟨hmay, rfl, hf1⟩ | ⟨hmay, g, gr, vr, wa, rfl, hFS, hgr, hf1, -, -⟩)
  · have hM := Lib.hid (fun W (hf : Fr (fun _ => False) w W) => rMay W _ B (HB.out.fr0 okBiKeeps hf))
    rw [hmay] at hM
    have HF := Lib.hid hf1
    clear hmay hf1
    go_wp2_with (first
      | (go_at_call 10; refine (lLives _).mono ?_; rintro e w2 ⟨rfl, hf2⟩; have HF := Lib.hid (HF.out.trans hf2); clear hf2)
      | (go_at_call 12; refine (hM.out _ HF.out).mono ?_; rintro e w3 ⟨rfl, hf3⟩; have HF := Lib.hid (HF.out.trans hf3); clear hf3))
    go_ret
    exact ⟨rfl, HFIN.out _ HF.out⟩
  have HS := Lib.hid (hFS.keep hf1)
  have HMAY := Lib.hid hmay
  clear hmay hFS hgr hf1
  cases G with
  | false =>
    go_wp2_with (first
      | (go_at_call 10; refine (lLives _).mono ?_; rintro e w2 ⟨rfl, hf2⟩; have HS := Lib.hid (HS.out.keep hf2); clear hf2)
      | (go_at_call 18; refine (HGD.out _).mono ?_; rintro e w3 ⟨rfl, rfl⟩))
    go_ret
    exact ⟨rfl, HFIN.out _ HS.out.fr⟩
  | true =>
    by_cases h1 : m < 1
    · go_wp2_with (first
        | (go_at_call 10; refine (lLives _).mono ?_; rintro e w2 ⟨rfl, hf2⟩; have HS := Lib.hid (HS.out.keep hf2); clear hf2)
        | (go_at_call 18; refine (HGD.out _).mono ?_; rintro e w3 ⟨rfl, rfl⟩))
      go_ret
      exact ⟨rfl, HFIN.out _ HS.out.fr⟩
    by_cases h2 : 1048576 < m
    · go_wp2_with (first
        | (go_at_call 10; refine (lLives _).mono ?_; rintro e w2 ⟨rfl, hf2⟩; have HS := Lib.hid (HS.out.keep hf2); clear hf2)
        | (go_at_call 18; refine (HGD.out _).mono ?_; rintro e w3 ⟨rfl, rfl⟩))
      go_ret
      exact ⟨rfl, HFIN.out _ HS.out.fr⟩
    go_wp2_with (first
      | (go_at_call 10; refine (lLives _).mono ?_; rintro e w2 ⟨rfl, hf2⟩; have HS := Lib.hid (HS.out.keep hf2); clear hf2)
      | (go_at_call 18; refine (HGD.out _).mono ?_; rintro e w3 ⟨rfl, rfl⟩))
    go_loopw [10, 11] (fun vs vi wr => ∃ k : Nat, k ≤ vl ∧ vs = .int .i64 (roomF (B.take k)) ∧ vi = .int .i64 k ∧ FS w wr g (B.map BI.e)) (fun _ vi _ => vl - (intOf vi).toNat)
    case atStart => exact ⟨0, Nat.zero_le _, rfl, rfl, HS.out⟩
    case round =>
      obtain ⟨k, hk, rfl, rfl, hFS⟩ := hrel
      have HFS := Lib.hid hFS
      by_cases hlt : k < vl
      · obtain ⟨b, hb⟩ : ∃ b, B[k]? = some b := ⟨B[k]'(by rw [HN.out]; exact hlt), List.getElem?_eq_getElem _⟩
        obtain ⟨ad, rfl, hok, z0, zs⟩ := (HB.out.fr0 okBiKeeps hFS.fr).at_ hb
        have x2 := zs 1 (.int .i64 b.ro) rfl
        dsimp only [Nat.zero_add, Nat.reduceAdd] at x2
        have hkI : (k : Int) < vl := by omega
        have hro := room_take hb
        have hr1 := room_in HMAY.out k
        have hr2 := room_in HMAY.out (k + 1)
        rw [hro] at hr2
        have HRO := Lib.hid hro
        obtain ⟨T, hT⟩ : ∃ T, roomF (B.take k) = T := ⟨_, rfl⟩
        rw [hT] at HRO hr1 hr2 ⊢
        have hw : IntKind.i64.wrap (T + b.ro) = T + b.ro := IntWalk.i64_in _ ⟨by omega, by omega⟩
        clear hb hok z0 zs hFS hro hT
        go_wp2_with fail
        go_roundw
        case rel => exact ⟨k + 1, by omega, by rw [HRO.out]; first | done | rfl | (rw [hw]), by go_num, HFS.out.keep (by first | exact Fr.refl _ _ | exact (Fr.refl _ _).drew)⟩
        case measure => simp [intOf]; omega
      · obtain rfl : k = vl := by omega
        have hkI : ¬ (k : Int) < k := by omega
        have hr : roomF (B.take k) = roomF B := by rw [List.take_of_length_le (by rw [HN.out]; exact Nat.le_refl _)]
        have hp := room_pos HMAY.out
        obtain ⟨R, hR⟩ : ∃ R, roomF B = R := ⟨_, rfl⟩
        rw [hr, hR]
        rw [hR] at hp
        have HR := Lib.hid hR
        clear hr hR hFS HS
        by_cases hRb : 1099511627776 < R
        · go_wp2_with fail
          go_ret
          exact ⟨rfl, HFIN.out _ HFS.out.fr⟩
        have HG : Hid (goodB s = true) := HGE
        have hp1 := full_put HFS.out.ok HG.out (R := R) HR.out.symm (by omega)
        obtain ⟨⟨M1, r1, o1⟩, hF1⟩ : ∃ F, putF (B.map BI.e) s R = F := ⟨_, rfl⟩
        have hv1 := putF_inv (n := R) HFS.out.ok HG.out
        rw [hF1] at hp1 hv1
        dsimp only at hp1 hv1
        have hp2 := full_more hv1.1 HG.out (m := m) (by omega) hp1.2.2
        have hl1 := binI_len hv1.2
        have hl1' : M1.length ≤ 64 := by rw [hl1]; exact HFS.out.len.2
        have hO1 : sumE M1 s = R := by rw [sumE_sum hv1.1 hl1']; exact hp1.2.1
        have hp3 := full_take hv1.1 HG.out (R := R) (by omega) (by rw [hp1.2.1]; exact Int.le_refl _)
        obtain ⟨⟨M2, r2, o2⟩, hF2⟩ : ∃ F, takeF M1 s R = F := ⟨_, rfl⟩
        have hv2 := takeF_inv (n := R) hv1.1 HG.out
        rw [hF2] at hp3 hv2
        dsimp only at hp3 hv2
        have hl2 := binI_len hv2.2
        have hO2 : sumE M2 s = 0 := by rw [sumE_sum hv2.1 (by omega), hp3.2, hp1.2.1]; omega
        have hmR := mayF_of HG.out (n := R) (by omega) (by omega)
        have hmm := mayF_of HG.out (n := m) (by omega) (by omega)
        have HF1 := Lib.hid hF1; have HF2 := Lib.hid hF2; have HV1 := Lib.hid hv1; have HV2 := Lib.hid hv2; have HL1 := Lib.hid hl1; have HL2 := Lib.hid hl2; have HP1 := Lib.hid hp1.1; have HP2 := Lib.hid hp2; have HP3 := Lib.hid hp3.1; have HMR := Lib.hid hmR; have HMM := Lib.hid hmm; have HO1 := Lib.hid hO1; have HO2 := Lib.hid hO2
        clear hp1 hF1 hv1 hp2 hl1 hl1' hO1 hp3 hF2 hv2 hl2 hO2 hmR hmm
        go_wp2_with fail
        refine (HFS.out.put HMR.out HF1.out HV1.out.1 HL1.out).mono ?_
        rintro e w4 (⟨h, -⟩ | ⟨-, v4, rfl, hpl, -, h4, -⟩)
        · have := HP1.out; omega
        obtain ⟨a4, c4, rfl⟩ := hpl.sl
        obtain ⟨n4, hn4⟩ : ∃ n, o1.length = n := ⟨_, rfl⟩
        rw [hn4]
        have H4 := Lib.hid h4
        clear hpl h4 hn4
        go_wp2_with fail
        refine (H4.out.put_full HMM.out HP2.out).mono ?_
        rintro e w5 ⟨rfl, hf5⟩
        have H5 := Lib.hid (H4.out.keep hf5)
        clear hf5
        go_wp2_with fail
        refine (H5.out.of s).mono ?_
        rw [HO1.out]
        rintro e w6 ⟨rfl, hf6⟩
        have H6 := Lib.hid (H5.out.keep hf6)
        clear hf6
        go_wp2_with fail
        refine (H6.out.take HMR.out HF2.out HV2.out.1 HL2.out).mono ?_
        rintro e w7 (⟨h, -⟩ | ⟨-, v7, rfl, hpl, -, h7, -⟩)
        · have := HP3.out; omega
        obtain ⟨a7, c7, rfl⟩ := hpl.sl
        obtain ⟨n7, hn7⟩ : ∃ n, o2.length = n := ⟨_, rfl⟩
        rw [hn7]
        have H7 := Lib.hid h7
        clear hpl h7 hn7
        go_wp2_with fail
        refine (H7.out.of s).mono ?_
        rw [HO2.out]
        rintro e w8 ⟨rfl, hf8⟩
        have HF8 := Lib.hid (H7.out.fr.trans hf8)
        clear hf8
        go_wp2_with fail
        go_ret
        exact ⟨rfl, HFIN.out _ HF8.out⟩
set_option maxRecDepth 100000 in
theorem lifted (os : Os) (started : os.Started) (H : Type) (enc : TypeId × Value → H) :
    ReturnsInHanded {} Tryz.checked os 5 .any (Rows.binsFullSpec.pre6 enc Tryz.prog Tryz.f5 Rows.binsFullRow.domain false) (Rows.binsFullSpec.post enc Tryz.prog Tryz.f5 false true false false) := by
  refine returnsInHanded_of_change (C := Tryz.checked) own started (by kernel_rfl) Tryz.func5
    (ChangeSpec.witness6 (enc := enc) (C := Tryz.checked) false ⟨#[], #[.slice none 0 0, .string ⟨#[]⟩, .int .i64 0], []⟩ 8 (by kernel_rfl) (by kernel_rfl) (by kernel_rfl) (by kernel_rfl)) ?_
  intro W base args ds gs before hval0 hW hcnd _
  have hval : ∀ (j : Nat) t v, Tryz.f5.params[j]? = some t → args[j]? = some v → Value.okWide Tryz.prog W .any base t v := hval0
  have hW' := hW
  obtain ⟨p, q, hA0, hV, rfl, hfz, hnd⟩ := hW
  have hA : DataW.TrodAll enc Tryz.prog W 0 (fun _ => true) true Tryz.f5.params.toList args.toList ds p := hA0
  rw [Tryz.params5] at hA hval
  obtain ⟨v0, vs0, d0, ds0, p0, q0, hargs, rfl, rfl, h0, r0⟩ := trodAll_cons hA
  obtain ⟨v1, vs1, d1, ds1, p1, q1, rfl, rfl, rfl, h1, r1⟩ := trodAll_cons r0
  obtain ⟨v2, vs2, d2, ds2, p2, q2, rfl, rfl, rfl, h2, r2⟩ := trodAll_cons r1
  obtain ⟨rfl, rfl, rfl⟩ := trodAll_nil r2
  obtain rfl : args = #[v0, v1, v2] := by cases args; simp_all
  obtain ⟨rfl, rfl⟩ := trodVars_none hV
  obtain ⟨L0, hL0⟩ := open_bis (hval 0 22 v0 rfl rfl) h0
  obtain ⟨s1, rfl, ws1⟩ := open_strV Tryz.underlying9 (hval 1 9 v1 rfl rfl) h1
  obtain ⟨a2, rfl, rfl, rfl, w2⟩ := open_int Tryz.underlying3 (hval 2 3 v2 rfl rfl) h2
  clear hA0 hval0
  simp only [List.append_nil] at hW'
  refine (walk v0 L0 s1 a2 W hL0 ws1 (wf_okI.1 w2)).mono fun e W' ⟨he, hg⟩ => ?_
  subst he
  exact ⟨_, rfl, law_post laidOut (by kernel_rfl) rfl Tryz.underlying4 hW' rfl rfl hg⟩
theorem over : Rows.binsFullRow.holds Tryz.pinned (OpenSpec.ofChange Rows.binsFullSpec) :=
  OpenClaim.holds_of_wide 5 Tryz.f5 rfl rfl rfl rfl rfl rfl rfl ⟨rfl, rfl, rfl, rfl, rfl⟩ rfl rfl rfl rfl rfl (by kernel_rfl) Tryz.func5 (by kernel_rfl)
    (of_decide_eq_true (by kernel_rfl)) (by unfold Func.isWrapper; first | (rw [if_pos (by decide +kernel)]; kernel_rfl) | (rw [if_neg (by decide +kernel)]; exact ⟨rfl, rfl⟩))
    (fun os started H enc _ => lifted os started H enc)
theorem proved : Rows.BinsFullSaid :=
  over
#print axioms proved
end Go.Proofs.YtlniekobijcanaaGreat.binsFull
