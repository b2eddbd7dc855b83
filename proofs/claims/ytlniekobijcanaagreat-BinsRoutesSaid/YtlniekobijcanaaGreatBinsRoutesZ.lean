/- bins: for every input BinsRoutes returns true and leaves its input as it was. -/
import Derived.Test.YtlniekobijcanaaGreatRows
import Derived.Test.YtlniekobijcanaaGreatBinsRoutesM36
import Derived.Test.YtlniekobijcanaaGreatBinsRoutesM40
import Derived.Test.YtlniekobijcanaaGreatBinsRoutesM46
import Derived.Test.YtlniekobijcanaaGreatBinsRoutesM47
import Derived.Test.YtlniekobijcanaaGreatBinsRoutesM2
namespace Go.Proofs.YtlniekobijcanaaGreat.binsRoutes
open Go.ChangeShapes Go.WideShapes Go.ChangeAt Go.RowKit Go.Maps
/-- The reference's floor of the law's own, as it stands. -/
theorem rl_new {w : World} {gr : Nat} {vr : Value} {B : List BI} (hB : ∀ b ∈ B, okI b.nu ∧ okI b.zo ∧ okI b.ro) (h : w.heap[gr]? = some (.cells #[vr] 85)) (hr : w.ownsRow (gr + 1) 82 4 vr B.length (flat BV.cs (B.map BI.bv))) : Rl w gr (B.map BI.bv) := by
  obtain ⟨a, c, rfl⟩ := row_sl hr
  obtain ⟨n, hn⟩ : ∃ n, B.length = n := ⟨_, rfl⟩
  have hl : (B.map BI.bv).length = n := by rw [List.length_map]; exact hn
  rw [hn] at h hr
  refine ⟨a, c, by rw [hl]; exact h, ?_⟩
  rw [hl]
  exact Sq.own (L := B.map BI.bv) bvSize (by rw [hl]; exact hr) (fun b hb => by
    obtain ⟨x, hx, rfl⟩ := List.mem_map.1 hb
    exact bi_bok (w := w) (hB x hx))
set_option maxRecDepth 100000 in
set_option maxHeartbeats 8000000 in
theorem walk (v0 v1 : Value) (B : List BI) (L : List PV) (w : World) (hB : Sbi w v0 B) (hp : Pl w v1 L) : Calls Tryz.prog 3 #[v0, v1] w fun e w' => e = .returned (.bool true) ∧ Below w.heap.size w w' := by
  obtain ⟨i0, hi', hz0, hz1, hz2⟩ := info_parts infoPlace
  have hlen := hp.len
  obtain ⟨va, vl, vc, rfl⟩ : ∃ a n c, v1 = .slice a n c := by obtain ⟨a, c, e⟩ := hp.sl; exact ⟨a, _, c, e⟩
  have hvl : vl = L.length := by obtain ⟨a, c, e⟩ := hp.sl; injection e
  obtain ⟨N, hN⟩ : ∃ N, L.length = N := ⟨_, rfl⟩
  rw [hN] at hvl hlen
  subst hvl
  have HN := Lib.hid hN; have HP := Lib.hid hp; have HB := Lib.hid hB
  clear hp hB hN
  have hfin : ∀ w', Fr (fun _ => False) w w' → Below w.heap.size w w' := fun w' h => h.toBelow (fun b e => e.elim) (Nat.le_refl _)
  have HFIN := Lib.hid hfin
  clear hfin
  by_cases hl : 60 < vl
  · have hlI : (60 : Int) < vl := by omega
    go_enter Tryz.func3, Tryz.ntmps3
    go_wp2_with (go_at_call 10; refine (lLives _).mono ?_; rintro e w1 ⟨rfl, hf1⟩; have HF1 := Lib.hid hf1; clear hf1)
    go_ret
    exact ⟨rfl, HFIN.out _ HF1.out⟩
  have hlI : ¬ (60 : Int) < vl := by omega
  have hl60 : Hid (L.length ≤ 60) := Lib.hid (by have := HN.out; omega)
  have hvl60 : vl ≤ 60 := by omega
  clear hl
  go_enter Tryz.func3, Tryz.ntmps3
  go_wp2_with fail
  refine (lFloor w v0 B HB.out).mono ?_
  rintro e w1 (⟨hm, rfl, hf1⟩ | ⟨hm, g, gr, vr, wa, rfl, hFS, hgr, hf1, hobj, hrow⟩)
  · have hM := Lib.hid (fun W (hf : Fr (fun _ => False) w W) => rMay W v0 B (HB.out.fr0 okBiKeeps hf))
    rw [hm] at hM
    have HF := Lib.hid hf1
    clear hm hf1
    go_wp2_with (first
      | (go_at_call 10; refine (lLives _).mono ?_; rintro e w2 ⟨rfl, hf2⟩; have HF := Lib.hid (HF.out.trans hf2); clear hf2)
      | (go_at_call 12; refine (hM.out _ HF.out).mono ?_; rintro e w3 ⟨rfl, hf3⟩; have HF := Lib.hid (HF.out.trans hf3); clear hf3))
    go_ret
    exact ⟨rfl, HFIN.out _ HF.out⟩
  have hmap : (B.map BI.bv).map BV.e = B.map BI.e := bv_map B
  have HOK := Lib.hid (mayBs_ok hm).1
  have HR := Lib.hid (rl_new (fun b hb => HB.out.okm hb) hobj hrow)
  have HS := Lib.hid (hFS.keep hf1)
  obtain ⟨M, hM⟩ : ∃ M, B.map BI.e = M := ⟨_, rfl⟩
  rw [hM] at hmap HS HOK
  have HMAP := Lib.hid hmap
  obtain ⟨RV, hRV⟩ : ∃ RV, B.map BI.bv = RV := ⟨_, rfl⟩
  rw [hRV] at HMAP HR
  clear hm hFS hgr hf1 hobj hrow hmap hM hRV
  go_wp2_with (first
    | (go_at_call 10; refine (lLives _).mono ?_; rintro e w2 ⟨rfl, hf2⟩; have HS := Lib.hid (HS.out.keep hf2); have HR := Lib.hid (HR.out.keep hf2); have hrd := ((HP.out.fr0 okPvKeeps HS.out.fr).fr0 okPvKeeps ((Fr.refl (fun _ => False) w2).alloc (.cells #[] 55))).rd pvSize (by omega); rw [HN.out] at hrd; have HRD := Lib.hid hrd; clear hf2 hrd)
    | (at_builtin; refine wpList_append_src rfl _ _ 23 rfl w2.heap.size 55 i0 (.agg #[.int .i64 0, .string ⟨#[]⟩, .int .i64 0]) 32 Tryz.underlying23 hi' hz0 hz1 hz2 rfl (by decide) (.slice (some ⟨w2.heap.size, 0, none⟩) 0 0) 0 [] rfl (World.ownsRow_made w2 #[] 0 (Nat.le_refl _) (Nat.zero_le _) rfl) _ rfl HRD.out (flat_one (fun r u hu => by simp only [pvC, List.mem_toArray, List.mem_cons, List.not_mem_nil, or_false] at hu; rcases hu with rfl | rfl | rfl <;> rfl)) (by unfold maxLen; omega) (by omega) (by simp) ?_; intro v6 w6 hown6 hgrow6 hloc6; have HO6 := Lib.hid hown6; have HG6 := Lib.hid hgrow6; clear hown6 hgrow6 hloc6))
  have hf6 : Fr (fun _ => False) w2 w6 := ((Fr.refl _ w2).alloc _).trans' (Fr.grown (S := fun b => w2.heap.size ≤ b) HG6.out (fun r hr _ => by cases hr; exact Nat.le_refl _)) (fun b hb e => by omega)
  have hP6 : Pl w6 v6 L := Sq.own pvSize (by have := HO6.out; rw [Nat.zero_add, List.nil_append] at this; rw [HN.out]; exact this) (fun b hb => HP.out.okm hb)
  obtain ⟨a6, c6, rfl⟩ := hP6.sl
  have HS := Lib.hid (HS.out.keep hf6)
  have HR := Lib.hid (HR.out.keep hf6)
  have HP6 := Lib.hid hP6
  have hl8 : Hid (L.length ≤ 100000000) := Lib.hid (by have := hl60.out; omega)
  clear hf6 hP6
  go_wp2_with fail
  refine (HS.out.route HP6.out hl8.out).mono ?_
  rintro e w7 ⟨v7, rfl, hp7, ho7, hf7⟩
  obtain ⟨A, hA⟩ : ∃ A, routeE M L = A := ⟨_, rfl⟩
  rw [hA] at hp7
  have HA := Lib.hid hA
  have hAl : Hid (A.length ≤ 100000000) := Lib.hid (by rw [← hA]; exact Nat.le_trans (routeE_len _ _) hl8.out)
  have hAi : Hid (routeE M A = A) := Lib.hid (by rw [← hA]; exact routeE_idem _ _)
  obtain ⟨a7, c7, rfl⟩ := hp7.sl
  have HS := Lib.hid (HS.out.keep hf7)
  have HR := Lib.hid (HR.out.keep hf7)
  have HP6 := Lib.hid (HP6.out.fr0 okPvKeeps hf7)
  have HP7 := Lib.hid hp7
  clear hf7 hp7 ho7 hA
  go_wp2_with fail
  refine (rRoute w7 gr _ RV L HR.out (fun b hb => ((HOK.out b.e (by rw [← HMAP.out]; exact List.mem_map_of_mem hb)).zo).1) (HP.out.fr0 okPvKeeps HS.out.fr) (by have := hl60.out; omega)).mono ?_
  rintro e w8 ⟨v8, rfl, ho8, hf8⟩
  rw [HMAP.out, HA.out] at ho8
  have hp8 : Pl w8 v8 A := Sq.own pvSize ho8 (fun p hp => HP.out.okm (by rw [← HA.out] at hp; exact (List.mem_filter.1 ((stab_perm _ _).mem_iff.1 hp)).1))
  obtain ⟨a8, c8, rfl⟩ := hp8.sl
  have HS := Lib.hid (HS.out.keep hf8)
  have HR := Lib.hid (HR.out.keep hf8)
  have HP6 := Lib.hid (HP6.out.fr0 okPvKeeps hf8)
  have HP7 := Lib.hid (HP7.out.fr0 okPvKeeps hf8)
  have HP8 := Lib.hid hp8
  clear hf8 hp8 ho8
  go_wp2_with fail
  refine (lSame w8 _ _ A A HP7.out HP8.out).mono ?_
  rintro e w9 ⟨r9, rfl, hr9, hf9⟩
  obtain rfl : r9 = true := hr9.2 rfl
  have HS := Lib.hid (HS.out.keep hf9)
  have HR := Lib.hid (HR.out.keep hf9)
  have HP6 := Lib.hid (HP6.out.fr0 okPvKeeps hf9)
  have HP7 := Lib.hid (HP7.out.fr0 okPvKeeps hf9)
  clear hf9 hr9
  go_wp2_with fail
  refine (HS.out.way HP6.out hl8.out).mono ?_
  obtain ⟨X, hX⟩ : ∃ X, wayE M L = X := ⟨_, rfl⟩
  have HX := Lib.hid hX
  rw [hX]
  rintro e w10 ⟨rfl, hf10⟩
  have HS := Lib.hid (HS.out.keep hf10)
  have HR := Lib.hid (HR.out.keep hf10)
  have HP6 := Lib.hid (HP6.out.fr0 okPvKeeps hf10)
  have HP7 := Lib.hid (HP7.out.fr0 okPvKeeps hf10)
  clear hf10 hX
  go_wp2_with fail
  refine (rWay w10 gr _ RV L HR.out (by rw [HMAP.out]; exact HOK.out) (HP.out.fr0 okPvKeeps HS.out.fr) (by have := hl60.out; omega)).mono ?_
  rw [HMAP.out, HX.out]
  rintro e w11 ⟨rfl, hf11⟩
  have HS := Lib.hid (HS.out.keep hf11)
  have HP6 := Lib.hid (HP6.out.fr0 okPvKeeps hf11)
  have HP7 := Lib.hid (HP7.out.fr0 okPvKeeps hf11)
  clear hf11
  go_wp2_with fail
  refine (lSame w11 _ _ L L HP6.out (HP.out.fr0 okPvKeeps HS.out.fr)).mono ?_
  rintro e w12 ⟨r12, rfl, hr12, hf12⟩
  obtain rfl : r12 = true := hr12.2 rfl
  have HS := Lib.hid (HS.out.keep hf12)
  have HP7 := Lib.hid (HP7.out.fr0 okPvKeeps hf12)
  clear hf12 hr12
  go_wp2_with fail
  refine (HS.out.route HP7.out hAl.out).mono ?_
  rintro e w13 ⟨v13, rfl, hp13, ho13, hf13⟩
  rw [hAi.out] at hp13
  obtain ⟨a13, c13, rfl⟩ := hp13.sl
  have HS := Lib.hid (HS.out.keep hf13)
  have HP7 := Lib.hid (HP7.out.fr0 okPvKeeps hf13)
  have HP13 := Lib.hid hp13
  clear hf13 hp13 ho13
  go_wp2_with fail
  refine (lSame w13 _ _ A A HP13.out HP7.out).mono ?_
  rintro e w14 ⟨r14, rfl, hr14, hf14⟩
  obtain rfl : r14 = true := hr14.2 rfl
  have HF := Lib.hid (HS.out.fr.trans hf14)
  clear hf14 hr14
  go_wp2_with fail
  go_ret
  exact ⟨rfl, HFIN.out _ HF.out⟩
set_option maxRecDepth 100000 in
theorem lifted (os : Os) (started : os.Started) (H : Type) (enc : TypeId × Value → H) :
    ReturnsInHanded {} Tryz.checked os 3 .any (Rows.binsRoutesSpec.pre6 enc Tryz.prog Tryz.f3 Rows.binsRoutesRow.domain false) (Rows.binsRoutesSpec.post enc Tryz.prog Tryz.f3 false true false false) := by
  refine returnsInHanded_of_change (C := Tryz.checked) own started (by kernel_rfl) Tryz.func3
    (ChangeSpec.witness6 (enc := enc) (C := Tryz.checked) false ⟨#[], #[.slice none 0 0, .slice none 0 0], []⟩ 8 (by kernel_rfl) (by kernel_rfl) (by kernel_rfl) (by kernel_rfl)) ?_
  intro W base args ds gs before hval0 hW hcnd _
  have hval : ∀ (j : Nat) t v, Tryz.f3.params[j]? = some t → args[j]? = some v → Value.okWide Tryz.prog W .any base t v := hval0
  have hW' := hW
  obtain ⟨p, q, hA0, hV, rfl, hfz, hnd⟩ := hW
  have hA : DataW.TrodAll enc Tryz.prog W 0 (fun _ => true) true Tryz.f3.params.toList args.toList ds p := hA0
  rw [Tryz.params3] at hA hval
  obtain ⟨v0, vs0, d0, ds0, p0, q0, hargs, rfl, rfl, h0, r0⟩ := trodAll_cons hA
  obtain ⟨v1, vs1, d1, ds1, p1, q1, rfl, rfl, rfl, h1, r1⟩ := trodAll_cons r0
  obtain ⟨rfl, rfl, rfl⟩ := trodAll_nil r1
  obtain rfl : args = #[v0, v1] := by cases args; simp_all
  obtain ⟨rfl, rfl⟩ := trodVars_none hV
  obtain ⟨L0, hL0⟩ := open_bis (hval 0 22 v0 rfl rfl) h0
  obtain ⟨L1, hL1⟩ := open_places (hval 1 23 v1 rfl rfl) h1
  clear hA0 hval0
  simp only [List.append_nil] at hW'
  refine (walk v0 v1 L0 L1 W hL0 hL1).mono fun e W' ⟨he, hg⟩ => ?_
  subst he
  exact ⟨_, rfl, law_post laidOut (by kernel_rfl) rfl Tryz.underlying4 hW' rfl rfl hg⟩
theorem over : Rows.binsRoutesRow.holds Tryz.pinned (OpenSpec.ofChange Rows.binsRoutesSpec) :=
  OpenClaim.holds_of_wide 3 Tryz.f3 rfl rfl rfl rfl rfl rfl rfl ⟨rfl, rfl, rfl, rfl, rfl⟩ rfl rfl rfl rfl rfl (by kernel_rfl) Tryz.func3 (by kernel_rfl)
    (of_decide_eq_true (by kernel_rfl)) (by unfold Func.isWrapper; first | (rw [if_pos (by decide +kernel)]; kernel_rfl) | (rw [if_neg (by decide +kernel)]; exact ⟨rfl, rfl⟩))
    (fun os started H enc _ => lifted os started H enc)
theorem proved : Rows.BinsRoutesSaid :=
  over
#print axioms proved
end Go.Proofs.YtlniekobijcanaaGreat.binsRoutes
