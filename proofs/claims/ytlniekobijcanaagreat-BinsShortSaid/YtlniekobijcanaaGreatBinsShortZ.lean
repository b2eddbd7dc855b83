/- bins: for every input BinsShort returns true and leaves its input as it was. -/
import Derived.Test.YtlniekobijcanaaGreatRows
import Derived.Test.YtlniekobijcanaaGreatBinsShortM46
import Derived.Test.YtlniekobijcanaaGreatBinsShortM47
import Derived.Test.YtlniekobijcanaaGreatBinsShortM51
import Derived.Test.YtlniekobijcanaaGreatBinsShortM2
namespace Go.Proofs.YtlniekobijcanaaGreat.binsShort
open Go.ChangeShapes Go.WideShapes Go.ChangeAt Go.RowKit Go.Maps
set_option maxRecDepth 100000 in
set_option maxHeartbeats 8000000 in
theorem walk (v0 v1 : Value) (B : List BI) (L : List PV) (w : World) (hB : Sbi w v0 B) (hp : Pl w v1 L) : Calls Tryz.prog 4 #[v0, v1] w fun e w' => e = .returned (.bool true) ∧ Below w.heap.size w w' := by
  have hlen := hp.len
  obtain ⟨va, vl, vc, rfl⟩ : ∃ a n c, v1 = .slice a n c := by obtain ⟨a, c, e⟩ := hp.sl; exact ⟨a, _, c, e⟩
  have hvl : vl = L.length := by obtain ⟨a, c, e⟩ := hp.sl; injection e
  obtain ⟨N, hN⟩ : ∃ N, L.length = N := ⟨_, rfl⟩
  rw [hN] at hvl hlen
  subst hvl
  have HN := Lib.hid hN; have HP := Lib.hid hp; have HB := Lib.hid hB
  clear hp hB hN
  have hfin : ∀ w', Fr (fun _ => False) w w' → Below w.heap.size w w' := fun w' h => h.toBelow (fun b e => e.elim) (Nat.le_refl _)
  have HFIN := Lib.hid hfin
  clear hfin
  by_cases hl : 60 < vl
  · have hlI : (60 : Int) < vl := by omega
    go_enter Tryz.func4, Tryz.ntmps4
    go_wp2_with (go_at_call 10; refine (lLives _).mono ?_; rintro e w1 ⟨rfl, hf1⟩; have HF1 := Lib.hid hf1; clear hf1)
    go_ret
    exact ⟨rfl, HFIN.out _ HF1.out⟩
  · have hlI : ¬ (60 : Int) < vl := by omega
    have hl60 : Hid (L.length ≤ 60) := Lib.hid (by have := HN.out; omega)
    clear hl
    go_enter Tryz.func4, Tryz.ntmps4
    go_wp2_with fail
    refine (lFloor w v0 B HB.out).mono ?_
    rintro e w1 (⟨hm, rfl, hf1⟩ | ⟨hm, g, gr, vr, wa, rfl, hFS, hgr, hf1, -, -⟩)
    · have hM := Lib.hid (fun W (hf : Fr (fun _ => False) w W) => rMay W v0 B (HB.out.fr0 okBiKeeps hf))
      rw [hm] at hM
      have HF := Lib.hid hf1
      clear hm hf1
      go_wp2_with (first
        | (go_at_call 10; refine (lLives _).mono ?_; rintro e w2 ⟨rfl, hf2⟩; have HF := Lib.hid (HF.out.trans hf2); clear hf2)
        | (go_at_call 12; refine (hM.out _ HF.out).mono ?_; rintro e w3 ⟨rfl, hf3⟩; have HF := Lib.hid (HF.out.trans hf3); clear hf3))
      go_ret
      exact ⟨rfl, HFIN.out _ HF.out⟩
    · have HS := Lib.hid (hFS.keep hf1)
      have HPW := Lib.hid (fun W (hf : Fr (fun _ => False) w W) => HP.out.fr0 okPvKeeps hf)
      have HNL := Lib.hid (fun W => (Sq.nil (a := none) (c := 0) : Pl W (.slice none 0 0) []))
      have hl8 : Hid (L.length ≤ 100000000) := Lib.hid (by have := hl60.out; omega)
      have hl0 : Hid (([] : List PV).length ≤ 100000000) := Lib.hid (by simp)
      have hw := wayE_le hFS.ok L
      have hnil : wayE (B.map BI.e) [] = 0 := wayE_nil _
      obtain ⟨X, hX⟩ : ∃ X, wayE (B.map BI.e) L = X := ⟨_, rfl⟩
      rw [hX] at hw
      have HX := Lib.hid hX; have HNIL := Lib.hid hnil
      have hx1 : X ≤ 71132 := by omega
      have hx2 : 0 ≤ X := hw.1
      clear hm hFS hgr hf1 hX hnil hw
      go_wp2_with (go_at_call 10; refine (lLives _).mono ?_; rintro e w2 ⟨rfl, hf2⟩; have HS := Lib.hid (HS.out.keep hf2); clear hf2)
      refine (HS.out.way (v := .slice va vl vc) (l := L) (HPW.out _ HS.out.fr) hl8.out).mono ?_
      rw [HX.out]
      rintro e w3 ⟨rfl, hf3⟩
      have HS := Lib.hid (HS.out.keep hf3)
      clear hf3
      go_wp2_with fail
      refine (HS.out.way (v := .slice va vl vc) (l := L) (HPW.out _ HS.out.fr) hl8.out).mono ?_
      rw [HX.out]
      rintro e w4 ⟨rfl, hf4⟩
      have HS := Lib.hid (HS.out.keep hf4)
      clear hf4
      go_wp2_with fail
      refine (HS.out.way (v := .slice none 0 0) (l := []) (HNL.out _) hl0.out).mono ?_
      rw [HNIL.out]
      rintro e w5 ⟨rfl, hf5⟩
      have HS := Lib.hid (HS.out.keep hf5)
      clear hf5
      go_wp2_with fail
      go_ret
      exact ⟨rfl, HFIN.out _ HS.out.fr⟩
set_option maxRecDepth 100000 in
theorem lifted (os : Os) (started : os.Started) (H : Type) (enc : TypeId × Value → H) :
    ReturnsInHanded {} Tryz.checked os 4 .any (Rows.binsShortSpec.pre6 enc Tryz.prog Tryz.f4 Rows.binsShortRow.domain false) (Rows.binsShortSpec.post enc Tryz.prog Tryz.f4 false true false false) := by
  refine returnsInHanded_of_change (C := Tryz.checked) own started (by kernel_rfl) Tryz.func4
    (ChangeSpec.witness6 (enc := enc) (C := Tryz.checked) false ⟨#[], #[.slice none 0 0, .slice none 0 0], []⟩ 8 (by kernel_rfl) (by kernel_rfl) (by kernel_rfl) (by kernel_rfl)) ?_
  intro W base args ds gs before hval0 hW hcnd _
  have hval : ∀ (j : Nat) t v, Tryz.f4.params[j]? = some t → args[j]? = some v → Value.okWide Tryz.prog W .any base t v := hval0
  have hW' := hW
  obtain ⟨p, q, hA0, hV, rfl, hfz, hnd⟩ := hW
  have hA : DataW.TrodAll enc Tryz.prog W 0 (fun _ => true) true Tryz.f4.params.toList args.toList ds p := hA0
  rw [Tryz.params4] at hA hval
  obtain ⟨v0, vs0, d0, ds0, p0, q0, hargs, rfl, rfl, h0, r0⟩ := trodAll_cons hA
  obtain ⟨v1, vs1, d1, ds1, p1, q1, rfl, rfl, rfl, h1, r1⟩ := trodAll_cons r0
  obtain ⟨rfl, rfl, rfl⟩ := trodAll_nil r1
  obtain rfl : args = #[v0, v1] := by cases args; simp_all
  obtain ⟨rfl, rfl⟩ := trodVars_none hV
  obtain ⟨L0, hL0⟩ := open_bis (hval 0 22 v0 rfl rfl) h0
  obtain ⟨L1, hL1⟩ := open_places (hval 1 23 v1 rfl rfl) h1
  clear hA0 hval0
  simp only [List.append_nil] at hW'
  refine (walk v0 v1 L0 L1 W hL0 hL1).mono fun e W' ⟨he, hg⟩ => ?_
  subst he
  exact ⟨_, rfl, law_post laidOut (by kernel_rfl) rfl Tryz.underlying4 hW' rfl rfl hg⟩
theorem over : Rows.binsShortRow.holds Tryz.pinned (OpenSpec.ofChange Rows.binsShortSpec) :=
  OpenClaim.holds_of_wide 4 Tryz.f4 rfl rfl rfl rfl rfl rfl rfl ⟨rfl, rfl, rfl, rfl, rfl⟩ rfl rfl rfl rfl rfl (by kernel_rfl) Tryz.func4 (by kernel_rfl)
    (of_decide_eq_true (by kernel_rfl)) (by unfold Func.isWrapper; first | (rw [if_pos (by decide +kernel)]; kernel_rfl) | (rw [if_neg (by decide +kernel)]; exact ⟨rfl, rfl⟩))
    (fun os started H enc _ => lifted os started H enc)
theorem proved : Rows.BinsShortSaid :=
  over
#print axioms proved
end Go.Proofs.YtlniekobijcanaaGreat.binsShort
