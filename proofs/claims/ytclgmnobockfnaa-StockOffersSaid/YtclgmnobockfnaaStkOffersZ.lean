/- stock: for every input StockOffers returns true and leaves its input as it was; no condition. -/
import Derived.Test.YtclgmnobockfnaaRows
import Derived.Test.YtclgmnobockfnaaStkOffersM28
import Derived.Test.YtclgmnobockfnaaStkOffersM31
import Derived.Test.YtclgmnobockfnaaStkOffersM23
import Derived.StillTailTactics
import Derived.Deep.RegionWith
import Derived.Deep.QuietTactic
import Derived.BigQuiet
namespace Go.Proofs.Ytclgmnobockfnaa.stockOffers
open Go.ChangeShapes Go.WideShapes Go.ChangeAt Go.RowKit Go.Maps
attribute [local go_sem] Oper.semAt_some
set_option maxRecDepth 100000 in
set_option maxHeartbeats 4000000 in
theorem walk (v : Value) (L : List SOpV) (u : Value) (its : Its) (w : World) (hL : SOps w v L) (hr : Il w u its) : Calls Try.prog 9 #[v, u] w fun e w' => e = .returned (.bool true) ∧ Below w.heap.size w w' := by
  obtain ⟨hlm0, a0, c0, rfl, -⟩ := id hL
  have hlm : L.length ≤ 9223372036854775807 := hlm0
  obtain ⟨la, lc, hlv⟩ := hr.sl
  subst hlv
  obtain ⟨ln, hln⟩ : ∃ ln, its.length = ln := ⟨_, rfl⟩
  obtain ⟨n0, hn0⟩ : ∃ n0, w.heap.size = n0 := ⟨_, rfl⟩
  have hlnm : (ln : Int) ≤ 9223372036854775807 := by have := hr.1; omega
  have HL0 := Lib.hid hL
  have HR0 := Lib.hid hr
  have HS := Lib.hid hn0
  rw [hln] at HR0 ⊢
  have HLN := Lib.hid hln
  clear hL hr hlm0 hln
  go_enter Try.func9, Try.ntmps9
  go_wp2_with (go_at_call 10; refine (tNew _).mono ?_; rintro e w1 ⟨g, rfl, hI⟩; have HI := Lib.hid hI; clear hI)
  refine (stkLives _).mono ?_
  rintro e w2 ⟨rfl, hf2⟩
  have HI := Lib.hid (HI.out.keep hf2)
  clear hf2
  by_cases hbig : (100 : Int) < ln
  · go_wp2_with (go_at_call 11; refine (stkLives _).mono ?_; rintro e w3 ⟨rfl, hf3⟩; have HI := Lib.hid (HI.out.keep hf3); clear hf3)
    go_ret
    exact ⟨rfl, (HI.out.fr).toBelow (fun b hb => hb) (Nat.le_refl _)⟩
  · go_wp2_with fail
    go_loopw [6] (fun i wr => ∃ (k : Nat) (A : Stk), k ≤ L.length ∧ (k : Int) ≤ 60 ∧ i = .int .i64 k ∧ StI w g A wr) (fun i _ => 60 - (intOf i).toNat)
    case atStart => exact ⟨0, [], by omega, by omega, rfl, HI.out⟩
    case round =>
      obtain ⟨k, A, hk, hk2, rfl, hIr⟩ := hrel
      have HI := Lib.hid hIr
      clear hIr
      rcases (by omega : (k < L.length ∧ (k : Int) < 60) ∨ (k < L.length ∧ 60 ≤ (k : Int)) ∨ ¬ k < L.length) with ⟨hkl, hk3⟩ | ⟨hkl, hk3⟩ | hkl
      · · obtain ⟨r, hr⟩ : ∃ r, L[k]? = some r := ⟨L[k], List.getElem?_eq_getElem hkl⟩
          obtain ⟨ad, rfl, hok, p0, p1, -, -⟩ := (HI.out.ops HL0.out).at_ hr
          obtain ⟨ad, had, hok', d0, d1, -, -⟩ := (HI.out.drew.ops HL0.out).at_ hr
          obtain rfl := Option.some.inj had
          obtain ⟨xk, xl, xi, xg, xn⟩ := r
          obtain ⟨xa, xc, hxl⟩ := hok.l.sl
          dsimp only at hxl
          subst hxl
          obtain ⟨xm, hxm⟩ : ∃ xm, xi.length = xm := ⟨_, rfl⟩
          have hxb : (xm : Int) ≤ 9223372036854775807 := by have := hok.l.1; dsimp only at this; omega
          have HX := Lib.hid hok'.l
          dsimp only at p0 p1 d0 d1 HX
          rw [hxm] at p1 d1 HX
          clear hr hok hok' hxm had
          by_cases hx : (xm : Int) ≤ 100
          · go_wp2_with fail
            refine wp_region_still_tail 11 (by kernel_rfl) (by kernel_rfl) ?_
            simp only [List.take_succ_cons, List.take_zero, List.drop_succ_cons, List.drop_zero]
            change wpStill _ _ wr.drew (fun a' => wpList _ _ _ _ a' wr.drew) _ _
            generalize hW : wr.drew = W at *
            have HW := Lib.hid hW
            clear hW
            repeat still_step
            refine wpStill_nil ?_
            have HI2 : Hid (StI w g A W) := Lib.hid (HW.out ▸ HI.out.drew)
            go_wp2_with (go_at_call 12; refine (tDo _ HI2.out HX.out).mono ?_; rintro e w3 ⟨rfl, hI3⟩)
            go_roundw
            case rel => exact ⟨k + 1, _, by omega, by omega, by go_num, hI3⟩
            case measure => simp [intOf]; omega
          · go_wp2_with fail
            go_roundw
            case rel => exact ⟨k + 1, _, by omega, by omega, by go_num, HI.out⟩
            case measure => simp [intOf]; omega
      all_goals
        go_wp2_with fail
        have hiff := hold_iff (L := its) HI.out.ok
        have hcan := offer_can (L := its) HI.out.ok
        have HIFF := Lib.hid hiff; have HCAN := Lib.hid hcan
        clear hiff hcan
        refine (tOffer HI.out (HI.out.il HR0.out)).mono ?_
        obtain ⟨OF, hOF⟩ : ∃ OF, (if mayL its = true then offerS A its else []) = OF := ⟨_, rfl⟩
        rw [hOF]
        have HOF := Lib.hid hOF
        clear hOF
        rintro e w5 ⟨v5, rfl, ho5, -, -, hI⟩
        have HI := Lib.hid hI
        obtain ⟨oa, oc, rfl⟩ := ho5.sl
        obtain ⟨on, hon⟩ : ∃ on, OF.length = on := ⟨_, rfl⟩
        have honI : (on : Int) ≤ 9223372036854775807 := by have := ho5.1; omega
        have HO := Lib.hid ho5; have HON := Lib.hid hon
        rw [hon] at HO ⊢
        clear hI ho5 hon
        go_wp2_with fail
        refine (r6May _ _ _ (HI.out.il HR0.out)).mono ?_
        obtain ⟨M, hM⟩ : ∃ M, mayL its = M := ⟨_, rfl⟩
        rw [hM] at HIFF HCAN HOF ⊢
        clear hM
        rintro e w6 ⟨rfl, d6, hw6⟩
        have HI6 : Hid (StI w g A w6) := Lib.hid (by rw [hw6]; exact HI.out.keep ((Fr.refl _ _).drewN _))
        have HO6 : Hid (Il w6 (.slice oa on oc) OF) := Lib.hid (by rw [hw6]; exact HO.out.fr ((Fr.refl (fun _ => False) _).drewN _) (fun _ e => e.elim))
        clear hw6 HI HO
        obtain ⟨D, hD⟩ : ∃ D, doS A 2 its = D := ⟨_, rfl⟩
        obtain ⟨V, B⟩ := D
        have hall : ∀ ALL : Bool, ALL = (M && decide (OF = its)) → (V = 0 ↔ ALL = true) := fun ALL e => by
          have := HIFF.out
          rw [hD] at this
          rw [this, e, Bool.and_eq_true, decide_eq_true_eq, ← HOF.out]
          constructor
          · rintro ⟨rfl, h⟩; exact ⟨rfl, by simpa using h⟩
          · rintro ⟨rfl, h⟩; exact ⟨rfl, by simpa using h⟩
        have HALL := Lib.hid hall; have HD := Lib.hid hD
        have hofr : on = 0 ∨ ∃ C, doS A 2 OF = (0, C) := by
          have h1 := HOF.out
          cases M with
          | false => left; rw [← HON.out, ← h1]; rfl
          | true => right; rw [← h1]; exact HCAN.out rfl
        have HOFR := Lib.hid hofr
        clear hall hD hofr HIFF HCAN HOF
        have key : ∀ (ALL : Bool) (W : World), ALL = (M && decide (OF = its)) → StI w g A W → Il W (.slice oa on oc) OF → True := fun _ _ _ _ _ => trivial
        clear key
        cases M
        · have hA := Lib.hid (HALL.out false rfl)
          go_wp2_with fail
          refine (tFork HI6.out).mono ?_
          rintro e w8 ⟨gf, rfl, hIf, hI⟩
          have HI8 := Lib.hid hI; have HF8 := Lib.hid hIf
          have HO8 := Lib.hid (HO6.out.fr hIf.fr (fun _ e => e))
          clear hI hIf
          rcases Nat.eq_zero_or_pos on with h0 | h0
          · subst h0
            go_wp2_with fail
            have HI := HI8
            refine (tDo 2 HI.out (HI.out.il HR0.out)).mono ?_
            rw [HD.out]
            rintro e w10 ⟨rfl, hI⟩
            have HI := Lib.hid hI
            clear hI
            dsimp only at HI
            by_cases hV : V = 0
            · have hs := hA.out.1 hV
              clear hA
              subst hV
              cases hs
            · have hVB : (V == 0) = false := by simpa using hV
              go_wp2_with fail
              go_ret
              exact ⟨rfl, (HI.out.fr).toBelow (fun b hb => hb) (Nat.le_refl _)⟩
          · obtain ⟨C, hC⟩ := HOFR.out.resolve_left (by omega)
            have HC := Lib.hid hC
            have h0I : (0 : Int) < on := by omega
            clear hC
            go_wp2_with fail
            refine (tDo 2 HF8.out HO8.out).mono ?_
            rw [HC.out]
            rintro e w9 ⟨rfl, hIf⟩
            have HI := Lib.hid (HI6.out.beside hIf)
            clear hIf
            go_wp2_with fail
            refine (tDo 2 HI.out (HI.out.il HR0.out)).mono ?_
            rw [HD.out]
            rintro e w10 ⟨rfl, hI⟩
            have HI := Lib.hid hI
            clear hI
            dsimp only at HI
            by_cases hV : V = 0
            · have hs := hA.out.1 hV
              clear hA
              subst hV
              cases hs
            · have hVB : (V == 0) = false := by simpa using hV
              go_wp2_with fail
              go_ret
              exact ⟨rfl, (HI.out.fr).toBelow (fun b hb => hb) (Nat.le_refl _)⟩
        · go_wp2_with fail
          refine (r6Same _ _ _ _ _ HO6.out (HI6.out.il HR0.out)).mono ?_
          obtain ⟨SM, hSM⟩ : ∃ SM, decide (OF = its) = SM := ⟨_, rfl⟩
          rw [hSM]
          have hA := Lib.hid (HALL.out SM (by rw [hSM]; rfl))
          clear hSM
          rintro e w7 ⟨rfl, d7, hw7⟩
          have HI7 : Hid (StI w g A w7) := Lib.hid (by rw [hw7]; exact HI6.out.keep ((Fr.refl _ _).drewN _))
          have HO7 : Hid (Il w7 (.slice oa on oc) OF) := Lib.hid (by rw [hw7]; exact HO6.out.fr ((Fr.refl (fun _ => False) _).drewN _) (fun _ e => e.elim))
          clear hw7
          go_wp2_with fail
          refine (tFork HI7.out).mono ?_
          rintro e w8 ⟨gf, rfl, hIf, hI⟩
          have HI8 := Lib.hid hI; have HF8 := Lib.hid hIf
          have HO8 := Lib.hid (HO7.out.fr hIf.fr (fun _ e => e))
          clear hI hIf
          rcases Nat.eq_zero_or_pos on with h0 | h0
          · subst h0
            go_wp2_with fail
            have HI := HI8
            refine (tDo 2 HI.out (HI.out.il HR0.out)).mono ?_
            rw [HD.out]
            rintro e w10 ⟨rfl, hI⟩
            have HI := Lib.hid hI
            clear hI
            dsimp only at HI
            by_cases hV : V = 0
            · have hs := hA.out.1 hV
              clear hA
              subst hV
              subst hs
              go_wp2_with fail
              go_ret
              exact ⟨rfl, (HI.out.fr).toBelow (fun b hb => hb) (Nat.le_refl _)⟩
            · have hVB : (V == 0) = false := by simpa using hV
              have hs : SM = false := by
                cases SM with
                | false => rfl
                | true => exact absurd (hA.out.2 rfl) hV
              subst hs
              go_wp2_with fail
              go_ret
              exact ⟨rfl, (HI.out.fr).toBelow (fun b hb => hb) (Nat.le_refl _)⟩
          · obtain ⟨C, hC⟩ := HOFR.out.resolve_left (by omega)
            have HC := Lib.hid hC
            have h0I : (0 : Int) < on := by omega
            clear hC
            go_wp2_with fail
            refine (tDo 2 HF8.out HO8.out).mono ?_
            rw [HC.out]
            rintro e w9 ⟨rfl, hIf⟩
            have HI := Lib.hid (HI7.out.beside hIf)
            clear hIf
            go_wp2_with fail
            refine (tDo 2 HI.out (HI.out.il HR0.out)).mono ?_
            rw [HD.out]
            rintro e w10 ⟨rfl, hI⟩
            have HI := Lib.hid hI
            clear hI
            dsimp only at HI
            by_cases hV : V = 0
            · have hs := hA.out.1 hV
              clear hA
              subst hV
              subst hs
              go_wp2_with fail
              go_ret
              exact ⟨rfl, (HI.out.fr).toBelow (fun b hb => hb) (Nat.le_refl _)⟩
            · have hVB : (V == 0) = false := by simpa using hV
              have hs : SM = false := by
                cases SM with
                | false => rfl
                | true => exact absurd (hA.out.2 rfl) hV
              subst hs
              go_wp2_with fail
              go_ret
              exact ⟨rfl, (HI.out.fr).toBelow (fun b hb => hb) (Nat.le_refl _)⟩
set_option maxRecDepth 100000 in
theorem lifted (os : Os) (started : os.Started) (H : Type) (enc : TypeId × Value → H) :
    ReturnsInHanded {} Try.checked os 9 .any (Rows.stockOffersSpec.pre6 enc Try.prog Try.f9 Rows.stockOffersRow.domain false) (Rows.stockOffersSpec.post enc Try.prog Try.f9 false true false false) := by
  refine returnsInHanded_of_change (C := Try.checked) own started (by kernel_rfl) Try.func9
    (ChangeSpec.witness6 (enc := enc) (C := Try.checked) false ⟨#[], #[.slice none 0 0, .slice none 0 0], []⟩ 8 (by kernel_rfl) (by kernel_rfl) (by kernel_rfl) (by kernel_rfl)) ?_
  intro W base args ds gs before hval0 hW hcnd _
  have hval : ∀ (j : Nat) t v, Try.f9.params[j]? = some t → args[j]? = some v → Value.okWide Try.prog W .any base t v := hval0
  have hW' := hW
  obtain ⟨p, q, hA0, hV, rfl, hfz, hnd⟩ := hW
  have hA : DataW.TrodAll enc Try.prog W 0 (fun _ => true) true Try.f9.params.toList args.toList ds p := hA0
  rw [Try.params9] at hA hval
  obtain ⟨v0, vs0, d0, ds0, p0, q0, hargs, rfl, rfl, h0, r0⟩ := trodAll_cons hA
  obtain ⟨v1, vs1, d1, ds1, p1, q1, rfl, rfl, rfl, h1, r1⟩ := trodAll_cons r0
  obtain ⟨rfl, rfl, rfl⟩ := trodAll_nil r1
  obtain rfl : args = #[v0, v1] := by cases args; simp_all
  obtain ⟨rfl, rfl⟩ := trodVars_none hV
  obtain ⟨L0, hL0⟩ := open_sops (hval 0 22 v0 rfl rfl) h0
  obtain ⟨L1, hL1⟩ := open_items (hval 1 23 v1 rfl rfl) h1
  clear hA0 hval0
  simp only [List.append_nil] at hW'
  refine (walk v0 L0 v1 L1 W hL0 hL1).mono fun e W' ⟨he, hg⟩ => ?_
  subst he
  exact ⟨_, rfl, law_post laidOut (by kernel_rfl) rfl Try.underlying4 hW' rfl rfl hg⟩
theorem over : Rows.stockOffersRow.holds Try.pinned (OpenSpec.ofChange Rows.stockOffersSpec) :=
  OpenClaim.holds_of_wide 9 Try.f9 rfl rfl rfl rfl rfl rfl rfl ⟨rfl, rfl, rfl, rfl, rfl⟩ rfl rfl rfl rfl rfl (by kernel_rfl) Try.func9 (by kernel_rfl)
    (of_decide_eq_true (by kernel_rfl)) (by unfold Func.isWrapper; first | (rw [if_pos (by decide +kernel)]; kernel_rfl) | (rw [if_neg (by decide +kernel)]; exact ⟨rfl, rfl⟩))
    (fun os started H enc _ => lifted os started H enc)
theorem proved : Rows.StockOffersSaid :=
  over
#print axioms proved
end Go.Proofs.Ytclgmnobockfnaa.stockOffers
