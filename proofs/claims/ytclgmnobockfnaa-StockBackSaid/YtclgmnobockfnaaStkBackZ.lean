/- stock: for every input StockBack returns true and leaves its input as it was; no condition. -/
import Derived.Test.YtclgmnobockfnaaRows
import Derived.Test.YtclgmnobockfnaaStkBackM27
import Derived.Test.YtclgmnobockfnaaStkBackM23
import Derived.StillTailTactics
import Derived.Deep.RegionWith
import Derived.Deep.QuietTactic
import Derived.BigQuiet
namespace Go.Proofs.Ytclgmnobockfnaa.stockBack
open Go.ChangeShapes Go.WideShapes Go.ChangeAt Go.RowKit Go.Maps
attribute [local go_sem] Oper.semAt_some
set_option maxRecDepth 100000 in
set_option maxHeartbeats 4000000 in
theorem walk (v : Value) (L : List SOpV) (u : Value) (its : Its) (w : World) (hL : SOps w v L) (hr : Il w u its) : Calls Try.prog 3 #[v, u] w fun e w' => e = .returned (.bool true) ∧ Below w.heap.size w w' := by
  obtain ⟨hlm0, a0, c0, rfl, -⟩ := id hL
  have hlm : L.length ≤ 9223372036854775807 := hlm0
  obtain ⟨la, lc, hlv⟩ := hr.sl
  subst hlv
  obtain ⟨ln, hln⟩ : ∃ ln, its.length = ln := ⟨_, rfl⟩
  obtain ⟨n0, hn0⟩ : ∃ n0, w.heap.size = n0 := ⟨_, rfl⟩
  have hlnm : (ln : Int) ≤ 9223372036854775807 := by have := hr.1; omega
  have HL0 := Lib.hid hL
  have HR0 := Lib.hid hr
  have HS := Lib.hid hn0
  rw [hln] at HR0 ⊢
  have HLN := Lib.hid hln
  clear hL hr hlm0 hln
  go_enter Try.func3, Try.ntmps3
  go_wp2_with (go_at_call 10; refine (tNew _).mono ?_; rintro e w1 ⟨g, rfl, hI⟩; have HI := Lib.hid hI; clear hI)
  refine (stkLives _).mono ?_
  rintro e w2 ⟨rfl, hf2⟩
  have HI := Lib.hid (HI.out.keep hf2)
  clear hf2
  by_cases hbig : (100 : Int) < ln
  · go_wp2_with (go_at_call 11; refine (stkLives _).mono ?_; rintro e w3 ⟨rfl, hf3⟩; have HI := Lib.hid (HI.out.keep hf3); clear hf3)
    go_ret
    exact ⟨rfl, (HI.out.fr).toBelow (fun b hb => hb) (Nat.le_refl _)⟩
  · go_wp2_with fail
    go_loopw [6] (fun i wr => ∃ (k : Nat) (A : Stk), k ≤ L.length ∧ (k : Int) ≤ 60 ∧ i = .int .i64 k ∧ StI w g A wr) (fun i _ => 60 - (intOf i).toNat)
    case atStart => exact ⟨0, [], by omega, by omega, rfl, HI.out⟩
    case round =>
      obtain ⟨k, A, hk, hk2, rfl, hIr⟩ := hrel
      have HI := Lib.hid hIr
      clear hIr
      rcases (by omega : (k < L.length ∧ (k : Int) < 60) ∨ (k < L.length ∧ 60 ≤ (k : Int)) ∨ ¬ k < L.length) with ⟨hkl, hk3⟩ | ⟨hkl, hk3⟩ | hkl
      · · obtain ⟨r, hr⟩ : ∃ r, L[k]? = some r := ⟨L[k], List.getElem?_eq_getElem hkl⟩
          obtain ⟨ad, rfl, hok, p0, p1, -, -⟩ := (HI.out.ops HL0.out).at_ hr
          obtain ⟨ad, had, hok', d0, d1, -, -⟩ := (HI.out.drew.ops HL0.out).at_ hr
          obtain rfl := Option.some.inj had
          obtain ⟨xk, xl, xi, xg, xn⟩ := r
          obtain ⟨xa, xc, hxl⟩ := hok.l.sl
          dsimp only at hxl
          subst hxl
          obtain ⟨xm, hxm⟩ : ∃ xm, xi.length = xm := ⟨_, rfl⟩
          have hxb : (xm : Int) ≤ 9223372036854775807 := by have := hok.l.1; dsimp only at this; omega
          have HX := Lib.hid hok'.l
          dsimp only at p0 p1 d0 d1 HX
          rw [hxm] at p1 d1 HX
          clear hr hok hok' hxm had
          by_cases hx : (xm : Int) ≤ 100
          · go_wp2_with fail
            refine wp_region_still_tail 11 (by kernel_rfl) (by kernel_rfl) ?_
            simp only [List.take_succ_cons, List.take_zero, List.drop_succ_cons, List.drop_zero]
            change wpStill _ _ wr.drew (fun a' => wpList _ _ _ _ a' wr.drew) _ _
            generalize hW : wr.drew = W at *
            have HW := Lib.hid hW
            clear hW
            repeat still_step
            refine wpStill_nil ?_
            have HI2 : Hid (StI w g A W) := Lib.hid (HW.out ▸ HI.out.drew)
            go_wp2_with (go_at_call 12; refine (tDo _ HI2.out HX.out).mono ?_; rintro e w3 ⟨rfl, hI3⟩)
            go_roundw
            case rel => exact ⟨k + 1, _, by omega, by omega, by go_num, hI3⟩
            case measure => simp [intOf]; omega
          · go_wp2_with fail
            go_roundw
            case rel => exact ⟨k + 1, _, by omega, by omega, by go_num, HI.out⟩
            case measure => simp [intOf]; omega
      all_goals
        go_wp2_with fail
        obtain ⟨S, hS⟩ : ∃ S, packStr A = S := ⟨_, rfl⟩
        refine (tPack HI.out).mono ?_
        rw [hS]
        have hST := Lib.hid hS
        clear hS
        rintro e w5 ⟨v5, rfl, hs5, -, hI⟩
        have HI := Lib.hid hI
        clear hI
        go_wp2_with fail
        clear hs5
        have hno := doS_no (A := A) (k := 2) (L := its)
        have hback := fun B => back_S (A := A) (B := B) (L := its) HI.out.ok
        refine (tDo 2 HI.out (HI.out.il HR0.out)).mono ?_
        obtain ⟨V, hV⟩ : ∃ V, (doS A 2 its).1 = V := ⟨_, rfl⟩
        obtain ⟨B, hB⟩ : ∃ B, (doS A 2 its).2 = B := ⟨_, rfl⟩
        have hVB : doS A 2 its = (V, B) := Prod.ext hV hB
        rw [hV, hB] at hno ⊢
        rw [hVB] at hback
        clear hV hB hVB
        rintro e w6 ⟨rfl, hI⟩
        clear HI
        have HI := Lib.hid hI
        clear hI
        have hcase : (V = 0 ∧ ∃ C, doS B 4 its = (0, C) ∧ doS C 5 its = (0, B) ∧ doS B 3 its = (0, A)) ∨ (V ≠ 0 ∧ B = A) := by
          by_cases h : V = 0
          · exact .inl ⟨h, hback B (by rw [h])⟩
          · exact .inr ⟨h, hno h⟩
        clear hno hback
        rcases hcase with ⟨rfl, C, h4, h5, h3⟩ | ⟨hne, hBA⟩
        · have H4 := Lib.hid h4; have H5 := Lib.hid h5; have H3 := Lib.hid h3
          clear h4 h5 h3
          go_wp2_with fail
          refine (tDo 4 HI.out (HI.out.il HR0.out)).mono ?_
          rw [H4.out]
          rintro e w7 ⟨rfl, hI⟩
          have HI7 := Lib.hid hI
          clear hI
          dsimp only at HI7
          go_wp2_with fail
          refine (tDo 5 HI7.out (HI7.out.il HR0.out)).mono ?_
          rw [H5.out]
          rintro e w8 ⟨rfl, hI⟩
          have HI8 := Lib.hid hI
          clear hI
          dsimp only at HI8
          go_wp2_with fail
          refine (tDo 3 HI8.out (HI8.out.il HR0.out)).mono ?_
          rw [H3.out]
          rintro e w9 ⟨rfl, hI⟩
          clear HI
          have HI := Lib.hid hI
          clear hI
          dsimp only at HI
          go_wp2_with (go_at_call 13; refine (tPack HI.out).mono ?_; rw [hST.out]; rintro e w10 ⟨v10, rfl, hs10, -, hI⟩; have HI := Lib.hid hI; clear hI)
          go_ret
          exact ⟨rfl, (HI.out.fr).toBelow (fun b hb => hb) (Nat.le_refl _)⟩
        · have HBA := Lib.hid hBA
          clear hBA
          have hneB : (V != 0) = true := by simpa using hne
          go_wp2_with (go_at_call 13; refine (tPack HI.out).mono ?_; rw [HBA.out, hST.out]; rintro e w10 ⟨v10, rfl, hs10, -, hI⟩; have HI := Lib.hid hI; clear hI)
          go_ret
          exact ⟨rfl, (HI.out.fr).toBelow (fun b hb => hb) (Nat.le_refl _)⟩
set_option maxRecDepth 100000 in
theorem lifted (os : Os) (started : os.Started) (H : Type) (enc : TypeId × Value → H) :
    ReturnsInHanded {} Try.checked os 3 .any (Rows.stockBackSpec.pre6 enc Try.prog Try.f3 Rows.stockBackRow.domain false) (Rows.stockBackSpec.post enc Try.prog Try.f3 false true false false) := by
  refine returnsInHanded_of_change (C := Try.checked) own started (by kernel_rfl) Try.func3
    (ChangeSpec.witness6 (enc := enc) (C := Try.checked) false ⟨#[], #[.slice none 0 0, .slice none 0 0], []⟩ 8 (by kernel_rfl) (by kernel_rfl) (by kernel_rfl) (by kernel_rfl)) ?_
  intro W base args ds gs before hval0 hW hcnd _
  have hval : ∀ (j : Nat) t v, Try.f3.params[j]? = some t → args[j]? = some v → Value.okWide Try.prog W .any base t v := hval0
  have hW' := hW
  obtain ⟨p, q, hA0, hV, rfl, hfz, hnd⟩ := hW
  have hA : DataW.TrodAll enc Try.prog W 0 (fun _ => true) true Try.f3.params.toList args.toList ds p := hA0
  rw [Try.params3] at hA hval
  obtain ⟨v0, vs0, d0, ds0, p0, q0, hargs, rfl, rfl, h0, r0⟩ := trodAll_cons hA
  obtain ⟨v1, vs1, d1, ds1, p1, q1, rfl, rfl, rfl, h1, r1⟩ := trodAll_cons r0
  obtain ⟨rfl, rfl, rfl⟩ := trodAll_nil r1
  obtain rfl : args = #[v0, v1] := by cases args; simp_all
  obtain ⟨rfl, rfl⟩ := trodVars_none hV
  obtain ⟨L0, hL0⟩ := open_sops (hval 0 22 v0 rfl rfl) h0
  obtain ⟨L1, hL1⟩ := open_items (hval 1 23 v1 rfl rfl) h1
  clear hA0 hval0
  simp only [List.append_nil] at hW'
  refine (walk v0 L0 v1 L1 W hL0 hL1).mono fun e W' ⟨he, hg⟩ => ?_
  subst he
  exact ⟨_, rfl, law_post laidOut (by kernel_rfl) rfl Try.underlying4 hW' rfl rfl hg⟩
theorem over : Rows.stockBackRow.holds Try.pinned (OpenSpec.ofChange Rows.stockBackSpec) :=
  OpenClaim.holds_of_wide 3 Try.f3 rfl rfl rfl rfl rfl rfl rfl ⟨rfl, rfl, rfl, rfl, rfl⟩ rfl rfl rfl rfl rfl (by kernel_rfl) Try.func3 (by kernel_rfl)
    (of_decide_eq_true (by kernel_rfl)) (by unfold Func.isWrapper; first | (rw [if_pos (by decide +kernel)]; kernel_rfl) | (rw [if_neg (by decide +kernel)]; exact ⟨rfl, rfl⟩))
    (fun os started H enc _ => lifted os started H enc)
theorem proved : Rows.StockBackSaid :=
  over
#print axioms proved
end Go.Proofs.Ytclgmnobockfnaa.stockBack
