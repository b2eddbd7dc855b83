/- stock: for every input StockRefuses returns true and leaves its input as it was; no condition. -/
import Derived.Test.YtclgmnobockfnaaRows
import Derived.Test.YtclgmnobockfnaaStkRefusesM27
import Derived.Test.YtclgmnobockfnaaStkRefusesM23
import Derived.StillTailTactics
import Derived.Deep.RegionWith
import Derived.Deep.QuietTactic
import Derived.BigQuiet
namespace Go.Proofs.Ytclgmnobockfnaa.stockRefuses
open Go.ChangeShapes Go.WideShapes Go.ChangeAt Go.RowKit Go.Maps
attribute [local go_sem] Oper.semAt_some
set_option maxRecDepth 100000 in
set_option maxHeartbeats 4000000 in
theorem walk (v : Value) (L : List SOpV) (r : SOpV) (w : World) (hL : SOps w v L) (hr : SOpOk w r) : Calls Try.prog 6 #[v, .agg r.cs] w fun e w' => e = .returned (.bool true) ∧ Below w.heap.size w w' := by
  obtain ⟨hlm0, a0, c0, rfl, -⟩ := id hL
  have hlm : L.length ≤ 9223372036854775807 := hlm0
  obtain ⟨kd, lv, its, gd, n⟩ := r
  obtain ⟨la, lc, hlv⟩ := hr.l.sl
  dsimp only at hlv
  subst hlv
  obtain ⟨ln, hln⟩ : ∃ ln, its.length = ln := ⟨_, rfl⟩
  obtain ⟨n0, hn0⟩ : ∃ n0, w.heap.size = n0 := ⟨_, rfl⟩
  have hlnm : (ln : Int) ≤ 9223372036854775807 := by have := hr.l.1; dsimp only at this; omega
  obtain ⟨W0, hW0⟩ : ∃ W0, w.alloc (.cells (SOpV.mk kd (.slice la its.length lc) its gd n).cs 28) = W0 := ⟨_, rfl⟩
  have hf0 : Fr (fun b => w.heap.size ≤ b) w W0 := by rw [← hW0]; exact (Fr.refl _ w).alloc _
  have HF0 := Lib.hid hf0
  have HL0 := Lib.hid (hL.fr hf0 (fun b hb => hb))
  have HR0 := Lib.hid (hr.fr hf0 (fun b hb => hb))
  have HB0 : Hid (W0.heap[n0]? = some (.cells #[.int .i64 kd, .slice la ln lc, vS gd, .int .i64 n] 28)) := Lib.hid (by rw [← hW0, ← hn0, ← hln]; exact heap_new _ _)
  have HS := Lib.hid hn0
  unfold SOpV.cs at hW0 ⊢
  dsimp only at hW0 ⊢
  rw [hln] at hW0 HR0 ⊢
  have HLN := Lib.hid hln
  clear hL hr hf0 hlm0 hln
  go_enter Try.func6, Try.ntmps6
  go_wp2_with (go_at_call 10; refine (tNew _).mono ?_; rintro e w1 ⟨g, rfl, hI⟩; have HI := Lib.hid hI; clear hI hW0)
  refine (stkLives _).mono ?_
  rintro e w2 ⟨rfl, hf2⟩
  have HI := Lib.hid (HI.out.keep hf2)
  clear hf2
  obtain ⟨q0, q1, q2, q3⟩ := HI.out.op HB0.out
  by_cases hbig : (100 : Int) < ln
  · go_wp2_with (go_at_call 11; refine (stkLives _).mono ?_; rintro e w3 ⟨rfl, hf3⟩; have HI := Lib.hid (HI.out.keep hf3); clear hf3)
    go_ret
    exact ⟨rfl, (HI.out.old HF0.out HF0.out.size).toBelow (fun b hb => hb) (Nat.le_refl _)⟩
  · go_wp2_with fail
    clear q0 q1 q2 q3
    go_loopw [6] (fun i wr => ∃ (k : Nat) (A : Stk), k ≤ L.length ∧ (k : Int) ≤ 60 ∧ i = .int .i64 k ∧ StI W0 g A wr) (fun i _ => 60 - (intOf i).toNat)
    case atStart => exact ⟨0, [], by omega, by omega, rfl, HI.out⟩
    case round =>
      obtain ⟨k, A, hk, hk2, rfl, hIr⟩ := hrel
      have HI := Lib.hid hIr
      clear hIr
      rcases (by omega : (k < L.length ∧ (k : Int) < 60) ∨ (k < L.length ∧ 60 ≤ (k : Int)) ∨ ¬ k < L.length) with ⟨hkl, hk3⟩ | ⟨hkl, hk3⟩ | hkl
      · · obtain ⟨r, hr⟩ : ∃ r, L[k]? = some r := ⟨L[k], List.getElem?_eq_getElem hkl⟩
          obtain ⟨ad, rfl, hok, p0, p1, -, -⟩ := (HI.out.ops HL0.out).at_ hr
          obtain ⟨ad, had, hok', d0, d1, -, -⟩ := (HI.out.drew.ops HL0.out).at_ hr
          obtain rfl := Option.some.inj had
          obtain ⟨xk, xl, xi, xg, xn⟩ := r
          obtain ⟨xa, xc, hxl⟩ := hok.l.sl
          dsimp only at hxl
          subst hxl
          obtain ⟨xm, hxm⟩ : ∃ xm, xi.length = xm := ⟨_, rfl⟩
          have hxb : (xm : Int) ≤ 9223372036854775807 := by have := hok.l.1; dsimp only at this; omega
          have HX := Lib.hid hok'.l
          dsimp only at p0 p1 d0 d1 HX
          rw [hxm] at p1 d1 HX
          clear hr hok hok' hxm had
          by_cases hx : (xm : Int) ≤ 100
          · go_wp2_with fail
            refine wp_region_still_tail 11 (by kernel_rfl) (by kernel_rfl) ?_
            simp only [List.take_succ_cons, List.take_zero, List.drop_succ_cons, List.drop_zero]
            change wpStill _ _ wr.drew (fun a' => wpList _ _ _ _ a' wr.drew) _ _
            generalize hW : wr.drew = W at *
            have HW := Lib.hid hW
            clear hW
            repeat still_step
            refine wpStill_nil ?_
            have HI2 : Hid (StI W0 g A W) := Lib.hid (HW.out ▸ HI.out.drew)
            go_wp2_with (go_at_call 12; refine (tDo _ HI2.out HX.out).mono ?_; rintro e w3 ⟨rfl, hI3⟩)
            go_roundw
            case rel => exact ⟨k + 1, _, by omega, by omega, by go_num, hI3⟩
            case measure => simp [intOf]; omega
          · go_wp2_with fail
            go_roundw
            case rel => exact ⟨k + 1, _, by omega, by omega, by go_num, HI.out⟩
            case measure => simp [intOf]; omega
      all_goals
        go_wp2_with fail
        obtain ⟨S, hS⟩ : ∃ S, packStr A = S := ⟨_, rfl⟩
        refine (tPack HI.out).mono ?_
        rw [hS]
        have hST := Lib.hid hS
        clear hS
        rintro e w5 ⟨v5, rfl, hs5, -, hI⟩
        have HI := Lib.hid hI
        clear hI
        obtain ⟨q0, q1, q2, q3⟩ := HI.out.op HB0.out
        go_wp2_with fail
        clear hs5 q0 q1 q2 q3
        have hno := doS_no (A := A) (k := kd) (L := its)
        refine (tDo kd HI.out (HI.out.il HR0.out.l)).mono ?_
        obtain ⟨V, hV⟩ : ∃ V, (doS A kd its).1 = V := ⟨_, rfl⟩
        obtain ⟨B, hB⟩ : ∃ B, (doS A kd its).2 = B := ⟨_, rfl⟩
        rw [hV, hB] at hno ⊢
        clear hV hB
        rintro e w6 ⟨rfl, hI⟩
        clear HI
        have HI := Lib.hid hI
        clear hI
        have hcase : V = 0 ∨ (V ≠ 0 ∧ B = A) := by
          by_cases h : V = 0
          · exact .inl h
          · exact .inr ⟨h, hno h⟩
        clear hno
        rcases hcase with rfl | ⟨hne, hBA⟩
        rotate_left
        have HBA := Lib.hid hBA
        clear hBA
        have hneB : (V != 0) = true := by simpa using hne
        go_wp2_with fail
        refine (tPack HI.out).mono ?_
        rw [HBA.out, hST.out]
        rintro e w7 ⟨v7, rfl, hs7, -, hI⟩
        rw [← HBA.out] at hI
        have HI := Lib.hid hI
        clear hI
        go_wp2_with fail
        clear hs7
        rotate_left
        go_wp2_with fail
        all_goals
          clear hST
          obtain ⟨S2, hS⟩ : ∃ S2, packStr B = S2 := ⟨_, rfl⟩
          refine (tPack HI.out).mono ?_
          rw [hS]
          have hST2 := Lib.hid hS
          clear hS
          rintro e w8 ⟨v8, rfl, hs8, -, hI⟩
          have HI := Lib.hid hI
          clear hI
          obtain ⟨q0, q1, q2, q3⟩ := HI.out.op HB0.out
          go_wp2_with fail
          clear hs8 q0 q1 q2 q3
          have hno := countS_no (A := B) (g := gd) (n := n)
          refine (tCount n HI.out HR0.out.good).mono ?_
          obtain ⟨X, hX⟩ : ∃ X, (countS B gd n).1 = X := ⟨_, rfl⟩
          obtain ⟨V2, hV⟩ : ∃ V2, (countS B gd n).2.1 = V2 := ⟨_, rfl⟩
          obtain ⟨C, hC⟩ : ∃ C, (countS B gd n).2.2 = C := ⟨_, rfl⟩
          rw [hX, hV, hC] at hno ⊢
          clear hX hV hC
          rintro e w9 ⟨rfl, hI⟩
          clear HI
          have HI := Lib.hid hI
          clear hI
          have hcase : V2 = 0 ∨ (V2 ≠ 0 ∧ X = 0 ∧ C = B) := by
            by_cases h : V2 = 0
            · exact .inl h
            · exact .inr ⟨h, hno h⟩
          clear hno
          rcases hcase with rfl | ⟨hne2, rfl, hCB⟩
          · go_wp2_with fail
            go_ret
            exact ⟨rfl, (HI.out.old HF0.out HF0.out.size).toBelow (fun b hb => hb) (Nat.le_refl _)⟩
          · have HCB := Lib.hid hCB
            clear hCB
            have hneB2 : (V2 == 0) = false := by simpa using hne2
            go_wp2_with (go_at_call 13; refine (tPack HI.out).mono ?_; rw [HCB.out, hST2.out]; rintro e w10 ⟨v10, rfl, hs10, -, hI⟩; have HI := Lib.hid hI; clear hI)
            go_ret
            exact ⟨rfl, (HI.out.old HF0.out HF0.out.size).toBelow (fun b hb => hb) (Nat.le_refl _)⟩
set_option maxRecDepth 100000 in
theorem lifted (os : Os) (started : os.Started) (H : Type) (enc : TypeId × Value → H) :
    ReturnsInHanded {} Try.checked os 6 .any (Rows.stockRefusesSpec.pre6 enc Try.prog Try.f6 Rows.stockRefusesRow.domain false) (Rows.stockRefusesSpec.post enc Try.prog Try.f6 false true false false) := by
  refine returnsInHanded_of_change (C := Try.checked) own started (by kernel_rfl) Try.func6
    (ChangeSpec.witness6 (enc := enc) (C := Try.checked) false ⟨#[], #[.slice none 0 0, .agg #[.int .i64 0, .slice none 0 0, .string ⟨#[]⟩, .int .i64 0]], []⟩ 8 (by kernel_rfl) (by kernel_rfl) (by kernel_rfl) (by kernel_rfl)) ?_
  intro W base args ds gs before hval0 hW hcnd _
  have hval : ∀ (j : Nat) t v, Try.f6.params[j]? = some t → args[j]? = some v → Value.okWide Try.prog W .any base t v := hval0
  have hW' := hW
  obtain ⟨p, q, hA0, hV, rfl, hfz, hnd⟩ := hW
  have hA : DataW.TrodAll enc Try.prog W 0 (fun _ => true) true Try.f6.params.toList args.toList ds p := hA0
  rw [Try.params6] at hA hval
  obtain ⟨v0, vs0, d0, ds0, p0, q0, hargs, rfl, rfl, h0, r0⟩ := trodAll_cons hA
  obtain ⟨v1, vs1, d1, ds1, p1, q1, rfl, rfl, rfl, h1, r1⟩ := trodAll_cons r0
  obtain ⟨rfl, rfl, rfl⟩ := trodAll_nil r1
  obtain rfl : args = #[v0, v1] := by cases args; simp_all
  obtain ⟨rfl, rfl⟩ := trodVars_none hV
  obtain ⟨L0, hL0⟩ := open_sops (hval 0 22 v0 rfl rfl) h0
  obtain ⟨r1, rfl, hr1⟩ := open_sop1 (hval 1 28 v1 rfl rfl) h1
  clear hA0 hval0
  simp only [List.append_nil] at hW'
  refine (walk v0 L0 r1 W hL0 hr1).mono fun e W' ⟨he, hg⟩ => ?_
  subst he
  exact ⟨_, rfl, law_post laidOut (by kernel_rfl) rfl Try.underlying4 hW' rfl rfl hg⟩
theorem over : Rows.stockRefusesRow.holds Try.pinned (OpenSpec.ofChange Rows.stockRefusesSpec) :=
  OpenClaim.holds_of_wide 6 Try.f6 rfl rfl rfl rfl rfl rfl rfl ⟨rfl, rfl, rfl, rfl, rfl⟩ rfl rfl rfl rfl rfl (by kernel_rfl) Try.func6 (by kernel_rfl)
    (of_decide_eq_true (by kernel_rfl)) (by unfold Func.isWrapper; first | (rw [if_pos (by decide +kernel)]; kernel_rfl) | (rw [if_neg (by decide +kernel)]; exact ⟨rfl, rfl⟩))
    (fun os started H enc _ => lifted os started H enc)
theorem proved : Rows.StockRefusesSaid :=
  over
#print axioms proved
end Go.Proofs.Ytclgmnobockfnaa.stockRefuses
