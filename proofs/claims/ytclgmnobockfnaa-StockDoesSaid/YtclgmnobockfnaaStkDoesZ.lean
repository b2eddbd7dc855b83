/- stock: for every input StockDoes returns true and leaves its input as it was; no condition. -/
import Derived.Test.YtclgmnobockfnaaRows
import Derived.Test.YtclgmnobockfnaaStkDoesM33
import Derived.Test.YtclgmnobockfnaaStkDoesM11
import Derived.Deep.RegionWith
import Derived.Deep.RegionHeld3
import Derived.Deep.DeepCutAuto
import Derived.Deep.CutBlock
import Derived.Deep.QuietTactic
import Derived.BigQuiet
namespace Go.Proofs.Ytclgmnobockfnaa.stockDoes
open Go.ChangeShapes Go.WideShapes Go.ChangeAt Go.RowKit Go.Maps
attribute [local go_sem] Oper.semAt_some
set_option maxRecDepth 100000 in
set_option maxHeartbeats 16000000 in
theorem walk (v : Value) (L : List SOpV) (w : World) (hL : SOps w v L) : Calls Try.prog 7 #[v] w fun e w' => e = .returned (.bool true) ∧ Below w.heap.size w w' := by
  obtain ⟨hlm0, a0, c0, rfl, -⟩ := id hL
  have hlm : L.length ≤ 9223372036854775807 := hlm0
  obtain ⟨N, hN⟩ : ∃ N, L.length = N := ⟨_, rfl⟩
  have HL0 := Lib.hid hL
  have HN := Lib.hid hN
  rw [hN] at hlm HL0 ⊢
  have hlv := Lib.hid (fun W => stkLives W)
  clear hL hlm0 hN
  go_enter Try.func7, Try.ntmps7
  go_upto_region 3 with (go_at_call 10; refine (sgNew _).mono ?_; rintro e w1 ⟨g, TS, rfl, hA, hT, hF⟩; have HA1 := Lib.hid hA; have HT1 := Lib.hid hT; have HF1 := Lib.hid hF; clear hA hT hF)
  obtain ⟨gx, hgx⟩ : ∃ gx, w1.heap.size = gx := ⟨_, rfl⟩
  obtain ⟨W2, hW2⟩ : ∃ W2, w1.alloc (.cells #[.slice none 0 0] 51) = W2 := ⟨_, rfl⟩
  have hI : DuI w g gx [] [] 0 none W2 := by
    rw [← hW2, ← hgx]
    have hf : Fr (fun _ => False) w1 (w1.alloc (.cells #[.slice none 0 0] 51)) := (Fr.refl _ w1).alloc _
    refine ⟨⟨TS, fun b => b = w1.heap.size, HA1.out.fr hf (fun _ _ e => e), ⟨⟨_, heap_new _ _, World.ownsRow_nil _ _ _ _, fun b hb => by cases hb⟩, rfl, fun b hb => by rw [hb]; simp⟩, HT1.out, fun b hb => by rw [hb]; exact HF1.out.size, fun b hb hx => by have := HA1.out.lt b hb; omega, fun o e => by cases e⟩, ?_, SOk.nil, SOk.nil⟩
    exact (HF1.out.mono (fun _ _ e => e.elim)).alloc _
  have HI := Lib.hid hI
  rw [hW2, hgx]
  clear hI hW2 hgx
  go_wp2_with (go_at_call 11; refine (hlv.out _).mono ?_; rintro e w2 ⟨rfl, hf2⟩; have HI := Lib.hid (HI.out.keep hf2); clear hf2)
  go_loopw [5, 3] (fun i s wr => ∃ (k g : Nat) (A : Stk), k ≤ N ∧ i = .int .i64 k ∧ s = .pointer (some ⟨g, 0, none⟩) ∧ DuI w g gx A A 0 none wr) (fun i _ _ => N - (intOf i).toNat)
  case atStart => exact ⟨0, g, [], Nat.zero_le _, rfl, rfl, HI.out⟩
  case round =>
    obtain ⟨k, g, A, hk, rfl, rfl, hIr⟩ := hrel
    clear HI HA1 HT1 HF1
    have HI := Lib.hid hIr
    clear hIr
    by_cases hlt : k < N
    · have hlI : (k : Int) < N := by omega
      obtain ⟨r, hr⟩ : ∃ r, L[k]? = some r := ⟨L[k]'(by rw [HN.out]; exact hlt), List.getElem?_eq_getElem _⟩
      obtain ⟨ad, rfl, hok, p0, p1, p2, p3⟩ := (HI.out.ops HL0.out).at_ hr
      have hok0 : SOpOk w r := (HL0.out.at_ hr).elim fun _ h => h.2.1
      obtain ⟨kd, xl, its, gd, n⟩ := r
      obtain ⟨xa, xc, hxl⟩ := hok.l.sl
      dsimp only at hxl
      subst hxl
      obtain ⟨xm, hxm⟩ : ∃ xm, its.length = xm := ⟨_, rfl⟩
      have hxb : (xm : Int) ≤ 9223372036854775807 := by have := hok.l.1; dsimp only at this; omega
      have HX := Lib.hid hok0.l
      have HG := Lib.hid hok.good
      have HXM := Lib.hid hxm
      dsimp only at p0 p1 p2 p3 HX HG
      rw [hxm] at p1 HX
      clear hr hok hok0 hxm
      go_upto_region 9 with (fail)
      obtain ⟨ob, hob⟩ : ∃ ob, wr.heap.size = ob := ⟨_, rfl⟩
      obtain ⟨O, hO⟩ : ∃ O : Obj, (.cells #[.int .i64 kd, .slice xa xm xc, vS gd, .int .i64 n] 28) = O := ⟨_, rfl⟩
      have hIb := HI.out.box O
      rw [hO, hob]
      rw [hob] at hIb
      obtain ⟨Wb, hWb⟩ : ∃ Wb, wr.alloc O = Wb := ⟨_, rfl⟩
      rw [hWb] at hIb ⊢
      have HIb := Lib.hid hIb
      have hcells : Hid (∀ W : World, W.heap[ob]? = some O → W.cell? ⟨ob, 0, none⟩ = some (.int .i64 kd) ∧ W.cell? ⟨ob, 1, none⟩ = some (.slice xa xm xc) ∧ W.cell? ⟨ob, 2, none⟩ = some (vS gd) ∧ W.cell? ⟨ob, 3, none⟩ = some (.int .i64 n)) := Lib.hid (fun W h => by
        rw [← hO] at h
        exact ⟨cell_obj h 0 _ rfl, cell_obj h 1 _ rfl, cell_obj h 2 _ rfl, cell_obj h 3 _ rfl⟩)
      clear hIb hWb hO hob p0 p1 p2 p3 HI
      obtain ⟨q0, q1, q2, q3⟩ := hcells.out Wb HIb.out.bx
      have hcX : Hid (∀ W : World, Fr (fun b => w.heap.size ≤ b) w W → Il W (.slice xa xm xc) its) := Lib.hid (fun W hf => HX.out.fr hf (fun b hb => hb))
      by_cases hx : (xm : Int) ≤ 100
      · go_upto_block 2 with (fail)
        go_cut [3, 7] (fun s3 s7 wz => ∃ (g' : Nat) (B : Stk), s3 = .pointer (some ⟨g', 0, none⟩) ∧ s7 = .bool true ∧ DuI w g' gx B B ob (some O) wz)
        case first =>
          rcases (by omega : kd = 12 ∨ kd = 13 ∨ kd = 14 ∨ (kd ≠ 12 ∧ kd ≠ 13 ∧ kd ≠ 14)) with rfl | rfl | rfl | ⟨h12, h13, h14⟩
          · obtain ⟨c1, hc1⟩ : ∃ c, (countS A gd n).1 = c := ⟨_, rfl⟩
            obtain ⟨c2, hc2⟩ : ∃ c, (countS A gd n).2.1 = c := ⟨_, rfl⟩
            have hC := Lib.hid (dCount n HIb.out HG.out)
            rw [hc1, hc2] at hC
            have hCX : Hid (∀ W B, DuI w g gx B A ob (some O) W → Calls Try.prog 20 #[.pointer (some ⟨gx, 0, none⟩), vS gd, .int .i64 n] W fun e w' => e = .returned (.tuple #[.int .i64 c1, .int .i64 c2]) ∧ DuI w g gx B (countS A gd n).2.2 ob (some O) w') := Lib.hid (fun W B h => by
              have := dCountX (s := gd) n h
              rw [hc1, hc2] at this
              exact this)
            clear hc1 hc2
            go_wp2_with (first
              | (go_at_call 19; refine hC.out.mono ?_; rintro e w3 ⟨rfl, hI3⟩; have HI3 := Lib.hid hI3; obtain ⟨q0, q1, q2, q3⟩ := hcells.out w3 hI3.bx; clear hI3)
              | (go_at_call 20; refine (hCX.out _ _ HI3.out).mono ?_; rintro e w4 ⟨rfl, hI4⟩; have HI4 := Lib.hid hI4; clear hI4))
            go_meet
            exact ⟨g, _, rfl, rfl, HI4.out⟩
          · go_wp2_with (first
              | (go_at_call 21; refine (dFork HIb.out).mono ?_; rintro e w3 ⟨cg, rfl, hI3⟩; have HI3 := Lib.hid hI3; obtain ⟨q0, q1, q2, q3⟩ := hcells.out w3 hI3.bx; clear hI3)
              | (go_at_call 12; refine (fDo 1 HI3.out (HI3.out.il HX.out)).mono ?_; rintro e w4 ⟨⟨d4, rfl⟩, hI4⟩; have HI4 := Lib.hid hI4; obtain ⟨q0, q1, q2, q3⟩ := hcells.out w4 hI4.bx; clear hI4)
              | (go_at_call 19; refine (fCount n HI4.out HG.out).mono ?_; rintro e w5 ⟨⟨d5, e5, rfl⟩, hI5⟩; have HI5 := Lib.hid hI5; clear hI5))
            go_meet
            exact ⟨cg, A, rfl, rfl, HI5.out.drop⟩
          · go_wp2_with (first
              | (go_at_call 13; refine (dPack HIb.out).mono ?_; rintro e w3 ⟨v3, rfl, hv3, ho3, hI3, -⟩; have HI3 := Lib.hid hI3; have HV3 := Lib.hid hv3; have HO3 := Lib.hid ho3; clear hI3 hv3 ho3)
              | (go_at_call 14; refine (dUnpack HI3.out HV3.out HO3.out).mono ?_; rintro e w4 ⟨g4, rfl, hI4⟩; have HI4 := Lib.hid hI4; clear hI4))
            go_meet
            exact ⟨g4, A, rfl, rfl, HI4.out⟩
          · have b1 : (kd == 12) = false := by simp; omega
            have b2 : (kd == 13) = false := by simp; omega
            have b3 : (kd == 14) = false := by simp; omega
            obtain ⟨c1, hc1⟩ : ∃ c, (doS A kd its).1 = c := ⟨_, rfl⟩
            obtain ⟨B, hB⟩ : ∃ B, (doS A kd its).2 = B := ⟨_, rfl⟩
            have hDo : Hid (∀ W v, DuI w g gx A A ob (some O) W → Il W v its → Calls Try.prog 12 #[.pointer (some ⟨g, 0, none⟩), .int .i64 kd, v] W fun e w' => e = .returned (.int .i64 c1) ∧ DuI w g gx B A ob (some O) w') := Lib.hid (fun W v h hv => by
              have := dDo kd h hv
              rw [hc1, hB] at this
              exact this)
            have hDoX : Hid (∀ W v Y, DuI w g gx Y A ob (some O) W → Il W v its → Calls Try.prog 22 #[.pointer (some ⟨gx, 0, none⟩), .int .i64 kd, v] W fun e w' => e = .returned (.int .i64 c1) ∧ DuI w g gx Y B ob (some O) w') := Lib.hid (fun W v Y h hv => by
              have := dDoX kd h hv
              rw [hc1, hB] at this
              exact this)
            have hRD : Hid (Rd Wb 2 xa xm (itCs its)) := Lib.hid (by have := (hcX.out Wb HIb.out.fr).rd; rw [HXM.out] at this; exact this)
            have hoks : Hid (∀ p ∈ its, okS p.1 ∧ okI p.2) := Lib.hid (fun p hp => by
              obtain ⟨i, hi⟩ := List.getElem?_of_mem hp
              obtain ⟨_, _, _, _, hx⟩ := HX.out
              exact ⟨(hx i p hi).1, (hx i p hi).2.1⟩)
            obtain ⟨i0, hi', hz0, hz1, hz2⟩ := info_parts infoItem
            have Q0 := Lib.hid q0; have Q1 := Lib.hid q1
            clear hc1 hB
            go_upto_region 11 with (fail)
            go_region_held3 (fun w' => w'.cell? ⟨ob, 0, none⟩ = some (.int .i64 kd) ∧ w'.cell? ⟨ob, 1, none⟩ = some (.slice xa xm xc)) (first | exact ⟨(hcells.out _ HI5.out.bx).1, (hcells.out _ HI5.out.bx).2.1⟩ | exact ⟨(hcells.out _ HI4.out.bx).1, (hcells.out _ HI4.out.bx).2.1⟩ | (refine ⟨Fr.cell (S := fun _ => False) (w := Wb) ?_ Q0.out (fun h => h), Fr.cell (S := fun _ => False) (w := Wb) ?_ Q1.out (fun h => h)⟩ <;> (repeat (first | (with_reducible assumption) | (with_reducible refine Fr.alloc ?_ _) | (with_reducible exact Fr.refl _ _) | (with_reducible refine Fr.drew ?_) | (with_reducible refine Fr.setCell ?_ (fun h => absurd h (Nat.not_lt.2 ?_)) _) | (exact Nat.le_refl _) | (exact Fr.size (by assumption))))))
              (first
                | (refine step_append_src rfl (.tmp 42) (.tmp 44) 23 rfl Wb.heap.size 66 i0 (.agg #[.string ⟨#[]⟩, .int .i64 0]) 24 Try.underlying23 hi' hz0 hz1 hz2 rfl (by decide) (.slice (some ⟨Wb.heap.size, 0, none⟩) 0 0) 0 [] (by rfl) (by first | exact (Fr.refl (fun _ => False) _).drew.row (own_none (Nat.le_refl _)) (fun _ _ h => h) | exact own_none (Nat.le_refl _)) xc (by rfl) (hRD.out.fr (S := fun _ => False) (by (repeat (first | (with_reducible assumption) | (with_reducible refine Fr.alloc ?_ _) | (with_reducible exact Fr.refl _ _) | (with_reducible refine Fr.drew ?_) | (with_reducible refine Fr.setCell ?_ (fun h => absurd h (Nat.not_lt.2 ?_)) _) | (exact Nat.le_refl _) | (exact Fr.size (by assumption))))) (fun _ _ h => h)) (fun u hu => itCs_one hu) (by unfold maxLen; omega) (by omega) (by simp) ?_; intro v3 w3 hown3 hgrow3 hloc3; obtain ⟨a3, c3, rfl⟩ := row_sl hown3; have hD3 : Fr (fun _ => False) Wb w3 := (Fr.trans (S := fun b => Wb.heap.size ≤ b) ((by (repeat (first | (with_reducible assumption) | (with_reducible refine Fr.alloc ?_ _) | (with_reducible exact Fr.refl _ _) | (with_reducible refine Fr.drew ?_) | (with_reducible refine Fr.setCell ?_ (fun h => absurd h (Nat.not_lt.2 ?_)) _) | (exact Nat.le_refl _) | (exact Fr.size (by assumption)))) : Fr (fun _ => False) Wb _).mono (fun _ _ e => e.elim)) (Fr.grown hgrow3 (fun r hr _ => by cases hr; exact Nat.le_refl _))).mono (fun b hb e => absurd hb (Nat.not_lt.2 e)); have HV3 : Hid (Il w3 (.slice a3 (0 + xm) c3) its) := Lib.hid (Il.own (by have := hown3; rw [List.nil_append] at this; rw [HXM.out]; rw [Nat.zero_add] at this ⊢; exact this) hoks.out).1; clear hown3 hgrow3 hloc3)
                | (go_at_call 12; refine (hDo.out _ _ (HIb.out.keep (by (repeat (first | (with_reducible assumption) | (with_reducible refine Fr.alloc ?_ _) | (with_reducible exact Fr.refl _ _) | (with_reducible refine Fr.drew ?_) | (with_reducible refine Fr.setCell ?_ (fun h => absurd h (Nat.not_lt.2 ?_)) _) | (exact Nat.le_refl _) | (exact Fr.size (by assumption)))))) (by first | exact HV3.out | (have := HV3.out; rw [Nat.zero_add] at this; exact this))).mono ?_; rintro e w4 ⟨rfl, hI4⟩; have HI4 := Lib.hid hI4; clear hI4)
                | (go_at_call 22; refine (hDoX.out _ _ _ HI4.out (hcX.out _ HI4.out.fr)).mono ?_; rintro e w5 ⟨rfl, hI5⟩; have HI5 := Lib.hid hI5; clear hI5))
            all_goals
              go_wp2_with fail
              go_meet
              exact ⟨g, B, rfl, by simp, HI5.out⟩
        case rest =>
          obtain ⟨g', B, rfl, rfl, hIz⟩ := hcut
          have HI := Lib.hid hIz
          obtain ⟨z0, z1, z2, z3⟩ := hcells.out _ hIz.bx
          clear hIz q0 q1 q2 q3
          cases hm : mayL its with
          | true =>
            have HM := Lib.hid hm
            clear hm
            go_wp2_with (first
              | (go_at_call 23; refine (dOffer HI.out (hcX.out _ HI.out.fr)).mono ?_; rw [if_pos HM.out]; rintro e w6 ⟨v6, rfl, hv6, hI6, hf6⟩; obtain ⟨a6, c6, rfl⟩ := hv6.sl; have HV := Lib.hid hv6; have HI := Lib.hid hI6; obtain ⟨z0, z1, z2, z3⟩ := hcells.out _ hI6.bx; clear hv6 hI6 hf6)
              | (go_at_call 16; refine (dLooks HI.out).mono ?_; rintro e w7 ⟨rfl, hI7, hf7⟩; have HV := Lib.hid (HV.out.fr hf7 (fun _ h => h.elim)); have HI := Lib.hid hI7; obtain ⟨z0, z1, z2, z3⟩ := hcells.out _ hI7.bx; clear hI7 hf7)
              | (go_at_call 24; refine (r6May _ _ its (hcX.out _ HI.out.fr)).mono ?_; rw [HM.out]; rintro e w8 ⟨rfl, n8, rfl⟩; have HV := Lib.hid (HV.out.fr ((Fr.refl (fun _ => False) _).drewN n8) (fun _ h => h.elim)); have HI := Lib.hid (HI.out.keep ((Fr.refl _ _).drewN n8)); obtain ⟨z0, z1, z2, z3⟩ := hcells.out _ HI.out.bx)
              | (go_at_call 26; refine (dFree HI.out (hcX.out _ HI.out.fr) HM.out).mono ?_; rintro e w9 ⟨v9, rfl, hv9, hI9, hf9⟩; have HV := Lib.hid (HV.out.fr hf9 (fun _ h => h.elim)); have HV9 := Lib.hid hv9; have HI := Lib.hid hI9; obtain ⟨z0, z1, z2, z3⟩ := hcells.out _ hI9.bx; clear hI9 hf9 hv9)
              | (go_at_call 25; refine (r6Same _ _ _ _ _ HV.out HV9.out).mono ?_; rw [decide_eq_true rfl]; rintro e w10 ⟨rfl, n10, rfl⟩; have HI := Lib.hid (HI.out.keep ((Fr.refl _ _).drewN n10)); have HV := Lib.hid (HV.out.fr ((Fr.refl (fun _ => False) _).drewN n10) (fun _ h => h.elim)); obtain ⟨z0, z1, z2, z3⟩ := hcells.out _ HI.out.bx))
            go_roundw
            case rel =>
              have hI := HI.out.unbox
              try simp only [World.drewN_drewN] at hI
              exact ⟨k + 1, g', B, by omega, by go_num, rfl, hI⟩
            case measure => simp [intOf]; omega
          | false =>
            have HM := Lib.hid hm
            clear hm
            go_wp2_with (first
              | (go_at_call 23; refine (dOffer HI.out (hcX.out _ HI.out.fr)).mono ?_; rw [if_neg (by rw [HM.out]; decide)]; rintro e w6 ⟨v6, rfl, hv6, hI6, hf6⟩; obtain ⟨a6, c6, rfl⟩ := hv6.sl; have HI := Lib.hid hI6; obtain ⟨z0, z1, z2, z3⟩ := hcells.out _ hI6.bx; clear hv6 hI6 hf6)
              | (go_at_call 16; refine (dLooks HI.out).mono ?_; rintro e w7 ⟨rfl, hI7, hf7⟩; have HI := Lib.hid hI7; obtain ⟨z0, z1, z2, z3⟩ := hcells.out _ hI7.bx; clear hI7 hf7)
              | (go_at_call 24; refine (r6May _ _ its (hcX.out _ HI.out.fr)).mono ?_; rw [HM.out]; rintro e w8 ⟨rfl, n8, rfl⟩; have HI := Lib.hid (HI.out.keep ((Fr.refl _ _).drewN n8)); obtain ⟨z0, z1, z2, z3⟩ := hcells.out _ HI.out.bx))
            go_roundw
            case rel =>
              have hI := HI.out.unbox
              try simp only [World.drewN_drewN] at hI
              exact ⟨k + 1, g', B, by omega, by go_num, rfl, hI⟩
            case measure => simp [intOf]; omega
      · go_wp2_with fail
        go_roundw
        case rel => exact ⟨k + 1, g, A, by omega, by go_num, rfl, HIb.out.unbox⟩
        case measure => simp [intOf]; omega
    · have hkN : k = N := by omega
      subst hkN
      obtain ⟨S, hS⟩ : ∃ S, strOfNums (packS A) = S := ⟨_, rfl⟩
      have hSS := Lib.hid hS
      clear hS
      go_wp2_with fail
      have HI := Lib.hid (HI.out.keep (Fr.refl _ wr).drew)
      go_region_with (first
        | (go_at_call 13; refine (dPack HI.out).mono ?_; rintro e w3 ⟨v3, rfl, hv3, -, hI3, hf3⟩; have HI := Lib.hid hI3; have HV3 := Lib.hid hv3; have hs3 := hv3.string; rw [hSS.out] at hs3; clear hI3 hv3 hf3)
        | (go_at_call 27; refine (dPackX HI.out).mono ?_; rintro e w4 ⟨v4, rfl, hv4, hI4, hf4⟩; have HI := Lib.hid hI4; have hs4 := hv4.string; rw [hSS.out] at hs4; (first | (have hs3 := (HV3.out.fr hf4 (fun _ h => h.elim)).string; rw [hSS.out] at hs3) | skip); clear hI4 hv4 hf4))
      all_goals
        go_wp2_with fail
        go_ret
        exact ⟨rfl, HI.out.fr.toBelow (fun b h => h) (Nat.le_refl _)⟩
set_option maxRecDepth 100000 in
theorem lifted (os : Os) (started : os.Started) (H : Type) (enc : TypeId × Value → H) :
    ReturnsInHanded {} Try.checked os 7 .any (Rows.stockDoesSpec.pre6 enc Try.prog Try.f7 Rows.stockDoesRow.domain false) (Rows.stockDoesSpec.post enc Try.prog Try.f7 false true false false) := by
  refine returnsInHanded_of_change (C := Try.checked) own started (by kernel_rfl) Try.func7
    (ChangeSpec.witness6 (enc := enc) (C := Try.checked) false ⟨#[], #[.slice none 0 0], []⟩ 8 (by kernel_rfl) (by kernel_rfl) (by kernel_rfl) (by kernel_rfl)) ?_
  intro W base args ds gs before hval0 hW hcnd _
  have hval : ∀ (j : Nat) t v, Try.f7.params[j]? = some t → args[j]? = some v → Value.okWide Try.prog W .any base t v := hval0
  have hW' := hW
  obtain ⟨p, q, hA0, hV, rfl, hfz, hnd⟩ := hW
  have hA : DataW.TrodAll enc Try.prog W 0 (fun _ => true) true Try.f7.params.toList args.toList ds p := hA0
  rw [Try.params7] at hA hval
  obtain ⟨v0, vs0, d0, ds0, p0, q0, hargs, rfl, rfl, h0, r0⟩ := trodAll_cons hA
  obtain ⟨rfl, rfl, rfl⟩ := trodAll_nil r0
  obtain rfl : args = #[v0] := by cases args; simp_all
  obtain ⟨rfl, rfl⟩ := trodVars_none hV
  obtain ⟨L0, hL0⟩ := open_sops (hval 0 22 v0 rfl rfl) h0
  clear hA0 hval0
  simp only [List.append_nil] at hW'
  refine (walk v0 L0 W hL0).mono fun e W' ⟨he, hg⟩ => ?_
  subst he
  exact ⟨_, rfl, law_post laidOut (by kernel_rfl) rfl Try.underlying4 hW' rfl rfl hg⟩
theorem over : Rows.stockDoesRow.holds Try.pinned (OpenSpec.ofChange Rows.stockDoesSpec) :=
  OpenClaim.holds_of_wide 7 Try.f7 rfl rfl rfl rfl rfl rfl rfl ⟨rfl, rfl, rfl, rfl, rfl⟩ rfl rfl rfl rfl rfl (by kernel_rfl) Try.func7 (by kernel_rfl)
    (of_decide_eq_true (by kernel_rfl)) (by unfold Func.isWrapper; first | (rw [if_pos (by decide +kernel)]; kernel_rfl) | (rw [if_neg (by decide +kernel)]; exact ⟨rfl, rfl⟩))
    (fun os started H enc _ => lifted os started H enc)
theorem proved : Rows.StockDoesSaid :=
  over
#print axioms proved
end Go.Proofs.Ytclgmnobockfnaa.stockDoes
