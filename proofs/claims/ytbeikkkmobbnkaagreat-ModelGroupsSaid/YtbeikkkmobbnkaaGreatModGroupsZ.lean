/- model: for every input ModelGroups returns true and leaves its input as it was; no condition. -/
import Derived.Test.YtbeikkkmobbnkaaGreatRows
import Derived.Test.YtbeikkkmobbnkaaGreatModGroupsM42
import Derived.Test.YtbeikkkmobbnkaaGreatModGroupsM43
import Derived.Test.YtbeikkkmobbnkaaGreatModGroupsM48
import Derived.Test.YtbeikkkmobbnkaaGreatModGroupsM51
import Derived.Test.YtbeikkkmobbnkaaGreatModGroupsM2
import Derived.Test.YtbeikkkmobbnkaaGreatModGroupsM1
import Derived.Deep.RegionHeld3
namespace Go.Proofs.YtbeikkkmobbnkaaGreat.modelGroups
open Go.ChangeShapes Go.WideShapes Go.ChangeAt Go.RowKit Go.Maps
attribute [local go_sem] Oper.semAt_some
theorem small_len {L : List AV} {K : Nat} (h : smallF L K = true) : L.length ≤ 40 := by
  unfold smallF at h
  simp only [Bool.and_eq_true, decide_eq_true_eq] at h
  exact h.1.1
theorem sameT (w : World) (u v : Value) (A : Its) (hA : Il w u A) (hB : Il w v A) : Calls Tryz.prog 20 #[u, v] w fun e w' => e = .returned (.bool true) ∧ Fr (fun _ => False) w w' := by
  refine (r6Same w u v A A hA hB).mono ?_
  rintro e w' ⟨he, n, hw⟩
  exact ⟨by rw [he]; simp, by rw [hw]; exact (Fr.refl _ w).drewN n⟩
theorem want_zero (L : List AV) : wantF 0 L = [] := by
  unfold wantF
  have : (rightL L).find? (isW 0) = none := by
    rw [List.find?_eq_none]
    intro x _
    unfold isW
    simp
    omega
  rw [this]
theorem kWantX (w : World) (od : Int) (v : Value) (L : List AV) (h : Al w v L) : Calls Tryz.prog 21 #[.int .i64 od, v] w fun e w' => ∃ a c, e = .returned (.slice a (wantF od L).length c) ∧ Il w' (.slice a (wantF od L).length c) (wantF od L) ∧ Fr (fun _ => False) w w' := by
  refine (kWanted w od v L h).mono ?_
  rintro e w' ⟨v', rfl, hi, hf⟩
  obtain ⟨a, c, rfl⟩ := hi.sl
  exact ⟨a, c, rfl, hi, hf⟩
theorem rWantX (w : World) (od : Int) (v : Value) (L : List AV) (h : Al w v L) : Calls Tryz.prog 22 #[.int .i64 od, v] w fun e w' => ∃ a c, e = .returned (.slice a (wantF od L).length c) ∧ Il w' (.slice a (wantF od L).length c) (wantF od L) ∧ Fr (fun _ => False) w w' := by
  refine (r25Wanted w od v L h).mono ?_
  rintro e w' ⟨v', rfl, hi, hf⟩
  obtain ⟨a, c, rfl⟩ := hi.sl
  exact ⟨a, c, rfl, hi, hf⟩
set_option maxRecDepth 100000 in
set_option maxHeartbeats 16000000 in
theorem walk (c n : Int) (v vy : Value) (L : List AV) (Y : List YV) (w : World) (hc : okI c) (hn : okI n) (hL : Al w v L) (hY : Yl w vy Y) :
    Calls Tryz.prog 6 #[.int .i64 c, .int .i64 n, v, vy] w fun e w' => e = .returned (.bool true) ∧ Below w.heap.size w w' := by
  have HL := Lib.hid hL; have HY := Lib.hid hY
  have hNI := hL.len; have hKI := hY.len
  obtain ⟨va, vc, rfl⟩ := hL.sl
  obtain ⟨ya, yc, rfl⟩ := hY.sl
  obtain ⟨N, hN⟩ : ∃ N, L.length = N := ⟨_, rfl⟩
  obtain ⟨K, hK⟩ : ∃ K, Y.length = K := ⟨_, rfl⟩
  rw [hN] at HL hNI ⊢
  rw [hK] at HY hKI ⊢
  have HN := Lib.hid hN; have HK := Lib.hid hK
  have hsm := lwSmall w (.slice va N vc) L ya K yc HL.out hKI
  obtain ⟨s, hs⟩ : ∃ s, smallF L K = s := ⟨_, rfl⟩
  rw [hs] at hsm
  have HSM := Lib.hid hsm; have HSF := Lib.hid hs
  have HC := Lib.hid hc; have HNN := Lib.hid hn
  clear hL hY hN hK hs hsm hc hn
  cases s
  · go_enter Tryz.func6, Tryz.ntmps6
    go_wp2_with (first
      | (go_at_call 7; refine HSM.out.mono ?_; rintro e w1 ⟨rfl, hf1⟩; have HF1 := Lib.hid hf1; clear hf1)
      | (go_at_call 8; refine (mdLives _).mono ?_; rintro e w2 ⟨rfl, hf2⟩; have HF2 := Lib.hid hf2; clear hf2))
    go_ret
    exact ⟨rfl, (HF1.out.trans HF2.out).toBelow (fun b h => h.elim) (Nat.le_refl _)⟩
  · have hlen : Hid (L.length ≤ 1000) := Lib.hid (by have := small_len HSF.out; omega)
    obtain ⟨PB, hPB⟩ : ∃ b, plainL (grpL c n L) = b := ⟨_, rfl⟩
    obtain ⟨ST, hST⟩ : ∃ b, stF c n Y = b := ⟨_, rfl⟩
    obtain ⟨O, hO⟩ : ∃ O, ordR L = O := ⟨_, rfl⟩
    have hk := ord_keys L
    rw [hO] at hk
    have hP1 : Hid (∀ W, Fr (fun _ => False) w W → Calls Tryz.prog 14 #[.int .i64 c, .int .i64 n, .slice va N vc] W fun e w' => e = .returned (.bool PB) ∧ Fr (fun _ => False) W w') := Lib.hid (fun W hf => by
      have := kPlainT W c n (.slice va N vc) L HC.out HNN.out (HL.out.fr0 aokKeeps hf) hlen.out
      rw [hPB] at this; exact this)
    have hP2 : Hid (∀ W, Fr (fun _ => False) w W → Calls Tryz.prog 15 #[.int .i64 c, .int .i64 n, .slice va N vc] W fun e w' => e = .returned (.bool PB) ∧ Fr (fun _ => False) W w') := Lib.hid (fun W hf => by
      have := r25Plain W c n (.slice va N vc) L (HL.out.fr0 aokKeeps hf) hlen.out
      rw [hPB] at this; exact this)
    have hS1 : Hid (∀ W, Fr (fun _ => False) w W → Calls Tryz.prog 16 #[.int .i64 c, .int .i64 n, .slice ya K yc] W fun e w' => e = .returned (.int .i64 ST) ∧ Fr (fun _ => False) W w') := Lib.hid (fun W hf => by
      have := kState W c n (.slice ya K yc) Y (HY.out.fr0 yokKeeps hf)
      rw [hST] at this; exact this)
    have hS2 : Hid (∀ W, Fr (fun _ => False) w W → Calls Tryz.prog 17 #[.int .i64 c, .int .i64 n, .slice ya K yc] W fun e w' => e = .returned (.int .i64 ST) ∧ Fr (fun _ => False) W w') := Lib.hid (fun W hf => by
      have := r25State W c n (.slice ya K yc) Y (HY.out.fr0 yokKeeps hf)
      rw [hST] at this; exact this)
    obtain ⟨M, hM⟩ : ∃ M, O.length = M := ⟨_, rfl⟩
    have hO1 : Hid (∀ W, Fr (fun _ => False) w W → Calls Tryz.prog 18 #[.slice va N vc] W fun e w' => ∃ a q, e = .returned (.slice a M q) ∧ w'.ownsRow W.heap.size 3 1 (.slice a M q) M (O.map vI) ∧ Fr (fun _ => False) W w') := Lib.hid (fun W hf => by
      refine (kOrders W (.slice va N vc) L (HL.out.fr0 aokKeeps hf) hlen.out).mono ?_
      rintro e w' ⟨v', rfl, ho, hf'⟩
      have e1 : (ordL (rightL L)).length = M := by rw [← hM, ← hk]; simp
      have e2 : ((ordL (rightL L)).map fun p => Value.int .i64 p.1) = O.map vI := by rw [← hk, List.map_map]; rfl
      rw [e1, e2] at ho
      obtain ⟨a, q, rfl⟩ := row_sl ho
      exact ⟨a, q, rfl, ho, hf'⟩)
    have hO2 : Hid (∀ W, Fr (fun _ => False) w W → Calls Tryz.prog 19 #[.slice va N vc] W fun e w' => ∃ a q, e = .returned (.slice a M q) ∧ w'.ownsRow W.heap.size 3 1 (.slice a M q) M (O.map vI) ∧ Fr (fun _ => False) W w') := Lib.hid (fun W hf => by
      refine (r25Orders W (.slice va N vc) L (HL.out.fr0 aokKeeps hf) hlen.out).mono ?_
      rintro e w' ⟨v', rfl, ho, hf'⟩
      rw [hO, hM] at ho
      obtain ⟨a, q, rfl⟩ := row_sl ho
      exact ⟨a, q, rfl, ho, hf'⟩)
    have hW1 : Hid (∀ W od, Fr (fun _ => False) w W → Calls Tryz.prog 21 #[.int .i64 od, .slice va N vc] W fun e w' => ∃ a q, e = .returned (.slice a (wantF od L).length q) ∧ Il w' (.slice a (wantF od L).length q) (wantF od L) ∧ Fr (fun _ => False) W w') := Lib.hid (fun W od hf => kWantX W od _ L (HL.out.fr0 aokKeeps hf))
    have hW2 : Hid (∀ W od, Fr (fun _ => False) w W → Calls Tryz.prog 22 #[.int .i64 od, .slice va N vc] W fun e w' => ∃ a q, e = .returned (.slice a (wantF od L).length q) ∧ Il w' (.slice a (wantF od L).length q) (wantF od L) ∧ Fr (fun _ => False) W w') := Lib.hid (fun W od hf => rWantX W od _ L (HL.out.fr0 aokKeeps hf))
    have hW0 : Hid (∀ W, Fr (fun _ => False) w W → Calls Tryz.prog 21 #[.int .i64 0, .slice va N vc] W fun e w' => ∃ a q, e = .returned (.slice a 0 q) ∧ Fr (fun _ => False) W w') := Lib.hid (fun W hf => by
      refine (kWantX W 0 _ L (HL.out.fr0 aokKeeps hf)).mono ?_
      rintro e w' ⟨a, q, rfl, -, hf'⟩
      rw [want_zero]
      exact ⟨a, q, rfl, hf'⟩)
    have HM := Lib.hid hM
    clear hPB hST hO hk hM
    go_enter Tryz.func6, Tryz.ntmps6
    go_wp2_with (first
      | (go_at_call 7; refine HSM.out.mono ?_; rintro e w1 ⟨rfl, hf1⟩; have HF1 := Lib.hid hf1; clear hf1)
      | (go_at_call 8; refine (mdLives _).mono ?_; rintro e w2 ⟨rfl, hf2⟩; have HF2 := Lib.hid (HF1.out.trans hf2); clear hf2)
      | (go_at_call 14; refine (hP1.out _ HF2.out).mono ?_; rintro e w3 ⟨rfl, hf3⟩; have HF3 := Lib.hid (HF2.out.trans hf3); clear hf3)
      | (go_at_call 15; refine (hP2.out _ HF3.out).mono ?_; rintro e w4 ⟨rfl, hf4⟩; have HF4 := Lib.hid (HF3.out.trans hf4); clear hf4)
      | (go_at_call 16; refine (hS1.out _ HF4.out).mono ?_; rintro e w5 ⟨rfl, hf5⟩; have HF5 := Lib.hid (HF4.out.trans hf5); clear hf5)
      | (go_at_call 17; refine (hS2.out _ HF5.out).mono ?_; rintro e w6 ⟨rfl, hf6⟩; have HF6 := Lib.hid (HF5.out.trans hf6); clear hf6)
      | (go_at_call 18; refine (hO1.out _ HF6.out).mono ?_; rintro e w7 ⟨ao, qo, rfl, ho7, hf7⟩; have HF7 := Lib.hid (HF6.out.trans hf7); have HO7 := Lib.hid ho7; clear hf7 ho7)
      | (go_at_call 19; refine (hO2.out _ HF7.out).mono ?_; rintro e w8 ⟨ar, qr, rfl, ho8, hf8⟩; have HF8 := Lib.hid (HF7.out.trans hf8); have HO8 := Lib.hid ho8; have HO7 := Lib.hid (hf8.row HO7.out (fun _ _ e => e)); clear hf8 ho8))
    have hMI : (M : Int) ≤ 9223372036854775807 := by have := own_len HO8.out; omega
    go_loopw [11] (fun i wr => ∃ j : Nat, j ≤ M ∧ i = .int .i64 j ∧ Fr (fun _ => False) w8 wr) (fun i _ => M - (intOf i).toNat)
    case atStart => exact ⟨0, Nat.zero_le _, rfl, Fr.refl _ _⟩
    case round =>
      obtain ⟨j, hj, rfl, hfr⟩ := hrel
      have HFR := Lib.hid hfr; have HFW := Lib.hid (HF8.out.trans hfr)
      by_cases hlt : j < M
      · obtain ⟨x, hx⟩ : ∃ x, O[j]? = some x := ⟨O[j]'(by rw [HM.out]; exact hlt), List.getElem?_eq_getElem _⟩
        have hjI : (j : Int) < M := by omega
        obtain ⟨ad, rfl, c1⟩ := (Rd.own (hfr.row HO7.out (fun _ _ e => e))).at_ (k := j) (u := vI x) (by omega) (by rw [List.getElem?_map, hx]; rfl)
        obtain ⟨bd, rfl, c2⟩ := (Rd.own (hfr.row HO8.out (fun _ _ e => e))).at_ (k := j) (u := vI x) (by omega) (by rw [List.getElem?_map, hx]; rfl)
        have C1 := Lib.hid c1; have C2 := Lib.hid c2
        clear hx hfr
        obtain ⟨WL, hWL⟩ : ∃ WL, wantF x L = WL := ⟨_, rfl⟩
        have h1 := fun W hf => hW1.out W x hf
        have h2 := fun W hf => hW2.out W x hf
        rw [hWL] at h1 h2
        have H1 := Lib.hid h1; have H2 := Lib.hid h2
        clear h1 h2 hWL
        obtain ⟨WN, hWN⟩ : ∃ WN, WL.length = WN := ⟨_, rfl⟩
        rw [hWN] at H1 H2
        clear hWN
        go_upto_region 11 with (fail)
        go_cut [80] (fun s wx => s = .bool false ∧ Fr (fun _ => False) wr wx)
        case first =>
          have hX : Hid (Fr (fun _ => False) wr wr.drew) := Lib.hid (Fr.refl _ wr).drew
          go_region_held3 (fun w' => w'.cell? (ad.add j) = some (.int .i64 x) ∧ w'.cell? (bd.add j) = some (.int .i64 x)) (first | (refine ⟨Fr.cell (S := fun _ => False) (w := wr) ?_ C1.out (fun h => h), Fr.cell (S := fun _ => False) (w := wr) ?_ C2.out (fun h => h)⟩ <;> (repeat (first | (with_reducible assumption) | (with_reducible exact Fr.refl _ _) | (with_reducible refine Fr.alloc ?_ _) | (with_reducible refine Fr.drew ?_) | (with_reducible refine Fr.setCell ?_ (fun h => absurd h (Nat.not_lt.2 ?_)) _) | (exact Nat.le_refl _) | (exact Fr.size (by assumption))))))
            (first
              | (go_at_call 21; refine (H1.out _ (HFW.out.trans (by (repeat (first | (with_reducible assumption) | (with_reducible exact Fr.refl _ _) | (with_reducible refine Fr.alloc ?_ _) | (with_reducible refine Fr.drew ?_) | (with_reducible refine Fr.setCell ?_ (fun h => absurd h (Nat.not_lt.2 ?_)) _) | (exact Nat.le_refl _) | (exact Fr.size (by assumption))))))).mono ?_; rintro e w9 ⟨a9, q9, rfl, hi9, hf9⟩; have hF9 : Fr (fun _ => False) wr w9 := Fr.trans (by (repeat (first | (with_reducible assumption) | (with_reducible exact Fr.refl _ _) | (with_reducible refine Fr.alloc ?_ _) | (with_reducible refine Fr.drew ?_) | (with_reducible refine Fr.setCell ?_ (fun h => absurd h (Nat.not_lt.2 ?_)) _) | (exact Nat.le_refl _) | (exact Fr.size (by assumption))))) hf9; have HI9 := Lib.hid hi9; clear hi9 hf9)
              | (go_at_call 22; refine (H2.out _ (HFW.out.trans (by (repeat (first | (with_reducible assumption) | (with_reducible exact Fr.refl _ _) | (with_reducible refine Fr.alloc ?_ _) | (with_reducible refine Fr.drew ?_) | (with_reducible refine Fr.setCell ?_ (fun h => absurd h (Nat.not_lt.2 ?_)) _) | (exact Nat.le_refl _) | (exact Fr.size (by assumption))))))).mono ?_; rintro e w10 ⟨a10, q10, rfl, hi10, hf10⟩; have hF10 : Fr (fun _ => False) wr w10 := Fr.trans (by (repeat (first | (with_reducible assumption) | (with_reducible exact Fr.refl _ _) | (with_reducible refine Fr.alloc ?_ _) | (with_reducible refine Fr.drew ?_) | (with_reducible refine Fr.setCell ?_ (fun h => absurd h (Nat.not_lt.2 ?_)) _) | (exact Nat.le_refl _) | (exact Fr.size (by assumption))))) hf10; have HI10 := Lib.hid hi10; have HI9 := Lib.hid (HI9.out.fr hf10 (fun _ e => e.elim)); clear hi10 hf10)
              | (go_at_call 20; refine (sameT _ _ _ _ HI9.out HI10.out).mono ?_; rintro e w11 ⟨rfl, hf11⟩; have hF11 : Fr (fun _ => False) wr w11 := Fr.trans (by (repeat (first | (with_reducible assumption) | (with_reducible exact Fr.refl _ _) | (with_reducible refine Fr.alloc ?_ _) | (with_reducible refine Fr.drew ?_) | (with_reducible refine Fr.setCell ?_ (fun h => absurd h (Nat.not_lt.2 ?_)) _) | (exact Nat.le_refl _) | (exact Fr.size (by assumption))))) hf11; clear hf11))
          all_goals
            go_wp2_with fail
            go_meet
            exact ⟨rfl, hF11⟩
        case rest =>
          obtain ⟨rfl, hfx⟩ := hcut
          have HFX := Lib.hid (HFR.out.trans hfx)
          clear hfx
          go_wp2_with fail
          go_roundw
          case rel => exact ⟨j + 1, by omega, by go_num, HFX.out⟩
          case measure => simp [intOf]; omega
      · have hjI : ¬ (j : Int) < M := by omega
        clear hfr
        obtain ⟨WL, hWL⟩ : ∃ WL, wantF n L = WL := ⟨_, rfl⟩
        have h1 := fun W hf => hW1.out W n hf
        have h2 := fun W hf => hW2.out W n hf
        rw [hWL] at h1 h2
        have H1 := Lib.hid h1; have H2 := Lib.hid h2
        clear h1 h2 hWL
        obtain ⟨WN, hWN⟩ : ∃ WN, WL.length = WN := ⟨_, rfl⟩
        rw [hWN] at H1 H2
        clear hWN
        go_wp2_with (first
          | (go_at_call 21; ((with_reducible refine (H1.out _ HFW.out).mono ?_); rintro e w9 ⟨a9, q9, rfl, hi9, hf9⟩; have HFW9 := Lib.hid (HFW.out.trans hf9); have HI9 := Lib.hid hi9; clear hi9 hf9))
          | (go_at_call 22; ((with_reducible refine (H2.out _ HFW9.out).mono ?_); rintro e w10 ⟨a10, q10, rfl, hi10, hf10⟩; have HFW10 := Lib.hid (HFW9.out.trans hf10); have HI10 := Lib.hid hi10; have HI9 := Lib.hid (HI9.out.fr hf10 (fun _ e => e.elim)); clear hi10 hf10))
          | (go_at_call 20; ((with_reducible refine (sameT _ _ _ _ HI9.out HI10.out).mono ?_); rintro e w11 ⟨rfl, hf11⟩; have HFW11 := Lib.hid (HFW10.out.trans hf11); clear hf11))
          | (go_at_call 21; ((with_reducible refine (hW0.out _ HFW11.out).mono ?_); rintro e w12 ⟨a12, q12, rfl, hf12⟩; have HFW12 := Lib.hid (HFW11.out.trans hf12); clear hf12)))
        go_ret
        exact ⟨rfl, HFW12.out.toBelow (fun b h => h.elim) (Nat.le_refl _)⟩
set_option maxRecDepth 100000 in
theorem lifted (os : Os) (started : os.Started) (H : Type) (enc : TypeId × Value → H) :
    ReturnsInHanded {} Tryz.checked os 6 .any (Rows.modelGroupsSpec.pre6 enc Tryz.prog Tryz.f6 Rows.modelGroupsRow.domain false) (Rows.modelGroupsSpec.post enc Tryz.prog Tryz.f6 false true false false) := by
  refine returnsInHanded_of_change (C := Tryz.checked) own started (by kernel_rfl) Tryz.func6
    (ChangeSpec.witness6 (enc := enc) (C := Tryz.checked) false ⟨#[], #[.int .i64 0, .int .i64 0, .slice none 0 0, .slice none 0 0], []⟩ 8 (by kernel_rfl) (by kernel_rfl) (by kernel_rfl) (by kernel_rfl)) ?_
  intro W base args ds gs before hval0 hW hcnd _
  have hval : ∀ (j : Nat) t v, Tryz.f6.params[j]? = some t → args[j]? = some v → Value.okWide Tryz.prog W .any base t v := hval0
  have hW' := hW
  obtain ⟨p, q, hA0, hV, rfl, hfz, hnd⟩ := hW
  have hA : DataW.TrodAll enc Tryz.prog W 0 (fun _ => true) true Tryz.f6.params.toList args.toList ds p := hA0
  rw [Tryz.params6] at hA hval
  obtain ⟨v0, vs0, d0, ds0, p0, q0, hargs, rfl, rfl, h0, r0⟩ := trodAll_cons hA
  obtain ⟨v1, vs1, d1, ds1, p1, q1, rfl, rfl, rfl, h1, r1⟩ := trodAll_cons r0
  obtain ⟨v2, vs2, d2, ds2, p2, q2, rfl, rfl, rfl, h2, r2⟩ := trodAll_cons r1
  obtain ⟨v3, vs3, d3, ds3, p3, q3, rfl, rfl, rfl, h3, r3⟩ := trodAll_cons r2
  obtain ⟨rfl, rfl, rfl⟩ := trodAll_nil r3
  obtain rfl : args = #[v0, v1, v2, v3] := by cases args; simp_all
  obtain ⟨rfl, rfl⟩ := trodVars_none hV
  obtain ⟨a0, rfl, rfl, rfl, w0⟩ := open_int Tryz.underlying3 (hval 0 3 v0 rfl rfl) h0
  obtain ⟨a1, rfl, rfl, rfl, w1⟩ := open_int Tryz.underlying3 (hval 1 3 v1 rfl rfl) h1
  obtain ⟨L2, hL2⟩ := open_asks (hval 2 22 v2 rfl rfl) h2
  obtain ⟨L3, hL3⟩ := open_answers (hval 3 23 v3 rfl rfl) h3
  clear hA0 hval0
  simp only [List.append_nil] at hW'
  refine (walk a0 a1 v2 v3 L2 L3 W (wf_okI.1 w0) (wf_okI.1 w1) hL2 hL3).mono fun e W' ⟨he, hg⟩ => ?_
  subst he
  exact ⟨_, rfl, law_post laidOut (by kernel_rfl) rfl Tryz.underlying4 hW' rfl rfl hg⟩
theorem over : Rows.modelGroupsRow.holds Tryz.pinned (OpenSpec.ofChange Rows.modelGroupsSpec) :=
  OpenClaim.holds_of_wide 6 Tryz.f6 rfl rfl rfl rfl rfl rfl rfl ⟨rfl, rfl, rfl, rfl, rfl⟩ rfl rfl rfl rfl rfl (by kernel_rfl) Tryz.func6 (by kernel_rfl)
    (of_decide_eq_true (by kernel_rfl)) (by unfold Func.isWrapper; first | (rw [if_pos (by decide +kernel)]; kernel_rfl) | (rw [if_neg (by decide +kernel)]; exact ⟨rfl, rfl⟩))
    (fun os started H enc _ => lifted os started H enc)
theorem proved : Rows.ModelGroupsSaid :=
  over
#print axioms proved
end Go.Proofs.YtbeikkkmobbnkaaGreat.modelGroups
