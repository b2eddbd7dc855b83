/- entrepotref07: Do. -/
import Derived.Test.YtogphlnakdnchaaGreatHoldBackM6
import Derived.Test.YtogphlnakdnchaaGreatHoldBackM1
import Derived.Deep.DeepCutAuto
import Derived.Deep.RegionHeld3
namespace Go.Proofs.YtogphlnakdnchaaGreat
open Go.RowKit Go.Maps
/-- The document's fold: each row is made of the stock ahead. -/
def dofR (k : Int) (A : Stk) : Stk → Its → Option Stk
  | B, [] => some B
  | B, p :: t => if ((rowAt A p.1).move k p.2).right = true then dofR k A (putS ktS.lt B p.1 ((rowAt A p.1).move k p.2)) t else none
theorem dofR_eq (k : Int) (A : Stk) : ∀ {L : Its} {B : Stk} {last : Str}, itsOk last L = true → RiseS B → (∀ p ∈ L, rowAt B p.1 = rowAt A p.1) → dofR k A B L = doFold k B L
  | [], _, _, _, _, _ => rfl
  | p :: t, B, last, h, hB, hr => by
    obtain ⟨-, -, -, -, h5⟩ := its_cons h
    have hp := hr p (by simp)
    unfold dofR doFold
    rw [hp]
    split
    · refine dofR_eq k A h5 (riseS_put hB) (fun q hq => ?_)
      have hlt := ((its_all h5).2 q hq).2.2.2
      rw [rowAt_put hB, if_neg (fun e => str_irr _ (e ▸ hlt))]
      exact hr q (by simp [hq])
    · rfl
def fin3 (A : Stk) (Z : Option Stk) : Int × Stk := match Z with
  | none => (50, A)
  | some B => if 64 < B.length then (2, A) else (0, B)
theorem haveF_some {k : Int} {i : Nat} (h : (roadF k).1 = some i) (r : SR) : haveF k r = r.get i := by unfold haveF; rw [h]
theorem doS_fin {A : Stk} {k : Int} {L : Its} (hA : SOk A) (hk : 1 ≤ k ∧ k ≤ 11) (hm : mayL L = true) (h : doMay A k L = 0) : doS A k L = fin3 A (dofR k A A L) := by
  unfold doS
  rw [if_neg (by omega), if_neg (by rw [hm]; decide), if_neg (by rw [h]; decide), dofR_eq k A (mayL_iff.1 hm).1 hA.rise (fun _ _ => rfl)]
  unfold fin3
  cases doFold k A L <;> rfl
theorem doS_err {A : Stk} {k : Int} {L : Its} {e : Int} (hk : 1 ≤ k ∧ k ≤ 11) (hm : mayL L = true) (h : doMay A k L = e) (he : e ≠ 0) : doS A k L = (e, A) := by
  unfold doS
  rw [if_neg (by omega), if_neg (by rw [hm]; decide), if_pos (by rw [h]; exact he), h]
theorem dMay_71 {A : Stk} {k : Int} {L : Its} {p : Str × Int} (hk : (roadF k).1.isSome = true) (hp : p ∈ L) (hn : getS A p.1 = none) : doMay A k L = 71 := by
  unfold doMay
  cases hr : (roadF k).1 with
  | none => rw [hr] at hk; cases hk
  | some i =>
    dsimp only
    rw [if_pos (List.any_eq_true.2 ⟨p, hp, by rw [hn]; rfl⟩)]
theorem dMay_51 {A : Stk} {k : Int} {L : Its} {p : Str × Int} (hk : (roadF k).1.isSome = true) (hall : ∀ q ∈ L, (getS A q.1).isSome = true) (hp : p ∈ L) (hn : haveF k (rowAt A p.1) < p.2) : doMay A k L = 51 := by
  unfold doMay
  cases hr : (roadF k).1 with
  | none => rw [hr] at hk; cases hk
  | some i =>
    rw [haveF_some hr] at hn
    dsimp only
    rw [if_neg (fun e => by
      obtain ⟨q, hq, e⟩ := List.any_eq_true.1 e
      have := hall q hq
      cases h : getS A q.1 <;> simp_all), if_pos (List.any_eq_true.2 ⟨p, hp, by simpa using hn⟩)]
theorem dMay_00 {A : Stk} {k : Int} {L : Its} (h : (roadF k).1.isSome = true → (∀ q ∈ L, (getS A q.1).isSome = true) ∧ ∀ q ∈ L, q.2 ≤ haveF k (rowAt A q.1)) : doMay A k L = 0 := by
  unfold doMay
  cases hr : (roadF k).1 with
  | none => rfl
  | some i =>
    obtain ⟨h1, h2⟩ := h (by rw [hr]; rfl)
    dsimp only
    rw [if_neg (fun e => by
      obtain ⟨q, hq, e⟩ := List.any_eq_true.1 e
      have := h1 q hq
      cases h : getS A q.1 <;> simp_all), if_neg (fun e => by
      obtain ⟨q, hq, e⟩ := List.any_eq_true.1 e
      have := h2 q hq
      rw [haveF_some hr] at this
      simp at e
      omega)]
theorem road_some {k : Int} (hk : 1 ≤ k ∧ k ≤ 11) : (roadF k).1.isSome = true ↔ k ≠ 1 ∧ k ≠ 7 ∧ k ≠ 11 := by
  rcases (by omega : k = 1 ∨ k = 2 ∨ k = 3 ∨ k = 4 ∨ k = 5 ∨ k = 6 ∨ k = 7 ∨ k = 8 ∨ k = 9 ∨ k = 10 ∨ k = 11) with rfl | rfl | rfl | rfl | rfl | rfl | rfl | rfl | rfl | rfl | rfl <;> simp [roadF]
theorem rowV_sets0 (gd : Str) (f0 f1 f2 f3 f4 f5 f6 f7 f8 f9 f10 : Int) : (((((((((((((rowV [] SR.zero).setIfInBounds 0 (vS gd)).setIfInBounds 1 (.int .i64 f0)).setIfInBounds 2 (.int .i64 f1)).setIfInBounds 3 (.int .i64 f2)).setIfInBounds 4 (.int .i64 f3)).setIfInBounds 5 (.int .i64 f4)).setIfInBounds 6 (.int .i64 f5)).setIfInBounds 7 (.int .i64 f6)).setIfInBounds 8 (.int .i64 f7)).setIfInBounds 9 (.int .i64 f8)).setIfInBounds 10 (.int .i64 f9)).setIfInBounds 11 (.int .i64 f10)) = rowV gd ⟨f0, f1, f2, f3, f4, f5, f6, f7, f8, f9, f10⟩ := by kernel_rfl
theorem rowSet0 {w : World} {rb : Nat} (h : w.heap[rb]? = some (.cells (rowV [] SR.zero) 132)) (gd : Str) (f0 f1 f2 f3 f4 f5 f6 f7 f8 f9 f10 : Int) :
    (((((((((((((w).setCell ⟨rb, 0, none⟩ (vS gd)).setCell ⟨rb, 1, none⟩ (.int .i64 f0)).setCell ⟨rb, 2, none⟩ (.int .i64 f1)).setCell ⟨rb, 3, none⟩ (.int .i64 f2)).setCell ⟨rb, 4, none⟩ (.int .i64 f3)).setCell ⟨rb, 5, none⟩ (.int .i64 f4)).setCell ⟨rb, 6, none⟩ (.int .i64 f5)).setCell ⟨rb, 7, none⟩ (.int .i64 f6)).setCell ⟨rb, 8, none⟩ (.int .i64 f7)).setCell ⟨rb, 9, none⟩ (.int .i64 f8)).setCell ⟨rb, 10, none⟩ (.int .i64 f9)).setCell ⟨rb, 11, none⟩ (.int .i64 f10)).heap[rb]? = some (.cells (rowV gd ⟨f0, f1, f2, f3, f4, f5, f6, f7, f8, f9, f10⟩) 132) ∧ Fr (fun x => x = rb) w (((((((((((((w).setCell ⟨rb, 0, none⟩ (vS gd)).setCell ⟨rb, 1, none⟩ (.int .i64 f0)).setCell ⟨rb, 2, none⟩ (.int .i64 f1)).setCell ⟨rb, 3, none⟩ (.int .i64 f2)).setCell ⟨rb, 4, none⟩ (.int .i64 f3)).setCell ⟨rb, 5, none⟩ (.int .i64 f4)).setCell ⟨rb, 6, none⟩ (.int .i64 f5)).setCell ⟨rb, 7, none⟩ (.int .i64 f6)).setCell ⟨rb, 8, none⟩ (.int .i64 f7)).setCell ⟨rb, 9, none⟩ (.int .i64 f8)).setCell ⟨rb, 10, none⟩ (.int .i64 f9)).setCell ⟨rb, 11, none⟩ (.int .i64 f10)) := by
  rw [← rowV_sets0]
  exact ⟨(obj_set (obj_set (obj_set (obj_set (obj_set (obj_set (obj_set (obj_set (obj_set (obj_set (obj_set (obj_set h 0 (vS gd)) 1 (.int .i64 f0)) 2 (.int .i64 f1)) 3 (.int .i64 f2)) 4 (.int .i64 f3)) 5 (.int .i64 f4)) 6 (.int .i64 f5)) 7 (.int .i64 f6)) 8 (.int .i64 f7)) 9 (.int .i64 f8)) 10 (.int .i64 f9)) 11 (.int .i64 f10)), (((((((((((((Fr.refl (fun x => x = rb) w).setCell (p := ⟨rb, 0, none⟩) (fun _ => rfl) (vS gd)).setCell (p := ⟨rb, 1, none⟩) (fun _ => rfl) (.int .i64 f0)).setCell (p := ⟨rb, 2, none⟩) (fun _ => rfl) (.int .i64 f1)).setCell (p := ⟨rb, 3, none⟩) (fun _ => rfl) (.int .i64 f2)).setCell (p := ⟨rb, 4, none⟩) (fun _ => rfl) (.int .i64 f3)).setCell (p := ⟨rb, 5, none⟩) (fun _ => rfl) (.int .i64 f4)).setCell (p := ⟨rb, 6, none⟩) (fun _ => rfl) (.int .i64 f5)).setCell (p := ⟨rb, 7, none⟩) (fun _ => rfl) (.int .i64 f6)).setCell (p := ⟨rb, 8, none⟩) (fun _ => rfl) (.int .i64 f7)).setCell (p := ⟨rb, 9, none⟩) (fun _ => rfl) (.int .i64 f8)).setCell (p := ⟨rb, 10, none⟩) (fun _ => rfl) (.int .i64 f9)).setCell (p := ⟨rb, 11, none⟩) (fun _ => rfl) (.int .i64 f10))⟩
/-- A stock takes over another one's rows. -/
theorem RSX.assign {X : List Value × TypeId} {w W : World} {g gn n1 : Nat} {TS TN : Nat → Prop} {A B : Stk} {v : Value} (h : RSX X w g TS A) (hw : Fr (fun b => n1 ≤ b) w W) (hn : w.heap.size ≤ n1) (hr : RS W gn TN B) (hT : ∀ b, TN b → n1 ≤ b) (hv : W.ownsRow 0 132 12 v B.length (rcs B)) (ho : ∀ b, v.ownBlock = some b → TN b) :
    RSX X (W.setCell ⟨g, 0, none⟩ v) g (fun b => TS b ∨ TN b) B ∧ Stp TS w (W.setCell ⟨g, 0, none⟩ v) (fun b => TS b ∨ TN b) := by
  obtain ⟨⟨v0, h1, h2, h3⟩, h5, h6⟩ := h
  have hg := h6 g h5
  have h1' := hw.at_ h1 (by omega)
  have hF : Fr (fun b => b = g) W (W.setCell ⟨g, 0, none⟩ v) := (Fr.refl (fun b => b = g) W).setCell (p := ⟨g, 0, none⟩) (fun _ => rfl) _
  have hF1 : Fr TS w W := (Fr.refl TS w).trans' hw (fun b hb e => by omega)
  refine ⟨⟨⟨v, (obj_set h1' 0 v).trans (by rw [cons_set]), hF.row hv (fun b hb e => by have := hT b (ho b hb); omega), fun b hb => ⟨.inr (ho b hb), fun e => by have := hT b (ho b hb); omega⟩⟩, .inl h5, fun b hb => ?_⟩, hF1.trans' hF (fun b _ e => e ▸ h5), fun b hb => ?_⟩
  · have h7 := hF.size
    have h8 := hw.size
    rcases hb with hb | hb
    · have := h6 b hb; omega
    · have := hr.lt b hb; omega
  · rcases hb with hb | hb
    · exact .inl hb
    · exact .inr (by have := hT b hb; omega)
/-- What a world is, behind a row that is laid: the row, and all that was there. -/
def RowL (W : World) (rb : Nat) (gd : Str) (R : SR) (W' : World) : Prop := W'.heap[rb]? = some (.cells (rowV gd R) 132) ∧ Fr (fun _ => False) W W'
set_option maxRecDepth 100000 in
set_option maxHeartbeats 3200000 in
theorem r7Do {X : List Value × TypeId} (w : World) (g : Nat) (TS : Nat → Prop) (A : Stk) (kd : Int) (v : Value) (L : Its) (h : RSX X w g TS A) (hA : SOk A) (hv : Il w v L) :
    Calls Tryz.prog 82 #[.pointer (some ⟨g, 0, none⟩), .int .i64 kd, v] w fun e w' => e = .returned (.int .i64 (doS A kd L).1) ∧ ∃ TS', RSX X w' g TS' (doS A kd L).2 ∧ Stp TS w w' TS' := by
  obtain ⟨Z, hZ⟩ : ∃ Z, doS A kd L = Z := ⟨_, rfl⟩
  rw [hZ]
  have H := Lib.hid h; have HA := Lib.hid hA; have HZ := Lib.hid hZ; have HV := Lib.hid hv
  obtain ⟨a, c, rfl⟩ := hv.sl
  obtain ⟨N, hN⟩ : ∃ N, L.length = N := ⟨_, rfl⟩
  have HN := Lib.hid hN
  have hNI : (N : Int) ≤ 9223372036854775807 := by have := hv.1; omega
  rw [hN] at HV ⊢
  have hl64 : (A.length : Int) ≤ 64 := by have := hA.len; omega
  have HL := Lib.hid hl64
  clear h hA hZ hv hl64 hN
  by_cases hk : 1 ≤ kd ∧ kd ≤ 11
  · have HK := Lib.hid hk
    cases hm : mayL L with
    | false =>
      have hz : Hid (Z = (60, A)) := Lib.hid (by rw [← HZ.out]; unfold doS; rw [if_neg (by omega), if_pos hm])
      have hMay := Lib.hid (r6May w (.slice a N c) L HV.out)
      rw [hm] at hMay
      obtain ⟨hk1, hk2⟩ := hk
      clear hm
      go_enter Tryz.func82, Tryz.ntmps82
      go_wp2_with (go_at_call 78; refine hMay.out.mono ?_; rintro e w1 ⟨rfl, nd, rfl⟩)
      go_ret
      rw [hz.out]
      exact ⟨rfl, TS, H.out.fr ((Fr.refl (fun _ => False) w).drewN nd) (fun _ _ e => e), Stp.refl ((Fr.refl _ w).drewN nd)⟩
    | true =>
      have HM := Lib.hid hm
      have hMay := Lib.hid (r6May w (.slice a N c) L HV.out)
      rw [hm] at hMay
      obtain ⟨hm1, hm2⟩ := mayL_iff.1 hm
      have HALL := Lib.hid (its_all hm1).2
      obtain ⟨tk, htk⟩ : ∃ tk, (roadF kd).1.isSome = tk := ⟨_, rfl⟩
      have HTK := Lib.hid htk
      have hN16 : (N : Int) ≤ 16 := by have := HN.out; omega
      have hroad := Lib.hid (road_some hk)
      have hn71 : Hid (tk = true → ∀ p ∈ L, getS A p.1 = none → Z = (71, A)) := Lib.hid (fun e p hp hn => by rw [← HZ.out]; exact doS_err HK.out HM.out (dMay_71 (HTK.out.trans e) hp hn) (by decide))
      have hn51 : Hid (tk = true → (∀ q ∈ L, (getS A q.1).isSome = true) → ∀ p ∈ L, haveF kd (rowAt A p.1) < p.2 → Z = (51, A)) := Lib.hid (fun e h p hp hn => by rw [← HZ.out]; exact doS_err HK.out HM.out (dMay_51 (HTK.out.trans e) h hp hn) (by decide))
      have hn00 : Hid ((tk = true → (∀ q ∈ L, (getS A q.1).isSome = true) ∧ ∀ q ∈ L, q.2 ≤ haveF kd (rowAt A q.1)) → Z = fin3 A (dofR kd A A L)) := Lib.hid (fun e => by rw [← HZ.out]; exact doS_fin HA.out HK.out HM.out (dMay_00 (fun e2 => e (HTK.out.symm.trans e2))))
      obtain ⟨hk1, hk2⟩ := hk
      clear hm hm1 hm2 htk
      go_enter Tryz.func82, Tryz.ntmps82
      go_upto_region 5 with (go_at_call 78; refine hMay.out.mono ?_; rintro e w1 ⟨rfl, nd, rfl⟩)
      go_cut [7] (fun s7 wx => s7 = .bool tk ∧ Fr (fun _ => False) w wx)
      case first =>
        have hF : Fr (fun _ => False) w (w.drewN nd) := (Fr.refl _ _).drewN nd
        have HF := Lib.hid hF
        clear hF
        rcases (by omega : kd = 1 ∨ kd = 7 ∨ kd = 11 ∨ (kd ≠ 1 ∧ kd ≠ 7 ∧ kd ≠ 11)) with rfl | rfl | rfl | ⟨q1, q2, q3⟩
        · go_wp2_with fail
          go_meet
          exact ⟨by rw [← HTK.out]; rfl, HF.out⟩
        · go_wp2_with fail
          go_meet
          exact ⟨by rw [← HTK.out]; rfl, HF.out⟩
        · go_wp2_with fail
          go_meet
          exact ⟨by rw [← HTK.out]; rfl, HF.out⟩
        · have b1 : (kd != 1) = true := by simp; omega
          have b2 : (kd != 7) = true := by simp; omega
          have b3 : (kd != 11) = true := by simp; omega
          have ht : Hid (tk = true) := Lib.hid (by rw [← HTK.out]; exact hroad.out.2 ⟨q1, q2, q3⟩)
          go_wp2_with fail
          go_meet
          exact ⟨by rw [ht.out], HF.out⟩
      case rest =>
        obtain ⟨rfl, hFx⟩ := hcut
        have HFx := Lib.hid hFx
        clear hFx
        go_wp2_with fail
        go_loopw [8] (fun i wr => ∃ m : Nat, m ≤ N ∧ i = .int .i64 m ∧ wr = wc ∧ (tk = true → ∀ j p, j < m → L[j]? = some p → (getS A p.1).isSome = true)) (fun i _ => N - (intOf i).toNat)
        case atStart => exact ⟨0, Nat.zero_le _, rfl, rfl, fun _ j p hj => by omega⟩
        case round =>
          obtain ⟨m, hm, rfl, hwr, hall⟩ := hrel
          obtain rfl : wc = wr := hwr.symm
          have HAL := Lib.hid hall
          clear hall hwr
          by_cases hlt : m < N
          · obtain ⟨p, hp⟩ : ∃ p, L[m]? = some p := ⟨L[m]'(by rw [HN.out]; exact hlt), List.getElem?_eq_getElem _⟩
            have HP := Lib.hid hp
            have hlI : (m : Int) < N := by omega
            obtain ⟨ad, rfl, -, -, p0, p1⟩ := (HV.out.fr HFx.out (fun b h => h.elim)).at_ hp
            have hFi := Lib.hid (r7Find wc g TS A p.1 (H.out.fr HFx.out (fun _ _ e => e)) HA.out.rise (by have := HL.out; omega))
            have hnx : Hid ((getS A p.1).isSome = true → tk = true → ∀ j q, j < m + 1 → L[j]? = some q → (getS A q.1).isSome = true) := Lib.hid (fun hs ht j q hj hq => by
              by_cases e : j = m
              · rw [e, HP.out] at hq; cases hq; exact hs
              · exact HAL.out ht j q (by omega) hq)
            obtain ⟨gd, n⟩ := p
            dsimp only at p0 p1 hFi hnx
            clear hp
            cases tk with
            | false =>
              go_wp2_with fail
              go_roundw
              case rel => exact ⟨m + 1, by omega, by go_num, (by first | rfl | trivial), fun e => by cases e⟩
              case measure => simp [intOf]; omega
            | true =>
              cases hg : getS A gd with
              | none =>
                have hz := Lib.hid (hn71.out rfl _ (List.mem_of_getElem? HP.out) hg)
                have HG := Lib.hid hg
                clear hg
                go_wp2_with (go_at_call 85; refine hFi.out.mono ?_; rintro e w1 ⟨i, rfl, hfi, hw1⟩; obtain rfl : wc = w1 := hw1.symm; obtain rfl := hfi.no HG.out; clear hfi hw1)
                go_ret
                rw [hz.out]
                exact ⟨rfl, TS, H.out.fr HFx.out (fun _ _ e => e), Stp.refl HFx.out⟩
              | some r =>
                have HG := Lib.hid hg
                have hy := Lib.hid (hnx.out (by rw [hg]; rfl) rfl)
                clear hg
                go_wp2_with (go_at_call 85; refine hFi.out.mono ?_; rintro e w1 ⟨i, rfl, hfi, hw1⟩; obtain rfl : wc = w1 := hw1.symm; obtain ⟨q, rfl⟩ := hfi.yes HG.out; clear hfi hw1)
                go_roundw
                case rel => exact ⟨m + 1, by omega, by go_num, (by first | rfl | trivial), fun _ => hy.out⟩
                case measure => simp [intOf]; omega
          · have hmN : m = N := by omega
            subst hmN
            have hone : Hid (tk = true → ∀ q ∈ L, (getS A q.1).isSome = true) := Lib.hid (fun ht q hq => by
              obtain ⟨j, hj⟩ := List.getElem?_of_mem hq
              exact HAL.out ht j q (by have := (List.getElem?_eq_some_iff.1 hj).1; have := HN.out; omega) hj)
            clear HAL hlt hm
            go_wp2_with fail
            go_loopw [9] (fun i wr => ∃ q : Nat, q ≤ m ∧ i = .int .i64 q ∧ Fr (fun _ => False) w wr ∧ (tk = true → ∀ j p, j < q → L[j]? = some p → p.2 ≤ haveF kd (rowAt A p.1))) (fun i _ => m - (intOf i).toNat)
            case atStart => exact ⟨0, Nat.zero_le _, rfl, HFx.out, fun _ j p hj => by omega⟩
            case round =>
              obtain ⟨q, hq, rfl, hFr, hall⟩ := hrel
              have HAL := Lib.hid hall; have HFr := Lib.hid hFr
              clear hall hFr
              by_cases hlt : q < m
              · obtain ⟨p, hp⟩ : ∃ p, L[q]? = some p := ⟨L[q]'(by rw [HN.out]; exact hlt), List.getElem?_eq_getElem _⟩
                have HP := Lib.hid hp
                have hlI : (q : Int) < m := by omega
                obtain ⟨ad, rfl, -, -, p0, p1⟩ := (HV.out.fr HFr.out (fun b h => h.elim)).at_ hp
                have hpb := HALL.out p (List.mem_of_getElem? hp)
                have hrb := (HA.out.at_ p.1).b
                obtain ⟨gd, n⟩ := p
                dsimp only at p0 p1 hpb hrb
                have hRow : Hid (∀ W, Fr (fun _ => False) wr W → Calls Tryz.prog 86 #[.pointer (some ⟨g, 0, none⟩), vS gd] W fun e w' => e = .returned (.agg (rowV gd (rowAt A gd))) ∧ Fr (fun _ => False) W w') := Lib.hid (fun W hf => r7Row W g TS A gd (H.out.fr (HFr.out.trans hf) (fun _ _ e => e)) HA.out.rise (by have := HL.out; omega))
                have hMove : Hid (∀ W, Calls Tryz.prog 110 #[.int .i64 kd, .agg (rowV gd (rowAt A gd)), .int .i64 n] W fun e w' => e = .returned (.tuple #[.agg (rowV gd ((rowAt A gd).move kd n)), .int .i64 (haveF kd (rowAt A gd))]) ∧ Fr (fun _ => False) W w') := Lib.hid (fun W => r7Move W gd (rowAt A gd) kd n hrb ⟨by omega, hpb.2.2.1⟩)
                obtain ⟨R0, hR0⟩ : ∃ R0, rowAt A gd = R0 := ⟨_, rfl⟩
                obtain ⟨hv, hhv⟩ : ∃ hv, haveF kd (rowAt A gd) = hv := ⟨_, rfl⟩
                have HHV := Lib.hid hhv
                rw [hhv] at hMove
                rw [hR0] at hMove hRow
                obtain ⟨R1, hR1⟩ : ∃ R1, R0.move kd n = R1 := ⟨_, rfl⟩
                rw [hR1] at hMove
                obtain ⟨e0, e1, e2, e3, e4, e5, e6, e7, e8, e9, e10⟩ := R0
                obtain ⟨f0, f1, f2, f3, f4, f5, f6, f7, f8, f9, f10⟩ := R1
                unfold rowV at hMove hRow
                dsimp only at hMove hRow
                have P0 := Lib.hid p0; have P1 := Lib.hid p1; have HD := Lib.hid ((Fr.refl (fun _ => False) wr).drew)
                clear hp hpb hrb hR0 hhv hR1
                go_upto_region 14 with (fail)
                go_cut [10, 11] (fun sa sb wz => ∃ rb, sa = .pointer (some ⟨rb, 0, none⟩) ∧ RowL wr rb gd ⟨f0, f1, f2, f3, f4, f5, f6, f7, f8, f9, f10⟩ wz ∧ sb = .int .i64 hv)
                case first =>
                  have hD0 : Fr (fun _ => False) wr wr.drew := (Fr.refl _ wr).drew
                  go_region_held3 (fun w' => w'.cell? (ad.add (q * 2)) = some (vS gd) ∧ w'.cell? ⟨(ad.add (q * 2)).block, (ad.add (q * 2)).off + 1, none⟩ = some (.int .i64 n)) (first | (refine ⟨Fr.cell (S := fun _ => False) (w := wr) ?_ P0.out (fun h => h), Fr.cell (S := fun _ => False) (w := wr) ?_ P1.out (fun h => h)⟩ <;> (repeat (first | (with_reducible assumption) | (with_reducible exact Fr.refl _ _) | (with_reducible refine Fr.alloc ?_ _) | (with_reducible refine Fr.drew ?_) | (with_reducible refine Fr.setCell ?_ (fun h => absurd h (Nat.not_lt.2 ?_)) _) | (exact Nat.le_refl _) | (exact Fr.size (by assumption))))))
                    (first
                      | (go_at_call 86; refine (hRow.out _ (by (repeat (first | (with_reducible assumption) | (with_reducible exact Fr.refl _ _) | (with_reducible refine Fr.alloc ?_ _) | (with_reducible refine Fr.drew ?_) | (with_reducible refine Fr.setCell ?_ (fun h => absurd h (Nat.not_lt.2 ?_)) _) | (exact Nat.le_refl _) | (exact Fr.size (by assumption)))))).mono ?_; rintro e w5 ⟨rfl, hf5⟩; have hD5 : Fr (fun _ => False) wr w5 := Fr.trans (by (repeat (first | (with_reducible assumption) | (with_reducible exact Fr.refl _ _) | (with_reducible refine Fr.alloc ?_ _) | (with_reducible refine Fr.drew ?_) | (with_reducible refine Fr.setCell ?_ (fun h => absurd h (Nat.not_lt.2 ?_)) _) | (exact Nat.le_refl _) | (exact Fr.size (by assumption))))) hf5; (first | (have hb := hf5.at_ (show (World.drew (World.alloc wr (Obj.cells #[.string ⟨#[]⟩, .int .i64 0, .int .i64 0, .int .i64 0, .int .i64 0, .int .i64 0, .int .i64 0, .int .i64 0, .int .i64 0, .int .i64 0, .int .i64 0, .int .i64 0] 132))).heap[wr.heap.size]? = some (Obj.cells #[.string ⟨#[]⟩, .int .i64 0, .int .i64 0, .int .i64 0, .int .i64 0, .int .i64 0, .int .i64 0, .int .i64 0, .int .i64 0, .int .i64 0, .int .i64 0, .int .i64 0] 132) from heap_new wr (Obj.cells #[.string ⟨#[]⟩, .int .i64 0, .int .i64 0, .int .i64 0, .int .i64 0, .int .i64 0, .int .i64 0, .int .i64 0, .int .i64 0, .int .i64 0, .int .i64 0, .int .i64 0] 132)) (fun e => e); have HB := Lib.hid hb; have x0 := cell_obj hb 0 (.string ⟨#[]⟩) rfl; have x1 := cell_obj hb 1 (.int .i64 0) rfl; have x2 := cell_obj hb 2 (.int .i64 0) rfl; have x3 := cell_obj hb 3 (.int .i64 0) rfl; have x4 := cell_obj hb 4 (.int .i64 0) rfl; have x5 := cell_obj hb 5 (.int .i64 0) rfl; have x6 := cell_obj hb 6 (.int .i64 0) rfl; have x7 := cell_obj hb 7 (.int .i64 0) rfl; have x8 := cell_obj hb 8 (.int .i64 0) rfl; have x9 := cell_obj hb 9 (.int .i64 0) rfl; have x10 := cell_obj hb 10 (.int .i64 0) rfl; have x11 := cell_obj hb 11 (.int .i64 0) rfl; have z0 := obj_frozen hb 0; have z1 := obj_frozen hb 1; have z2 := obj_frozen hb 2; have z3 := obj_frozen hb 3; have z4 := obj_frozen hb 4; have z5 := obj_frozen hb 5; have z6 := obj_frozen hb 6; have z7 := obj_frozen hb 7; have z8 := obj_frozen hb 8; have z9 := obj_frozen hb 9; have z10 := obj_frozen hb 10; have z11 := obj_frozen hb 11; clear hb) | skip); clear hf5)
                      | (go_at_call 110; refine (hMove.out _).mono ?_; rintro e w6 ⟨rfl, hf6⟩; have hD6 : Fr (fun _ => False) wr w6 := Fr.trans (by (repeat (first | (with_reducible assumption) | (with_reducible exact Fr.refl _ _) | (with_reducible refine Fr.alloc ?_ _) | (with_reducible refine Fr.drew ?_) | (with_reducible refine Fr.setCell ?_ (fun h => absurd h (Nat.not_lt.2 ?_)) _) | (exact Nat.le_refl _) | (exact Fr.size (by assumption))))) hf6; (first | (have hb := hf6.at_ (show (World.alloc w5 (Obj.cells #[.string ⟨#[]⟩, .int .i64 0, .int .i64 0, .int .i64 0, .int .i64 0, .int .i64 0, .int .i64 0, .int .i64 0, .int .i64 0, .int .i64 0, .int .i64 0, .int .i64 0] 132)).heap[w5.heap.size]? = some (Obj.cells #[.string ⟨#[]⟩, .int .i64 0, .int .i64 0, .int .i64 0, .int .i64 0, .int .i64 0, .int .i64 0, .int .i64 0, .int .i64 0, .int .i64 0, .int .i64 0, .int .i64 0] 132) from heap_new w5 (Obj.cells #[.string ⟨#[]⟩, .int .i64 0, .int .i64 0, .int .i64 0, .int .i64 0, .int .i64 0, .int .i64 0, .int .i64 0, .int .i64 0, .int .i64 0, .int .i64 0, .int .i64 0] 132)) (fun e => e); have HB := Lib.hid hb; have x0 := cell_obj hb 0 (.string ⟨#[]⟩) rfl; have x1 := cell_obj hb 1 (.int .i64 0) rfl; have x2 := cell_obj hb 2 (.int .i64 0) rfl; have x3 := cell_obj hb 3 (.int .i64 0) rfl; have x4 := cell_obj hb 4 (.int .i64 0) rfl; have x5 := cell_obj hb 5 (.int .i64 0) rfl; have x6 := cell_obj hb 6 (.int .i64 0) rfl; have x7 := cell_obj hb 7 (.int .i64 0) rfl; have x8 := cell_obj hb 8 (.int .i64 0) rfl; have x9 := cell_obj hb 9 (.int .i64 0) rfl; have x10 := cell_obj hb 10 (.int .i64 0) rfl; have x11 := cell_obj hb 11 (.int .i64 0) rfl; have z0 := obj_frozen hb 0; have z1 := obj_frozen hb 1; have z2 := obj_frozen hb 2; have z3 := obj_frozen hb 3; have z4 := obj_frozen hb 4; have z5 := obj_frozen hb 5; have z6 := obj_frozen hb 6; have z7 := obj_frozen hb 7; have z8 := obj_frozen hb 8; have z9 := obj_frozen hb 9; have z10 := obj_frozen hb 10; have z11 := obj_frozen hb 11; clear hb) | (have hb := hf6.at_ HB.out (fun e => e); have HB := Lib.hid hb; have x0 := cell_obj hb 0 (.string ⟨#[]⟩) rfl; have x1 := cell_obj hb 1 (.int .i64 0) rfl; have x2 := cell_obj hb 2 (.int .i64 0) rfl; have x3 := cell_obj hb 3 (.int .i64 0) rfl; have x4 := cell_obj hb 4 (.int .i64 0) rfl; have x5 := cell_obj hb 5 (.int .i64 0) rfl; have x6 := cell_obj hb 6 (.int .i64 0) rfl; have x7 := cell_obj hb 7 (.int .i64 0) rfl; have x8 := cell_obj hb 8 (.int .i64 0) rfl; have x9 := cell_obj hb 9 (.int .i64 0) rfl; have x10 := cell_obj hb 10 (.int .i64 0) rfl; have x11 := cell_obj hb 11 (.int .i64 0) rfl; have z0 := obj_frozen hb 0; have z1 := obj_frozen hb 1; have z2 := obj_frozen hb 2; have z3 := obj_frozen hb 3; have z4 := obj_frozen hb 4; have z5 := obj_frozen hb 5; have z6 := obj_frozen hb 6; have z7 := obj_frozen hb 7; have z8 := obj_frozen hb 8; have z9 := obj_frozen hb 9; have z10 := obj_frozen hb 10; have z11 := obj_frozen hb 11; clear hb) | skip); clear hf6))
                  · go_wp2_with fail
                    go_meet
                    exact ⟨_, rfl, ⟨heap_new _ _, hD6.alloc _⟩, rfl⟩
                  · go_wp2_with fail
                    go_meet
                    have hs := rowSet0 (show w6.heap[w5.heap.size]? = some (.cells (rowV [] SR.zero) 132) from HB.out) gd f0 f1 f2 f3 f4 f5 f6 f7 f8 f9 f10
                    exact ⟨_, rfl, ⟨hs.1, hD6.trans' hs.2 (fun b hb e => by have := hD5.size; omega)⟩, rfl⟩
                  · go_wp2_with fail
                    go_meet
                    have hs := rowSet0 (show w6.heap[wr.heap.size]? = some (.cells (rowV [] SR.zero) 132) from HB.out) gd f0 f1 f2 f3 f4 f5 f6 f7 f8 f9 f10
                    exact ⟨_, rfl, ⟨hs.1, hD6.trans' hs.2 (fun b hb e => by omega)⟩, rfl⟩
                case rest =>
                  obtain ⟨rb, rfl, ⟨hrw, hFc⟩, rfl⟩ := hcut
                  have p1 := hFc.cell P1.out (fun h => h)
                  have HFc := Lib.hid (HFr.out.trans hFc)
                  clear hrw hFc
                  cases tk with
                  | false =>
                    go_wp2_with fail
                    go_roundw
                    case rel => exact ⟨q + 1, by omega, by go_num, HFc.out, fun e => by cases e⟩
                    case measure => simp [intOf]; omega
                  | true =>
                    by_cases hlv : hv < n
                    · have hz := Lib.hid (hn51.out rfl (hone.out rfl) _ (List.mem_of_getElem? HP.out) (by rw [HHV.out]; exact hlv))
                      go_wp2_with fail
                      go_ret
                      rw [hz.out]
                      exact ⟨rfl, TS, H.out.fr HFc.out (fun _ _ e => e), Stp.refl HFc.out⟩
                    · have hy : Hid (∀ j p, j < q + 1 → L[j]? = some p → p.2 ≤ haveF kd (rowAt A p.1)) := Lib.hid (fun j p hj hp => by
                        by_cases e : j = q
                        · rw [e, HP.out] at hp; cases hp; show n ≤ haveF kd (rowAt A gd); rw [HHV.out]; omega
                        · exact HAL.out rfl j p (by omega) hp)
                      go_wp2_with fail
                      go_roundw
                      case rel => exact ⟨q + 1, by omega, by go_num, HFc.out, fun _ => hy.out⟩
                      case measure => simp [intOf]; omega
              · have hqm : q = m := by omega
                subst hqm
                have hZ3 : Hid (Z = fin3 A (dofR kd A A L)) := Lib.hid (hn00.out (fun ht => ⟨hone.out ht, fun p hp => by
                  obtain ⟨j, hj⟩ := List.getElem?_of_mem hp
                  exact HAL.out ht j p (by have := (List.getElem?_eq_some_iff.1 hj).1; have := HN.out; omega) hj⟩))
                obtain ⟨D, hD⟩ : ∃ D, dofR kd A A L = D := ⟨_, rfl⟩
                have HDD := Lib.hid hD
                rw [hD] at hZ3
                clear hD HAL hone hn00 hn51 hn71 hlt hq
                have hRw := H.out.fr HFr.out (fun _ _ e => e)
                obtain ⟨sa, sc, sc0, srow, -⟩ := hRw.cell
                obtain ⟨al, hal⟩ : ∃ al, A.length = al := ⟨_, rfl⟩
                have HAL := Lib.hid hal
                have hal64 : (al : Int) ≤ 64 := by have := HL.out; omega
                rw [hal] at sc0 srow
                have HRD := Lib.hid (Rd.own srow)
                have sc0a := ((Fr.refl (fun _ => False) wr).alloc (.cells #[] 132)).cell sc0 (fun h => h)
                obtain ⟨i0, hi', hz0, hz1, hz2⟩ := info_parts infoRow7
                clear hRw srow hal
                go_wp2_with (at_builtin; (refine wpList_append_src rfl _ _ 41 rfl wr.heap.size 132 i0 (.agg (rowV [] SR.zero)) 104 Tryz.underlying41 hi' hz0 hz1 hz2 rfl (by decide) _ 0 [] rfl (own_none (Nat.le_refl _)) sc rfl (HRD.out.fr ((Fr.refl (fun _ => False) wr).alloc (.cells #[] 132)) (fun _ _ h => h)) (fun u hu => rcs_one hu) (by unfold maxLen; omega) (by omega) (by simp) ?_; intro va wa howna hgrowa hloca; obtain ⟨ba, bc, rfl⟩ := row_sl howna; have hFa : Hid (Fr (fun b => wr.heap.size ≤ b) wr wa) := Lib.hid (((Fr.refl _ wr).alloc (.cells #[] 132)).trans (Fr.grown hgrowa (fun r hr _ => by cases hr; exact Nat.le_refl _))); have HOa := Lib.hid howna; clear howna hgrowa hloca))
                obtain ⟨gn, hgn⟩ : ∃ gn, wa.heap.size = gn := ⟨_, rfl⟩
                obtain ⟨n1, hn1⟩ : ∃ n1, wr.heap.size = n1 := ⟨_, rfl⟩
                have hsz1 : n1 ≤ gn := by rw [← hn1, ← hgn]; exact hFa.out.size
                obtain ⟨Wb, hWb⟩ : ∃ Wb, wa.alloc (.cells #[.slice ba al bc] 43) = Wb := ⟨_, rfl⟩
                have hRB : RS Wb gn (fun b => n1 ≤ b ∧ b < Wb.heap.size) A := by
                  rw [← hWb, ← hgn, ← hn1]
                  have ho := HOa.out
                  rw [List.nil_append] at ho
                  rw [Nat.zero_add] at ho
                  have ho2 : wa.ownsRow wr.heap.size 132 12 (.slice ba al bc) A.length (rcs A) := by rw [HAL.out]; exact ho
                  have hf : Fr (fun _ => False) wa (wa.alloc (.cells #[.slice ba al bc] 43)) := (Fr.refl _ wa).alloc _
                  exact ⟨⟨_, heap_new _ _, own_base (hf.row ho2 (fun _ _ e => e)) (Nat.zero_le _), fun b hb => by have := ho2.lt b hb; simp; omega⟩, by simp; omega, fun b hb => hb.2⟩
                have hFb : Fr (fun b => n1 ≤ b) w Wb := by
                  rw [← hWb, ← hn1]
                  exact ((HFr.out.mono (fun _ _ e => e.elim)).trans hFa.out).alloc _
                have HRB := Lib.hid hRB; have HFB := Lib.hid hFb
                have HGN := Lib.hid hgn; have HN1 := Lib.hid hn1
                have hn1w : Hid (w.heap.size ≤ n1) := Lib.hid (by rw [← hn1]; exact HFr.out.size)
                rw [hWb, hgn]
                clear hRB hFb hWb hgn hn1 sc0 sc0a hi' hz0 hz1 hz2
                go_loopw [13] (fun i wr => ∃ (k : Nat) (TN : Nat → Prop) (B : Stk), k ≤ q ∧ i = .int .i64 k ∧ RS wr gn TN B ∧ (∀ b, TN b → n1 ≤ b) ∧ Fr (fun b => n1 ≤ b) w wr ∧ RiseS B ∧ B.length ≤ al + k ∧ dofR kd A B (L.drop k) = D) (fun i _ => q - (intOf i).toNat)
                case atStart => exact ⟨0, _, A, Nat.zero_le _, rfl, HRB.out, fun b hb => hb.1, HFB.out, HA.out.rise, by have := HAL.out; omega, by rw [List.drop_zero]; exact HDD.out⟩
                case round =>
                  obtain ⟨k, TN, B, hk, rfl, hRN, hTN, hFN, hBr, hBl, hBD⟩ := hrel
                  have HRN := Lib.hid hRN; have HTN := Lib.hid hTN; have HFN := Lib.hid hFN; have HBR := Lib.hid hBr; have HBL := Lib.hid hBl; have HBD := Lib.hid hBD
                  have hnf : Hid (∀ W, Fr (fun b => n1 ≤ b) w W → Fr (fun _ => False) w W) := Lib.hid (fun W hf => hf.mono (fun b hb e => by have := hn1w.out; omega))
                  clear hRN hTN hFN hBr hBl hBD
                  by_cases hlt : k < q
                  · obtain ⟨p, hp⟩ : ∃ p, L[k]? = some p := ⟨L[k]'(by rw [HN.out]; exact hlt), List.getElem?_eq_getElem _⟩
                    have HP := Lib.hid hp
                    have hlI : (k : Int) < q := by omega
                    obtain ⟨ad, rfl, -, -, p0, p1⟩ := (HV.out.fr (hnf.out _ HFN.out) (fun b h => h.elim)).at_ hp
                    have hpb := HALL.out p (List.mem_of_getElem? hp)
                    have hrb := (HA.out.at_ p.1).b
                    have hdr : Hid (L.drop k = p :: L.drop (k + 1)) := Lib.hid (by rw [List.drop_eq_getElem_cons (List.getElem?_eq_some_iff.1 hp).1, (List.getElem?_eq_some_iff.1 hp).2])
                    obtain ⟨gd, n⟩ := p
                    dsimp only at p0 p1 hpb hrb
                    have hRow : Hid (∀ W, Fr (fun _ => False) wr W → Calls Tryz.prog 86 #[.pointer (some ⟨g, 0, none⟩), vS gd] W fun e w' => e = .returned (.agg (rowV gd (rowAt A gd))) ∧ Fr (fun _ => False) W w') := Lib.hid (fun W hf => r7Row W g TS A gd (H.out.fr ((hnf.out _ HFN.out).trans hf) (fun _ _ e => e)) HA.out.rise (by have := HL.out; omega))
                    have hMove : Hid (∀ W, Calls Tryz.prog 110 #[.int .i64 kd, .agg (rowV gd (rowAt A gd)), .int .i64 n] W fun e w' => e = .returned (.tuple #[.agg (rowV gd ((rowAt A gd).move kd n)), .int .i64 (haveF kd (rowAt A gd))]) ∧ Fr (fun _ => False) W w') := Lib.hid (fun W => r7Move W gd (rowAt A gd) kd n hrb ⟨by omega, hpb.2.2.1⟩)
                    obtain ⟨hv, hhv⟩ : ∃ hv, haveF kd (rowAt A gd) = hv := ⟨_, rfl⟩
                    rw [hhv] at hMove
                    have hst : Hid (D = if ((rowAt A gd).move kd n).right = true then dofR kd A (putS ktS.lt B gd ((rowAt A gd).move kd n)) (L.drop (k + 1)) else none) := Lib.hid (by rw [← HBD.out, hdr.out]; rfl)
                    obtain ⟨R0, hR0⟩ : ∃ R0, rowAt A gd = R0 := ⟨_, rfl⟩
                    rw [hR0] at hMove hRow hst
                    obtain ⟨R1, hR1⟩ : ∃ R1, R0.move kd n = R1 := ⟨_, rfl⟩
                    rw [hR1] at hMove hst
                    obtain ⟨e0, e1, e2, e3, e4, e5, e6, e7, e8, e9, e10⟩ := R0
                    obtain ⟨f0, f1, f2, f3, f4, f5, f6, f7, f8, f9, f10⟩ := R1
                    have hSet : Hid (∀ W, RS W gn TN B → Calls Tryz.prog 88 #[.pointer (some ⟨gn, 0, none⟩), .agg (rowV gd ⟨f0, f1, f2, f3, f4, f5, f6, f7, f8, f9, f10⟩)] W fun e w' => (∃ v, e = .returned v) ∧ ∃ TS', RS w' gn TS' (putS ktS.lt B gd ⟨f0, f1, f2, f3, f4, f5, f6, f7, f8, f9, f10⟩) ∧ Stp TN W w' TS') := Lib.hid (fun W hR => r7Set W gn TN B gd ⟨f0, f1, f2, f3, f4, f5, f6, f7, f8, f9, f10⟩ hR HBR.out (by have := HBL.out; omega))
                    obtain ⟨ri, hri⟩ : ∃ ri, (SR.mk f0 f1 f2 f3 f4 f5 f6 f7 f8 f9 f10).right = ri := ⟨_, rfl⟩
                    have hRi := Lib.hid (fun W => r7Right W gd ⟨f0, f1, f2, f3, f4, f5, f6, f7, f8, f9, f10⟩)
                    rw [hri] at hRi hst
                    unfold rowV at hMove hRow hSet hRi
                    dsimp only at hMove hRow hSet hRi
                    have P0 := Lib.hid p0; have P1 := Lib.hid p1
                    clear hp hpb hrb hR0 hhv hR1 hri
                    go_upto_region 21 with (fail)
                    go_cut [14, 15] (fun sa sb wz => ∃ rb, sa = .pointer (some ⟨rb, 0, none⟩) ∧ RowL wr rb gd ⟨f0, f1, f2, f3, f4, f5, f6, f7, f8, f9, f10⟩ wz ∧ sb = .int .i64 hv)
                    case first =>
                      have hD0 : Fr (fun _ => False) wr wr.drew := (Fr.refl _ wr).drew
                      go_region_held3 (fun w' => w'.cell? (ad.add (k * 2)) = some (vS gd) ∧ w'.cell? ⟨(ad.add (k * 2)).block, (ad.add (k * 2)).off + 1, none⟩ = some (.int .i64 n)) (first | (refine ⟨Fr.cell (S := fun _ => False) (w := wr) ?_ P0.out (fun h => h), Fr.cell (S := fun _ => False) (w := wr) ?_ P1.out (fun h => h)⟩ <;> (repeat (first | (with_reducible assumption) | (with_reducible exact Fr.refl _ _) | (with_reducible refine Fr.alloc ?_ _) | (with_reducible refine Fr.drew ?_) | (with_reducible refine Fr.setCell ?_ (fun h => absurd h (Nat.not_lt.2 ?_)) _) | (exact Nat.le_refl _) | (exact Fr.size (by assumption))))))
                        (first
                          | (go_at_call 86; refine (hRow.out _ (by (repeat (first | (with_reducible assumption) | (with_reducible exact Fr.refl _ _) | (with_reducible refine Fr.alloc ?_ _) | (with_reducible refine Fr.drew ?_) | (with_reducible refine Fr.setCell ?_ (fun h => absurd h (Nat.not_lt.2 ?_)) _) | (exact Nat.le_refl _) | (exact Fr.size (by assumption)))))).mono ?_; rintro e w5 ⟨rfl, hf5⟩; have hD5 : Fr (fun _ => False) wr w5 := Fr.trans (by (repeat (first | (with_reducible assumption) | (with_reducible exact Fr.refl _ _) | (with_reducible refine Fr.alloc ?_ _) | (with_reducible refine Fr.drew ?_) | (with_reducible refine Fr.setCell ?_ (fun h => absurd h (Nat.not_lt.2 ?_)) _) | (exact Nat.le_refl _) | (exact Fr.size (by assumption))))) hf5; (first | (have hb := hf5.at_ (show (World.drew (World.alloc wr (Obj.cells #[.string ⟨#[]⟩, .int .i64 0, .int .i64 0, .int .i64 0, .int .i64 0, .int .i64 0, .int .i64 0, .int .i64 0, .int .i64 0, .int .i64 0, .int .i64 0, .int .i64 0] 132))).heap[wr.heap.size]? = some (Obj.cells #[.string ⟨#[]⟩, .int .i64 0, .int .i64 0, .int .i64 0, .int .i64 0, .int .i64 0, .int .i64 0, .int .i64 0, .int .i64 0, .int .i64 0, .int .i64 0, .int .i64 0] 132) from heap_new wr (Obj.cells #[.string ⟨#[]⟩, .int .i64 0, .int .i64 0, .int .i64 0, .int .i64 0, .int .i64 0, .int .i64 0, .int .i64 0, .int .i64 0, .int .i64 0, .int .i64 0, .int .i64 0] 132)) (fun e => e); have HB := Lib.hid hb; have x0 := cell_obj hb 0 (.string ⟨#[]⟩) rfl; have x1 := cell_obj hb 1 (.int .i64 0) rfl; have x2 := cell_obj hb 2 (.int .i64 0) rfl; have x3 := cell_obj hb 3 (.int .i64 0) rfl; have x4 := cell_obj hb 4 (.int .i64 0) rfl; have x5 := cell_obj hb 5 (.int .i64 0) rfl; have x6 := cell_obj hb 6 (.int .i64 0) rfl; have x7 := cell_obj hb 7 (.int .i64 0) rfl; have x8 := cell_obj hb 8 (.int .i64 0) rfl; have x9 := cell_obj hb 9 (.int .i64 0) rfl; have x10 := cell_obj hb 10 (.int .i64 0) rfl; have x11 := cell_obj hb 11 (.int .i64 0) rfl; have z0 := obj_frozen hb 0; have z1 := obj_frozen hb 1; have z2 := obj_frozen hb 2; have z3 := obj_frozen hb 3; have z4 := obj_frozen hb 4; have z5 := obj_frozen hb 5; have z6 := obj_frozen hb 6; have z7 := obj_frozen hb 7; have z8 := obj_frozen hb 8; have z9 := obj_frozen hb 9; have z10 := obj_frozen hb 10; have z11 := obj_frozen hb 11; clear hb) | skip); clear hf5)
                          | (go_at_call 110; refine (hMove.out _).mono ?_; rintro e w6 ⟨rfl, hf6⟩; have hD6 : Fr (fun _ => False) wr w6 := Fr.trans (by (repeat (first | (with_reducible assumption) | (with_reducible exact Fr.refl _ _) | (with_reducible refine Fr.alloc ?_ _) | (with_reducible refine Fr.drew ?_) | (with_reducible refine Fr.setCell ?_ (fun h => absurd h (Nat.not_lt.2 ?_)) _) | (exact Nat.le_refl _) | (exact Fr.size (by assumption))))) hf6; (first | (have hb := hf6.at_ (show (World.alloc w5 (Obj.cells #[.string ⟨#[]⟩, .int .i64 0, .int .i64 0, .int .i64 0, .int .i64 0, .int .i64 0, .int .i64 0, .int .i64 0, .int .i64 0, .int .i64 0, .int .i64 0, .int .i64 0] 132)).heap[w5.heap.size]? = some (Obj.cells #[.string ⟨#[]⟩, .int .i64 0, .int .i64 0, .int .i64 0, .int .i64 0, .int .i64 0, .int .i64 0, .int .i64 0, .int .i64 0, .int .i64 0, .int .i64 0, .int .i64 0] 132) from heap_new w5 (Obj.cells #[.string ⟨#[]⟩, .int .i64 0, .int .i64 0, .int .i64 0, .int .i64 0, .int .i64 0, .int .i64 0, .int .i64 0, .int .i64 0, .int .i64 0, .int .i64 0, .int .i64 0] 132)) (fun e => e); have HB := Lib.hid hb; have x0 := cell_obj hb 0 (.string ⟨#[]⟩) rfl; have x1 := cell_obj hb 1 (.int .i64 0) rfl; have x2 := cell_obj hb 2 (.int .i64 0) rfl; have x3 := cell_obj hb 3 (.int .i64 0) rfl; have x4 := cell_obj hb 4 (.int .i64 0) rfl; have x5 := cell_obj hb 5 (.int .i64 0) rfl; have x6 := cell_obj hb 6 (.int .i64 0) rfl; have x7 := cell_obj hb 7 (.int .i64 0) rfl; have x8 := cell_obj hb 8 (.int .i64 0) rfl; have x9 := cell_obj hb 9 (.int .i64 0) rfl; have x10 := cell_obj hb 10 (.int .i64 0) rfl; have x11 := cell_obj hb 11 (.int .i64 0) rfl; have z0 := obj_frozen hb 0; have z1 := obj_frozen hb 1; have z2 := obj_frozen hb 2; have z3 := obj_frozen hb 3; have z4 := obj_frozen hb 4; have z5 := obj_frozen hb 5; have z6 := obj_frozen hb 6; have z7 := obj_frozen hb 7; have z8 := obj_frozen hb 8; have z9 := obj_frozen hb 9; have z10 := obj_frozen hb 10; have z11 := obj_frozen hb 11; clear hb) | (have hb := hf6.at_ HB.out (fun e => e); have HB := Lib.hid hb; have x0 := cell_obj hb 0 (.string ⟨#[]⟩) rfl; have x1 := cell_obj hb 1 (.int .i64 0) rfl; have x2 := cell_obj hb 2 (.int .i64 0) rfl; have x3 := cell_obj hb 3 (.int .i64 0) rfl; have x4 := cell_obj hb 4 (.int .i64 0) rfl; have x5 := cell_obj hb 5 (.int .i64 0) rfl; have x6 := cell_obj hb 6 (.int .i64 0) rfl; have x7 := cell_obj hb 7 (.int .i64 0) rfl; have x8 := cell_obj hb 8 (.int .i64 0) rfl; have x9 := cell_obj hb 9 (.int .i64 0) rfl; have x10 := cell_obj hb 10 (.int .i64 0) rfl; have x11 := cell_obj hb 11 (.int .i64 0) rfl; have z0 := obj_frozen hb 0; have z1 := obj_frozen hb 1; have z2 := obj_frozen hb 2; have z3 := obj_frozen hb 3; have z4 := obj_frozen hb 4; have z5 := obj_frozen hb 5; have z6 := obj_frozen hb 6; have z7 := obj_frozen hb 7; have z8 := obj_frozen hb 8; have z9 := obj_frozen hb 9; have z10 := obj_frozen hb 10; have z11 := obj_frozen hb 11; clear hb) | skip); clear hf6))
                      · go_wp2_with fail
                        go_meet
                        exact ⟨_, rfl, ⟨heap_new _ _, hD6.alloc _⟩, rfl⟩
                      · go_wp2_with fail
                        go_meet
                        have hs := rowSet0 (show w6.heap[w5.heap.size]? = some (.cells (rowV [] SR.zero) 132) from HB.out) gd f0 f1 f2 f3 f4 f5 f6 f7 f8 f9 f10
                        exact ⟨_, rfl, ⟨hs.1, hD6.trans' hs.2 (fun b hb e => by have := hD5.size; omega)⟩, rfl⟩
                      · go_wp2_with fail
                        go_meet
                        have hs := rowSet0 (show w6.heap[wr.heap.size]? = some (.cells (rowV [] SR.zero) 132) from HB.out) gd f0 f1 f2 f3 f4 f5 f6 f7 f8 f9 f10
                        exact ⟨_, rfl, ⟨hs.1, hD6.trans' hs.2 (fun b hb e => by omega)⟩, rfl⟩
                    case rest =>
                      obtain ⟨rb, rfl, ⟨hrw, hFc⟩, rfl⟩ := hcut
                      have HRW := Lib.hid hrw; have HFc := Lib.hid hFc
                      have hx := hrw
                      have x0 := cell_obj hx 0 (vS gd) rfl; have x1 := cell_obj hx 1 (.int .i64 f0) rfl; have x2 := cell_obj hx 2 (.int .i64 f1) rfl; have x3 := cell_obj hx 3 (.int .i64 f2) rfl; have x4 := cell_obj hx 4 (.int .i64 f3) rfl; have x5 := cell_obj hx 5 (.int .i64 f4) rfl; have x6 := cell_obj hx 6 (.int .i64 f5) rfl; have x7 := cell_obj hx 7 (.int .i64 f6) rfl; have x8 := cell_obj hx 8 (.int .i64 f7) rfl; have x9 := cell_obj hx 9 (.int .i64 f8) rfl; have x10 := cell_obj hx 10 (.int .i64 f9) rfl; have x11 := cell_obj hx 11 (.int .i64 f10) rfl
                      clear hx hrw hFc p0 p1
                      cases ri with
                      | false =>
                        have hz : Hid (Z = (50, A)) := Lib.hid (by rw [hZ3.out, hst.out]; rfl)
                        go_wp2_with (go_at_call 87; refine (hRi.out _).mono ?_; rintro e w9 ⟨rfl, hf9⟩; have HF9 := Lib.hid (HFc.out.trans hf9); clear hf9)
                        go_ret
                        rw [hz.out]
                        have hF := (hnf.out _ HFN.out).trans HF9.out
                        exact ⟨rfl, TS, H.out.fr hF (fun _ _ e => e), Stp.refl hF⟩
                      | true =>
                        have hst2 : Hid (dofR kd A (putS ktS.lt B gd ⟨f0, f1, f2, f3, f4, f5, f6, f7, f8, f9, f10⟩) (L.drop (k + 1)) = D) := Lib.hid (by rw [hst.out]; rfl)
                        go_wp2_with (first
                          | (go_at_call 87; refine (hRi.out _).mono ?_; rintro e w9 ⟨rfl, hf9⟩; have HF9 := Lib.hid (HFc.out.trans hf9); have hx := hf9.at_ HRW.out (fun h => h); have x0 := cell_obj hx 0 (vS gd) rfl; have x1 := cell_obj hx 1 (.int .i64 f0) rfl; have x2 := cell_obj hx 2 (.int .i64 f1) rfl; have x3 := cell_obj hx 3 (.int .i64 f2) rfl; have x4 := cell_obj hx 4 (.int .i64 f3) rfl; have x5 := cell_obj hx 5 (.int .i64 f4) rfl; have x6 := cell_obj hx 6 (.int .i64 f5) rfl; have x7 := cell_obj hx 7 (.int .i64 f6) rfl; have x8 := cell_obj hx 8 (.int .i64 f7) rfl; have x9 := cell_obj hx 9 (.int .i64 f8) rfl; have x10 := cell_obj hx 10 (.int .i64 f9) rfl; have x11 := cell_obj hx 11 (.int .i64 f10) rfl; clear hf9 hx)
                          | (go_at_call 88; refine (hSet.out _ (HRN.out.fr HF9.out (fun _ _ e => e))).mono ?_; rintro e w10 ⟨⟨v10, rfl⟩, TN', hR10, hS10⟩; have HR10 := Lib.hid hR10; have HS10 := Lib.hid hS10; clear hR10 hS10))
                        have hlow : ∀ b, TN' b → n1 ≤ b := HS10.out.low HTN.out (by have := HF9.out.size; have := HRN.out.lt gn HRN.out.own; have := HTN.out gn HRN.out.own; omega)
                        have hfr : Fr (fun b => n1 ≤ b) w w10 := (HFN.out.trans' HF9.out (fun _ _ e => e.elim)).trans' HS10.out.1 (fun b _ e => HTN.out b e)
                        have hln : (putS ktS.lt B gd (SR.mk f0 f1 f2 f3 f4 f5 f6 f7 f8 f9 f10)).length ≤ al + (k + 1) := by have := putK_len ktS.lt B gd (SR.mk f0 f1 f2 f3 f4 f5 f6 f7 f8 f9 f10); have := HBL.out; omega
                        have hrs : RiseS (putS ktS.lt B gd (SR.mk f0 f1 f2 f3 f4 f5 f6 f7 f8 f9 f10)) := riseS_put HBR.out
                        have hR10 := HR10.out
                        have hD10 := hst2.out
                        refine ⟨⟨k + 1, TN', putS ktS.lt B gd (SR.mk f0 f1 f2 f3 f4 f5 f6 f7 f8 f9 f10), ?_, ?_, hR10, hlow, hfr, hrs, hln, hD10⟩, ?_⟩
                        · omega
                        · go_num
                        · simp [intOf]; omega
                  · have hkq : k = q := by omega
                    have hD : Hid (D = some B) := Lib.hid (by
                      rw [← HBD.out, List.drop_of_length_le (by rw [HN.out]; omega)]; rfl)
                    have hFw := hnf.out _ HFN.out
                    obtain ⟨ba2, bc2, bc0, brow, bown⟩ := HRN.out.cell
                    have hRg := H.out.fr hFw (fun _ _ e => e)
                    obtain ⟨⟨v0, g1, -, -⟩, -, -⟩ := id hRg
                    obtain ⟨ga, gc, gc0, -, -⟩ := hRg.cell
                    have gf0 := obj_frozen g1 0
                    obtain ⟨bl, hbl⟩ : ∃ bl, B.length = bl := ⟨_, rfl⟩
                    have HBLN := Lib.hid hbl; have HBO := Lib.hid brow; have HBW := Lib.hid bown
                    rw [hbl] at bc0
                    clear hkq hRg g1 brow bown hbl
                    by_cases h64 : 64 < bl
                    · have hz : Hid (Z = (2, A)) := Lib.hid (by rw [hZ3.out, hD.out]; unfold fin3; dsimp only; rw [if_pos (by rw [HBLN.out]; exact h64)])
                      have h64I : (64 : Int) < bl := by omega
                      have HFw := Lib.hid hFw
                      clear hFw
                      go_wp2_with fail
                      go_ret
                      rw [hz.out]
                      exact ⟨rfl, TS, H.out.fr HFw.out (fun _ _ e => e), Stp.refl HFw.out⟩
                    · have hz : Hid (Z = (0, B)) := Lib.hid (by rw [hZ3.out, hD.out]; unfold fin3; dsimp only; rw [if_neg (by rw [HBLN.out]; exact h64)])
                      have h64I : ¬ (64 : Int) < bl := by omega
                      have HFw := Lib.hid hFw
                      clear hFw
                      go_wp2_with fail
                      go_ret
                      rw [hz.out]
                      have hfin := RSX.assign H.out HFN.out hn1w.out HRN.out HTN.out HBO.out (fun b hb => (HBW.out b hb).1)
                      rw [HBLN.out] at hfin
                      exact ⟨rfl, _, hfin⟩
  · have hz : Hid (Z = (1, A)) := Lib.hid (by rw [← HZ.out]; unfold doS; rw [if_pos (by omega)])
    rcases (by omega : kd < 1 ∨ (1 ≤ kd ∧ 11 < kd)) with h1 | ⟨h1, h2⟩
    · clear hk
      go_enter Tryz.func82, Tryz.ntmps82
      go_wp2_with fail
      go_ret
      rw [hz.out]
      exact ⟨rfl, TS, H.out, Stp.refl (Fr.refl _ _)⟩
    · clear hk
      go_enter Tryz.func82, Tryz.ntmps82
      go_wp2_with fail
      go_ret
      rw [hz.out]
      exact ⟨rfl, TS, H.out, Stp.refl (Fr.refl _ _)⟩
end Go.Proofs.YtogphlnakdnchaaGreat

