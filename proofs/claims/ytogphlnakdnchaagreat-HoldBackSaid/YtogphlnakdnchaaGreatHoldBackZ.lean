/- hold: for every input HoldBack returns true and leaves its input as it was (written by wip/tools/back08.py). -/
import Derived.Test.YtogphlnakdnchaaGreatRows
import Derived.Test.YtogphlnakdnchaaGreatHoldBackM15
import Derived.Test.YtogphlnakdnchaaGreatHoldBackM13
import Derived.Test.YtogphlnakdnchaaGreatHoldBackM3
import Derived.Deep.RegionWith
import Derived.Deep.RegionHeld3
import Derived.Deep.QuietTactic
import Derived.BigQuiet
namespace Go.Proofs.YtogphlnakdnchaaGreat.holdBack
open Go.ChangeShapes Go.WideShapes Go.ChangeAt Go.RowKit Go.Maps
attribute [local go_sem] Oper.semAt_some
theorem okHopKeeps : Keeps okHop := fun _ _ _ _ h hf hS => ⟨h.1, h.2.1, h.2.2.1.fr hf hS, h.2.2.2⟩
theorem heNum {x : HE} : x.num = x.he.length + x.pi.length + x.sh.length := rfl
set_option maxRecDepth 100000 in
set_option maxHeartbeats 32000000 in
theorem walk (v : Value) (ops : List HOp) (o : Int) (u : Value) (want : Its) (w : World) (hp : Sq 6 hopC okHop w v ops) (ho : okI o) (hu : Il w u want) : Calls Tryz.prog 4 #[v, .int .i64 o, u] w fun e w' => e = .returned (.bool true) ∧ Below w.heap.size w w' := by
  have hlen := hp.len
  obtain ⟨va, vl, vc, rfl⟩ : ∃ a n c, v = .slice a n c := by obtain ⟨a, c, e⟩ := hp.sl; exact ⟨a, _, c, e⟩
  have hvl : vl = ops.length := by obtain ⟨a, c, e⟩ := hp.sl; injection e
  obtain ⟨N, hN⟩ : ∃ N, ops.length = N := ⟨_, rfl⟩
  rw [hN] at hvl hlen
  subst hvl
  obtain ⟨ua, uc, rfl⟩ := hu.sl
  obtain ⟨un, hun⟩ : ∃ n, want.length = n := ⟨_, rfl⟩
  have hul : (un : Int) ≤ 9223372036854775807 := by have := hu.1; omega
  have hfin : ∀ w', Fr (fun _ => False) w w' → Below w.heap.size w w' := fun w' h => h.toBelow (fun b e => e.elim) (Nat.le_refl _)
  have HN := Lib.hid hN; have HP := Lib.hid hp; have HO := Lib.hid ho; have HU := Lib.hid hu; have HFIN := Lib.hid hfin
  rw [hun] at HU ⊢
  clear hp hN ho hu hun hfin
  go_enter Tryz.func4, Tryz.ntmps4
  by_cases hbig : (100 : Int) < un
  · go_wp2_with (first
      | (go_at_call 6; refine (eNew _).mono ?_; rintro e w1 ⟨g, TS, rfl, h1, h2, h3⟩; have HF := Lib.hid h3; clear h1 h2 h3)
      | (go_at_call 7; refine (hLives _).mono ?_; rintro e w2 ⟨rfl, hf2⟩; have hF := (by first | exact (HF.out.alloc _).trans hf2 | exact HF.out.trans hf2 : Fr (fun _ => False) w w2); clear HF; have HF := Lib.hid hF; clear hf2 hF))
    go_ret
    exact ⟨rfl, HFIN.out _ HF.out⟩
  go_upto_region 5 with (first
    | (go_at_call 6; refine (eNew _).mono ?_; rintro e w1 ⟨g, TS, rfl, h1, h2, h3⟩; have H1 := Lib.hid h1; have H2 := Lib.hid h2; have H3 := Lib.hid h3; clear h1 h2 h3)
    | (go_at_call 7; refine (hLives _).mono ?_; rintro e w2 ⟨rfl, hf2⟩; have HF2 := Lib.hid hf2; clear hf2))
  obtain ⟨gx, hgx⟩ : ∃ n, w1.heap.size = n := ⟨_, rfl⟩
  have hT0 : Tw w w2 g gx [] [] 0 0 none (.slice none 0 0) [] := by
    have hB : w2.heap[gx]? = some (.cells #[.slice none 0 0, .slice none 0 0] 46) := by rw [← hgx]; exact HF2.out.at_ (heap_new _ _) (fun e => e)
    have hf12 : Fr (fun _ => False) w1 w2 := ((Fr.refl _ w1).alloc _).trans HF2.out
    have hgl := (Array.getElem?_eq_some_iff.1 hB).1
    have hs3 := H3.out.size
    have hlt := H1.out.lt
    have hX : XS w2 gx (fun b => b = gx) (fun _ => False) [] [] (.slice none 0 0) :=
      ⟨⟨⟨.slice none 0 0, hB, World.ownsRow_nil _ _ _ _, fun b hb => by cases hb⟩, rfl, fun b hb => by have hb : b = gx := hb; omega⟩, ok0, World.ownsRow_nil _ _ _ _, fun b hb => (by cases hb), fun h hh => (by cases hh), fun b hb => hb.elim, fun b hb => hb.elim⟩
    exact ⟨⟨TS, fun b => b = gx, H1.out.keep hf12 (fun _ _ e => e), ⟨_, _, _, _, _, hX, Nat.le_refl _, fun b => ⟨.inl, fun e => e.elim id (fun e => e.elim)⟩⟩, H2.out, fun b hb => by have hb : b = gx := hb; omega, fun b hb e => by have := hlt b hb; have e : b = gx := e; omega, fun _ e => (by cases e), fun b hb => (by cases hb)⟩, ⟨ok0, List.Pairwise.nil, fun p hp => (by cases hp), by simp⟩, H3.out.trans hf12, fun _ e => (by cases e), nilIl _, fun b hb => (by cases hb)⟩
  rw [hgx]
  have HT0 := Lib.hid hT0
  clear hT0 hgx H1 H2 H3 HF2
  go_wp2_with fail
  go_loopw [9] (fun i wr => ∃ (k : Nat) (A : Stk) (le : Hes) (x : Value) (M : Its), k ≤ vl ∧ k ≤ 60 ∧ i = .int .i64 k ∧ Tw w wr g gx A le k 0 none x M) (fun i _ => vl - (intOf i).toNat)
  case atStart => exact ⟨0, _, _, _, _, Nat.zero_le _, Nat.zero_le _, rfl, HT0.out⟩
  case round =>
    obtain ⟨k, A, le, x, M, hk, hk2, rfl, hT⟩ := hrel
    have HT := Lib.hid hT
    clear hT HT0
    have hq : ((k : Int) < vl ∧ (k : Int) < 60) ∨ ((k : Int) < vl ∧ ¬ (k : Int) < 60) ∨ ¬ (k : Int) < vl := by omega
    rcases hq with ⟨hlI, h60⟩ | ⟨hlI, h60⟩ | hlI
    · have hlt : k < vl := by omega
      obtain ⟨op, hob⟩ : ∃ o, ops[k]? = some o := ⟨ops[k]'(by rw [HN.out]; exact hlt), List.getElem?_eq_getElem _⟩
      obtain ⟨ad, rfl, hok, z0, zs⟩ := (HP.out.fr0 okHopKeeps HT.out.fr).at_ hob
      have hok0 : okHop w op := (HP.out.at_ hob).choose_spec.2.1
      obtain ⟨K, o1, lv, its, dk, gd, nn⟩ := op
      obtain ⟨la, lc, hlv⟩ := hok.2.2.1.sl
      dsimp only at hlv
      subst hlv
      obtain ⟨ln, hln⟩ : ∃ n, its.length = n := ⟨_, rfl⟩
      have x0 := z0 (.int .i64 K) rfl
      have x1 := zs 0 (.int .i64 o1) rfl
      have x2 := zs 1 (.slice la its.length lc) rfl
      have x3 := zs 2 (.int .i64 dk) rfl
      have x4 := zs 3 (vS gd) rfl
      have x5 := zs 4 (.int .i64 nn) rfl
      dsimp only [Nat.zero_add, Nat.reduceAdd] at x1 x2 x3 x4 x5
      have hil : Il w (.slice la its.length lc) its := hok0.2.2.1
      rw [hln] at x2 hil
      have hlnb : (ln : Int) ≤ 9223372036854775807 := by have := hil.1; omega
      have HOK0 := Lib.hid hok0
      rw [hln] at HOK0
      have HLN := Lib.hid hln
      clear hob hok hok0 z0 zs hln hil
      by_cases hl100 : (ln : Int) ≤ 100
      · go_wp2_with (go_at_call 16; refine (lDo w _ g gx k A le x M ⟨K, o1, .slice la ln lc, its, dk, gd, nn⟩ HT.out HOK0.out.2.1 HOK0.out.2.2.1 HOK0.out.2.2.2.2.1 (by show its.length ≤ 100; rw [HLN.out]; omega) (by omega)).mono ?_; rintro e w3 ⟨⟨b3, A3, le3, x3', M3, rfl, hT3⟩⟩; have HT3 := Lib.hid hT3; clear hT3)
        go_roundw
        case rel => exact ⟨k + 1, _, _, _, _, by omega, by omega, by go_num, HT3.out⟩
        case measure => simp [intOf]; omega
      · go_wp2_with fail
        go_roundw
        case rel => exact ⟨k + 1, _, _, _, _, by omega, by omega, by go_num, HT.out.up (Nat.le_succ _)⟩
        case measure => simp [intOf]; omega
    all_goals
      have HL0 := Lib.hid HT.out.lvb
      clear HT hk hk2
      obtain ⟨S, hS⟩ : ∃ S, packHStr A le = S := ⟨_, rfl⟩
      have HS := Lib.hid hS
      clear hS
      obtain ⟨y, hy⟩ : ∃ y, heOf le o = y := ⟨_, rfl⟩
      have HY := Lib.hid hy
      clear hy
      go_upto_region 12 with (first
        | (go_at_call 17; refine HL0.out.pack.mono ?_; rw [HS.out]; rintro e w4 ⟨v4, rfl, hs4, hL4⟩; have HL4 := Lib.hid hL4; clear hL4)
        | (go_at_call 15; refine (HL4.out.hold HO.out).mono ?_; rw [HY.out]; rintro e w5 ⟨v5, rfl, hd5, hL5⟩; obtain ⟨yv, rfl, hye, hyk⟩ := hd5; obtain ⟨d1, f1, p1⟩ := hyk.lh.1.sl; obtain ⟨d2, f2, p2⟩ := hyk.lp.1.sl; obtain ⟨d3, f3, p3⟩ := hyk.ls.1.sl; have henc : yv.enc = .agg #[.int .i64 yv.o, .slice d1 yv.he.length f1, .slice d2 yv.pi.length f2, .slice d3 yv.sh.length f3] := (by unfold HV.enc; rw [p1, p2, p3]); rw [henc]; have HYE := Lib.hid hye; have HL5 := Lib.hid hL5; clear henc hye hyk p1 p2 p3 hL5 hs4))
      obtain ⟨m1, hm1⟩ : ∃ m, yv.he.length = m := ⟨_, rfl⟩
      obtain ⟨m2, hm2⟩ : ∃ m, yv.pi.length = m := ⟨_, rfl⟩
      obtain ⟨m3, hm3⟩ : ∃ m, yv.sh.length = m := ⟨_, rfl⟩
      have hnum : y.num = m1 + m2 + m3 := by rw [← HYE.out, ← hm1, ← hm2, ← hm3]; rfl
      have hln3 := heOf_len HL0.out.ok.row o
      rw [HY.out, ← HYE.out] at hln3
      have b1 : (m1 : Int) ≤ 16 := by have : yv.he.length ≤ 16 := hln3.1; omega
      have b2 : (m2 : Int) ≤ 16 := by have : yv.pi.length ≤ 16 := hln3.2.1; omega
      have b3 : (m3 : Int) ≤ 16 := by have : yv.sh.length ≤ 16 := hln3.2.2; omega
      rw [hm1, hm2, hm3]
      have HNU := Lib.hid hnum
      obtain ⟨yo, hyo⟩ : ∃ yo, yv.o = yo := ⟨_, rfl⟩
      rw [hyo]
      clear hm1 hm2 hm3 hnum hln3 hyo
      obtain ⟨W6, hW6⟩ : ∃ W, w5.alloc (.cells #[.int .i64 yo, .slice d1 m1 f1, .slice d2 m2 f2, .slice d3 m3 f3] 37) = W := ⟨_, rfl⟩
      have hB6 : W6.heap[w5.heap.size]? = some (.cells #[.int .i64 yo, .slice d1 m1 f1, .slice d2 m2 f2, .slice d3 m3 f3] 37) := by rw [← hW6]; exact heap_new _ _
      have HL6 : Hid (LvB w W6 g A le []) := Lib.hid (by rw [← hW6]; exact HL5.out.keep ((Fr.refl _ _).alloc _))
      rw [hW6]
      have c1 := cell_obj hB6 1 _ rfl
      have c2 := cell_obj hB6 2 _ rfl
      have c3 := cell_obj hB6 3 _ rfl
      clear hW6 hB6 HL0 HL4 HL5
      by_cases h0 : (0 : Int) < (m1 : Int) + (m2 : Int) + (m3 : Int)
      · go_wp2_with fail
        go_ret
        exact ⟨rfl, HFIN.out _ HL6.out.fr⟩
      have hz : (heOf le o).num = 0 := by rw [HY.out, HNU.out]; omega
      obtain ⟨R, hR⟩ : ∃ R, takeE A le o want = R := ⟨_, rfl⟩
      obtain ⟨⟨L1, c⟩, A1, le1⟩ := R
      have hbk := back_plain HL6.out.ok hz hR
      have hkT : ShOk A1 le1 := by have := (take_ok (o := o) (L := want) HL6.out.ok).1.sh; rw [hR] at this; exact this
      have HBK := Lib.hid hbk; have HR := Lib.hid hR; have HKT := Lib.hid hkT
      clear hbk hR hkT hz
      go_upto_region 15 with (go_at_call 8; refine (HL6.out.take HO.out (HU.out.fr HL6.out.fr (fun _ e => e.elim)) HKT.out HR.out).mono ?_; rintro e w7 ⟨v7, rfl, hL7⟩; have hi7 : Il w7 v7 L1 := hL7.il (v7, L1) List.mem_cons_self; obtain ⟨s1, t1, e1⟩ := hi7.sl; obtain ⟨n1, hn1⟩ : ∃ m, L1.length = m := ⟨_, rfl⟩; rw [hn1] at e1; subst e1; have HL7 := Lib.hid hL7; have HN1 := Lib.hid hn1; clear hn1 hL7 hi7)
      have hn1b : (n1 : Int) ≤ 9223372036854775807 := by have := (HL7.out.il (_, L1) List.mem_cons_self).1; have h2 := HN1.out; dsimp only at this; omega
      have hq : (c ≠ 0) ∨ (c = 0 ∧ n1 = 0) ∨ (c = 0 ∧ n1 ≠ 0) := by omega
      rcases hq with hc | ⟨rfl, rfl⟩ | ⟨rfl, hn⟩
      · have hc' : (c != 0) = true := by simpa using hc
        obtain ⟨e1, e2⟩ := HBK.out.1 (.inl hc)
        subst e1; subst e2
        go_wp2_with (go_at_call 17; refine HL7.out.pack.mono ?_; rw [HS.out]; rintro e w8 ⟨v8, rfl, hs8, hL8⟩; have HL8 := Lib.hid hL8; clear hL8)
        go_ret
        exact ⟨rfl, HFIN.out _ HL8.out.fr⟩
      · obtain ⟨e1, e2⟩ := HBK.out.1 (.inr (List.length_eq_zero_iff.1 HN1.out))
        subst e1; subst e2
        go_wp2_with (go_at_call 17; refine HL7.out.pack.mono ?_; rw [HS.out]; rintro e w8 ⟨v8, rfl, hs8, hL8⟩; have HL8 := Lib.hid hL8; clear hL8)
        go_ret
        exact ⟨rfl, HFIN.out _ HL8.out.fr⟩
      · obtain ⟨k1, A2, le2, e1, k2, e2, e3, e4⟩ := HBK.out.2 rfl (fun e => hn (by rw [← HN1.out, e]; rfl))
        have hn' : ((n1 : Int) == 0) = false := by simp; omega
        have E1 := Lib.hid e1; have E2 := Lib.hid e2; have E3 := Lib.hid e3; have E4 := Lib.hid e4; have K2 := Lib.hid k2; have K0 := Lib.hid HL6.out.ok
        clear e1 e2 e3 e4 k1 k2 HBK
        go_upto_region 21 with (first
          | (go_at_call 11; refine (HL7.out.pick HO.out K2.out E1.out).mono ?_; rintro e w8 ⟨v8, rfl, hL8⟩; have HL8 := Lib.hid hL8; clear hL8)
          | (go_at_call 12; refine (HL9.out.unpick HO.out HKT.out E3.out).mono ?_; rintro e w10 ⟨v10, rfl, hL10⟩; have HL10 := Lib.hid hL10; clear hL10)
          | (go_at_call 10; refine (HL8.out.free HO.out K2.out E2.out).mono ?_; rintro e w9 ⟨v9, rfl, hL9⟩; have HL9 := Lib.hid hL9; clear hL9)
          | (go_at_call 10; refine (HL10.out.free HO.out K0.out E4.out).mono ?_; rintro e w11 ⟨v11, rfl, hL11⟩; have HL11 := Lib.hid hL11; clear hL11))
        have hsame : ∀ W' a b, Il W' a L1 → Il W' b L1 → Calls Tryz.prog 18 #[a, b] W' fun e w' => e = .returned (.bool true) ∧ Fr (fun _ => False) W' w' := fun W' a b ha hb => (r6Same W' a b L1 L1 ha hb).mono (by
          rintro e w' ⟨rfl, nd, rfl⟩
          exact ⟨by simp, (Fr.refl _ _).drewN nd⟩)
        have HSM := Lib.hid hsame
        have hIL : ∀ W', Fr (fun _ => False) w11 W' → Il W' (.slice s1 n1 t1) L1 ∧ Il W' v8 L1 ∧ Il W' v10 L1 ∧ Il W' v11 L1 := fun W' hf =>
          ⟨(HL11.out.keep hf).il (_, L1) (by simp), (HL11.out.keep hf).il (v8, L1) (by simp), (HL11.out.keep hf).il (v10, L1) (by simp), (HL11.out.keep hf).il (v11, L1) (by simp)⟩
        have HIL := Lib.hid hIL
        clear hsame hIL
        go_wp2_with (first
          | (go_at_call 18; with_reducible refine (HSM.out w11 _ v8 (HIL.out _ (Fr.refl _ _)).1 (HIL.out _ (Fr.refl _ _)).2.1).mono ?_; rintro e w12 ⟨rfl, hf12⟩; have HF12 := Lib.hid hf12; clear hf12)
          | (go_at_call 18; with_reducible refine (HSM.out w12 _ v10 (HIL.out _ HF12.out).1 (HIL.out _ HF12.out).2.2.1).mono ?_; rintro e w13 ⟨rfl, hf13⟩; have HF13 := Lib.hid (HF12.out.trans hf13); clear hf13)
          | (go_at_call 18; with_reducible refine (HSM.out w13 _ v11 (HIL.out _ HF13.out).1 (HIL.out _ HF13.out).2.2.2).mono ?_; rintro e w14 ⟨rfl, hf14⟩; have HF14 := Lib.hid (HF13.out.trans hf14); clear hf14)
          | (go_at_call 17; refine (HL11.out.keep HF14.out).pack.mono ?_; rw [HS.out]; rintro e w15 ⟨v15, rfl, hs15, hL15⟩; have HL15 := Lib.hid hL15; clear hL15))
        go_ret
        exact ⟨rfl, HFIN.out _ HL15.out.fr⟩
set_option maxRecDepth 100000 in
theorem open_hops {H : Type} {enc : TypeId × Value → H} {w : World} {base : Nat} {spare : Nat → Bool} {held : Bool} {r : Reach} {b0 : Nat} {v : Value} {d : DataW H} {p : List MemPlace} (hv : Value.okWide Tryz.prog w r b0 22 v) (h : DataW.Trod enc Tryz.prog w base spare held 22 v d p) : ∃ L, Sq 6 hopC okHop w v L :=
  open_sq (d := 3) Tryz.underlying22 (by kernel_rfl) (by kernel_rfl) (by kernel_rfl) open_hop hv h
set_option maxRecDepth 100000 in
theorem lifted (os : Os) (started : os.Started) (H : Type) (enc : TypeId × Value → H) :
    ReturnsInHanded {} Tryz.checked os 4 .any (Rows.holdBackSpec.pre6 enc Tryz.prog Tryz.f4 Rows.holdBackRow.domain false) (Rows.holdBackSpec.post enc Tryz.prog Tryz.f4 false true false false) := by
  refine returnsInHanded_of_change (C := Tryz.checked) own started (by kernel_rfl) Tryz.func4
    (ChangeSpec.witness6 (enc := enc) (C := Tryz.checked) false ⟨#[], #[.slice none 0 0, .int .i64 0, .slice none 0 0], []⟩ 8 (by kernel_rfl) (by kernel_rfl) (by kernel_rfl) (by kernel_rfl)) ?_
  intro W base args ds gs before hval0 hW hcnd _
  have hval : ∀ (j : Nat) t v, Tryz.f4.params[j]? = some t → args[j]? = some v → Value.okWide Tryz.prog W .any base t v := hval0
  have hW' := hW
  obtain ⟨p, q, hA0, hV, rfl, hfz, hnd⟩ := hW
  have hA : DataW.TrodAll enc Tryz.prog W 0 (fun _ => true) true Tryz.f4.params.toList args.toList ds p := hA0
  rw [Tryz.params4] at hA hval
  obtain ⟨v0, vs0, d0, ds0, p0, q0, hargs, rfl, rfl, h0, r0⟩ := trodAll_cons hA
  obtain ⟨v1, vs1, d1, ds1, p1, q1, rfl, rfl, rfl, h1, r1⟩ := trodAll_cons r0
  obtain ⟨v2, vs2, d2, ds2, p2, q2, rfl, rfl, rfl, h2, r2⟩ := trodAll_cons r1
  obtain ⟨rfl, rfl, rfl⟩ := trodAll_nil r2
  obtain rfl : args = #[v0, v1, v2] := by cases args; simp_all
  obtain ⟨rfl, rfl⟩ := trodVars_none hV
  obtain ⟨L0, hL0⟩ := open_hops (hval 0 22 v0 rfl rfl) h0
  obtain ⟨a1, rfl, rfl, rfl, w1⟩ := open_int Tryz.underlying3 (hval 1 3 v1 rfl rfl) h1
  obtain ⟨L2, hL2⟩ := open_items (hval 2 27 v2 rfl rfl) h2
  clear hA0 hval0
  simp only [List.append_nil] at hW'
  refine (walk v0 L0 a1 v2 L2 W hL0 (wf_okI.1 w1) hL2).mono fun e W' ⟨he, hg⟩ => ?_
  subst he
  exact ⟨_, rfl, law_post laidOut (by kernel_rfl) rfl Tryz.underlying4 hW' rfl rfl hg⟩
theorem over : Rows.holdBackRow.holds Tryz.pinned (OpenSpec.ofChange Rows.holdBackSpec) :=
  OpenClaim.holds_of_wide 4 Tryz.f4 rfl rfl rfl rfl rfl rfl rfl ⟨rfl, rfl, rfl, rfl, rfl⟩ rfl rfl rfl rfl rfl (by kernel_rfl) Tryz.func4 (by kernel_rfl)
    (of_decide_eq_true (by kernel_rfl)) (by unfold Func.isWrapper; first | (rw [if_pos (by decide +kernel)]; kernel_rfl) | (rw [if_neg (by decide +kernel)]; exact ⟨rfl, rfl⟩))
    (fun os started H enc _ => lifted os started H enc)
theorem proved : Rows.HoldBackSaid :=
  over
#print axioms proved
end Go.Proofs.YtogphlnakdnchaaGreat.holdBack

