/- hold: for every input HoldShips returns true and leaves its input as it was (written by wip/tools/ships08.py). -/
import Derived.Test.YtogphlnakdnchaaGreatRows
import Derived.Test.YtogphlnakdnchaaGreatHoldShipsM1
import Derived.Test.YtogphlnakdnchaaGreatHoldShipsM9
import Derived.Test.YtogphlnakdnchaaGreatHoldShipsM2
import Derived.Deep.RegionWith
import Derived.Deep.RegionHeld3
import Derived.Deep.QuietTactic
import Derived.BigQuiet
namespace Go.Proofs.YtogphlnakdnchaaGreat.holdShips
open Go.ChangeShapes Go.WideShapes Go.ChangeAt Go.RowKit Go.Maps
theorem okHopKeeps : Keeps okHop := fun _ _ _ _ h hf hS => ⟨h.1, h.2.1, h.2.2.1.fr hf hS, h.2.2.2⟩
theorem hold2 {w W : World} {g mt ms n1 : Nat} {A : Stk} {le : Hes} {T S : Bk} {ob : Option Obj} {o : Int} (h : LgS w W g mt ms A le T S n1 ob) (ho : okI o) : Calls Tryz.prog 15 #[.pointer (some ⟨g, 0, none⟩), .int .i64 o] W fun e w' =>
    ∃ yo b1 z1 e1 b2 z2 e2 b3 z3 e3, e = .returned (.agg #[.int .i64 yo, .slice b1 z1 e1, .slice b2 z2 e2, .slice b3 z3 e3]) ∧ Il w' (.slice b3 z3 e3) (heOf le o).sh ∧ LgS w w' g mt ms A le T S n1 ob := by
  refine (h.hold ho).mono ?_
  rintro e w' ⟨v, rfl, ⟨y, rfl, hy, hyk⟩, hf⟩
  obtain ⟨b1, e1, q1⟩ := hyk.lh.1.sl
  obtain ⟨b2, e2, q2⟩ := hyk.lp.1.sl
  obtain ⟨b3, e3, q3⟩ := hyk.ls.1.sl
  have hi := hyk.ls.1
  have hs : y.sh = (heOf le o).sh := congrArg HE.sh hy
  rw [q3] at hi
  refine ⟨y.o, b1, y.he.length, e1, b2, y.pi.length, e2, b3, y.sh.length, e3, ?_, ?_, h.keep hf⟩
  · unfold HV.enc
    rw [q1, q2, q3]
  · rw [← hs]; exact hi
set_option maxRecDepth 100000 in
set_option maxHeartbeats 32000000 in
theorem walk (v : Value) (ops : List HOp) (w : World) (hp : Sq 6 hopC okHop w v ops) : Calls Tryz.prog 3 #[v] w fun e w' => e = .returned (.bool true) ∧ Below w.heap.size w w' := by
  have hlen := hp.len
  obtain ⟨va, vl, vc, rfl⟩ : ∃ a n c, v = .slice a n c := by obtain ⟨a, c, e⟩ := hp.sl; exact ⟨a, _, c, e⟩
  have hvl : vl = ops.length := by obtain ⟨a, c, e⟩ := hp.sl; injection e
  obtain ⟨N, hN⟩ : ∃ N, ops.length = N := ⟨_, rfl⟩
  rw [hN] at hvl hlen
  subst hvl
  have HN := Lib.hid hN; have HP := Lib.hid hp
  clear hp hN
  have hfin : ∀ w', Fr (fun _ => False) w w' → Below w.heap.size w w' := fun w' h => h.toBelow (fun b e => e.elim) (Nat.le_refl _)
  have HFIN := Lib.hid hfin
  have hmm := @run_makeMap Tryz.prog
  clear hfin
  go_enter Tryz.func3, Tryz.ntmps3
  go_wp2_with (first
    | (go_at_call 6; refine (eNew _).mono ?_; rintro e w1 ⟨g, TS, rfl, h1, h2, h3⟩; have H1 := Lib.hid h1; have H2 := Lib.hid h2; have H3 := Lib.hid h3; clear h1 h2 h3)
    | (go_at_call 7; refine (hLives _).mono ?_; rintro e w2 ⟨rfl, hf2⟩; have HF2 := Lib.hid hf2; clear hf2))
  have hLg : LgS w ((w2.alloc (.map #[] 0)).alloc (.map #[] 0)) g w2.heap.size (w2.heap.size + 1) [] [] [] [] 0 none := by
    have hf : Fr (fun _ => False) w1 ((w2.alloc (.map #[] 0)).alloc (.map #[] 0)) := (HF2.out.alloc _).alloc _
    have hl := H1.out.lt
    have hz1 := HF2.out.size
    have hz2 := H3.out.size
    exact ⟨⟨TS, H1.out.keep hf (fun _ _ e => e), H2.out, fun e => by have := hl _ e; omega, fun e => by have := hl _ e; omega, fun _ e => by cases e⟩, ⟨ok0, List.Pairwise.nil, fun p hp => (by cases hp), by simp⟩, (Mp.made Tryz.prog w2 3 ktI encK).alloc _, by have := Mp.made Tryz.prog (w2.alloc (.map #[] 0)) 3 ktI encK; rw [World.size_alloc] at this; exact this, ⟨by omega, by omega, by omega⟩, H3.out.trans hf, fun _ e => by cases e⟩
  obtain ⟨mt, hmt⟩ : ∃ m, w2.heap.size = m := ⟨_, rfl⟩
  obtain ⟨ms, hms⟩ : ∃ m, mt + 1 = m := ⟨_, rfl⟩
  rw [hmt, hms] at hLg
  try rw [hmt]
  try rw [hms]
  have HL := Lib.hid hLg
  clear hmm hLg hmt hms H1 H2 H3 HF2
  go_loopw [6] (fun vi wr => ∃ (k : Nat) (A : Stk) (le : Hes) (T S : Bk), k ≤ vl ∧ k ≤ 100 ∧ vi = .int .i64 k ∧ LgS w wr g mt ms A le T S 0 none ∧ Led le T S k) (fun vi _ => vl - (intOf vi).toNat)
  case atStart => exact ⟨0, _, _, _, _, Nat.zero_le _, Nat.zero_le _, rfl, HL.out, Led.nil⟩
  case round =>
    obtain ⟨k, A, le, T, S, hk, hk2, rfl, hL, hD⟩ := hrel
    have HL0 := Lib.hid hL; have HD := Lib.hid hD
    clear hL hD HL
    by_cases hlt : k < vl
    · have hkI : (k : Int) < vl := by omega
      by_cases h100 : k < 100
      · have hkJ : (k : Int) < 100 := by omega
        obtain ⟨op, hob⟩ : ∃ o, ops[k]? = some o := ⟨ops[k]'(by rw [HN.out]; exact hlt), List.getElem?_eq_getElem _⟩
        obtain ⟨ad, rfl, hok, z0, zs⟩ := (HP.out.fr0 okHopKeeps HL0.out.fr).at_ hob
        obtain ⟨K, o, lv, its, dk, gd, nn⟩ := op
        obtain ⟨la, lc, hlv⟩ := hok.2.2.1.sl
        dsimp only at hlv
        subst hlv
        obtain ⟨ln, hln⟩ : ∃ n, its.length = n := ⟨_, rfl⟩
        have x0 := z0 (.int .i64 K) rfl
        have x1 := zs 0 (.int .i64 o) rfl
        have x2 := zs 1 (.slice la its.length lc) rfl
        have x3 := zs 2 (.int .i64 dk) rfl
        have x4 := zs 3 (vS gd) rfl
        have x5 := zs 4 (.int .i64 nn) rfl
        dsimp only [Nat.zero_add, Nat.reduceAdd] at x1 x2 x3 x4 x5
        have hil : Il wr (.slice la its.length lc) its := hok.2.2.1
        rw [hln] at x2 hil
        have hlnb : (ln : Int) ≤ 9223372036854775807 := by have := hil.1; omega
        have HO : Hid (okI o) := Lib.hid hok.2.1
        obtain ⟨ob, hobj⟩ : ∃ ob : Obj, ob = .cells #[.int .i64 K, .int .i64 o, .slice la ln lc, .int .i64 dk, vS gd, .int .i64 nn] 29 := ⟨_, rfl⟩
        have hLb := HL0.out.box (.cells #[.int .i64 K, .int .i64 o, .slice la ln lc, .int .i64 dk, vS gd, .int .i64 nn] 29)
        have hf1 : Fr (fun _ => False) wr (wr.alloc (.cells #[.int .i64 K, .int .i64 o, .slice la ln lc, .int .i64 dk, vS gd, .int .i64 nn] 29)) := (Fr.refl _ wr).alloc _
        have HI := Lib.hid (hil.fr hf1 (fun _ e => e.elim))
        have HL := Lib.hid hLb
        have hkN : k ≤ 100 := hk2
        clear hob hok z0 zs hln hil hobj hLb hf1
        by_cases hl100 : 100 < ln
        · have hlI : (100 : Int) < ln := by omega
          go_wp2_with fail
          go_roundw
          case rel => exact ⟨k + 1, _, _, _, _, by omega, by omega, by go_num, HL.out.drop 0, HD.out.up⟩
          case measure => simp [intOf]; omega
        have hlI : ¬ (100 : Int) < ln := by omega
        clear hl100
        by_cases hK1 : K = 1
        · subst hK1
          have hTk := HL.out.take HO.out HI.out
          have hLd := HD.out.take (o := o) (L := its) HL.out.ok
          have hout := (take_ok (o := o) (L := its) HL.out.ok).1.out
          obtain ⟨R, hR⟩ : ∃ R, takeE A le o its = R := ⟨_, rfl⟩
          rw [hR] at hTk hLd hout
          obtain ⟨⟨L', c⟩, A', le'⟩ := R
          dsimp only at hTk hLd hout
          obtain ⟨tv, htv⟩ : ∃ v, bk T o = v := ⟨_, rfl⟩
          obtain ⟨hof, hd1, hd2⟩ := may_of hout gA
          obtain ⟨dv, hdv⟩ : ∃ v, getI L' gA = v := ⟨_, rfl⟩
          rw [hdv] at hof hd1 hd2
          rw [htv, hdv] at hLd
          have hb1 := HD.out.less HL.out.ok o
          have hb2 := HD.out.top o
          have hrng : 0 ≤ tv ∧ tv ≤ 1759218604441600 := by
            have : (k : Int) * 17592186044416 ≤ 100 * 17592186044416 := by omega
            omega
          have hwr : IntKind.i64.wrap (tv + dv) = tv + dv := IntWalk.i64_in _ ⟨by omega, by omega⟩
          have HLN := Lib.hid HD.out.len
          have HTK := Lib.hid hTk; have HD := Lib.hid hLd; have HOF := Lib.hid hof; have HTV := Lib.hid htv
          clear hTk hLd hR hout htv hof hd1 hd2 hdv hb1 hb2 hrng
          go_wp2_with (go_at_call 8; refine HTK.out.mono ?_; rintro e w3 ⟨v3, rfl, hi3, hL3⟩; obtain ⟨a3, c3, e3⟩ := hi3.sl; obtain ⟨n3, hn3⟩ : ∃ n, L'.length = n := ⟨_, rfl⟩; rw [hn3] at e3; subst e3; have HL := Lib.hid hL3; have HI3 := Lib.hid hi3; clear hi3 hL3 hn3)
          have HLD := Lib.hid (HL.out.keep (Fr.refl (fun _ => False) _).drew)
          have HID := Lib.hid (HI3.out.keep (Fr.refl (fun _ => False) w3).drew (fun _ _ _ e => e))
          obtain ⟨w5, hst5, hL5, hf5⟩ := HLD.out.putT HO.out (by have := HLN.out; omega) (tv + dv)
          obtain ⟨lt, ls⟩ := HLD.out.look HO.out
          rw [HTV.out] at lt
          have d1 := cell_obj (HLD.out.bx _ rfl).1 1 (.int .i64 o) rfl
          have HL := Lib.hid hL5
          clear hL5 hf5
          go_region_with (go_at_call 9; refine (r6Of _ _ _ gA HID.out).mono ?_; rw [HOF.out]; rintro e w4 ⟨rfl, rfl⟩)
          all_goals
            have d1 := cell_obj (HL.out.bx _ rfl).1 1 (.int .i64 o) rfl
            go_wp2_with fail
            obtain ⟨tw, htw⟩ : ∃ v, bk (putS ktI.lt T o (tv + dv)) o = v := ⟨_, rfl⟩
            obtain ⟨sw, hsw⟩ : ∃ v, bk S o = v := ⟨_, rfl⟩
            have hless := HD.out.less HL.out.ok o
            have hspo := HD.out.sp o
            rw [htw, hsw] at hless
            rw [hsw] at hspo
            have hgt : decide (tw < sw) = false := by simp; omega
            have HSP := Lib.hid ((may_of (heOf_may HL.out.ok.row o).2.2 gA).1.trans hspo)
            have HLV := Lib.hid (HL.out.keep (Fr.refl (fun _ => False) _).drew)
            obtain ⟨lt, ls⟩ := HLV.out.look HO.out
            rw [htw] at lt; rw [hsw] at ls
            have d1 := cell_obj (HLV.out.bx _ rfl).1 1 (.int .i64 o) rfl
            have HTW := Lib.hid htw; have HSW := Lib.hid hsw
            clear htw hsw hless hspo
            have HFA : Hid (∀ W' AA, LgS w W' g mt ms AA le' (putS ktI.lt T o (tv + dv)) S wr.heap.size (some (.cells #[.int .i64 1, .int .i64 o, .slice la ln lc, .int .i64 dk, vS gd, .int .i64 nn] 29)) → W'.cell? ⟨wr.heap.size, 1, none⟩ = some (.int .i64 o) ∧ (Instr.lookup 26 (.map (some mt)) (.int .i64 o) false).run Tryz.prog W' = .ok (.int .i64 tw) W' ∧ (Instr.lookup 26 (.map (some ms)) (.int .i64 o) false).run Tryz.prog W' = .ok (.int .i64 sw) W') := Lib.hid (fun W' AA h => ⟨cell_obj (h.bx _ rfl).1 1 (.int .i64 o) rfl, by rw [← HTW.out]; exact (h.look HO.out).1, by rw [← HSW.out]; exact (h.look HO.out).2⟩)
            go_region_held3 (fun w' => w'.cell? ⟨wr.heap.size, 1, none⟩ = some (.int .i64 o) ∧ (Instr.lookup 26 (.map (some mt)) (.int .i64 o) false).run Tryz.prog w' = .ok (.int .i64 tw) w' ∧ (Instr.lookup 26 (.map (some ms)) (.int .i64 o) false).run Tryz.prog w' = .ok (.int .i64 sw) w') (exact HFA.out _ _ HLV.out) (first
              | (go_at_call 15; refine (hold2 HLV.out HO.out).mono ?_; rintro e w20 ⟨yo, b1, z1, e1, b2, z2, e2, b3, z3, e3, rfl, hil, hL20⟩; have HIL := Lib.hid hil; have HLV := Lib.hid hL20; obtain ⟨lt, ls⟩ := hL20.look HO.out; rw [HTW.out] at lt; rw [HSW.out] at ls; have d1 := cell_obj (hL20.bx _ rfl).1 1 (.int .i64 o) rfl; have hfd : ∀ w : World, (Instr.field 37 (.agg #[.int .i64 yo, .slice b1 z1 e1, .slice b2 z2 e2, .slice b3 z3 e3]) 3).run Tryz.prog w = .ok (.slice b3 z3 e3) w := (fun _ => (by kernel_rfl)); clear hil hL20)
              | (go_at_call 9; refine (r6Of _ _ _ gA HIL.out).mono ?_; rw [HSP.out]; rintro e w21 ⟨rfl, rfl⟩))
            all_goals
              go_wp2_with fail
              go_roundw
              case rel => exact ⟨k + 1, _, _, _, _, by omega, by omega, by go_num, HLV.out.drop 0, HD.out⟩
              case measure => simp [intOf]; omega
        by_cases hK2 : K = 2
        · subst hK2
          have hTk := HL.out.free HO.out
          have hLd := HD.out.stay (free_ok (o := o) HL.out.ok).1 ((free_ok (o := o) HL.out.ok).2 gA).1 ((free_ok (o := o) HL.out.ok).2 gA).2
          obtain ⟨R, hR⟩ : ∃ R, freeE A le o = R := ⟨_, rfl⟩
          rw [hR] at hTk hLd
          obtain ⟨⟨L', c⟩, A', le'⟩ := R
          dsimp only at hTk hLd
          have HTK := Lib.hid hTk; have HD := Lib.hid hLd
          clear hTk hLd hR
          go_wp2_with (go_at_call 10; refine HTK.out.mono ?_; rintro e w3 ⟨v3, rfl, hi3, hL3⟩; obtain ⟨a3, c3, rfl⟩ := hi3.sl; have HL := Lib.hid hL3; have d1 := cell_obj (hL3.bx _ rfl).1 1 (.int .i64 o) rfl; have d0 := cell_obj (hL3.bx _ rfl).1 0 (.int .i64 2) rfl; clear hi3 hL3)
          obtain ⟨tw, htw⟩ : ∃ v, bk T o = v := ⟨_, rfl⟩
          obtain ⟨sw, hsw⟩ : ∃ v, bk S o = v := ⟨_, rfl⟩
          have hless := HD.out.less HL.out.ok o
          have hspo := HD.out.sp o
          rw [htw, hsw] at hless
          rw [hsw] at hspo
          have hgt : decide (tw < sw) = false := by simp; omega
          have HSP := Lib.hid ((may_of (heOf_may HL.out.ok.row o).2.2 gA).1.trans hspo)
          have HLV := Lib.hid (HL.out.keep (Fr.refl (fun _ => False) _).drew)
          obtain ⟨lt, ls⟩ := HLV.out.look HO.out
          rw [htw] at lt; rw [hsw] at ls
          have d1 := cell_obj (HLV.out.bx _ rfl).1 1 (.int .i64 o) rfl
          have HTW := Lib.hid htw; have HSW := Lib.hid hsw
          clear htw hsw hless hspo
          have HFA : Hid (∀ W' AA, LgS w W' g mt ms AA le' T S wr.heap.size (some (.cells #[.int .i64 2, .int .i64 o, .slice la ln lc, .int .i64 dk, vS gd, .int .i64 nn] 29)) → W'.cell? ⟨wr.heap.size, 1, none⟩ = some (.int .i64 o) ∧ (Instr.lookup 26 (.map (some mt)) (.int .i64 o) false).run Tryz.prog W' = .ok (.int .i64 tw) W' ∧ (Instr.lookup 26 (.map (some ms)) (.int .i64 o) false).run Tryz.prog W' = .ok (.int .i64 sw) W') := Lib.hid (fun W' AA h => ⟨cell_obj (h.bx _ rfl).1 1 (.int .i64 o) rfl, by rw [← HTW.out]; exact (h.look HO.out).1, by rw [← HSW.out]; exact (h.look HO.out).2⟩)
          go_region_held3 (fun w' => w'.cell? ⟨wr.heap.size, 1, none⟩ = some (.int .i64 o) ∧ (Instr.lookup 26 (.map (some mt)) (.int .i64 o) false).run Tryz.prog w' = .ok (.int .i64 tw) w' ∧ (Instr.lookup 26 (.map (some ms)) (.int .i64 o) false).run Tryz.prog w' = .ok (.int .i64 sw) w') (exact HFA.out _ _ HLV.out) (first
            | (go_at_call 15; refine (hold2 HLV.out HO.out).mono ?_; rintro e w20 ⟨yo, b1, z1, e1, b2, z2, e2, b3, z3, e3, rfl, hil, hL20⟩; have HIL := Lib.hid hil; have HLV := Lib.hid hL20; obtain ⟨lt, ls⟩ := hL20.look HO.out; rw [HTW.out] at lt; rw [HSW.out] at ls; have d1 := cell_obj (hL20.bx _ rfl).1 1 (.int .i64 o) rfl; have hfd : ∀ w : World, (Instr.field 37 (.agg #[.int .i64 yo, .slice b1 z1 e1, .slice b2 z2 e2, .slice b3 z3 e3]) 3).run Tryz.prog w = .ok (.slice b3 z3 e3) w := (fun _ => (by kernel_rfl)); clear hil hL20)
            | (go_at_call 9; refine (r6Of _ _ _ gA HIL.out).mono ?_; rw [HSP.out]; rintro e w21 ⟨rfl, rfl⟩))
          all_goals
            go_wp2_with fail
            go_roundw
            case rel => exact ⟨k + 1, _, _, _, _, by omega, by omega, by go_num, HLV.out.drop 0, HD.out⟩
            case measure => simp [intOf]; omega
        by_cases hK3 : K = 3
        · subst hK3
          have hTk := HL.out.pick HO.out
          have hLd := HD.out.stay (pickM_ok (o := o) HL.out.ok).1 ((pickM_ok (o := o) HL.out.ok).2 gA).1 ((pickM_ok (o := o) HL.out.ok).2 gA).2
          obtain ⟨R, hR⟩ : ∃ R, pickE A le o = R := ⟨_, rfl⟩
          have hR0 : moveS A le o 4 0 (some 1) = R := hR
          rw [hR] at hTk
          rw [hR0] at hLd
          clear hR0
          obtain ⟨⟨L', c⟩, A', le'⟩ := R
          dsimp only at hTk hLd
          have HTK := Lib.hid hTk; have HD := Lib.hid hLd
          clear hTk hLd hR
          go_wp2_with (go_at_call 11; refine HTK.out.mono ?_; rintro e w3 ⟨v3, rfl, hi3, hL3⟩; obtain ⟨a3, c3, rfl⟩ := hi3.sl; have HL := Lib.hid hL3; have d1 := cell_obj (hL3.bx _ rfl).1 1 (.int .i64 o) rfl; have d0 := cell_obj (hL3.bx _ rfl).1 0 (.int .i64 3) rfl; clear hi3 hL3)
          obtain ⟨tw, htw⟩ : ∃ v, bk T o = v := ⟨_, rfl⟩
          obtain ⟨sw, hsw⟩ : ∃ v, bk S o = v := ⟨_, rfl⟩
          have hless := HD.out.less HL.out.ok o
          have hspo := HD.out.sp o
          rw [htw, hsw] at hless
          rw [hsw] at hspo
          have hgt : decide (tw < sw) = false := by simp; omega
          have HSP := Lib.hid ((may_of (heOf_may HL.out.ok.row o).2.2 gA).1.trans hspo)
          have HLV := Lib.hid (HL.out.keep (Fr.refl (fun _ => False) _).drew)
          obtain ⟨lt, ls⟩ := HLV.out.look HO.out
          rw [htw] at lt; rw [hsw] at ls
          have d1 := cell_obj (HLV.out.bx _ rfl).1 1 (.int .i64 o) rfl
          have HTW := Lib.hid htw; have HSW := Lib.hid hsw
          clear htw hsw hless hspo
          have HFA : Hid (∀ W' AA, LgS w W' g mt ms AA le' T S wr.heap.size (some (.cells #[.int .i64 3, .int .i64 o, .slice la ln lc, .int .i64 dk, vS gd, .int .i64 nn] 29)) → W'.cell? ⟨wr.heap.size, 1, none⟩ = some (.int .i64 o) ∧ (Instr.lookup 26 (.map (some mt)) (.int .i64 o) false).run Tryz.prog W' = .ok (.int .i64 tw) W' ∧ (Instr.lookup 26 (.map (some ms)) (.int .i64 o) false).run Tryz.prog W' = .ok (.int .i64 sw) W') := Lib.hid (fun W' AA h => ⟨cell_obj (h.bx _ rfl).1 1 (.int .i64 o) rfl, by rw [← HTW.out]; exact (h.look HO.out).1, by rw [← HSW.out]; exact (h.look HO.out).2⟩)
          go_region_held3 (fun w' => w'.cell? ⟨wr.heap.size, 1, none⟩ = some (.int .i64 o) ∧ (Instr.lookup 26 (.map (some mt)) (.int .i64 o) false).run Tryz.prog w' = .ok (.int .i64 tw) w' ∧ (Instr.lookup 26 (.map (some ms)) (.int .i64 o) false).run Tryz.prog w' = .ok (.int .i64 sw) w') (exact HFA.out _ _ HLV.out) (first
            | (go_at_call 15; refine (hold2 HLV.out HO.out).mono ?_; rintro e w20 ⟨yo, b1, z1, e1, b2, z2, e2, b3, z3, e3, rfl, hil, hL20⟩; have HIL := Lib.hid hil; have HLV := Lib.hid hL20; obtain ⟨lt, ls⟩ := hL20.look HO.out; rw [HTW.out] at lt; rw [HSW.out] at ls; have d1 := cell_obj (hL20.bx _ rfl).1 1 (.int .i64 o) rfl; have hfd : ∀ w : World, (Instr.field 37 (.agg #[.int .i64 yo, .slice b1 z1 e1, .slice b2 z2 e2, .slice b3 z3 e3]) 3).run Tryz.prog w = .ok (.slice b3 z3 e3) w := (fun _ => (by kernel_rfl)); clear hil hL20)
            | (go_at_call 9; refine (r6Of _ _ _ gA HIL.out).mono ?_; rw [HSP.out]; rintro e w21 ⟨rfl, rfl⟩))
          all_goals
            go_wp2_with fail
            go_roundw
            case rel => exact ⟨k + 1, _, _, _, _, by omega, by omega, by go_num, HLV.out.drop 0, HD.out⟩
            case measure => simp [intOf]; omega
        by_cases hK4 : K = 4
        · subst hK4
          have hTk := HL.out.unpick HO.out
          have hLd := HD.out.stay (unpickM_ok (o := o) HL.out.ok).1 ((unpickM_ok (o := o) HL.out.ok).2 gA).1 ((unpickM_ok (o := o) HL.out.ok).2 gA).2
          obtain ⟨R, hR⟩ : ∃ R, unpickE A le o = R := ⟨_, rfl⟩
          have hR0 : moveS A le o 5 1 (some 0) = R := hR
          rw [hR] at hTk
          rw [hR0] at hLd
          clear hR0
          obtain ⟨⟨L', c⟩, A', le'⟩ := R
          dsimp only at hTk hLd
          have HTK := Lib.hid hTk; have HD := Lib.hid hLd
          clear hTk hLd hR
          go_wp2_with (go_at_call 12; refine HTK.out.mono ?_; rintro e w3 ⟨v3, rfl, hi3, hL3⟩; obtain ⟨a3, c3, rfl⟩ := hi3.sl; have HL := Lib.hid hL3; have d1 := cell_obj (hL3.bx _ rfl).1 1 (.int .i64 o) rfl; have d0 := cell_obj (hL3.bx _ rfl).1 0 (.int .i64 4) rfl; clear hi3 hL3)
          obtain ⟨tw, htw⟩ : ∃ v, bk T o = v := ⟨_, rfl⟩
          obtain ⟨sw, hsw⟩ : ∃ v, bk S o = v := ⟨_, rfl⟩
          have hless := HD.out.less HL.out.ok o
          have hspo := HD.out.sp o
          rw [htw, hsw] at hless
          rw [hsw] at hspo
          have hgt : decide (tw < sw) = false := by simp; omega
          have HSP := Lib.hid ((may_of (heOf_may HL.out.ok.row o).2.2 gA).1.trans hspo)
          have HLV := Lib.hid (HL.out.keep (Fr.refl (fun _ => False) _).drew)
          obtain ⟨lt, ls⟩ := HLV.out.look HO.out
          rw [htw] at lt; rw [hsw] at ls
          have d1 := cell_obj (HLV.out.bx _ rfl).1 1 (.int .i64 o) rfl
          have HTW := Lib.hid htw; have HSW := Lib.hid hsw
          clear htw hsw hless hspo
          have HFA : Hid (∀ W' AA, LgS w W' g mt ms AA le' T S wr.heap.size (some (.cells #[.int .i64 4, .int .i64 o, .slice la ln lc, .int .i64 dk, vS gd, .int .i64 nn] 29)) → W'.cell? ⟨wr.heap.size, 1, none⟩ = some (.int .i64 o) ∧ (Instr.lookup 26 (.map (some mt)) (.int .i64 o) false).run Tryz.prog W' = .ok (.int .i64 tw) W' ∧ (Instr.lookup 26 (.map (some ms)) (.int .i64 o) false).run Tryz.prog W' = .ok (.int .i64 sw) W') := Lib.hid (fun W' AA h => ⟨cell_obj (h.bx _ rfl).1 1 (.int .i64 o) rfl, by rw [← HTW.out]; exact (h.look HO.out).1, by rw [← HSW.out]; exact (h.look HO.out).2⟩)
          go_region_held3 (fun w' => w'.cell? ⟨wr.heap.size, 1, none⟩ = some (.int .i64 o) ∧ (Instr.lookup 26 (.map (some mt)) (.int .i64 o) false).run Tryz.prog w' = .ok (.int .i64 tw) w' ∧ (Instr.lookup 26 (.map (some ms)) (.int .i64 o) false).run Tryz.prog w' = .ok (.int .i64 sw) w') (exact HFA.out _ _ HLV.out) (first
            | (go_at_call 15; refine (hold2 HLV.out HO.out).mono ?_; rintro e w20 ⟨yo, b1, z1, e1, b2, z2, e2, b3, z3, e3, rfl, hil, hL20⟩; have HIL := Lib.hid hil; have HLV := Lib.hid hL20; obtain ⟨lt, ls⟩ := hL20.look HO.out; rw [HTW.out] at lt; rw [HSW.out] at ls; have d1 := cell_obj (hL20.bx _ rfl).1 1 (.int .i64 o) rfl; have hfd : ∀ w : World, (Instr.field 37 (.agg #[.int .i64 yo, .slice b1 z1 e1, .slice b2 z2 e2, .slice b3 z3 e3]) 3).run Tryz.prog w = .ok (.slice b3 z3 e3) w := (fun _ => (by kernel_rfl)); clear hil hL20)
            | (go_at_call 9; refine (r6Of _ _ _ gA HIL.out).mono ?_; rw [HSP.out]; rintro e w21 ⟨rfl, rfl⟩))
          all_goals
            go_wp2_with fail
            go_roundw
            case rel => exact ⟨k + 1, _, _, _, _, by omega, by omega, by go_num, HLV.out.drop 0, HD.out⟩
            case measure => simp [intOf]; omega
        by_cases hK5 : K = 5
        · subst hK5
          have hTk := HL.out.ship HO.out
          have hLd := HD.out.ship (o := o) HL.out.ok
          have hout := (shipM_ok (o := o) HL.out.ok).1.out
          obtain ⟨R, hR⟩ : ∃ R, shipE A le o = R := ⟨_, rfl⟩
          have hR0 : moveS A le o 6 1 (some 2) = R := hR
          rw [hR] at hTk hLd
          rw [hR0] at hout
          clear hR0
          obtain ⟨⟨L', c⟩, A', le'⟩ := R
          dsimp only at hTk hLd hout
          obtain ⟨tv, htv⟩ : ∃ v, bk S o = v := ⟨_, rfl⟩
          obtain ⟨hof, hd1, hd2⟩ := may_of hout gA
          obtain ⟨dv, hdv⟩ : ∃ v, getI L' gA = v := ⟨_, rfl⟩
          rw [hdv] at hof hd1 hd2
          rw [htv, hdv] at hLd
          have hb1 := HD.out.less HL.out.ok o
          have hb2 := HD.out.top o
          have hrng : 0 ≤ tv ∧ tv ≤ 1759218604441600 := by
            have : (k : Int) * 17592186044416 ≤ 100 * 17592186044416 := by omega
            omega
          have hwr : IntKind.i64.wrap (tv + dv) = tv + dv := IntWalk.i64_in _ ⟨by omega, by omega⟩
          have HLN := Lib.hid HD.out.len
          have HTK := Lib.hid hTk; have HD := Lib.hid hLd; have HOF := Lib.hid hof; have HTV := Lib.hid htv
          clear hTk hLd hR hout htv hof hd1 hd2 hdv hb1 hb2 hrng
          go_wp2_with (go_at_call 13; refine HTK.out.mono ?_; rintro e w3 ⟨v3, rfl, hi3, hL3⟩; obtain ⟨a3, c3, e3⟩ := hi3.sl; obtain ⟨n3, hn3⟩ : ∃ n, L'.length = n := ⟨_, rfl⟩; rw [hn3] at e3; subst e3; have HL := Lib.hid hL3; have HI3 := Lib.hid hi3; clear hi3 hL3 hn3)
          have HLD := Lib.hid (HL.out.keep (Fr.refl (fun _ => False) _).drew)
          have HID := Lib.hid (HI3.out.keep (Fr.refl (fun _ => False) w3).drew (fun _ _ _ e => e))
          obtain ⟨w5, hst5, hL5, hf5⟩ := HLD.out.putS' HO.out (by have := HLN.out; omega) (tv + dv)
          obtain ⟨lt, ls⟩ := HLD.out.look HO.out
          rw [HTV.out] at ls
          have d1 := cell_obj (HLD.out.bx _ rfl).1 1 (.int .i64 o) rfl
          have HL := Lib.hid hL5
          clear hL5 hf5
          go_region_with (go_at_call 9; refine (r6Of _ _ _ gA HID.out).mono ?_; rw [HOF.out]; rintro e w4 ⟨rfl, rfl⟩)
          all_goals
            have d1 := cell_obj (HL.out.bx _ rfl).1 1 (.int .i64 o) rfl
            go_wp2_with fail
            obtain ⟨tw, htw⟩ : ∃ v, bk T o = v := ⟨_, rfl⟩
            obtain ⟨sw, hsw⟩ : ∃ v, bk (putS ktI.lt S o (tv + dv)) o = v := ⟨_, rfl⟩
            have hless := HD.out.less HL.out.ok o
            have hspo := HD.out.sp o
            rw [htw, hsw] at hless
            rw [hsw] at hspo
            have hgt : decide (tw < sw) = false := by simp; omega
            have HSP := Lib.hid ((may_of (heOf_may HL.out.ok.row o).2.2 gA).1.trans hspo)
            have HLV := Lib.hid (HL.out.keep (Fr.refl (fun _ => False) _).drew)
            obtain ⟨lt, ls⟩ := HLV.out.look HO.out
            rw [htw] at lt; rw [hsw] at ls
            have d1 := cell_obj (HLV.out.bx _ rfl).1 1 (.int .i64 o) rfl
            have HTW := Lib.hid htw; have HSW := Lib.hid hsw
            clear htw hsw hless hspo
            have HFA : Hid (∀ W' AA, LgS w W' g mt ms AA le' T (putS ktI.lt S o (tv + dv)) wr.heap.size (some (.cells #[.int .i64 5, .int .i64 o, .slice la ln lc, .int .i64 dk, vS gd, .int .i64 nn] 29)) → W'.cell? ⟨wr.heap.size, 1, none⟩ = some (.int .i64 o) ∧ (Instr.lookup 26 (.map (some mt)) (.int .i64 o) false).run Tryz.prog W' = .ok (.int .i64 tw) W' ∧ (Instr.lookup 26 (.map (some ms)) (.int .i64 o) false).run Tryz.prog W' = .ok (.int .i64 sw) W') := Lib.hid (fun W' AA h => ⟨cell_obj (h.bx _ rfl).1 1 (.int .i64 o) rfl, by rw [← HTW.out]; exact (h.look HO.out).1, by rw [← HSW.out]; exact (h.look HO.out).2⟩)
            go_region_held3 (fun w' => w'.cell? ⟨wr.heap.size, 1, none⟩ = some (.int .i64 o) ∧ (Instr.lookup 26 (.map (some mt)) (.int .i64 o) false).run Tryz.prog w' = .ok (.int .i64 tw) w' ∧ (Instr.lookup 26 (.map (some ms)) (.int .i64 o) false).run Tryz.prog w' = .ok (.int .i64 sw) w') (exact HFA.out _ _ HLV.out) (first
              | (go_at_call 15; refine (hold2 HLV.out HO.out).mono ?_; rintro e w20 ⟨yo, b1, z1, e1, b2, z2, e2, b3, z3, e3, rfl, hil, hL20⟩; have HIL := Lib.hid hil; have HLV := Lib.hid hL20; obtain ⟨lt, ls⟩ := hL20.look HO.out; rw [HTW.out] at lt; rw [HSW.out] at ls; have d1 := cell_obj (hL20.bx _ rfl).1 1 (.int .i64 o) rfl; have hfd : ∀ w : World, (Instr.field 37 (.agg #[.int .i64 yo, .slice b1 z1 e1, .slice b2 z2 e2, .slice b3 z3 e3]) 3).run Tryz.prog w = .ok (.slice b3 z3 e3) w := (fun _ => (by kernel_rfl)); clear hil hL20)
              | (go_at_call 9; refine (r6Of _ _ _ gA HIL.out).mono ?_; rw [HSP.out]; rintro e w21 ⟨rfl, rfl⟩))
            all_goals
              go_wp2_with fail
              go_roundw
              case rel => exact ⟨k + 1, _, _, _, _, by omega, by omega, by go_num, HLV.out.drop 0, HD.out⟩
              case measure => simp [intOf]; omega
        by_cases hK6 : K = 6
        · subst hK6
          have HTK := Lib.hid (HL.out.do (d := dk) HI.out)
          have HD := Lib.hid HD.out.up
          obtain ⟨R, hR⟩ : ∃ R, doH A dk its = R := ⟨_, rfl⟩
          rw [hR] at HTK
          clear hR
          go_wp2_with (go_at_call 14; refine HTK.out.mono ?_; rintro e w3 ⟨rfl, hL3⟩; have HL := Lib.hid hL3; have d1 := cell_obj (hL3.bx _ rfl).1 1 (.int .i64 o) rfl; clear hL3)
          obtain ⟨tw, htw⟩ : ∃ v, bk T o = v := ⟨_, rfl⟩
          obtain ⟨sw, hsw⟩ : ∃ v, bk S o = v := ⟨_, rfl⟩
          have hless := HD.out.less HL.out.ok o
          have hspo := HD.out.sp o
          rw [htw, hsw] at hless
          rw [hsw] at hspo
          have hgt : decide (tw < sw) = false := by simp; omega
          have HSP := Lib.hid ((may_of (heOf_may HL.out.ok.row o).2.2 gA).1.trans hspo)
          have HLV := Lib.hid (HL.out.keep (Fr.refl (fun _ => False) _).drew)
          obtain ⟨lt, ls⟩ := HLV.out.look HO.out
          rw [htw] at lt; rw [hsw] at ls
          have d1 := cell_obj (HLV.out.bx _ rfl).1 1 (.int .i64 o) rfl
          have HTW := Lib.hid htw; have HSW := Lib.hid hsw
          clear htw hsw hless hspo
          have HFA : Hid (∀ W' AA, LgS w W' g mt ms AA le T S wr.heap.size (some (.cells #[.int .i64 6, .int .i64 o, .slice la ln lc, .int .i64 dk, vS gd, .int .i64 nn] 29)) → W'.cell? ⟨wr.heap.size, 1, none⟩ = some (.int .i64 o) ∧ (Instr.lookup 26 (.map (some mt)) (.int .i64 o) false).run Tryz.prog W' = .ok (.int .i64 tw) W' ∧ (Instr.lookup 26 (.map (some ms)) (.int .i64 o) false).run Tryz.prog W' = .ok (.int .i64 sw) W') := Lib.hid (fun W' AA h => ⟨cell_obj (h.bx _ rfl).1 1 (.int .i64 o) rfl, by rw [← HTW.out]; exact (h.look HO.out).1, by rw [← HSW.out]; exact (h.look HO.out).2⟩)
          go_region_held3 (fun w' => w'.cell? ⟨wr.heap.size, 1, none⟩ = some (.int .i64 o) ∧ (Instr.lookup 26 (.map (some mt)) (.int .i64 o) false).run Tryz.prog w' = .ok (.int .i64 tw) w' ∧ (Instr.lookup 26 (.map (some ms)) (.int .i64 o) false).run Tryz.prog w' = .ok (.int .i64 sw) w') (exact HFA.out _ _ HLV.out) (first
            | (go_at_call 15; refine (hold2 HLV.out HO.out).mono ?_; rintro e w20 ⟨yo, b1, z1, e1, b2, z2, e2, b3, z3, e3, rfl, hil, hL20⟩; have HIL := Lib.hid hil; have HLV := Lib.hid hL20; obtain ⟨lt, ls⟩ := hL20.look HO.out; rw [HTW.out] at lt; rw [HSW.out] at ls; have d1 := cell_obj (hL20.bx _ rfl).1 1 (.int .i64 o) rfl; have hfd : ∀ w : World, (Instr.field 37 (.agg #[.int .i64 yo, .slice b1 z1 e1, .slice b2 z2 e2, .slice b3 z3 e3]) 3).run Tryz.prog w = .ok (.slice b3 z3 e3) w := (fun _ => (by kernel_rfl)); clear hil hL20)
            | (go_at_call 9; refine (r6Of _ _ _ gA HIL.out).mono ?_; rw [HSP.out]; rintro e w21 ⟨rfl, rfl⟩))
          all_goals
            go_wp2_with fail
            go_roundw
            case rel => exact ⟨k + 1, _, _, _, _, by omega, by omega, by go_num, HLV.out.drop 0, HD.out⟩
            case measure => simp [intOf]; omega
        have j1 : (K == 1) = false := by simpa using hK1
        have j2 : (K == 2) = false := by simpa using hK2
        have j3 : (K == 3) = false := by simpa using hK3
        have j4 : (K == 4) = false := by simpa using hK4
        have j5 : (K == 5) = false := by simpa using hK5
        have j6 : (K == 6) = false := by simpa using hK6
        clear hK1 hK2 hK3 hK4 hK5 hK6
        have HD := Lib.hid HD.out.up
        go_wp2_with fail
        obtain ⟨tw, htw⟩ : ∃ v, bk T o = v := ⟨_, rfl⟩
        obtain ⟨sw, hsw⟩ : ∃ v, bk S o = v := ⟨_, rfl⟩
        have hless := HD.out.less HL.out.ok o
        have hspo := HD.out.sp o
        rw [htw, hsw] at hless
        rw [hsw] at hspo
        have hgt : decide (tw < sw) = false := by simp; omega
        have HSP := Lib.hid ((may_of (heOf_may HL.out.ok.row o).2.2 gA).1.trans hspo)
        have HLV := Lib.hid (HL.out.keep (Fr.refl (fun _ => False) _).drew)
        obtain ⟨lt, ls⟩ := HLV.out.look HO.out
        rw [htw] at lt; rw [hsw] at ls
        have d1 := cell_obj (HLV.out.bx _ rfl).1 1 (.int .i64 o) rfl
        have HTW := Lib.hid htw; have HSW := Lib.hid hsw
        clear htw hsw hless hspo
        have HFA : Hid (∀ W' AA, LgS w W' g mt ms AA le T S wr.heap.size (some (.cells #[.int .i64 K, .int .i64 o, .slice la ln lc, .int .i64 dk, vS gd, .int .i64 nn] 29)) → W'.cell? ⟨wr.heap.size, 1, none⟩ = some (.int .i64 o) ∧ (Instr.lookup 26 (.map (some mt)) (.int .i64 o) false).run Tryz.prog W' = .ok (.int .i64 tw) W' ∧ (Instr.lookup 26 (.map (some ms)) (.int .i64 o) false).run Tryz.prog W' = .ok (.int .i64 sw) W') := Lib.hid (fun W' AA h => ⟨cell_obj (h.bx _ rfl).1 1 (.int .i64 o) rfl, by rw [← HTW.out]; exact (h.look HO.out).1, by rw [← HSW.out]; exact (h.look HO.out).2⟩)
        go_region_held3 (fun w' => w'.cell? ⟨wr.heap.size, 1, none⟩ = some (.int .i64 o) ∧ (Instr.lookup 26 (.map (some mt)) (.int .i64 o) false).run Tryz.prog w' = .ok (.int .i64 tw) w' ∧ (Instr.lookup 26 (.map (some ms)) (.int .i64 o) false).run Tryz.prog w' = .ok (.int .i64 sw) w') (exact HFA.out _ _ HLV.out) (first
          | (go_at_call 15; refine (hold2 HLV.out HO.out).mono ?_; rintro e w20 ⟨yo, b1, z1, e1, b2, z2, e2, b3, z3, e3, rfl, hil, hL20⟩; have HIL := Lib.hid hil; have HLV := Lib.hid hL20; obtain ⟨lt, ls⟩ := hL20.look HO.out; rw [HTW.out] at lt; rw [HSW.out] at ls; have d1 := cell_obj (hL20.bx _ rfl).1 1 (.int .i64 o) rfl; have hfd : ∀ w : World, (Instr.field 37 (.agg #[.int .i64 yo, .slice b1 z1 e1, .slice b2 z2 e2, .slice b3 z3 e3]) 3).run Tryz.prog w = .ok (.slice b3 z3 e3) w := (fun _ => (by kernel_rfl)); clear hil hL20)
          | (go_at_call 9; refine (r6Of _ _ _ gA HIL.out).mono ?_; rw [HSP.out]; rintro e w21 ⟨rfl, rfl⟩))
        all_goals
          go_wp2_with fail
          go_roundw
          case rel => exact ⟨k + 1, _, _, _, _, by omega, by omega, by go_num, HLV.out.drop 0, HD.out⟩
          case measure => simp [intOf]; omega
      · have hkJ : ¬ (k : Int) < 100 := by omega
        go_wp2_with fail
        go_ret
        exact ⟨rfl, HFIN.out _ HL0.out.fr⟩
    · have hkI : ¬ (k : Int) < vl := by omega
      go_wp2_with fail
      go_ret
      exact ⟨rfl, HFIN.out _ HL0.out.fr⟩
set_option maxRecDepth 100000 in
theorem open_hops {H : Type} {enc : TypeId × Value → H} {w : World} {base : Nat} {spare : Nat → Bool} {held : Bool} {r : Reach} {b0 : Nat} {v : Value} {d : DataW H} {p : List MemPlace} (hv : Value.okWide Tryz.prog w r b0 22 v) (h : DataW.Trod enc Tryz.prog w base spare held 22 v d p) : ∃ L, Sq 6 hopC okHop w v L :=
  open_sq (d := 3) Tryz.underlying22 (by kernel_rfl) (by kernel_rfl) (by kernel_rfl) open_hop hv h
set_option maxRecDepth 100000 in
theorem lifted (os : Os) (started : os.Started) (H : Type) (enc : TypeId × Value → H) :
    ReturnsInHanded {} Tryz.checked os 3 .any (Rows.holdShipsSpec.pre6 enc Tryz.prog Tryz.f3 Rows.holdShipsRow.domain false) (Rows.holdShipsSpec.post enc Tryz.prog Tryz.f3 false true false false) := by
  refine returnsInHanded_of_change (C := Tryz.checked) own started (by kernel_rfl) Tryz.func3
    (ChangeSpec.witness6 (enc := enc) (C := Tryz.checked) false ⟨#[], #[.slice none 0 0], []⟩ 8 (by kernel_rfl) (by kernel_rfl) (by kernel_rfl) (by kernel_rfl)) ?_
  intro W base args ds gs before hval0 hW hcnd _
  have hval : ∀ (j : Nat) t v, Tryz.f3.params[j]? = some t → args[j]? = some v → Value.okWide Tryz.prog W .any base t v := hval0
  have hW' := hW
  obtain ⟨p, q, hA0, hV, rfl, hfz, hnd⟩ := hW
  have hA : DataW.TrodAll enc Tryz.prog W 0 (fun _ => true) true Tryz.f3.params.toList args.toList ds p := hA0
  rw [Tryz.params3] at hA hval
  obtain ⟨v0, vs0, d0, ds0, p0, q0, hargs, rfl, rfl, h0, r0⟩ := trodAll_cons hA
  obtain ⟨rfl, rfl, rfl⟩ := trodAll_nil r0
  obtain rfl : args = #[v0] := by cases args; simp_all
  obtain ⟨rfl, rfl⟩ := trodVars_none hV
  obtain ⟨L0, hL0⟩ := open_hops (hval 0 22 v0 rfl rfl) h0
  clear hA0 hval0
  simp only [List.append_nil] at hW'
  refine (walk v0 L0 W hL0).mono fun e W' ⟨he, hg⟩ => ?_
  subst he
  exact ⟨_, rfl, law_post laidOut (by kernel_rfl) rfl Tryz.underlying4 hW' rfl rfl hg⟩
theorem over : Rows.holdShipsRow.holds Tryz.pinned (OpenSpec.ofChange Rows.holdShipsSpec) :=
  OpenClaim.holds_of_wide 3 Tryz.f3 rfl rfl rfl rfl rfl rfl rfl ⟨rfl, rfl, rfl, rfl, rfl⟩ rfl rfl rfl rfl rfl (by kernel_rfl) Tryz.func3 (by kernel_rfl)
    (of_decide_eq_true (by kernel_rfl)) (by unfold Func.isWrapper; first | (rw [if_pos (by decide +kernel)]; kernel_rfl) | (rw [if_neg (by decide +kernel)]; exact ⟨rfl, rfl⟩))
    (fun os started H enc _ => lifted os started H enc)
theorem proved : Rows.HoldShipsSaid :=
  over
#print axioms proved
end Go.Proofs.YtogphlnakdnchaaGreat.holdShips

