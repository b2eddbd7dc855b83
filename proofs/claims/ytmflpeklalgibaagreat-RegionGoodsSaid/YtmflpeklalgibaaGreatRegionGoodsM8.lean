/- region: do (written by wip/tools/do22.py). -/
import Derived.Test.YtmflpeklalgibaaGreatRegionGoodsM7
import Derived.Test.YtmflpeklalgibaaGreatRegionGoodsM3
import Derived.Deep.RegionHeld3
namespace Go.Proofs.YtmflpeklalgibaaGreat
open Go.RowKit Go.Maps
/-- What do leaves. -/
structure DoP (w : World) (r : Nat) (TS : Nat → Prop) (me n : Int) (le : Hes) (S : List (Value × Its)) (R : PEs × RSt) (e : Ending) (w' : World) : Prop where
  ex : ∃ v TS' L, e = .returned v ∧ RG w' r TS' me n R.2.A le R.2.ws S ∧ Pst w' w.heap.size v L TS' ∧ L.map nfP = R.1 ∧ Stp TS w w' TS'
theorem doR_plain {me : Int} {x : RSt} {a : AV} {fr : Int} (h : (kindF a.k).2 = true) : doR me x a fr = ([(fr, doneM ⟨a.c, a.n, (doH x.A (kindF a.k).1 a.its).1, 0⟩)], { x with A := (doH x.A (kindF a.k).1 a.its).2 }) := by unfold doR; rw [if_pos h]
theorem doR_count {me : Int} {x : RSt} {a : AV} {fr : Int} (h : a.k = 7) : doR me x a fr = ([(fr, doneM ⟨a.c, a.n, (countS x.A a.g a.m).2.1, (countS x.A a.g a.m).1⟩)], { x with A := (countS x.A a.g a.m).2.2 }) := by
  unfold doR; rw [if_neg (by rw [h]; decide), if_pos h]
theorem doR_move {me : Int} {x : RSt} {a : AV} {fr : Int} (h : a.k = 10) : doR me x a fr = ((sendR me x a).1.1 ++ [(fr, doneM ⟨a.c, a.n, (sendR me x a).1.2, 0⟩)], (sendR me x a).2) := by
  unfold doR; rw [if_neg (by rw [h]; decide), if_neg (by rw [h]; decide), if_pos h]
theorem doR_else {me : Int} {x : RSt} {a : AV} {fr : Int} (h1 : (kindF a.k).2 = false) (h2 : a.k ≠ 7) (h3 : a.k ≠ 10) : doR me x a fr = ([(fr, doneM ⟨a.c, a.n, 1, 0⟩)], x) := by
  unfold doR; rw [if_neg (by rw [h1]; decide), if_neg h2, if_neg h3]
/-- The last post is laid: what do leaves. -/
theorem do_end {w W W' : World} {r gs gm : Nat} {TS T0 T1 : Nat → Prop} {vk : Value} {me n : Int} {A : Stk} {le : Hes} {ws : List (Int × WE)} {S : List (Value × Its)} {B : List (Nat × Array Value × TypeId)} {Ls : List (Value × Its)} {vo v' : Value} {Lo : List (Int × MV)} {fr : Int} {y : YV} {R : PEs × RSt} {o : Obj}
    (h : SnI w W r gs gm TS T0 T1 vk me n A le ws S B Ls) (hp : Pst W w.heap.size vo Lo (RB.bl r T0 T1 vk)) (hfr : okI fr) (hy : YOk W y) (ho : W'.ownsRow w.heap.size 67 17 v' (Lo.length + 1) (flat pcs Lo ++ (pcs (fr, ⟨12, 0, niv, [], av0, y⟩)).toList)) (hg : (W.alloc o).grownBy W' vo.ownBlock) (hl : v'.ownBlock = vo.ownBlock ∨ v'.ownBlock = some (W.alloc o).heap.size)
    (hR : R = (Lo.map nfP ++ [(fr, doneM y)], ⟨A, le, ws, S.map (·.2)⟩)) : DoP w r TS me n le S R (.returned v') W' := by
  obtain ⟨q1, q2⟩ := hp.push h.rb.lt ⟨hfr, mok_nil (by decide) (okI_lit (by decide)) hy, fun b hb => absurd hb own_nil⟩ ho hg hl
  have hlo : ∀ b, vo.ownBlock = some b → w.heap.size ≤ b := fun b hb => (hp.row.lt b hb).1
  have hrb := h.rb.keep q2 (fun b hb e => hp.nt b e hb) (fun p hp' hn b hb e => by have := h.lo p hp' hn b hb; have := hlo b e; omega)
  refine ⟨v', _, _, rfl, by rw [hR]; exact hrb.rg, q1, by rw [hR, List.map_append]; rfl, ⟨h.st.1.trans' q2 (fun b hb e => by have := hlo b e; omega), h.st.2⟩⟩
set_option maxRecDepth 100000 in
set_option maxHeartbeats 16000000 in
theorem gDo (w : World) (r : Nat) (TS : Nat → Prop) (me n : Int) (A : Stk) (le : Hes) (ws : List (Int × WE)) (S : List (Value × Its)) (a : AV) (fr : Int) (h : RG w r TS me n A le ws S) (hws : ws.length ≤ 256) (ha : AOk w a) (hat : a.its ≠ [] → ∀ b, a.l.ownBlock = some b → ¬ TS b) (hn : 1 ≤ a.n ∧ a.n ≤ 4294967296) (hc : 0 ≤ a.c ∧ a.c < 64) (hfr : okI fr) :
    Calls Tryz.prog 30 #[.pointer (some ⟨r, 0, none⟩), .agg a.cs, .int .i64 fr] w (DoP w r TS me n le S (doR me ⟨A, le, ws, S.map (·.2)⟩ a fr)) := by
  obtain ⟨i0, hi', hz0, hz1, hz2⟩ := info_parts infoPost
  have hrb := h.rb
  have hsend := fun W TS' (hr : RG W r TS' me n A le ws S) hao hat' => gSend W r TS' me n A le ws S a hr hws hao hat' hn hc
  have HSEND := Lib.hid hsend
  clear h hsend
  obtain ⟨gs, gm, T0, T1, vk, h, rfl⟩ := hrb
  obtain ⟨R, hR⟩ : ∃ R, doR me ⟨A, le, ws, S.map (·.2)⟩ a fr = R := ⟨_, rfl⟩
  rw [hR]
  have HR := Lib.hid hR
  clear hR
  obtain ⟨c, nn, k, o, rr, t, mm, g, al, ai⟩ := a
  dsimp only at hn hc hat
  dsimp only [AV.cs] at HSEND ⊢
  obtain ⟨pa, pc, rfl⟩ : ∃ a c, al = .slice a ai.length c := ha.l.sl
  obtain ⟨M, hM⟩ : ∃ M, ai.length = M := ⟨_, rfl⟩
  rw [hM] at ha hat HR HSEND ⊢
  obtain ⟨n0, hn0⟩ : ∃ n0, w.heap.size = n0 := ⟨_, rfl⟩
  have HN0 := Lib.hid hn0
  obtain ⟨W0, hW0⟩ : ∃ W0, (w.alloc (.cells #[.int .i64 c, .int .i64 nn, .int .i64 k, .int .i64 o, .int .i64 rr, .int .i64 t, .int .i64 mm, vS g, .slice pa M pc] 32)).alloc (.cells #[.int .i64 c, .int .i64 nn, .int .i64 1, .int .i64 0] 34) = W0 := ⟨_, rfl⟩
  have hF0 : Fr (fun _ => False) w W0 := by rw [← hW0]; exact ((Fr.refl _ w).alloc _).alloc _
  have hB0 : W0.heap[n0]? = some (.cells #[.int .i64 c, .int .i64 nn, .int .i64 k, .int .i64 o, .int .i64 rr, .int .i64 t, .int .i64 mm, vS g, .slice pa M pc] 32) := by rw [← hW0]; exact heap_keep (heap_at hn0.symm _) _
  have hB1 : W0.heap[n0 + 1]? = some (.cells #[.int .i64 c, .int .i64 nn, .int .i64 1, .int .i64 0] 34) := by rw [← hW0]; exact heap_at (by simp; omega) _
  have hI0 : SnI w W0 r gs gm (RB.bl r T0 T1 vk) T0 T1 vk me n A le ws S [(n0, #[.int .i64 c, .int .i64 nn, .int .i64 k, .int .i64 o, .int .i64 rr, .int .i64 t, .int .i64 mm, vS g, .slice pa M pc], 32), (n0 + 1, #[.int .i64 c, .int .i64 nn, .int .i64 1, .int .i64 0], 34)] [(.slice pa M pc, ai)] := by
    refine ⟨h.keep0 hF0, Stp.refl hF0, fun p hp => ?_, fun p hp => by rw [List.mem_singleton.1 hp]; exact ha.l.keep hF0 (fun _ _ _ e => e), fun p hp hn b hb => by rw [List.mem_singleton.1 hp] at hn hb; exact ⟨hat hn b hb, ha.l.lt hn b hb⟩, fun p hp hn b hb => ((h.st p hp).2 hn b hb).1⟩
    rcases List.mem_cons.1 hp with rfl | hp
    · exact ⟨hB0, by dsimp only; omega, fun e => by have := h.lt _ e; dsimp only at this; omega⟩
    · rw [List.mem_singleton.1 hp]
      exact ⟨hB1, by dsimp only; omega, fun e => by have := h.lt _ e; dsimp only at this; omega⟩
  obtain ⟨-, c2, -⟩ := hI0.cells
  have HI0 := Lib.hid hI0; have HAO := Lib.hid ha; have HH := Lib.hid h; have HM := Lib.hid hM; have HAT := Lib.hid hat
  have HW0 := Lib.hid hW0
  have HK := Lib.hid (fun W => gKind W k)
  have HYO : Hid (∀ (W : World) x y, okI x → okI y → YOk W ⟨c, nn, x, y⟩) := Lib.hid (fun W x y h1 h2 => ⟨ha.c, ha.n, h1, h2⟩)
  have hPN : Hid (∀ W TT, Pst W w.heap.size (.slice none 0 0) [] TT) := Lib.hid (fun W TT => Pst.nil)
  have x2 := cell_obj hB0 2 (.int .i64 k) rfl
  have x6 := cell_obj hB0 6 (.int .i64 mm) rfl
  have x7 := cell_obj hB0 7 (vS g) rfl
  have x8 := cell_obj hB0 8 (.slice pa M pc) rfl
  clear h hI0 hB0 hB1 hat hF0 ha hM hW0 hn hc
  by_cases hk : (kindF k).2 = true
  · have HKK := Lib.hid hk
    clear hk
    obtain ⟨D, hD⟩ : ∃ D, doH A (kindF k).1 ai = D := ⟨_, rfl⟩
    have HD := Lib.hid hD
    have HD2 : Hid (ShOk D.2 le) := Lib.hid (by rw [← hD]; exact do_ok HH.out.ok)
    have HDO : Hid (okI D.1) := Lib.hid (by rw [← hD]; exact doH_okI _ _ _)
    have HDo : Hid (∀ W T, SHE W gs T A le → Il W (.slice pa M pc) ai → Calls Tryz.prog 61 #[.pointer (some ⟨gs, 0, none⟩), .int .i64 (kindF k).1, .slice pa M pc] W fun e w' => ∃ TS', e = .returned (.int .i64 D.1) ∧ SHE w' gs TS' D.2 le ∧ Stp T W w' TS') := Lib.hid (fun W T hs hi => by
      have := eDo (kindF k).1 _ ai hs HH.out.ok hi
      rw [hD] at this; exact this)
    obtain ⟨K1, hK1⟩ : ∃ x, (kindF k).1 = x := ⟨_, rfl⟩
    rw [hK1] at HDo
    have HK1 := Lib.hid hK1
    obtain ⟨D1, hD1⟩ : ∃ x, D.1 = x := ⟨_, rfl⟩
    rw [hD1] at HDo HDO
    have HD1 := Lib.hid hD1
    have HKP : Hid (kindF k = (K1, true)) := Lib.hid (by rw [← hK1, ← HKK.out])
    clear hD hK1 hD1
    go_enter Tryz.func30, Tryz.ntmps30
    go_upto_region 5 with (go_at_call 60; (try rw [HW0.out]); refine (HK.out _).mono ?_; rw [HKP.out]; rintro e w1 ⟨rfl, rfl⟩)
    (try rw [HW0.out])
    refine wp_region_still_tail 7 (by kernel_rfl) (by kernel_rfl) ?_
    simp only [List.take_succ_cons, List.take_zero, List.drop_succ_cons, List.drop_zero]
    change wpStill _ _ W0.drew (fun a' => wpList _ _ _ _ a' W0.drew) _ _
    have HI1 := Lib.hid (HI0.out.keep0 ((Fr.refl (fun _ => False) W0).drew))
    have c2 : W0.drew.cell? _ = _ := c2
    have x8 : W0.drew.cell? _ = _ := x8
    clear x2 x6 x7 HW0
    generalize W0.drew = V at HI1 c2 x8 ⊢
    repeat still_step
    refine wpStill_nil ?_
    clear c2 x8
    go_upto_region 10 with (go_at_call 61; refine (HDo.out _ _ HI1.out.rb.sh HI1.out.il0).mono ?_; rintro e w2 ⟨T2, rfl, h1, h2⟩; have hi2 := HI1.out.shelf h1 HD2.out h2; have hb2 := (hi2.bx _ (.tail _ (.head _))).1; have z2 := obj_frozen hb2 2; have y2 := cell_obj hb2 2 (.int .i64 1) rfl; have HI2 := Lib.hid hi2; clear h1 h2 hi2 hb2)
    have HI3 := Lib.hid (HI2.out.set1 (by omega) 2 (.int .i64 D1))
    (try rw [HN0.out] at HI3)
    obtain ⟨w3, hw3⟩ : ∃ W, w2.setCell ⟨n0 + 1, 2, none⟩ (.int .i64 D1) = W := ⟨_, rfl⟩
    rw [hw3] at HI3
    (try rw [hw3])
    clear hw3 y2 z2
    have y0 := cell_obj (HI3.out.bx _ (.tail _ (.head _))).1 0 (.int .i64 c) rfl
    have y1 := cell_obj (HI3.out.bx _ (.tail _ (.head _))).1 1 (.int .i64 nn) rfl
    have y2 := cell_obj (HI3.out.bx _ (.tail _ (.head _))).1 2 (.int .i64 D1) rfl
    have y3 := cell_obj (HI3.out.bx _ (.tail _ (.head _))).1 3 (.int .i64 0) rfl
    have HZ : Hid (w.heap.size ≤ w3.heap.size) := Lib.hid HI3.out.st.1.size
    go_wp2_with (at_builtin; refine wpList_append_src rfl _ _ 39 rfl w.heap.size 67 i0 (.agg #[.int .i64 0, .int .i64 0, .int .i64 0, .slice none 0 0, .int .i64 0, .int .i64 0, .int .i64 0, .int .i64 0, .int .i64 0, .int .i64 0, .int .i64 0, .string ⟨#[]⟩, .slice none 0 0, .int .i64 0, .int .i64 0, .int .i64 0, .int .i64 0]) 176 Tryz.underlying39 hi' hz0 hz1 hz2 rfl (by decide) (.slice none 0 0) 0 (flat pcs []) rfl (((Fr.refl (fun _ => False) w3).alloc _).row (hPN.out w3 (RB.bl r T2 T1 vk)).row (fun _ _ e => e)) 1 rfl (rd_obj (cs := [.int .i64 fr, .int .i64 12, .int .i64 0, .slice none 0 0, .int .i64 0, .int .i64 0, .int .i64 0, .int .i64 0, .int .i64 0, .int .i64 0, .int .i64 0, .string ⟨#[]⟩, .slice none 0 0, .int .i64 c, .int .i64 nn, .int .i64 D1, .int .i64 0]) (heap_new _ _) rfl) (by intro u hu; simp only [List.mem_cons, List.not_mem_nil, or_false] at hu; rcases hu with h | h | h | h | h | h | h | h | h | h | h | h | h | h | h | h | h <;> (subst h; rfl)) (by unfold maxLen; omega) (by omega) (by simp; have := HZ.out; omega) ?_; intro v5 w5 hown hgrow hloc; have HO5 := Lib.hid hown; have HG5 := Lib.hid hgrow; have HL5 := Lib.hid hloc; clear hown hgrow hloc)
    go_ret
    exact do_end HI3.out (hPN.out w3 (RB.bl r T2 T1 vk)) hfr (HYO.out _ _ _ HDO.out (okI_lit (n := 0) (by decide))) HO5.out HG5.out HL5.out (by rw [← HR.out]; rw [doR_plain HKK.out]; dsimp only; rw [HD.out, HD1.out]; rfl)
  have hk0 : (kindF k).2 = false := by simpa using hk
  have hkp : kindF k = ((kindF k).1, false) := by rw [← hk0]
  have HKP := Lib.hid hkp
  have HKF := Lib.hid hk0
  clear hk hkp hk0
  by_cases hk7 : k = 7
  · have HK7 := Lib.hid hk7
    subst hk7
    obtain ⟨D, hD⟩ : ∃ D, countS A g mm = D := ⟨_, rfl⟩
    have HD := Lib.hid hD
    have HD2 : Hid (ShOk D.2.2 le) := Lib.hid (by rw [← hD]; exact count_ok HH.out.ok)
    have HDO : Hid (okI D.1 ∧ okI D.2.1) := Lib.hid (by rw [← hD]; exact countS_okI HH.out.ok.stk)
    have HCo : Hid (∀ W T, SHE W gs T A le → Calls Tryz.prog 62 #[.pointer (some ⟨gs, 0, none⟩), vS g, .int .i64 mm] W fun e w' => ∃ TS', e = .returned (.tuple #[.int .i64 D.1, .int .i64 D.2.1]) ∧ SHE w' gs TS' D.2.2 le ∧ Stp T W w' TS') := Lib.hid (fun W T hs => by
      have := eCount g mm hs HH.out.ok HAO.out.g
      rw [hD] at this; exact this)
    obtain ⟨D1, hD1⟩ : ∃ x, D.1 = x := ⟨_, rfl⟩
    obtain ⟨D2, hDb⟩ : ∃ x, D.2.1 = x := ⟨_, rfl⟩
    rw [hD1, hDb] at HCo HDO
    have HD1 := Lib.hid hD1; have HDb := Lib.hid hDb
    clear hD hD1 hDb
    go_enter Tryz.func30, Tryz.ntmps30
    go_upto_region 7 with (go_at_call 60; (try rw [HW0.out]); refine (HK.out _).mono ?_; rw [HKP.out]; rintro e w1 ⟨rfl, rfl⟩)
    (try rw [HW0.out])
    have HS : Hid (∀ W T A' ys, SnI w W r gs gm (RB.bl r T0 T1 vk) T T1 vk me n A' le ws S [(n0, #[.int .i64 c, .int .i64 nn, .int .i64 7, .int .i64 o, .int .i64 rr, .int .i64 t, .int .i64 mm, vS g, .slice pa M pc], 32), (n0 + 1, ys, 34)] [(.slice pa M pc, ai)] → W.cell? ⟨r, 2, none⟩ = some (.pointer (some ⟨gs, 0, none⟩)) ∧ W.cell? ⟨n0, 6, none⟩ = some (.int .i64 mm) ∧ W.cell? ⟨n0, 7, none⟩ = some (vS g)) := Lib.hid (fun W T A' ys h =>
      ⟨h.cells.2.1, cell_obj (h.bx _ (.head _)).1 6 (.int .i64 mm) rfl, cell_obj (h.bx _ (.head _)).1 7 (vS g) rfl⟩)
    clear c2 x2 x6 x7 x8
    obtain ⟨c2, x6, x7⟩ := HS.out _ _ _ _ HI0.out
    go_region_held3 (fun W => W.cell? ⟨r, 2, none⟩ = some (.pointer (some ⟨gs, 0, none⟩)) ∧ W.cell? ⟨n0, 6, none⟩ = some (.int .i64 mm) ∧ W.cell? ⟨n0, 7, none⟩ = some (vS g)) (first | exact HS.out _ _ _ _ (HI0.out.keep0 ((Fr.refl (fun _ => False) W0).drew)) | exact HS.out _ _ _ _ HI2.out | exact HS.out _ _ _ _ HI3.out | exact HS.out _ _ _ _ HI0.out | exact HS.out _ _ _ _ (HI2.out.set1 (by omega) _ _) | exact HS.out _ _ _ _ ((HI2.out.set1 (by omega) _ _).set1 (by omega) _ _))
      ((go_at_call 62; refine (HCo.out _ _ (by first | exact HI0.out.rb.sh | exact (HI0.out.keep0 ((Fr.refl (fun _ => False) W0).drew)).rb.sh)).mono ?_; rintro e w2 ⟨T2, rfl, h1, h2⟩; have hi2 := (HI0.out.keep0 ((Fr.refl (fun _ => False) W0).drew)).shelf h1 HD2.out h2; have hb2 := (hi2.bx _ (.tail _ (.head _))).1; have z2 := obj_frozen hb2 2; have z3 := obj_frozen hb2 3; have y2 := cell_obj hb2 2 (.int .i64 1) rfl; have y3 := cell_obj hb2 3 (.int .i64 0) rfl; have HI2 := Lib.hid hi2; clear h1 h2 hi2 hb2))
    have HI3 := Lib.hid (HI2.out.set1 (by omega) 3 (.int .i64 D1))
    have HI4 := Lib.hid (HI3.out.set1 (by omega) 2 (.int .i64 D2))
    (try rw [HN0.out] at HI4)
    obtain ⟨w3, hw3⟩ : ∃ W, (w2.setCell ⟨n0 + 1, 3, none⟩ (.int .i64 D1)).setCell ⟨n0 + 1, 2, none⟩ (.int .i64 D2) = W := ⟨_, rfl⟩
    rw [hw3] at HI4
    (try rw [hw3])
    clear hw3 y2 z2 y3 z3 HI3
    have y0 := cell_obj (HI4.out.bx _ (.tail _ (.head _))).1 0 (.int .i64 c) rfl
    have y1 := cell_obj (HI4.out.bx _ (.tail _ (.head _))).1 1 (.int .i64 nn) rfl
    have y2 := cell_obj (HI4.out.bx _ (.tail _ (.head _))).1 2 (.int .i64 D2) rfl
    have y3 := cell_obj (HI4.out.bx _ (.tail _ (.head _))).1 3 (.int .i64 D1) rfl
    have HZ : Hid (w.heap.size ≤ w3.heap.size) := Lib.hid HI4.out.st.1.size
    go_wp2_with (at_builtin; refine wpList_append_src rfl _ _ 39 rfl w.heap.size 67 i0 (.agg #[.int .i64 0, .int .i64 0, .int .i64 0, .slice none 0 0, .int .i64 0, .int .i64 0, .int .i64 0, .int .i64 0, .int .i64 0, .int .i64 0, .int .i64 0, .string ⟨#[]⟩, .slice none 0 0, .int .i64 0, .int .i64 0, .int .i64 0, .int .i64 0]) 176 Tryz.underlying39 hi' hz0 hz1 hz2 rfl (by decide) (.slice none 0 0) 0 (flat pcs []) rfl (((Fr.refl (fun _ => False) w3).alloc _).row (hPN.out w3 (RB.bl r T2 T1 vk)).row (fun _ _ e => e)) 1 rfl (rd_obj (cs := [.int .i64 fr, .int .i64 12, .int .i64 0, .slice none 0 0, .int .i64 0, .int .i64 0, .int .i64 0, .int .i64 0, .int .i64 0, .int .i64 0, .int .i64 0, .string ⟨#[]⟩, .slice none 0 0, .int .i64 c, .int .i64 nn, .int .i64 D2, .int .i64 D1]) (heap_new _ _) rfl) (by intro u hu; simp only [List.mem_cons, List.not_mem_nil, or_false] at hu; rcases hu with h | h | h | h | h | h | h | h | h | h | h | h | h | h | h | h | h <;> (subst h; rfl)) (by unfold maxLen; omega) (by omega) (by simp; have := HZ.out; omega) ?_; intro v5 w5 hown hgrow hloc; have HO5 := Lib.hid hown; have HG5 := Lib.hid hgrow; have HL5 := Lib.hid hloc; clear hown hgrow hloc)
    go_ret
    exact do_end HI4.out (hPN.out w3 (RB.bl r T2 T1 vk)) hfr (HYO.out _ _ _ HDO.out.2 HDO.out.1) HO5.out HG5.out HL5.out (by rw [← HR.out]; rw [doR_count rfl]; dsimp only; rw [HD.out, HD1.out, HDb.out]; rfl)
  by_cases hk10 : k = 10
  · have HK10 := Lib.hid hk10
    subst hk10
    obtain ⟨D, hD⟩ : ∃ D, sendR me ⟨A, le, ws, S.map (·.2)⟩ ⟨c, nn, 10, o, rr, t, mm, g, .slice pa M pc, ai⟩ = D := ⟨_, rfl⟩
    have HD := Lib.hid hD
    have HSE : Hid (∀ W TS', RG W r TS' me n A le ws S → AOk W ⟨c, nn, 10, o, rr, t, mm, g, .slice pa M pc, ai⟩ → (ai ≠ [] → ∀ b, (Value.slice pa M pc).ownBlock = some b → ¬ TS' b) → Calls Tryz.prog 63 #[.pointer (some ⟨r, 0, none⟩), .agg #[.int .i64 c, .int .i64 nn, .int .i64 10, .int .i64 o, .int .i64 rr, .int .i64 t, .int .i64 mm, vS g, .slice pa M pc]] W (SndP W r TS' me n le S (.slice pa M pc) ai D)) := Lib.hid (fun W TS' h1 h2 h3 => by
      have := HSEND.out W TS' h1 h2 h3
      rw [hD] at this; exact this)
    have HDS : Hid (D.2.S = S.map (·.2) ∧ D.2.le = le ∧ D.1.1.length ≤ 1 ∧ okI D.1.2) := Lib.hid (by rw [← hD]; exact sendR_fix _ _ _)
    have HAOK : Hid (∀ W, Fr (fun _ => False) w W → AOk W ⟨c, nn, 10, o, rr, t, mm, g, .slice pa M pc, ai⟩) := Lib.hid (fun W hf => HAO.out.keep hf (fun _ _ _ e => e))
    obtain ⟨D2, hDb⟩ : ∃ x, D.1.2 = x := ⟨_, rfl⟩
    have HDb := Lib.hid hDb
    have x0 := cell_obj (HI0.out.bx _ (.head _)).1 0 (.int .i64 c) rfl
    have x1 := cell_obj (HI0.out.bx _ (.head _)).1 1 (.int .i64 nn) rfl
    have x3 := cell_obj (HI0.out.bx _ (.head _)).1 3 (.int .i64 o) rfl
    have x4 := cell_obj (HI0.out.bx _ (.head _)).1 4 (.int .i64 rr) rfl
    have x5 := cell_obj (HI0.out.bx _ (.head _)).1 5 (.int .i64 t) rfl
    have HF0 : Hid (Fr (fun _ => False) w W0) := Lib.hid (by rw [← HW0.out]; exact ((Fr.refl _ w).alloc _).alloc _)
    clear hD hDb HSEND
    go_enter Tryz.func30, Tryz.ntmps30
    go_upto_region 9 with (go_at_call 60; (try rw [HW0.out]); refine (HK.out _).mono ?_; rw [HKP.out]; rintro e w1 ⟨rfl, rfl⟩)
    (try rw [HW0.out])
    clear c2
    go_upto_region 10 with (go_at_call 63; refine (HSE.out _ _ HI0.out.rb.rg (HAOK.out _ HF0.out) (fun hn b hb => (HI0.out.nv0 hn b hb).1)).mono ?_; rintro e w2 ⟨v2, T2, L2, rfl, h1, h2, h3, h4, h5⟩; rw [HDb.out]; have h1' := h1.rb; obtain ⟨gs', gm', T0', T1', vk', hrb', hT2⟩ := h1'; subst hT2; obtain ⟨sa, sc, hsv⟩ := row_sl h2.row; obtain ⟨LN, hLN⟩ : ∃ m, L2.length = m := ⟨_, rfl⟩; rw [hLN] at hsv; subst hsv; have hi2 := HI0.out.step h4 hrb'; have hb2 := (hi2.bx _ (.tail _ (.head _))).1; have z2 := obj_frozen hb2 2; have y2 := cell_obj hb2 2 (.int .i64 1) rfl; have HI2 := Lib.hid hi2; have HP2 := Lib.hid h2; have HL2 := Lib.hid h3; have HLN := Lib.hid hLN; have H5 := Lib.hid h5; clear h1 h2 h3 h4 h5 hi2 hb2 hrb' hLN)
    have HI3 := Lib.hid (HI2.out.set1 (by omega) 2 (.int .i64 D2))
    have hlb : ∀ b, (Value.slice sa LN sc).ownBlock = some b → n0 + 2 ≤ b := fun b hb => by
      have h1 := (HP2.out.row.lt b hb).1
      have h2 := (Array.getElem?_eq_some_iff.1 (HI0.out.bx _ (.tail _ (.head _))).1).1
      dsimp only at h2
      omega
    have HP3 := Lib.hid (HP2.out.keepK ((Fr.refl (fun b => b = n0 + 1) w2).setCell (p := ⟨n0 + 1, 2, none⟩) (fun _ => rfl) (.int .i64 D2)) (fun b hb e => by have := hlb b hb; have e : b = n0 + 1 := e; omega) (fun p hp b hb e => by have h1 := H5.out p hp b hb; have h2 := (HI0.out.nv0 h1.1 b h1.2).2; have e : b = n0 + 1 := e; omega))
    obtain ⟨w3, hw3⟩ : ∃ W, w2.setCell ⟨n0 + 1, 2, none⟩ (.int .i64 D2) = W := ⟨_, rfl⟩
    rw [hw3] at HI3 HP3
    (try rw [hw3])
    clear hw3 y2 z2 hlb
    have HP4 := Lib.hid (HP3.out.low (base' := w.heap.size) HF0.out.size)
    have hLN1 : LN ≤ 1 := by have h1 := HDS.out.2.2.1; rw [← HL2.out, List.length_map, HLN.out] at h1; exact h1
    rw [show Pst w3 w.heap.size (.slice sa LN sc) L2 (RB.bl r T0' T1' vk') = Pst w3 w.heap.size (.slice sa LN sc) L2 (RB.bl r T0' T1' vk') from rfl] at HP4
    have HROW : Hid (w3.ownsRow w.heap.size 67 17 (.slice sa LN sc) LN (flat pcs L2)) := Lib.hid (by have := HP4.out.row; rw [HLN.out] at this; exact this)
    have y0 := cell_obj (HI3.out.bx _ (.tail _ (.head _))).1 0 (.int .i64 c) rfl
    have y1 := cell_obj (HI3.out.bx _ (.tail _ (.head _))).1 1 (.int .i64 nn) rfl
    have y2 := cell_obj (HI3.out.bx _ (.tail _ (.head _))).1 2 (.int .i64 D2) rfl
    have y3 := cell_obj (HI3.out.bx _ (.tail _ (.head _))).1 3 (.int .i64 0) rfl
    have HZ : Hid (w.heap.size ≤ w3.heap.size) := Lib.hid HI3.out.st.1.size
    go_wp2_with (at_builtin; refine wpList_append_src rfl _ _ 39 rfl w.heap.size 67 i0 (.agg #[.int .i64 0, .int .i64 0, .int .i64 0, .slice none 0 0, .int .i64 0, .int .i64 0, .int .i64 0, .int .i64 0, .int .i64 0, .int .i64 0, .int .i64 0, .string ⟨#[]⟩, .slice none 0 0, .int .i64 0, .int .i64 0, .int .i64 0, .int .i64 0]) 176 Tryz.underlying39 hi' hz0 hz1 hz2 rfl (by decide) (.slice sa LN sc) LN (flat pcs L2) rfl (((Fr.refl (fun _ => False) w3).alloc _).row HROW.out (fun _ _ e => e)) 1 rfl (rd_obj (cs := [.int .i64 fr, .int .i64 12, .int .i64 0, .slice none 0 0, .int .i64 0, .int .i64 0, .int .i64 0, .int .i64 0, .int .i64 0, .int .i64 0, .int .i64 0, .string ⟨#[]⟩, .slice none 0 0, .int .i64 c, .int .i64 nn, .int .i64 D2, .int .i64 0]) (heap_new _ _) rfl) (by intro u hu; simp only [List.mem_cons, List.not_mem_nil, or_false] at hu; rcases hu with h | h | h | h | h | h | h | h | h | h | h | h | h | h | h | h | h <;> (subst h; rfl)) (by unfold maxLen; omega) (by omega) (by simp; have := HZ.out; omega) ?_; intro v5 w5 hown hgrow hloc; have HO5 := Lib.hid hown; have HG5 := Lib.hid hgrow; have HL5 := Lib.hid hloc; clear hown hgrow hloc)
    go_ret
    have HO6 : Hid _ := Lib.hid (HLN.out.symm ▸ HO5.out)
    exact do_end HI3.out HP4.out hfr (HYO.out _ _ _ (HDb.out ▸ HDS.out.2.2.2) (okI_lit (n := 0) (by decide))) (by rw [HLN.out]; exact HO5.out) HG5.out HL5.out (by rw [← HR.out]; rw [doR_move rfl]; rw [HD.out, HL2.out, HDb.out]; exact Prod.ext rfl (by rw [← HDS.out.1, ← HDS.out.2.1]))
  · have HK7 := Lib.hid hk7; have HK10 := Lib.hid hk10
    have b7 : (k == 7) = false := by simpa using hk7
    have b10 : (k == 10) = false := by simpa using hk10
    clear hk7 hk10
    go_enter Tryz.func30, Tryz.ntmps30
    go_upto_region 10 with (go_at_call 60; (try rw [HW0.out]); refine (HK.out _).mono ?_; rw [HKP.out]; rintro e w1 ⟨rfl, rfl⟩)
    (try rw [HW0.out])
    clear c2 x2 x6 x7 x8
    have y0 := cell_obj (HI0.out.bx _ (.tail _ (.head _))).1 0 (.int .i64 c) rfl
    have y1 := cell_obj (HI0.out.bx _ (.tail _ (.head _))).1 1 (.int .i64 nn) rfl
    have y2 := cell_obj (HI0.out.bx _ (.tail _ (.head _))).1 2 (.int .i64 1) rfl
    have y3 := cell_obj (HI0.out.bx _ (.tail _ (.head _))).1 3 (.int .i64 0) rfl
    have HZ : Hid (w.heap.size ≤ W0.heap.size) := Lib.hid HI0.out.st.1.size
    go_wp2_with (at_builtin; refine wpList_append_src rfl _ _ 39 rfl w.heap.size 67 i0 (.agg #[.int .i64 0, .int .i64 0, .int .i64 0, .slice none 0 0, .int .i64 0, .int .i64 0, .int .i64 0, .int .i64 0, .int .i64 0, .int .i64 0, .int .i64 0, .string ⟨#[]⟩, .slice none 0 0, .int .i64 0, .int .i64 0, .int .i64 0, .int .i64 0]) 176 Tryz.underlying39 hi' hz0 hz1 hz2 rfl (by decide) (.slice none 0 0) 0 (flat pcs []) rfl (((Fr.refl (fun _ => False) W0).alloc _).row (hPN.out W0 (RB.bl r T0 T1 vk)).row (fun _ _ e => e)) 1 rfl (rd_obj (cs := [.int .i64 fr, .int .i64 12, .int .i64 0, .slice none 0 0, .int .i64 0, .int .i64 0, .int .i64 0, .int .i64 0, .int .i64 0, .int .i64 0, .int .i64 0, .string ⟨#[]⟩, .slice none 0 0, .int .i64 c, .int .i64 nn, .int .i64 1, .int .i64 0]) (heap_new _ _) rfl) (by intro u hu; simp only [List.mem_cons, List.not_mem_nil, or_false] at hu; rcases hu with h | h | h | h | h | h | h | h | h | h | h | h | h | h | h | h | h <;> (subst h; rfl)) (by unfold maxLen; omega) (by omega) (by simp; have := HZ.out; omega) ?_; intro v5 w5 hown hgrow hloc; have HO5 := Lib.hid hown; have HG5 := Lib.hid hgrow; have HL5 := Lib.hid hloc; clear hown hgrow hloc)
    go_ret
    exact do_end HI0.out (hPN.out W0 (RB.bl r T0 T1 vk)) hfr (HYO.out _ _ _ (okI_lit (n := 1) (by decide)) (okI_lit (n := 0) (by decide))) HO5.out HG5.out HL5.out (by rw [← HR.out]; rw [doR_else HKF.out HK7.out HK10.out]; rfl)
end Go.Proofs.YtmflpeklalgibaaGreat

