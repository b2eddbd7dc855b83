/- bins: compare. -/
import Derived.Test.YtlniekobijcanaaGreatBinsRoutesM3
import Derived.Test.YtlniekobijcanaaGreatBinsRoutesM4
import Derived.Deep.RegionHeld3
import Derived.Deep.CutBlock
import Derived.BigQuiet
import Derived.Deep.DeepCutAuto
import Derived.Test.YtlniekobijcanaaGreatBinsRoutesM6
namespace Go.Proofs.YtlniekobijcanaaGreat
open Go.RowKit Go.Maps
/-- Two places by the way: of bins a, b; of goods s, t. -/
def compF (a b : BV) (s t : Str) : Int :=
  if cmpI a.zo b.zo ≠ 0 then cmpI a.zo b.zo else or2 (if a.zo.tmod 2 = 1 then wrap64 (- cmpI a.nu b.nu) else cmpI a.nu b.nu) (cmpStr s t)
set_option maxRecDepth 100000 in
set_option maxHeartbeats 8000000 in
theorem bComp (w : World) (g : Nat) (L : List BV) (p q : PV) (A B : BV) (i j : Nat) (h : Fl w g L) (hA : findF L p.b = (i : Int)) (hi : L[i]? = some A) (hB : findF L q.b = (j : Int)) (hj : L[j]? = some B) :
    Calls Tryz.prog 41 #[.pointer (some ⟨g, 0, none⟩), .agg p.cs.toArray, .agg q.cs.toArray] w fun e w' => e = .returned (.int .i64 (compF A B p.g q.g)) ∧ Fr (fun _ => False) w w' := by
  have hL : 0 < L.length := by have := (List.getElem?_eq_some_iff.1 hi).1; omega
  have hfd := Lib.hid (fun W n (hf : Fr (fun _ => False) w W) => bFind W g L n (h.keep hf) hL)
  have hfi := Lib.hid hA; have hfj := Lib.hid hB
  obtain ⟨a, c, q1, q2⟩ := h
  have hiN := (List.getElem?_eq_some_iff.1 hi).1
  have hjN := (List.getElem?_eq_some_iff.1 hj).1
  have hNI := q2.len
  obtain ⟨N, hN⟩ : ∃ N, L.length = N := ⟨_, rfl⟩
  rw [hN] at q1 q2 hNI hiN hjN
  have hiI : (i : Int) < N := by omega
  have hjI : (j : Int) < N := by omega
  obtain ⟨R, hR⟩ : ∃ R, compF A B p.g q.g = R := ⟨_, rfl⟩
  rw [hR]
  have HR := Lib.hid hR
  obtain ⟨p1, p2, p3⟩ := p
  obtain ⟨r1, r2, r3⟩ := q
  dsimp only [PV.cs] at *
  obtain ⟨ad, rfl, okA, z0, zs⟩ := q2.at_ hi
  obtain ⟨ad', e', okB, y0, ys⟩ := q2.at_ hj
  cases e'
  obtain ⟨la, lc, hl⟩ := okA.l.sl
  obtain ⟨lb, ld, hm⟩ := okB.l.sl
  have hfacts : Hid (∀ W, Fr (fun _ => False) w W → W.cell? ⟨g, 0, none⟩ = some (.slice (some ad) N c) ∧ W.cell? (ad.add (i * 4)) = some (.int .i64 A.nu) ∧ W.cell? ⟨(ad.add (i * 4)).block, (ad.add (i * 4)).off + 1, none⟩ = some (.int .i64 A.zo) ∧ W.cell? ⟨(ad.add (i * 4)).block, (ad.add (i * 4)).off + 2, none⟩ = some (.int .i64 A.ro) ∧ W.cell? ⟨(ad.add (i * 4)).block, (ad.add (i * 4)).off + 3, none⟩ = some (.slice la A.its.length lc) ∧ W.cell? (ad.add (j * 4)) = some (.int .i64 B.nu) ∧ W.cell? ⟨(ad.add (j * 4)).block, (ad.add (j * 4)).off + 1, none⟩ = some (.int .i64 B.zo) ∧ W.cell? ⟨(ad.add (j * 4)).block, (ad.add (j * 4)).off + 2, none⟩ = some (.int .i64 B.ro) ∧ W.cell? ⟨(ad.add (j * 4)).block, (ad.add (j * 4)).off + 3, none⟩ = some (.slice lb B.its.length ld)) := Lib.hid (fun W hf => by
    have n0 : ¬ (fun _ : Nat => False) g := fun e => e
    exact ⟨hf.cell (cell_obj q1 0 (.slice (some ad) N c) rfl) n0, hf.cell (z0 (.int .i64 A.nu) rfl) (fun e => e), hf.cell (zs 0 (.int .i64 A.zo) rfl) (fun e => e), hf.cell (zs 1 (.int .i64 A.ro) rfl) (fun e => e), hf.cell (zs 2 (.slice la A.its.length lc) (by rw [← hl]; rfl)) (fun e => e), hf.cell (y0 (.int .i64 B.nu) rfl) (fun e => e), hf.cell (ys 0 (.int .i64 B.zo) rfl) (fun e => e), hf.cell (ys 1 (.int .i64 B.ro) rfl) (fun e => e), hf.cell (ys 2 (.slice lb B.its.length ld) (by rw [← hm]; rfl)) (fun e => e)⟩)
  obtain ⟨ai, hai⟩ : ∃ x, ad.add (i * 4) = x := ⟨_, rfl⟩
  obtain ⟨aj, haj⟩ : ∃ x, ad.add (j * 4) = x := ⟨_, rfl⟩
  rw [hai, haj] at hfacts
  clear hL hR hN hA hB q1 q2 hi hj z0 zs y0 ys okA okB hl hm
  go_enter Tryz.func41, Tryz.ntmps41
  go_wp2_with fail
  obtain ⟨W0, hW0⟩ : ∃ W, (w.alloc (.cells #[.int .i64 p1, vS p2, .int .i64 p3] 55)).alloc (.cells #[.int .i64 r1, vS r2, .int .i64 r3] 55) = W := ⟨_, rfl⟩
  obtain ⟨n0, hn0⟩ : ∃ n, w.heap.size = n := ⟨_, rfl⟩
  have hFW : Hid (Fr (fun _ => False) w W0) := Lib.hid (by rw [← hW0]; exact ((Fr.refl _ w).alloc _).alloc _)
  have hx0 : W0.heap[n0]? = some (.cells #[.int .i64 p1, vS p2, .int .i64 p3] 55) := by rw [← hW0]; exact heap_keep (heap_at hn0.symm _) _
  have hx1 : W0.heap[n0 + 1]? = some (.cells #[.int .i64 r1, vS r2, .int .i64 r3] 55) := by rw [← hW0]; exact heap_at (by simp [hn0]) _
  rw [hW0, hn0]
  have hN0 : Hid (∀ W n, Fr (fun _ => False) W0 W → Calls Tryz.prog 39 #[.pointer (some ⟨g, 0, none⟩), .int .i64 n] W fun e w' => e = .returned (.int .i64 (findF L n)) ∧ Fr (fun _ => False) W w') := Lib.hid (fun W n hf => hfd.out W n (hFW.out.trans hf))
  obtain ⟨u0, u1, u2, u3, u4, u5, u6, u7, u8⟩ := hfacts.out W0 hFW.out
  have v0 := cell_obj hx0 0 (.int .i64 p1) rfl
  have v1 := cell_obj hx1 0 (.int .i64 r1) rfl
  have HX0 := Lib.hid hx0; have HX1 := Lib.hid hx1
  clear hx0 hx1 hfacts hW0 hn0 hfd
  refine wp_region_box [⟨20, 7, 76, #[.int .i64 0, .int .i64 0, .int .i64 0, .slice none 0 0], 22, 20⟩, ⟨21, 8, 76, #[.int .i64 0, .int .i64 0, .int .i64 0, .slice none 0 0], 23, 30⟩] (by kernel_rfl) rfl (by kernel_rfl) (by kernel_rfl) (by kernel_rfl) ?al ?_
  case al =>
    intro b hb w
    simp only [List.mem_cons, List.not_mem_nil, or_false] at hb
    rcases hb with rfl | rfl <;> kernel_rfl
  apply Exists.intro
  refine ⟨?hh, ?st, ?qq⟩
  case hh =>
    intro X
    have q0 := FrW.cell (X.fr.cell u0 (fun e => e)); have q1 := FrW.cell (X.fr.cell u1 (fun e => e)); have q2 := FrW.cell (X.fr.cell u2 (fun e => e)); have q3 := FrW.cell (X.fr.cell u3 (fun e => e)); have q4 := FrW.cell (X.fr.cell u4 (fun e => e)); have q5 := FrW.cell (X.fr.cell u5 (fun e => e)); have q6 := FrW.cell (X.fr.cell u6 (fun e => e)); have q7 := FrW.cell (X.fr.cell u7 (fun e => e)); have q8 := FrW.cell (X.fr.cell u8 (fun e => e)); have r0 := FrW.cell (X.fr.cell v0 (fun e => e)); have r1' := FrW.cell (X.fr.cell v1 (fun e => e))
    simp (config := { decide := true }) only [boxedF, bxIdx, List.flatMap_cons, List.flatMap_nil, List.cons_append, List.nil_append, idleU, if_true, if_false, ite_true, ite_false]
    repeat (go_big_quiet_step ((go_at_call 39; rename_i Y; refine (hN0.out Y.val _ (X.fr.trans Y.fr)).mono ?_; (first | rw [hfi.out] | rw [hfj.out]); rintro e w2 ⟨rfl, hF⟩; exact ⟨rfl, ⟨w2, Y.fr.trans hF⟩, rfl⟩)))
    exact wpQuiet_nil rfl
  case st =>
    intro b hb w n hw
    simp only [List.mem_cons, List.not_mem_nil, or_false] at hb
    rcases hb with rfl | rfl
    · exact box_store (cs := #[.int .i64 A.nu, .int .i64 A.zo, .int .i64 A.ro, .slice la A.its.length lc]) hw rfl (by kernel_rfl) (by intro u hu; simp only [List.mem_cons, List.not_mem_nil, or_false] at hu; rcases hu with rfl | rfl | rfl | rfl <;> rfl)
    · exact box_store (cs := #[.int .i64 B.nu, .int .i64 B.zo, .int .i64 B.ro, .slice lb B.its.length ld]) hw rfl (by kernel_rfl) (by intro u hu; simp only [List.mem_cons, List.not_mem_nil, or_false] at hu; rcases hu with rfl | rfl | rfl | rfl <;> rfl)
  case qq =>
    intro m wz hfz hbx hdiff
    have hb7 : wz.heap[m 20]? = some (.cells #[.int .i64 A.nu, .int .i64 A.zo, .int .i64 A.ro, .slice la A.its.length lc] 76) := (hbx _ (List.mem_cons_self)).2
    have hb8 : wz.heap[m 21]? = some (.cells #[.int .i64 B.nu, .int .i64 B.zo, .int .i64 B.ro, .slice lb B.its.length ld] 76) := (hbx _ (List.mem_cons_of_mem _ List.mem_cons_self)).2
    obtain ⟨b7, hb7e⟩ : ∃ b, m 20 = b := ⟨_, rfl⟩
    obtain ⟨b8, hb8e⟩ : ∃ b, m 21 = b := ⟨_, rfl⟩
    rw [hb7e] at hb7
    rw [hb8e] at hb8
    have HFZ := Lib.hid (hFW.out.trans hfz)
    have y1 := cell_obj hb7 0 (.int .i64 A.nu) rfl
    have y2 := cell_obj hb7 1 (.int .i64 A.zo) rfl
    have z1 := cell_obj hb8 0 (.int .i64 B.nu) rfl
    have z2 := cell_obj hb8 1 (.int .i64 B.zo) rfl
    have g1 := cell_obj (hfz.at_ HX0.out (fun e => e)) 1 (vS p2) rfl
    have g2 := cell_obj (hfz.at_ HX1.out (fun e => e)) 1 (vS r2) rfl
    simp only [bPuts, List.foldl_cons, List.foldl_nil, Act.put, bPtr, hb7e, hb8e]
    clear hbx hdiff hfz hb7 hb8
    simp only [List.setIfInBounds_toArray, List.set_cons_succ, List.set_cons_zero]
    obtain ⟨CZ, hCZ⟩ : ∃ x, cmpI A.zo B.zo = x := ⟨_, rfl⟩
    obtain ⟨CN, hCN⟩ : ∃ x, cmpI A.nu B.nu = x := ⟨_, rfl⟩
    obtain ⟨CS, hCS⟩ : ∃ x, cmpStr p2 r2 = x := ⟨_, rfl⟩
    have hR2 := HR.out
    unfold compF at hR2
    rw [hCZ, hCN, hCS] at hR2
    have HCZ := Lib.hid hCZ; have HCN := Lib.hid hCN; have HCS := Lib.hid hCS
    have HR2 := Lib.hid hR2
    clear hCZ hCN hCS hR2
    have kCZ := Lib.hid (fun W => cCompare A.zo B.zo W)
    rw [HCZ.out] at kCZ
    by_cases hz : CZ = 0
    · subst hz
      have hCI := Lib.hid (fun a b W => cCompare a b W)
      have hCSt := Lib.hid (fun a b W => cCompareS a b W)
      clear kCZ
      by_cases hm : A.zo.tmod 2 = 1
      · have hr : Hid (R = or2 (wrap64 (-CN)) CS) := Lib.hid (by rw [← HR2.out, if_neg (by simp), if_pos hm])
        have hm1 : (A.zo.tmod 2 == 1) = true := by simpa using hm
        clear hm
        go_wp2_with (first
          | (go_at_call 51; refine (hCI.out _ _ _).mono ?_; (first | rw [HCZ.out] | rw [HCN.out]); rintro e w5 ⟨rfl, rfl⟩)
          | (go_at_call 92; refine (hCSt.out _ _ _).mono ?_; rw [HCS.out]; rintro e w6 ⟨rfl, rfl⟩))
        refine (cOr (wrap64 (-CN)) CS wz.heap.size 2 _ (cell_obj (heap_new wz (.cells #[.int .i64 (wrap64 (-CN)), .int .i64 CS] 3)) 0 (.int .i64 (wrap64 (-CN))) rfl) (cell_obj (heap_new wz (.cells #[.int .i64 (wrap64 (-CN)), .int .i64 CS] 3)) 1 (.int .i64 CS) rfl)).mono ?_
        rintro e w7 ⟨rfl, rfl⟩
        have HF8 := Lib.hid (HFZ.out.alloc (.cells #[.int .i64 (wrap64 (-CN)), .int .i64 CS] 3))
        go_wp2_with fail
        go_ret
        exact ⟨by rw [hr.out]; rfl, HF8.out⟩
      · have hr : Hid (R = or2 CN CS) := Lib.hid (by rw [← HR2.out, if_neg (by simp), if_neg hm])
        have hm1 : (A.zo.tmod 2 == 1) = false := by simpa using hm
        clear hm
        go_wp2_with (first
          | (go_at_call 51; refine (hCI.out _ _ _).mono ?_; (first | rw [HCZ.out] | rw [HCN.out]); rintro e w5 ⟨rfl, rfl⟩)
          | (go_at_call 92; refine (hCSt.out _ _ _).mono ?_; rw [HCS.out]; rintro e w6 ⟨rfl, rfl⟩))
        refine (cOr CN CS wz.heap.size 2 _ (cell_obj (heap_new wz (.cells #[.int .i64 CN, .int .i64 CS] 3)) 0 (.int .i64 CN) rfl) (cell_obj (heap_new wz (.cells #[.int .i64 CN, .int .i64 CS] 3)) 1 (.int .i64 CS) rfl)).mono ?_
        rintro e w7 ⟨rfl, rfl⟩
        have HF8 := Lib.hid (HFZ.out.alloc (.cells #[.int .i64 CN, .int .i64 CS] 3))
        go_wp2_with fail
        go_ret
        exact ⟨by rw [hr.out]; rfl, HF8.out⟩
    · have b1 : (CZ != 0) = true := by simpa using hz
      have hr : Hid (R = CZ) := Lib.hid (by rw [← HR2.out, if_pos hz])
      clear hz
      go_wp2_with (go_at_call 51; refine (kCZ.out _).mono ?_; rintro e w5 ⟨rfl, rfl⟩)
      go_ret
      exact ⟨by rw [hr.out]; rfl, HFZ.out⟩
end Go.Proofs.YtlniekobijcanaaGreat
