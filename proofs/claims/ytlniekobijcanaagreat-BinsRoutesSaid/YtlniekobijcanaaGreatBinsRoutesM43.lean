/- entrepotref27: ahead. -/
import Derived.Test.YtlniekobijcanaaGreatBinsRoutesM41
import Derived.Test.YtlniekobijcanaaGreatBinsRoutesM42
import Derived.Deep.RegionHeld3
import Derived.Deep.CutBlock
import Derived.BigQuiet
import Derived.Deep.DeepCutAuto
import Derived.Test.YtlniekobijcanaaGreatBinsRoutesM6
namespace Go.Proofs.YtlniekobijcanaaGreat
open Go.RowKit Go.Maps
set_option maxRecDepth 100000 in
set_option maxHeartbeats 8000000 in
theorem rAhead (w : World) (g : Nat) (L : List BV) (p q : PV) (A B : BV) (i j : Nat) (h : Rl w g L) (hA : findF L p.b = (i : Int)) (hi : L[i]? = some A) (hB : findF L q.b = (j : Int)) (hj : L[j]? = some B) :
    Calls Tryz.prog 43 #[.pointer (some ⟨g, 0, none⟩), .agg p.cs.toArray, .agg q.cs.toArray] w fun e w' => e = .returned (.bool (aheadF A B p.g q.g)) ∧ Fr (fun _ => False) w w' := by
  have hfd := Lib.hid (fun W n (hf : Fr (fun _ => False) w W) => rFind W g L n (h.keep hf))
  have hfi := Lib.hid hA; have hfj := Lib.hid hB
  obtain ⟨a, c, q1, q2⟩ := h
  have hiN := (List.getElem?_eq_some_iff.1 hi).1
  have hjN := (List.getElem?_eq_some_iff.1 hj).1
  have hNI := q2.len
  obtain ⟨N, hN⟩ : ∃ N, L.length = N := ⟨_, rfl⟩
  rw [hN] at q1 q2 hNI hiN hjN
  have hiI : (i : Int) < N := by omega
  have hjI : (j : Int) < N := by omega
  obtain ⟨R, hR⟩ : ∃ R, aheadF A B p.g q.g = R := ⟨_, rfl⟩
  rw [hR]
  have HR := Lib.hid hR
  obtain ⟨p1, p2, p3⟩ := p
  obtain ⟨r1, r2, r3⟩ := q
  dsimp only [PV.cs] at *
  obtain ⟨ad, rfl, okA, z0, zs⟩ := q2.at_ hi
  obtain ⟨ad', e', okB, y0, ys⟩ := q2.at_ hj
  cases e'
  obtain ⟨la, lc, hl⟩ := okA.l.sl
  obtain ⟨lb, ld, hm⟩ := okB.l.sl
  have hfacts : Hid (∀ W, Fr (fun _ => False) w W → W.cell? ⟨g, 0, none⟩ = some (.slice (some ad) N c) ∧ W.cell? (ad.add (i * 4)) = some (.int .i64 A.nu) ∧ W.cell? ⟨(ad.add (i * 4)).block, (ad.add (i * 4)).off + 1, none⟩ = some (.int .i64 A.zo) ∧ W.cell? ⟨(ad.add (i * 4)).block, (ad.add (i * 4)).off + 2, none⟩ = some (.int .i64 A.ro) ∧ W.cell? ⟨(ad.add (i * 4)).block, (ad.add (i * 4)).off + 3, none⟩ = some (.slice la A.its.length lc) ∧ W.cell? (ad.add (j * 4)) = some (.int .i64 B.nu) ∧ W.cell? ⟨(ad.add (j * 4)).block, (ad.add (j * 4)).off + 1, none⟩ = some (.int .i64 B.zo) ∧ W.cell? ⟨(ad.add (j * 4)).block, (ad.add (j * 4)).off + 2, none⟩ = some (.int .i64 B.ro) ∧ W.cell? ⟨(ad.add (j * 4)).block, (ad.add (j * 4)).off + 3, none⟩ = some (.slice lb B.its.length ld)) := Lib.hid (fun W hf => by
    have n0 : ¬ (fun _ : Nat => False) g := fun e => e
    exact ⟨hf.cell (cell_obj q1 0 (.slice (some ad) N c) rfl) n0, hf.cell (z0 (.int .i64 A.nu) rfl) (fun e => e), hf.cell (zs 0 (.int .i64 A.zo) rfl) (fun e => e), hf.cell (zs 1 (.int .i64 A.ro) rfl) (fun e => e), hf.cell (zs 2 (.slice la A.its.length lc) (by rw [← hl]; rfl)) (fun e => e), hf.cell (y0 (.int .i64 B.nu) rfl) (fun e => e), hf.cell (ys 0 (.int .i64 B.zo) rfl) (fun e => e), hf.cell (ys 1 (.int .i64 B.ro) rfl) (fun e => e), hf.cell (ys 2 (.slice lb B.its.length ld) (by rw [← hm]; rfl)) (fun e => e)⟩)
  obtain ⟨ai, hai⟩ : ∃ x, ad.add (i * 4) = x := ⟨_, rfl⟩
  obtain ⟨aj, haj⟩ : ∃ x, ad.add (j * 4) = x := ⟨_, rfl⟩
  rw [hai, haj] at hfacts
  clear hR hN hA hB q1 q2 hi hj z0 zs y0 ys okA okB hl hm
  go_enter Tryz.func43, Tryz.ntmps43
  go_wp2_with fail
  obtain ⟨W0, hW0⟩ : ∃ W, (w.alloc (.cells #[.int .i64 p1, vS p2, .int .i64 p3] 55)).alloc (.cells #[.int .i64 r1, vS r2, .int .i64 r3] 55) = W := ⟨_, rfl⟩
  obtain ⟨n0, hn0⟩ : ∃ n, w.heap.size = n := ⟨_, rfl⟩
  have hFW : Hid (Fr (fun _ => False) w W0) := Lib.hid (by rw [← hW0]; exact ((Fr.refl _ w).alloc _).alloc _)
  have hx0 : W0.heap[n0]? = some (.cells #[.int .i64 p1, vS p2, .int .i64 p3] 55) := by rw [← hW0]; exact heap_keep (heap_at hn0.symm _) _
  have hx1 : W0.heap[n0 + 1]? = some (.cells #[.int .i64 r1, vS r2, .int .i64 r3] 55) := by rw [← hW0]; exact heap_at (by simp [hn0]) _
  rw [hW0, hn0]
  have hN0 : Hid (∀ W n, Fr (fun _ => False) W0 W → Calls Tryz.prog 42 #[.pointer (some ⟨g, 0, none⟩), .int .i64 n] W fun e w' => e = .returned (.int .i64 (findF L n)) ∧ Fr (fun _ => False) W w') := Lib.hid (fun W n hf => hfd.out W n (hFW.out.trans hf))
  obtain ⟨u0, u1, u2, u3, u4, u5, u6, u7, u8⟩ := hfacts.out W0 hFW.out
  have v0 := cell_obj hx0 0 (.int .i64 p1) rfl
  have v1 := cell_obj hx1 0 (.int .i64 r1) rfl
  have HX0 := Lib.hid hx0; have HX1 := Lib.hid hx1
  clear hx0 hx1 hfacts hW0 hn0 hfd
  refine wp_region_box [⟨22, 7, 36, #[.int .i64 0, .int .i64 0, .int .i64 0], 24, 19⟩, ⟨23, 8, 36, #[.int .i64 0, .int .i64 0, .int .i64 0], 25, 30⟩] (by kernel_rfl) rfl (by kernel_rfl) (by kernel_rfl) (by kernel_rfl) ?al ?_
  case al =>
    intro b hb w
    simp only [List.mem_cons, List.not_mem_nil, or_false] at hb
    rcases hb with rfl | rfl <;> kernel_rfl
  apply Exists.intro
  refine ⟨?hh, ?st, ?qq⟩
  case hh =>
    intro X
    have q0 := FrW.cell (X.fr.cell u0 (fun e => e)); have q1 := FrW.cell (X.fr.cell u1 (fun e => e)); have q2 := FrW.cell (X.fr.cell u2 (fun e => e)); have q3 := FrW.cell (X.fr.cell u3 (fun e => e)); have q4 := FrW.cell (X.fr.cell u4 (fun e => e)); have q5 := FrW.cell (X.fr.cell u5 (fun e => e)); have q6 := FrW.cell (X.fr.cell u6 (fun e => e)); have q7 := FrW.cell (X.fr.cell u7 (fun e => e)); have q8 := FrW.cell (X.fr.cell u8 (fun e => e)); have r0 := FrW.cell (X.fr.cell v0 (fun e => e)); have r1' := FrW.cell (X.fr.cell v1 (fun e => e))
    simp (config := { decide := true }) only [boxedF, bxIdx, List.flatMap_cons, List.flatMap_nil, List.cons_append, List.nil_append, idleU, if_true, if_false, ite_true, ite_false]
    repeat (go_big_quiet_step ((go_at_call 42; rename_i Y; refine (hN0.out Y.val _ (X.fr.trans Y.fr)).mono ?_; (first | rw [hfi.out] | rw [hfj.out]); rintro e w2 ⟨rfl, hF⟩; exact ⟨rfl, ⟨w2, Y.fr.trans hF⟩, rfl⟩)))
    exact wpQuiet_nil rfl
  case st =>
    intro b hb w n hw
    simp only [List.mem_cons, List.not_mem_nil, or_false] at hb
    rcases hb with rfl | rfl
    · exact box_store (cs := #[.int .i64 A.nu, .int .i64 A.zo, .int .i64 A.ro]) hw rfl (by kernel_rfl) (by intro u hu; simp only [List.mem_cons, List.not_mem_nil, or_false] at hu; rcases hu with rfl | rfl | rfl <;> rfl)
    · exact box_store (cs := #[.int .i64 B.nu, .int .i64 B.zo, .int .i64 B.ro]) hw rfl (by kernel_rfl) (by intro u hu; simp only [List.mem_cons, List.not_mem_nil, or_false] at hu; rcases hu with rfl | rfl | rfl <;> rfl)
  case qq =>
    intro m wz hfz hbx hdiff
    have hb7 : wz.heap[m 22]? = some (.cells #[.int .i64 A.nu, .int .i64 A.zo, .int .i64 A.ro] 36) := (hbx _ (List.mem_cons_self)).2
    have hb8 : wz.heap[m 23]? = some (.cells #[.int .i64 B.nu, .int .i64 B.zo, .int .i64 B.ro] 36) := (hbx _ (List.mem_cons_of_mem _ List.mem_cons_self)).2
    obtain ⟨b7, hb7e⟩ : ∃ b, m 22 = b := ⟨_, rfl⟩
    obtain ⟨b8, hb8e⟩ : ∃ b, m 23 = b := ⟨_, rfl⟩
    rw [hb7e] at hb7
    rw [hb8e] at hb8
    have HFZ := Lib.hid (hFW.out.trans hfz)
    have y1 := cell_obj hb7 0 (.int .i64 A.nu) rfl
    have y2 := cell_obj hb7 1 (.int .i64 A.zo) rfl
    have z1 := cell_obj hb8 0 (.int .i64 B.nu) rfl
    have z2 := cell_obj hb8 1 (.int .i64 B.zo) rfl
    have g1 := cell_obj (hfz.at_ HX0.out (fun e => e)) 1 (vS p2) rfl
    have g2 := cell_obj (hfz.at_ HX1.out (fun e => e)) 1 (vS r2) rfl
    simp only [bPuts, List.foldl_cons, List.foldl_nil, Act.put, bPtr, hb7e, hb8e]
    clear hbx hdiff hfz hb7 hb8
    simp only [List.setIfInBounds_toArray, List.set_cons_succ, List.set_cons_zero]
    have hR2 := HR.out
    unfold aheadF at hR2
    by_cases hz : A.zo = B.zo
    · rw [if_neg (by simpa using hz)] at hR2
      have b1 : (A.zo != B.zo) = false := by simpa using hz
      by_cases hn : A.nu = B.nu
      · rw [if_neg (by simpa using hn)] at hR2
        have b2 : (A.nu != B.nu) = false := by simpa using hn
        rw [← bytesLess_eq] at hR2
        have HR2 := Lib.hid hR2
        clear hz hn hR2
        go_wp2_with fail
        go_ret
        exact ⟨by rw [← HR2.out]; rfl, HFZ.out⟩
      · rw [if_pos hn] at hR2
        have b2 : (A.nu != B.nu) = true := by simpa using hn
        by_cases hm : A.zo.tmod 2 = 0
        · have b3 : (A.zo.tmod 2 == 0) = true := by simpa using hm
          by_cases hl : A.nu < B.nu
          · have hr : Hid (R = true) := Lib.hid (by rw [← hR2]; simp [hl, hm])
            clear hz hn hm hR2
            go_wp2_with fail
            go_ret
            exact ⟨by rw [hr.out]; rfl, HFZ.out⟩
          · have hr : Hid (R = false) := Lib.hid (by rw [← hR2]; simp [hl, hm])
            clear hz hn hm hR2
            go_wp2_with fail
            go_ret
            exact ⟨by rw [hr.out]; rfl, HFZ.out⟩
        · have b3 : (A.zo.tmod 2 == 0) = false := by simpa using hm
          by_cases hl : A.nu < B.nu
          · have hr : Hid (R = false) := Lib.hid (by rw [← hR2]; simp [hl, hm])
            clear hz hn hm hR2
            go_wp2_with fail
            go_ret
            exact ⟨by rw [hr.out]; rfl, HFZ.out⟩
          · have hr : Hid (R = true) := Lib.hid (by rw [← hR2]; simp [hl, hm])
            clear hz hn hm hR2
            go_wp2_with fail
            go_ret
            exact ⟨by rw [hr.out]; rfl, HFZ.out⟩
    · rw [if_pos hz] at hR2
      have b1 : (A.zo != B.zo) = true := by simpa using hz
      by_cases hl : A.zo < B.zo
      · have hr : Hid (R = true) := Lib.hid (by rw [← hR2]; simp [hl])
        clear hz hR2
        go_wp2_with fail
        go_ret
        exact ⟨by rw [hr.out]; rfl, HFZ.out⟩
      · have hr : Hid (R = false) := Lib.hid (by rw [← hR2]; simp [hl])
        clear hz hR2
        go_wp2_with fail
        go_ret
        exact ⟨by rw [hr.out]; rfl, HFZ.out⟩
end Go.Proofs.YtlniekobijcanaaGreat
