/- entrepotref10.May (written by wip/tools/md10c.py). -/
import Derived.Test.YtbeikkkmobbnkaaGreatModSpansM2
import Derived.Test.YtbeikkkmobbnkaaGreatModSpansM1
import Derived.Deep.DeepCutAuto
namespace Go.Proofs.YtbeikkkmobbnkaaGreat
open Go.RowKit Go.Maps
theorem wiB_false {n a b : Int} : wiB n a b = false ↔ n < a ∨ b < n := by
  unfold wiB
  rw [Bool.eq_false_iff]
  simp; omega
theorem wiB_true {n a b : Int} : wiB n a b = true ↔ a ≤ n ∧ n ≤ b := by
  unfold wiB
  simp
attribute [local irreducible] wiB
/-- The box of a request, and nine cells. -/
structure BxA (w W : World) (a : AV) : Prop where
  fr : Fr (fun _ => False) w W
  bx : W.heap[w.heap.size]? = some (.cells a.cs 50)
  il : Il W a.l a.its
theorem BxA.keep {w W W' : World} {a : AV} (h : BxA w W a) (hf : Fr (fun _ => False) W W') : BxA w W' a := ⟨h.fr.trans hf, hf.at_ h.bx (fun h => h), h.il.fr hf (fun _ h => h.elim)⟩
theorem fldF_yes {k : Int} (h : 1 ≤ k ∧ k ≤ 11) : fldF k ≠ [] := by
  rcases (by omega : k = 1 ∨ k = 2 ∨ k = 3 ∨ k = 4 ∨ k = 5 ∨ k = 6 ∨ k = 7 ∨ k = 8 ∨ k = 9 ∨ k = 10 ∨ k = 11) with rfl | rfl | rfl | rfl | rfl | rfl | rfl | rfl | rfl | rfl | rfl <;> decide
def BxR (w : World) (a : AV) (b : Bool) (s : Value) (W : World) : Prop := s = .bool b ∧ BxA w W a
set_option maxRecDepth 100000 in
set_option maxHeartbeats 40000000 in
theorem r10MayY (w : World) (a : AV) (hk : AOk w a) (hkd : 1 ≤ a.k ∧ a.k ≤ 11) : Calls Tryz.prog 47 #[.agg a.cs] w fun e w' => e = .returned (.bool a.may) ∧ Fr (fun _ => False) w w' := by
  have hF0 : Fr (fun _ => False) w (w.alloc (.cells a.cs 50)) := (Fr.refl _ w).alloc _
  have hX : BxA w (w.alloc (.cells a.cs 50)) a := ⟨hF0, heap_new _ _, hk.l.fr hF0 (fun _ h => h.elim)⟩
  obtain ⟨A, hA⟩ : ∃ A, A = a := ⟨_, rfl⟩
  rw [← hA] at hX
  obtain ⟨c, n, k, o, r, t, m, g, l, its⟩ := a
  dsimp only at hkd
  have hl := hk.l.sl
  dsimp only at hl
  obtain ⟨la, lc, rfl⟩ := hl
  obtain ⟨N, hN⟩ : ∃ N, its.length = N := ⟨_, rfl⟩
  have hg := hk.g
  dsimp only at hg
  have hNb := hk.l.1
  dsimp only at hNb
  rw [hN] at hNb
  have hFne := fldF_yes hkd
  obtain ⟨F, hF⟩ : ∃ F, fldF k = F := ⟨_, rfl⟩
  rw [hF] at hFne
  obtain ⟨fo, hfo⟩ : ∃ b, F.contains 111 = b := ⟨_, rfl⟩
  have hho : Hid (∀ W, Calls Tryz.prog 67 #[.int .i64 k, .int .u8 111] W fun e w' => e = .returned (.bool fo) ∧ Fr (fun _ => False) W w') := Lib.hid (fun W => by have := r10has W k 111; unfold hasF at this; rw [hF, hfo] at this; exact this)
  obtain ⟨fr, hfr⟩ : ∃ b, F.contains 114 = b := ⟨_, rfl⟩
  have hhr : Hid (∀ W, Calls Tryz.prog 67 #[.int .i64 k, .int .u8 114] W fun e w' => e = .returned (.bool fr) ∧ Fr (fun _ => False) W w') := Lib.hid (fun W => by have := r10has W k 114; unfold hasF at this; rw [hF, hfr] at this; exact this)
  obtain ⟨ft, hft⟩ : ∃ b, F.contains 116 = b := ⟨_, rfl⟩
  have hht : Hid (∀ W, Calls Tryz.prog 67 #[.int .i64 k, .int .u8 116] W fun e w' => e = .returned (.bool ft) ∧ Fr (fun _ => False) W w') := Lib.hid (fun W => by have := r10has W k 116; unfold hasF at this; rw [hF, hft] at this; exact this)
  obtain ⟨fg, hfg⟩ : ∃ b, F.contains 103 = b := ⟨_, rfl⟩
  have hhg : Hid (∀ W, Calls Tryz.prog 67 #[.int .i64 k, .int .u8 103] W fun e w' => e = .returned (.bool fg) ∧ Fr (fun _ => False) W w') := Lib.hid (fun W => by have := r10has W k 103; unfold hasF at this; rw [hF, hfg] at this; exact this)
  obtain ⟨fi, hfi⟩ : ∃ b, F.contains 105 = b := ⟨_, rfl⟩
  have hhi : Hid (∀ W, Calls Tryz.prog 67 #[.int .i64 k, .int .u8 105] W fun e w' => e = .returned (.bool fi) ∧ Fr (fun _ => False) W w') := Lib.hid (fun W => by have := r10has W k 105; unfold hasF at this; rw [hF, hfi] at this; exact this)
  obtain ⟨RO, hRO⟩ : ∃ b, A.ro = b := ⟨_, rfl⟩
  have HRO : Hid (RO = if fo = true then wiB o 1 1099511627776 else decide (o = 0)) := Lib.hid (by rw [← hRO, hA, ← hfo, ← hF]; rfl)
  obtain ⟨RR, hRR⟩ : ∃ b, A.rr = b := ⟨_, rfl⟩
  have HRR : Hid (RR = if fr = true then wiB r 0 7 else decide (r = 0)) := Lib.hid (by rw [← hRR, hA, ← hfr, ← hF]; rfl)
  obtain ⟨RT, hRT⟩ : ∃ b, A.rt = b := ⟨_, rfl⟩
  have HRT : Hid (RT = if ft = true then (wiB t 0 7 && decide (t ≠ r)) else decide (t = 0)) := Lib.hid (by rw [← hRT, hA, ← hft, ← hF]; rfl)
  obtain ⟨RG, hRG⟩ : ∃ b, A.rg = b := ⟨_, rfl⟩
  have HRG : Hid (RG = if fg = true then goodB g else decide (g = [])) := Lib.hid (by rw [← hRG, hA, ← hfg, ← hF]; rfl)
  obtain ⟨RI, hRI⟩ : ∃ b, A.ri = b := ⟨_, rfl⟩
  have HRI : Hid (RI = if fi = true then (decide (0 < (N : Int)) && mayL its) else decide ((N : Int) = 0)) := Lib.hid (by rw [← hRI, hA, ← hfi, ← hF, ← hN]; rfl)
  obtain ⟨M, hM⟩ : ∃ b, mayN k m = b := ⟨_, rfl⟩
  obtain ⟨B, hB⟩ : ∃ B, A.may = B := ⟨_, rfl⟩
  have HM : Hid (B = (wiB c 0 63 && wiB n 1 4294967296 && RO && RR && RT && RG && RI && M)) := Lib.hid (by
    rw [← hB, ← hRO, ← hRR, ← hRT, ← hRG, ← hRI, ← hM]
    unfold AV.may
    rw [hA]
    dsimp only
    rw [hF, decide_eq_true hFne, Bool.true_and])
  have HMN := Lib.hid hM
  have hcs : A.cs = #[.int .i64 c, .int .i64 n, .int .i64 k, .int .i64 o, .int .i64 r, .int .i64 t, .int .i64 m, vS g, .slice la N lc] := by rw [hA, ← hN]; rfl
  rw [← hA, hB, hcs]
  rw [hcs] at hX
  have HIL : Hid (∀ W, BxA w W A → Il W (.slice la N lc) its) := Lib.hid (fun W h => by have := h.il; rw [hA, hN] at this; exact this)
  have hcells : Hid (∀ W, BxA w W A → W.cell? ⟨w.heap.size, 0, none⟩ = some (.int .i64 c) ∧ W.cell? ⟨w.heap.size, 1, none⟩ = some (.int .i64 n) ∧ W.cell? ⟨w.heap.size, 2, none⟩ = some (.int .i64 k) ∧ W.cell? ⟨w.heap.size, 3, none⟩ = some (.int .i64 o) ∧ W.cell? ⟨w.heap.size, 4, none⟩ = some (.int .i64 r) ∧ W.cell? ⟨w.heap.size, 5, none⟩ = some (.int .i64 t) ∧ W.cell? ⟨w.heap.size, 6, none⟩ = some (.int .i64 m) ∧ W.cell? ⟨w.heap.size, 7, none⟩ = some (vS g) ∧ W.cell? ⟨w.heap.size, 8, none⟩ = some (.slice la N lc)) := Lib.hid (fun W h => by
    have hb := h.bx
    rw [hcs] at hb
    exact ⟨cell_obj hb 0 _ rfl, cell_obj hb 1 _ rfl, cell_obj hb 2 _ rfl, cell_obj hb 3 _ rfl, cell_obj hb 4 _ rfl, cell_obj hb 5 _ rfl, cell_obj hb 6 _ rfl, cell_obj hb 7 _ rfl, cell_obj hb 8 _ rfl⟩)
  have HX : Hid (BxA w (w.alloc (.cells #[.int .i64 c, .int .i64 n, .int .i64 k, .int .i64 o, .int .i64 r, .int .i64 t, .int .i64 m, vS g, .slice la N lc] 50)) A) := Lib.hid hX
  have hHas := Lib.hid (fun W => r10Has W k)
  rw [hF] at hHas
  have HGd := Lib.hid (fun W => r6Good W g hg)
  have HMy : Hid (∀ W, BxA w W A → Calls Tryz.prog 69 #[.slice la N lc] W fun e w' => e = .returned (.bool (mayL its)) ∧ ∃ n, w' = W.drewN n) := Lib.hid (fun W h => r6May W _ its (HIL.out W h))
  have HM9 : Hid (∀ W, Calls Tryz.prog 66 #[.int .i64 c, .int .i64 n] W fun e w' => e = .returned (.bool (wiB c 0 63 && wiB n 1 4294967296)) ∧ W = w') := Lib.hid (fun W => r9MayB W c n)
  have HM5 : Hid (∀ W, Calls Tryz.prog 70 #[.int .i64 m] W fun e w' => e = .returned (.bool (mayI m)) ∧ W = w') := Lib.hid (fun W => r5May W m)
  have HITS : Hid (N = 0 → mayL its = true) := Lib.hid (fun h => by rw [List.eq_nil_of_length_eq_zero (hN.trans h)]; rfl)
  have e1 : F.isEmpty = false := by cases F with | nil => exact absurd rfl hFne | cons _ _ => rfl
  have e2 : (F == []) = false := by cases F with | nil => exact absurd rfl hFne | cons _ _ => rfl
  clear hX hF0 hk hA hB hcs hF hFne hM hg hN hkd hRO hRR hRT hRG hRI hfo hfr hft hfg hfi
  obtain ⟨ML, hML⟩ : ∃ b, mayL its = b := ⟨_, rfl⟩
  rw [hML] at HRI HMy HITS
  obtain ⟨GB, hGB⟩ : ∃ b, goodB g = b := ⟨_, rfl⟩
  rw [hGB] at HRG HGd
  have HGB := Lib.hid hGB
  clear hML hGB
  obtain ⟨p0, p1, p2, p3, p4, p5, p6, p7, p8⟩ := hcells.out _ HX.out
  cases h9 : (wiB c 0 63 && wiB n 1 4294967296) with
  | false =>
    rw [h9] at HM9
    have hBf : Hid (B = false) := Lib.hid (by rw [HM.out, h9]; simp)
    clear HM h9
    go_enter Tryz.func47, Tryz.ntmps47
    go_wp2_with (first | (go_at_call 65; refine (hHas.out _).mono ?_; rintro e w1 ⟨rfl, hf⟩; have HX := Lib.hid (HX.out.keep hf); clear hf; clear p0 p1 p2 p3 p4 p5 p6 p7 p8; obtain ⟨p0, p1, p2, p3, p4, p5, p6, p7, p8⟩ := hcells.out _ HX.out) | (go_at_call 66; refine (HM9.out _).mono ?_; rintro e w1 ⟨rfl, rfl⟩))
    go_ret
    exact ⟨by rw [hBf.out]; rfl, HX.out.fr⟩
  | true =>
  rw [h9] at HM9
  rw [h9, Bool.true_and] at HM
  clear h9
  go_enter Tryz.func47, Tryz.ntmps47
  go_upto_region 4 with (first | (go_at_call 65; refine (hHas.out _).mono ?_; rintro e w1 ⟨rfl, hf⟩; have HX := Lib.hid (HX.out.keep hf); clear hf; clear p0 p1 p2 p3 p4 p5 p6 p7 p8; obtain ⟨p0, p1, p2, p3, p4, p5, p6, p7, p8⟩ := hcells.out _ HX.out) | (go_at_call 66; refine (HM9.out _).mono ?_; rintro e w1 ⟨rfl, rfl⟩))
  clear hHas HM9 e1 e2
  go_cut [38] (fun s wx => s = .bool (!RO) ∧ BxA w wx A)
  case first =>
    cases fo with
    | true =>
      by_cases hx : o < 1
      · have hL : Hid (RO = false) := Lib.hid (by rw [HRO.out, if_pos rfl]; exact wiB_false.2 (by omega))
        go_wp2_with (go_at_call 67; ((with_reducible refine (hho.out _).mono ?_); rintro e w1 ⟨rfl, hf⟩; have HX := Lib.hid (HX.out.keep hf); clear hf; clear p0 p1 p2 p3 p4 p5 p6 p7 p8; obtain ⟨p0, p1, p2, p3, p4, p5, p6, p7, p8⟩ := hcells.out _ HX.out))
        go_meet
        exact ⟨by rw [hL.out]; first | rfl | (simp <;> omega), HX.out⟩
      by_cases hy : 1099511627776 < o
      · have hL : Hid (RO = false) := Lib.hid (by rw [HRO.out, if_pos rfl]; exact wiB_false.2 (by omega))
        go_wp2_with (go_at_call 67; ((with_reducible refine (hho.out _).mono ?_); rintro e w1 ⟨rfl, hf⟩; have HX := Lib.hid (HX.out.keep hf); clear hf; clear p0 p1 p2 p3 p4 p5 p6 p7 p8; obtain ⟨p0, p1, p2, p3, p4, p5, p6, p7, p8⟩ := hcells.out _ HX.out))
        go_meet
        exact ⟨by rw [hL.out]; first | rfl | (simp <;> omega), HX.out⟩
      have hL : Hid (RO = true) := Lib.hid (by rw [HRO.out, if_pos rfl]; exact wiB_true.2 (by omega))
      go_wp2_with (go_at_call 67; ((with_reducible refine (hho.out _).mono ?_); rintro e w1 ⟨rfl, hf⟩; have HX := Lib.hid (HX.out.keep hf); clear hf; clear p0 p1 p2 p3 p4 p5 p6 p7 p8; obtain ⟨p0, p1, p2, p3, p4, p5, p6, p7, p8⟩ := hcells.out _ HX.out))
      go_meet
      exact ⟨by rw [hL.out]; first | rfl | (simp <;> omega), HX.out⟩
    | false =>
      by_cases hx : o = 0
      · have hL : Hid (RO = true) := Lib.hid (by rw [HRO.out, if_neg (by decide)]; simp [hx])
        have hx2 : (o != 0) = false := by simpa using hx
        clear hx
        go_wp2_with (go_at_call 67; ((with_reducible refine (hho.out _).mono ?_); rintro e w1 ⟨rfl, hf⟩; have HX := Lib.hid (HX.out.keep hf); clear hf; clear p0 p1 p2 p3 p4 p5 p6 p7 p8; obtain ⟨p0, p1, p2, p3, p4, p5, p6, p7, p8⟩ := hcells.out _ HX.out))
        go_meet
        exact ⟨by rw [hL.out]; first | rfl | (simp <;> omega), HX.out⟩
      have hL : Hid (RO = false) := Lib.hid (by rw [HRO.out, if_neg (by decide)]; simp [hx])
      have hx2 : (o != 0) = true := by simpa using hx
      clear hx
      go_wp2_with (go_at_call 67; ((with_reducible refine (hho.out _).mono ?_); rintro e w1 ⟨rfl, hf⟩; have HX := Lib.hid (HX.out.keep hf); clear hf; clear p0 p1 p2 p3 p4 p5 p6 p7 p8; obtain ⟨p0, p1, p2, p3, p4, p5, p6, p7, p8⟩ := hcells.out _ HX.out))
      go_meet
      exact ⟨by rw [hL.out]; first | rfl | (simp <;> omega), HX.out⟩
  case rest =>
  as_aux_lemma =>
  obtain ⟨rfl, hX⟩ := hcut
  have HX := Lib.hid hX
  clear hX p0 p1 p2 p3 p4 p5 p6 p7 p8
  obtain ⟨p0, p1, p2, p3, p4, p5, p6, p7, p8⟩ := hcells.out _ HX.out
  cases hP : RO with
  | false =>
    have hBf : Hid (B = false) := Lib.hid (by rw [HM.out, hP]; simp)
    clear hP
    go_wp2_with fail
    go_ret
    exact ⟨by rw [hBf.out]; rfl, HX.out.fr⟩
  | true =>
  rw [hP, Bool.true_and] at HM
  clear hP
  go_upto_region 6 with fail
  clear HRO hho
  obtain ⟨RP, hRP⟩ : ∃ b, (RR && RT) = b := ⟨_, rfl⟩
  have HRP := Lib.hid hRP
  have HMP : Hid (B = (RP && RG && RI && M)) := Lib.hid (by rw [HM.out, ← hRP])
  clear hRP HM
  have HM := HMP
  clear HMP
  go_cut [87] (fun s wx => s = .bool (!RP) ∧ BxA w wx A)
  case first =>
    by_cases hxrl0 : r < 0
    · have hL : Hid (RP = false) := Lib.hid (by have : RR = false := (by rw [HRR.out]; cases fr with | false => (rw [if_neg (by decide)]; simp; omega) | true => (rw [if_pos rfl]; exact wiB_false.2 (by omega))); rw [← HRP.out, this]; rfl)
      go_wp2_with (first | (go_at_call 67; ((with_reducible refine (hhr.out _).mono ?_); rintro e w1 ⟨rfl, hf⟩; have HX := Lib.hid (HX.out.keep hf); clear hf; clear p0 p1 p2 p3 p4 p5 p6 p7 p8; obtain ⟨p0, p1, p2, p3, p4, p5, p6, p7, p8⟩ := hcells.out _ HX.out)) | (go_at_call 67; ((with_reducible refine (hht.out _).mono ?_); rintro e w1 ⟨rfl, hf⟩; have HX := Lib.hid (HX.out.keep hf); clear hf; clear p0 p1 p2 p3 p4 p5 p6 p7 p8; obtain ⟨p0, p1, p2, p3, p4, p5, p6, p7, p8⟩ := hcells.out _ HX.out)))
      go_meet
      exact ⟨by rw [hL.out]; first | rfl | (simp <;> omega), HX.out⟩
    by_cases hx7lr : 7 < r
    · have hL : Hid (RP = false) := Lib.hid (by have : RR = false := (by rw [HRR.out]; cases fr with | false => (rw [if_neg (by decide)]; simp; omega) | true => (rw [if_pos rfl]; exact wiB_false.2 (by omega))); rw [← HRP.out, this]; rfl)
      go_wp2_with (first | (go_at_call 67; ((with_reducible refine (hhr.out _).mono ?_); rintro e w1 ⟨rfl, hf⟩; have HX := Lib.hid (HX.out.keep hf); clear hf; clear p0 p1 p2 p3 p4 p5 p6 p7 p8; obtain ⟨p0, p1, p2, p3, p4, p5, p6, p7, p8⟩ := hcells.out _ HX.out)) | (go_at_call 67; ((with_reducible refine (hht.out _).mono ?_); rintro e w1 ⟨rfl, hf⟩; have HX := Lib.hid (HX.out.keep hf); clear hf; clear p0 p1 p2 p3 p4 p5 p6 p7 p8; obtain ⟨p0, p1, p2, p3, p4, p5, p6, p7, p8⟩ := hcells.out _ HX.out)))
      go_meet
      exact ⟨by rw [hL.out]; first | rfl | (simp <;> omega), HX.out⟩
    by_cases hxtl0 : t < 0
    · have hL : Hid (RP = false) := Lib.hid (by have : RT = false := (by rw [HRT.out]; cases ft with | false => (rw [if_neg (by decide)]; simp; omega) | true => (rw [if_pos rfl, wiB_false.2 (by omega)]; rfl)); rw [← HRP.out, this, Bool.and_false])
      go_wp2_with (first | (go_at_call 67; ((with_reducible refine (hhr.out _).mono ?_); rintro e w1 ⟨rfl, hf⟩; have HX := Lib.hid (HX.out.keep hf); clear hf; clear p0 p1 p2 p3 p4 p5 p6 p7 p8; obtain ⟨p0, p1, p2, p3, p4, p5, p6, p7, p8⟩ := hcells.out _ HX.out)) | (go_at_call 67; ((with_reducible refine (hht.out _).mono ?_); rintro e w1 ⟨rfl, hf⟩; have HX := Lib.hid (HX.out.keep hf); clear hf; clear p0 p1 p2 p3 p4 p5 p6 p7 p8; obtain ⟨p0, p1, p2, p3, p4, p5, p6, p7, p8⟩ := hcells.out _ HX.out)))
      go_meet
      exact ⟨by rw [hL.out]; first | rfl | (simp <;> omega), HX.out⟩
    by_cases hx7lt : 7 < t
    · have hL : Hid (RP = false) := Lib.hid (by have : RT = false := (by rw [HRT.out]; cases ft with | false => (rw [if_neg (by decide)]; simp; omega) | true => (rw [if_pos rfl, wiB_false.2 (by omega)]; rfl)); rw [← HRP.out, this, Bool.and_false])
      go_wp2_with (first | (go_at_call 67; ((with_reducible refine (hhr.out _).mono ?_); rintro e w1 ⟨rfl, hf⟩; have HX := Lib.hid (HX.out.keep hf); clear hf; clear p0 p1 p2 p3 p4 p5 p6 p7 p8; obtain ⟨p0, p1, p2, p3, p4, p5, p6, p7, p8⟩ := hcells.out _ HX.out)) | (go_at_call 67; ((with_reducible refine (hht.out _).mono ?_); rintro e w1 ⟨rfl, hf⟩; have HX := Lib.hid (HX.out.keep hf); clear hf; clear p0 p1 p2 p3 p4 p5 p6 p7 p8; obtain ⟨p0, p1, p2, p3, p4, p5, p6, p7, p8⟩ := hcells.out _ HX.out)))
      go_meet
      exact ⟨by rw [hL.out]; first | rfl | (simp <;> omega), HX.out⟩
    have hmid : fr = false ∧ ¬ r = 0 ∨ RR = true := by
      cases fr with
      | true => exact .inr (by rw [HRR.out, if_pos rfl]; exact wiB_true.2 (by omega))
      | false => exact (Classical.em (r = 0)).elim (fun h => .inr (by rw [HRR.out, if_neg (by decide)]; simp [h])) (fun h => .inl ⟨rfl, h⟩)
    by_cases hq : fr = false ∧ ¬ r = 0
    · obtain ⟨rfl, hx⟩ := hq
      clear hmid
      have hL : Hid (RP = false) := Lib.hid (by have : RR = false := (by rw [HRR.out, if_neg (by decide)]; simp [hx]); rw [← HRP.out, this]; rfl)
      have hx2 : (r != 0) = true := by simpa using hx
      clear hx
      go_wp2_with (first | (go_at_call 67; ((with_reducible refine (hhr.out _).mono ?_); rintro e w1 ⟨rfl, hf⟩; have HX := Lib.hid (HX.out.keep hf); clear hf; clear p0 p1 p2 p3 p4 p5 p6 p7 p8; obtain ⟨p0, p1, p2, p3, p4, p5, p6, p7, p8⟩ := hcells.out _ HX.out)) | (go_at_call 67; ((with_reducible refine (hht.out _).mono ?_); rintro e w1 ⟨rfl, hf⟩; have HX := Lib.hid (HX.out.keep hf); clear hf; clear p0 p1 p2 p3 p4 p5 p6 p7 p8; obtain ⟨p0, p1, p2, p3, p4, p5, p6, p7, p8⟩ := hcells.out _ HX.out)))
      go_meet
      exact ⟨by rw [hL.out]; first | rfl | (simp <;> omega), HX.out⟩
    have hgr : Hid (RR = true) := Lib.hid (hmid.resolve_left hq)
    have hq1 : fr = true ∨ (fr = false ∧ (r != 0) = false) := by cases fr with | false => exact .inr ⟨rfl, by simpa using hq⟩ | true => exact .inl rfl
    clear hmid hq
    have hfin : ∀ b, Hid (RT = b) → Hid (RP = b) := fun b h => Lib.hid (by rw [← HRP.out, hgr.out, h.out, Bool.true_and])
    have HFIN := Lib.hid hfin
    clear hfin
    cases ft with
    | false =>
      by_cases hx : t = 0
      · have hT : Hid (RT = true) := Lib.hid (by rw [HRT.out, if_neg (by decide)]; simp [hx])
        have hx2 : (t != 0) = false := by simpa using hx
        clear hx
        have hL := HFIN.out _ hT
        clear hT
        rcases hq1 with rfl | ⟨rfl, hq2⟩
        · go_wp2_with (first | (go_at_call 67; ((with_reducible refine (hhr.out _).mono ?_); rintro e w1 ⟨rfl, hf⟩; have HX := Lib.hid (HX.out.keep hf); clear hf; clear p0 p1 p2 p3 p4 p5 p6 p7 p8; obtain ⟨p0, p1, p2, p3, p4, p5, p6, p7, p8⟩ := hcells.out _ HX.out)) | (go_at_call 67; ((with_reducible refine (hht.out _).mono ?_); rintro e w1 ⟨rfl, hf⟩; have HX := Lib.hid (HX.out.keep hf); clear hf; clear p0 p1 p2 p3 p4 p5 p6 p7 p8; obtain ⟨p0, p1, p2, p3, p4, p5, p6, p7, p8⟩ := hcells.out _ HX.out)))
          go_meet
          exact ⟨by rw [hL.out]; first | rfl | (simp <;> omega), HX.out⟩
        · go_wp2_with (first | (go_at_call 67; ((with_reducible refine (hhr.out _).mono ?_); rintro e w1 ⟨rfl, hf⟩; have HX := Lib.hid (HX.out.keep hf); clear hf; clear p0 p1 p2 p3 p4 p5 p6 p7 p8; obtain ⟨p0, p1, p2, p3, p4, p5, p6, p7, p8⟩ := hcells.out _ HX.out)) | (go_at_call 67; ((with_reducible refine (hht.out _).mono ?_); rintro e w1 ⟨rfl, hf⟩; have HX := Lib.hid (HX.out.keep hf); clear hf; clear p0 p1 p2 p3 p4 p5 p6 p7 p8; obtain ⟨p0, p1, p2, p3, p4, p5, p6, p7, p8⟩ := hcells.out _ HX.out)))
          go_meet
          exact ⟨by rw [hL.out]; first | rfl | (simp <;> omega), HX.out⟩
      · have hT : Hid (RT = false) := Lib.hid (by rw [HRT.out, if_neg (by decide)]; simp [hx])
        have hx2 : (t != 0) = true := by simpa using hx
        clear hx
        have hL := HFIN.out _ hT
        clear hT
        rcases hq1 with rfl | ⟨rfl, hq2⟩
        · go_wp2_with (first | (go_at_call 67; ((with_reducible refine (hhr.out _).mono ?_); rintro e w1 ⟨rfl, hf⟩; have HX := Lib.hid (HX.out.keep hf); clear hf; clear p0 p1 p2 p3 p4 p5 p6 p7 p8; obtain ⟨p0, p1, p2, p3, p4, p5, p6, p7, p8⟩ := hcells.out _ HX.out)) | (go_at_call 67; ((with_reducible refine (hht.out _).mono ?_); rintro e w1 ⟨rfl, hf⟩; have HX := Lib.hid (HX.out.keep hf); clear hf; clear p0 p1 p2 p3 p4 p5 p6 p7 p8; obtain ⟨p0, p1, p2, p3, p4, p5, p6, p7, p8⟩ := hcells.out _ HX.out)))
          go_meet
          exact ⟨by rw [hL.out]; first | rfl | (simp <;> omega), HX.out⟩
        · go_wp2_with (first | (go_at_call 67; ((with_reducible refine (hhr.out _).mono ?_); rintro e w1 ⟨rfl, hf⟩; have HX := Lib.hid (HX.out.keep hf); clear hf; clear p0 p1 p2 p3 p4 p5 p6 p7 p8; obtain ⟨p0, p1, p2, p3, p4, p5, p6, p7, p8⟩ := hcells.out _ HX.out)) | (go_at_call 67; ((with_reducible refine (hht.out _).mono ?_); rintro e w1 ⟨rfl, hf⟩; have HX := Lib.hid (HX.out.keep hf); clear hf; clear p0 p1 p2 p3 p4 p5 p6 p7 p8; obtain ⟨p0, p1, p2, p3, p4, p5, p6, p7, p8⟩ := hcells.out _ HX.out)))
          go_meet
          exact ⟨by rw [hL.out]; first | rfl | (simp <;> omega), HX.out⟩
    | true =>
      by_cases hx : t = r
      · have hT : Hid (RT = false) := Lib.hid (by rw [HRT.out, if_pos rfl]; simp [hx])
        have hx2 : (t == r) = true := by simpa using hx
        clear hx
        have hL := HFIN.out _ hT
        clear hT
        rcases hq1 with rfl | ⟨rfl, hq2⟩
        · go_wp2_with (first | (go_at_call 67; ((with_reducible refine (hhr.out _).mono ?_); rintro e w1 ⟨rfl, hf⟩; have HX := Lib.hid (HX.out.keep hf); clear hf; clear p0 p1 p2 p3 p4 p5 p6 p7 p8; obtain ⟨p0, p1, p2, p3, p4, p5, p6, p7, p8⟩ := hcells.out _ HX.out)) | (go_at_call 67; ((with_reducible refine (hht.out _).mono ?_); rintro e w1 ⟨rfl, hf⟩; have HX := Lib.hid (HX.out.keep hf); clear hf; clear p0 p1 p2 p3 p4 p5 p6 p7 p8; obtain ⟨p0, p1, p2, p3, p4, p5, p6, p7, p8⟩ := hcells.out _ HX.out)))
          go_meet
          exact ⟨by rw [hL.out]; first | rfl | (simp <;> omega), HX.out⟩
        · go_wp2_with (first | (go_at_call 67; ((with_reducible refine (hhr.out _).mono ?_); rintro e w1 ⟨rfl, hf⟩; have HX := Lib.hid (HX.out.keep hf); clear hf; clear p0 p1 p2 p3 p4 p5 p6 p7 p8; obtain ⟨p0, p1, p2, p3, p4, p5, p6, p7, p8⟩ := hcells.out _ HX.out)) | (go_at_call 67; ((with_reducible refine (hht.out _).mono ?_); rintro e w1 ⟨rfl, hf⟩; have HX := Lib.hid (HX.out.keep hf); clear hf; clear p0 p1 p2 p3 p4 p5 p6 p7 p8; obtain ⟨p0, p1, p2, p3, p4, p5, p6, p7, p8⟩ := hcells.out _ HX.out)))
          go_meet
          exact ⟨by rw [hL.out]; first | rfl | (simp <;> omega), HX.out⟩
      · have hT : Hid (RT = true) := Lib.hid (by rw [HRT.out, if_pos rfl, wiB_true.2 (by omega)]; simp [hx])
        have hx2 : (t == r) = false := by simpa using hx
        clear hx
        have hL := HFIN.out _ hT
        clear hT
        rcases hq1 with rfl | ⟨rfl, hq2⟩
        · go_wp2_with (first | (go_at_call 67; ((with_reducible refine (hhr.out _).mono ?_); rintro e w1 ⟨rfl, hf⟩; have HX := Lib.hid (HX.out.keep hf); clear hf; clear p0 p1 p2 p3 p4 p5 p6 p7 p8; obtain ⟨p0, p1, p2, p3, p4, p5, p6, p7, p8⟩ := hcells.out _ HX.out)) | (go_at_call 67; ((with_reducible refine (hht.out _).mono ?_); rintro e w1 ⟨rfl, hf⟩; have HX := Lib.hid (HX.out.keep hf); clear hf; clear p0 p1 p2 p3 p4 p5 p6 p7 p8; obtain ⟨p0, p1, p2, p3, p4, p5, p6, p7, p8⟩ := hcells.out _ HX.out)))
          go_meet
          exact ⟨by rw [hL.out]; first | rfl | (simp <;> omega), HX.out⟩
        · go_wp2_with (first | (go_at_call 67; ((with_reducible refine (hhr.out _).mono ?_); rintro e w1 ⟨rfl, hf⟩; have HX := Lib.hid (HX.out.keep hf); clear hf; clear p0 p1 p2 p3 p4 p5 p6 p7 p8; obtain ⟨p0, p1, p2, p3, p4, p5, p6, p7, p8⟩ := hcells.out _ HX.out)) | (go_at_call 67; ((with_reducible refine (hht.out _).mono ?_); rintro e w1 ⟨rfl, hf⟩; have HX := Lib.hid (HX.out.keep hf); clear hf; clear p0 p1 p2 p3 p4 p5 p6 p7 p8; obtain ⟨p0, p1, p2, p3, p4, p5, p6, p7, p8⟩ := hcells.out _ HX.out)))
          go_meet
          exact ⟨by rw [hL.out]; first | rfl | (simp <;> omega), HX.out⟩
  case rest =>
  as_aux_lemma =>
  obtain ⟨rfl, hX⟩ := hcut
  have HX := Lib.hid hX
  clear hX p0 p1 p2 p3 p4 p5 p6 p7 p8
  obtain ⟨p0, p1, p2, p3, p4, p5, p6, p7, p8⟩ := hcells.out _ HX.out
  cases hP : RP with
  | false =>
    have hBf : Hid (B = false) := Lib.hid (by rw [HM.out, hP]; simp)
    clear hP
    go_wp2_with fail
    go_ret
    exact ⟨by rw [hBf.out]; rfl, HX.out.fr⟩
  | true =>
  rw [hP, Bool.true_and] at HM
  clear hP
  go_upto_region 8 with fail
  clear HRP HRR HRT hhr hht
  go_cut [103] (fun s wx => s = .bool (!RG) ∧ BxA w wx A)
  case first =>
    have hbx := HX.out.bx
    have pg := FrW.cell p7
    clear hbx
    cases fg with
    | true =>
      cases GB with
      | true =>
        have hL : Hid (RG = true) := Lib.hid (by rw [HRG.out, if_pos rfl])
        refine wp_region_fr (by kernel_rfl) (by kernel_rfl) ?_
        repeat (go_big_quiet_step (first | (go_at_call 68; rename_i X; refine (HGd.out _).mono ?_; rintro e w2 ⟨rfl, rfl⟩; exact ⟨rfl, X, rfl⟩) | (go_at_call 67; rename_i X; refine (hhg.out _).mono ?_; rintro e w2 ⟨rfl, hF⟩; exact ⟨rfl, ⟨w2, X.fr.trans hF⟩, rfl⟩)))
        refine wpQuiet_nil ?_
        rintro _ ⟨⟨V, hV⟩, rfl⟩
        go_wp2_with fail
        go_meet
        exact ⟨by rw [hL.out]; first | rfl | (simp <;> omega), HX.out.keep hV⟩
      | false =>
        have hL : Hid (RG = false) := Lib.hid (by rw [HRG.out, if_pos rfl])
        refine wp_region_fr (by kernel_rfl) (by kernel_rfl) ?_
        repeat (go_big_quiet_step (first | (go_at_call 68; rename_i X; refine (HGd.out _).mono ?_; rintro e w2 ⟨rfl, rfl⟩; exact ⟨rfl, X, rfl⟩) | (go_at_call 67; rename_i X; refine (hhg.out _).mono ?_; rintro e w2 ⟨rfl, hF⟩; exact ⟨rfl, ⟨w2, X.fr.trans hF⟩, rfl⟩)))
        refine wpQuiet_nil ?_
        rintro _ ⟨⟨V, hV⟩, rfl⟩
        go_wp2_with fail
        go_meet
        exact ⟨by rw [hL.out]; first | rfl | (simp <;> omega), HX.out.keep hV⟩
    | false =>
      cases GB with
      | true =>
        have hL : Hid (RG = false) := Lib.hid (by rw [HRG.out, if_neg (by decide)]; simp; intro e; have := HGB.out; rw [e] at this; exact absurd this (by decide))
        refine wp_region_fr (by kernel_rfl) (by kernel_rfl) ?_
        repeat (go_big_quiet_step (first | (go_at_call 68; rename_i X; refine (HGd.out _).mono ?_; rintro e w2 ⟨rfl, rfl⟩; exact ⟨rfl, X, rfl⟩) | (go_at_call 67; rename_i X; refine (hhg.out _).mono ?_; rintro e w2 ⟨rfl, hF⟩; exact ⟨rfl, ⟨w2, X.fr.trans hF⟩, rfl⟩)))
        refine wpQuiet_nil ?_
        rintro _ ⟨⟨V, hV⟩, rfl⟩
        go_wp2_with fail
        go_meet
        exact ⟨by rw [hL.out]; first | rfl | (simp <;> omega), HX.out.keep hV⟩
      | false =>
        by_cases hx : g = []
        · have hL : Hid (RG = true) := Lib.hid (by rw [HRG.out, if_neg (by decide)]; simp [hx])
          have hx2 : (g != []) = false := by simpa using hx
          have hx3 : g.isEmpty = true := by simpa using hx
          clear hx
          refine wp_region_fr (by kernel_rfl) (by kernel_rfl) ?_
          repeat (go_big_quiet_step (first | (go_at_call 68; rename_i X; refine (HGd.out _).mono ?_; rintro e w2 ⟨rfl, rfl⟩; exact ⟨rfl, X, rfl⟩) | (go_at_call 67; rename_i X; refine (hhg.out _).mono ?_; rintro e w2 ⟨rfl, hF⟩; exact ⟨rfl, ⟨w2, X.fr.trans hF⟩, rfl⟩)))
          refine wpQuiet_nil ?_
          rintro _ ⟨⟨V, hV⟩, rfl⟩
          go_wp2_with fail
          go_meet
          exact ⟨by rw [hL.out]; first | rfl | (simp <;> omega), HX.out.keep hV⟩
        · have hL : Hid (RG = false) := Lib.hid (by rw [HRG.out, if_neg (by decide)]; simp [hx])
          have hx2 : (g != []) = true := by simpa using hx
          have hx3 : g.isEmpty = false := by simpa using hx
          clear hx
          refine wp_region_fr (by kernel_rfl) (by kernel_rfl) ?_
          repeat (go_big_quiet_step (first | (go_at_call 68; rename_i X; refine (HGd.out _).mono ?_; rintro e w2 ⟨rfl, rfl⟩; exact ⟨rfl, X, rfl⟩) | (go_at_call 67; rename_i X; refine (hhg.out _).mono ?_; rintro e w2 ⟨rfl, hF⟩; exact ⟨rfl, ⟨w2, X.fr.trans hF⟩, rfl⟩)))
          refine wpQuiet_nil ?_
          rintro _ ⟨⟨V, hV⟩, rfl⟩
          go_wp2_with fail
          go_meet
          exact ⟨by rw [hL.out]; first | rfl | (simp <;> omega), HX.out.keep hV⟩
  case rest =>
  as_aux_lemma =>
  obtain ⟨rfl, hX⟩ := hcut
  have HX := Lib.hid hX
  clear hX p0 p1 p2 p3 p4 p5 p6 p7 p8
  obtain ⟨p0, p1, p2, p3, p4, p5, p6, p7, p8⟩ := hcells.out _ HX.out
  cases hP : RG with
  | false =>
    have hBf : Hid (B = false) := Lib.hid (by rw [HM.out, hP]; simp)
    clear hP
    go_wp2_with fail
    go_ret
    exact ⟨by rw [hBf.out]; rfl, HX.out.fr⟩
  | true =>
  rw [hP, Bool.true_and] at HM
  clear hP
  go_upto_region 10 with fail
  clear HRG hhg HGd HGB
  go_cut [128] (fun s wx => s = .bool (!RI) ∧ BxA w wx A)
  case first =>
    cases fi with
    | true =>
      by_cases hx : N = 0
      · have hL : Hid (RI = false) := Lib.hid (by rw [HRI.out, if_pos rfl]; simp [hx])
        have hx2 : ((N : Int) == 0) = true := by simpa using hx
        clear hx
        go_wp2_with (first | (go_at_call 67; ((with_reducible refine (hhi.out _).mono ?_); rintro e w1 ⟨rfl, hf⟩; have HX := Lib.hid (HX.out.keep hf); clear hf; clear p0 p1 p2 p3 p4 p5 p6 p7 p8; obtain ⟨p0, p1, p2, p3, p4, p5, p6, p7, p8⟩ := hcells.out _ HX.out)) | (go_at_call 69; refine (HMy.out _ HX.out).mono ?_; rintro e w1 ⟨rfl, nn, rfl⟩; have HX := Lib.hid (HX.out.keep ((Fr.refl _ _).drewN nn)); clear p0 p1 p2 p3 p4 p5 p6 p7 p8; obtain ⟨p0, p1, p2, p3, p4, p5, p6, p7, p8⟩ := hcells.out _ HX.out))
        go_meet
        exact ⟨by rw [hL.out]; first | rfl | (simp <;> omega), HX.out⟩
      have hx2 : ((N : Int) == 0) = false := by simpa using hx
      have hpos : Hid (RI = ML) := Lib.hid (by rw [HRI.out, if_pos rfl, decide_eq_true (by omega), Bool.true_and])
      clear hx
      cases ML with
      | true =>
        have hL : Hid (RI = true) := Lib.hid (by exact hpos.out)
        go_wp2_with (first | (go_at_call 67; ((with_reducible refine (hhi.out _).mono ?_); rintro e w1 ⟨rfl, hf⟩; have HX := Lib.hid (HX.out.keep hf); clear hf; clear p0 p1 p2 p3 p4 p5 p6 p7 p8; obtain ⟨p0, p1, p2, p3, p4, p5, p6, p7, p8⟩ := hcells.out _ HX.out)) | (go_at_call 69; refine (HMy.out _ HX.out).mono ?_; rintro e w1 ⟨rfl, nn, rfl⟩; have HX := Lib.hid (HX.out.keep ((Fr.refl _ _).drewN nn)); clear p0 p1 p2 p3 p4 p5 p6 p7 p8; obtain ⟨p0, p1, p2, p3, p4, p5, p6, p7, p8⟩ := hcells.out _ HX.out))
        go_meet
        exact ⟨by rw [hL.out]; first | rfl | (simp <;> omega), HX.out⟩
      | false =>
        have hL : Hid (RI = false) := Lib.hid (by exact hpos.out)
        go_wp2_with (first | (go_at_call 67; ((with_reducible refine (hhi.out _).mono ?_); rintro e w1 ⟨rfl, hf⟩; have HX := Lib.hid (HX.out.keep hf); clear hf; clear p0 p1 p2 p3 p4 p5 p6 p7 p8; obtain ⟨p0, p1, p2, p3, p4, p5, p6, p7, p8⟩ := hcells.out _ HX.out)) | (go_at_call 69; refine (HMy.out _ HX.out).mono ?_; rintro e w1 ⟨rfl, nn, rfl⟩; have HX := Lib.hid (HX.out.keep ((Fr.refl _ _).drewN nn)); clear p0 p1 p2 p3 p4 p5 p6 p7 p8; obtain ⟨p0, p1, p2, p3, p4, p5, p6, p7, p8⟩ := hcells.out _ HX.out))
        go_meet
        exact ⟨by rw [hL.out]; first | rfl | (simp <;> omega), HX.out⟩
    | false =>
      by_cases hx : N = 0
      · obtain rfl : ML = true := HITS.out hx
        have hL : Hid (RI = true) := Lib.hid (by rw [HRI.out, if_neg (by decide)]; simp [hx])
        have hx3 : decide ((0 : Int) < (N : Int)) = false := by simp [hx]
        have hx4 : (0 < N) = False := by simp [hx]
        have hx5 : decide (0 < N) = false := by simp [hx]
        clear hx
        go_wp2_with (first | (go_at_call 67; ((with_reducible refine (hhi.out _).mono ?_); rintro e w1 ⟨rfl, hf⟩; have HX := Lib.hid (HX.out.keep hf); clear hf; clear p0 p1 p2 p3 p4 p5 p6 p7 p8; obtain ⟨p0, p1, p2, p3, p4, p5, p6, p7, p8⟩ := hcells.out _ HX.out)) | (go_at_call 69; refine (HMy.out _ HX.out).mono ?_; rintro e w1 ⟨rfl, nn, rfl⟩; have HX := Lib.hid (HX.out.keep ((Fr.refl _ _).drewN nn)); clear p0 p1 p2 p3 p4 p5 p6 p7 p8; obtain ⟨p0, p1, p2, p3, p4, p5, p6, p7, p8⟩ := hcells.out _ HX.out))
        go_meet
        exact ⟨by rw [hL.out]; first | rfl | (simp <;> omega), HX.out⟩
      · have hL : Hid (RI = false) := Lib.hid (by rw [HRI.out, if_neg (by decide)]; simp [hx])
        have hx2 : ((N : Int) == 0) = false := by simpa using hx
        have hx3 : (0 : Int) < (N : Int) := by omega
        clear hx
        go_wp2_with (first | (go_at_call 67; ((with_reducible refine (hhi.out _).mono ?_); rintro e w1 ⟨rfl, hf⟩; have HX := Lib.hid (HX.out.keep hf); clear hf; clear p0 p1 p2 p3 p4 p5 p6 p7 p8; obtain ⟨p0, p1, p2, p3, p4, p5, p6, p7, p8⟩ := hcells.out _ HX.out)) | (go_at_call 69; refine (HMy.out _ HX.out).mono ?_; rintro e w1 ⟨rfl, nn, rfl⟩; have HX := Lib.hid (HX.out.keep ((Fr.refl _ _).drewN nn)); clear p0 p1 p2 p3 p4 p5 p6 p7 p8; obtain ⟨p0, p1, p2, p3, p4, p5, p6, p7, p8⟩ := hcells.out _ HX.out))
        go_meet
        exact ⟨by rw [hL.out]; first | rfl | (simp <;> omega), HX.out⟩
  case rest =>
  as_aux_lemma =>
  obtain ⟨rfl, hX⟩ := hcut
  have HX := Lib.hid hX
  clear hX p0 p1 p2 p3 p4 p5 p6 p7 p8
  obtain ⟨p0, p1, p2, p3, p4, p5, p6, p7, p8⟩ := hcells.out _ HX.out
  cases hP : RI with
  | false =>
    have hBf : Hid (B = false) := Lib.hid (by rw [HM.out, hP]; simp)
    clear hP
    go_wp2_with fail
    go_ret
    exact ⟨by rw [hBf.out]; rfl, HX.out.fr⟩
  | true =>
  rw [hP, Bool.true_and] at HM
  clear hP
  by_cases h1 : k = 1
  · have q1 : (k == 1) = true := by simpa using h1
    have HF : Hid (B = wiB m 0 1) := Lib.hid (by rw [HM.out, ← HMN.out]; unfold mayN; rw [if_pos h1])
    clear h1
    by_cases hm0 : m = 0
    · have q2 : (m == 0) = true := by simpa using hm0
      have hL : Hid (B = true) := Lib.hid (by rw [HF.out]; exact wiB_true.2 (by omega))
      clear hm0
      go_wp2_with fail
      go_ret
      exact ⟨by rw [hL.out]; rfl, HX.out.fr⟩
    · have q2 : (m == 0) = false := by simpa using hm0
      by_cases hm1 : m = 1
      · have q3 : (m == 1) = true := by simpa using hm1
        have hL : Hid (B = true) := Lib.hid (by rw [HF.out]; exact wiB_true.2 (by omega))
        clear hm0 hm1
        go_wp2_with fail
        go_ret
        exact ⟨by rw [hL.out]; rfl, HX.out.fr⟩
      · have q3 : (m == 1) = false := by simpa using hm1
        have hL : Hid (B = false) := Lib.hid (by rw [HF.out]; exact wiB_false.2 (by omega))
        clear hm0 hm1
        go_wp2_with fail
        go_ret
        exact ⟨by rw [hL.out]; rfl, HX.out.fr⟩
  have q1 : (k == 1) = false := by simpa using h1
  by_cases h7 : k = 7
  · have q7 : (k == 7) = true := by simpa using h7
    have HF : Hid (B = mayI m) := Lib.hid (by rw [HM.out, ← HMN.out]; unfold mayN; rw [if_neg h1, if_pos h7])
    clear h1 h7
    go_wp2_with (go_at_call 70; refine (HM5.out _).mono ?_; rintro e w1 ⟨rfl, rfl⟩)
    go_ret
    exact ⟨by rw [HF.out]; rfl, HX.out.fr⟩
  have q7 : (k == 7) = false := by simpa using h7
  by_cases h11 : k = 11
  · have q11 : (k == 11) = true := by simpa using h11
    have HF : Hid (B = wiB m 1 4294967297) := Lib.hid (by rw [HM.out, ← HMN.out]; unfold mayN; rw [if_neg h1, if_neg h7, if_pos h11])
    clear h1 h7 h11
    by_cases hm0 : m < 1
    · have hL : Hid (B = false) := Lib.hid (by rw [HF.out]; exact wiB_false.2 (by omega))
      go_wp2_with fail
      go_ret
      exact ⟨by rw [hL.out]; rfl, HX.out.fr⟩
    · by_cases hm1 : 4294967297 < m
      · have hL : Hid (B = false) := Lib.hid (by rw [HF.out]; exact wiB_false.2 (by omega))
        have hm2 : decide (m ≤ 4294967297) = false := by simp; omega
        have hm3 : 1 ≤ m := by omega
        clear hm0
        go_wp2_with fail
        go_ret
        exact ⟨by rw [hL.out]; rfl, HX.out.fr⟩
      · have hL : Hid (B = true) := Lib.hid (by rw [HF.out]; exact wiB_true.2 (by omega))
        have hm2 : m ≤ 4294967297 := by omega
        have hm3 : 1 ≤ m := by omega
        clear hm0 hm1
        go_wp2_with fail
        go_ret
        exact ⟨by rw [hL.out]; rfl, HX.out.fr⟩
  have q11 : (k == 11) = false := by simpa using h11
  have HF : Hid (B = (m == 0)) := Lib.hid (by rw [HM.out, ← HMN.out]; unfold mayN; rw [if_neg h1, if_neg h7, if_neg h11]; rw [Bool.eq_iff_iff]; simp)
  clear h1 h7 h11
  go_wp2_with fail
  go_ret
  exact ⟨by rw [HF.out]; rfl, HX.out.fr⟩
set_option maxRecDepth 100000 in
theorem r10May (w : World) (a : AV) (hk : AOk w a) : Calls Tryz.prog 47 #[.agg a.cs] w fun e w' => e = .returned (.bool a.may) ∧ Fr (fun _ => False) w w' := by
  by_cases hkd : 1 ≤ a.k ∧ a.k ≤ 11
  · exact r10MayY w a hk hkd
  · have hF : fldF a.k = [] := fldF_no (by omega)
    have hm : a.may = false := by unfold AV.may; rw [hF]; simp
    rw [hm]
    have hF0 : Hid (Fr (fun _ => False) w (w.alloc (.cells a.cs 50))) := Lib.hid ((Fr.refl _ w).alloc _)
    have hb := heap_new w (.cells a.cs 50)
    obtain ⟨c, n, k, o, r, t, m, g, l, its⟩ := a
    obtain ⟨la, lc, hl⟩ := hk.l.sl
    dsimp only at hl hF
    subst hl
    have p2 := cell_obj hb 2 (.int .i64 k) rfl
    have hH := Lib.hid (fun W => r10Has W k)
    rw [hF] at hH
    unfold AV.cs at hF0 ⊢
    dsimp only at hF0 ⊢
    obtain ⟨N, hN⟩ : ∃ N, its.length = N := ⟨_, rfl⟩
    rw [hN] at hF0 ⊢
    clear hk hkd hF hm hb hN p2
    go_enter Tryz.func47, Tryz.ntmps47
    go_wp2_with (go_at_call 65; refine (hH.out _).mono ?_; rintro e w1 ⟨rfl, hf⟩; have HF := Lib.hid hf; clear hf)
    go_ret
    exact ⟨rfl, hF0.out.trans HF.out⟩
end Go.Proofs.YtbeikkkmobbnkaaGreat
