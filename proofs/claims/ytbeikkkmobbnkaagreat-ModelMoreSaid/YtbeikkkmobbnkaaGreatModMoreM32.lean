/- model.plain (slices.IndexFunc by wip/tools/idxf.py). -/
import Derived.Test.YtbeikkkmobbnkaaGreatModMoreM25
import Derived.Test.YtbeikkkmobbnkaaGreatModMoreM26
namespace Go.Proofs.YtbeikkkmobbnkaaGreat
open Go.RowKit Go.Maps
set_option maxRecDepth 100000 in
set_option maxHeartbeats 8000000 in
theorem kPlain1 (w : World) (p p9 : AV) (b0 : Nat) (v : Value) (G : List AV) (hb : w.cell? ⟨b0, 0, none⟩ = some v) (hG : Al w v G) (hok : AOk w p) (hmy : p.may = true) (hp9 : G[0]? = some p9) (hmy9 : p9.may = true) :
    Calls Tryz.prog 45 #[.agg p.cs, .pointer (some ⟨b0, 0, none⟩)] w fun e w' => e = .returned (.bool (decide (bodyF p ≠ bodyF p9))) ∧ Fr (fun _ => False) w w' := by
  obtain ⟨n0, hn0⟩ : ∃ n0, w.heap.size = n0 := ⟨_, rfl⟩
  have HOK := Lib.hid hok
  obtain ⟨a, cp, rfl⟩ := hG.sl
  obtain ⟨N, hN⟩ : ∃ N, G.length = N := ⟨_, rfl⟩
  have hl0n : 0 < N := by have := (List.getElem?_eq_some_iff.1 hp9).1; omega
  have hl0 : (0 : Int) < N := by omega
  have hNI := hG.len
  rw [hN] at hG hb hNI
  obtain ⟨la, lc, hl⟩ := hok.l.sl
  obtain ⟨P, hP⟩ : ∃ P : AV, P = p := ⟨_, rfl⟩
  rw [← hP] at HOK hmy
  obtain ⟨c, n, kd, o, r, t, m, g, l, its⟩ := p
  dsimp only at hl
  subst hl
  obtain ⟨M, hM⟩ : ∃ M, its.length = M := ⟨_, rfl⟩
  have hcs : P.cs = #[.int .i64 c, .int .i64 n, .int .i64 kd, .int .i64 o, .int .i64 r, .int .i64 t, .int .i64 m, vS g, .slice la M lc] := by rw [hP, ← hM]; rfl
  have HCS := Lib.hid hcs
  rw [← hP, hcs]
  obtain ⟨R, hR⟩ : ∃ R, decide (bodyF P ≠ bodyF p9) = R := ⟨_, rfl⟩
  rw [hR]
  have HR := Lib.hid hR
  clear hR hcs hP hM hok hN
  obtain ⟨ad, rfl, hok9, z0, zs⟩ := (hG).at_ hp9
  have HOK9 := Lib.hid hok9
  have hone9 := avOne hok9
  obtain ⟨la9, lc9, hl9⟩ := hok9.l.sl
  obtain ⟨P9, hP9⟩ : ∃ P : AV, P = p9 := ⟨_, rfl⟩
  rw [← hP9] at hp9 HOK9 hone9 hmy9 HR
  obtain ⟨c9, n9, kd9, o9, r9, t9, m9, g9, l9, its9⟩ := p9
  dsimp only at hl9
  subst hl9
  have x09 := z0 (.int .i64 c9) rfl
  have x19 := zs 0 (.int .i64 n9) rfl
  have x29 := zs 1 (.int .i64 kd9) rfl
  have x39 := zs 2 (.int .i64 o9) rfl
  have x49 := zs 3 (.int .i64 r9) rfl
  have x59 := zs 4 (.int .i64 t9) rfl
  have x69 := zs 5 (.int .i64 m9) rfl
  have x79 := zs 6 (vS g9) rfl
  have x89 := zs 7 (.slice la9 its9.length lc9) rfl
  dsimp only [Nat.zero_add, Nat.reduceAdd] at x09 x19 x29 x39 x49 x59 x69 x79 x89
  have hcs9 : P9.cs = #[.int .i64 c9, .int .i64 n9, .int .i64 kd9, .int .i64 o9, .int .i64 r9, .int .i64 t9, .int .i64 m9, vS g9, .slice la9 its9.length lc9] := by rw [hP9]; rfl
  have hPc9 : P9.c = c9 := by rw [hP9]
  have hPn9 : P9.n = n9 := by rw [hP9]
  have hPk9 : P9.k = kd9 := by rw [hP9]
  have hPo9 : P9.o = o9 := by rw [hP9]
  have hPi9 : P9.its = its9 := by rw [hP9]
  have hPg9 : P9.g = g9 := by rw [hP9]
  have hPl9 : P9.l = .slice la9 its9.length lc9 := by rw [hP9]
  obtain ⟨M9, hM9⟩ : ∃ M, its9.length = M := ⟨_, rfl⟩
  rw [hM9] at x89 hcs9 hPl9
  rw [hcs9] at hone9
  have HP9 := Lib.hid hp9
  have HCS9 := Lib.hid hcs9
  have HONE9 := Lib.hid hone9
  have HPC9 := Lib.hid hPc9
  have HPN9 := Lib.hid hPn9
  have HPK9 := Lib.hid hPk9
  have HPO9 := Lib.hid hPo9
  have HPI9 := Lib.hid hPi9
  have HPG9 := Lib.hid hPg9
  have HPL9 := Lib.hid hPl9
  have HM9 := Lib.hid hM9
  clear hp9 hok9 hone9 z0 zs hP9 hcs9 hPc9 hPn9 hPk9 hPo9 hPi9 hPg9 hPl9 hM9
  have h00 : ad.add (0 * 9) = ad := by obtain ⟨b, f, s⟩ := ad; cases s <;> simp [Addr.add]
  rw [h00] at x09 x19 x29 x39 x49 x59 x69 x79 x89
  clear h00
  obtain ⟨W0, hW0⟩ : ∃ W0, w.alloc (.cells #[.int .i64 c, .int .i64 n, .int .i64 kd, .int .i64 o, .int .i64 r, .int .i64 t, .int .i64 m, vS g, .slice la M lc] 50) = W0 := ⟨_, rfl⟩
  have hF0 : Fr (fun _ => False) w W0 := by rw [← hW0]; exact (Fr.refl _ _).alloc _
  have hbx : W0.heap[n0]? = some (.cells #[.int .i64 c, .int .i64 n, .int .i64 kd, .int .i64 o, .int .i64 r, .int .i64 t, .int .i64 m, vS g, .slice la M lc] 50) := by rw [← hW0]; exact heap_at hn0.symm _
  have hbb := hF0.cell hb (fun h => h)
  have hfacts : Hid (∀ W : World, Fr (fun _ => False) W0 W → (W.cell? ⟨n0, 0, none⟩ = some (.int .i64 c) ∧ W.cell? ⟨n0, 1, none⟩ = some (.int .i64 n) ∧ W.cell? ⟨n0, 2, none⟩ = some (.int .i64 kd) ∧ W.cell? ⟨n0, 3, none⟩ = some (.int .i64 o) ∧ W.cell? ⟨n0, 4, none⟩ = some (.int .i64 r) ∧ W.cell? ⟨n0, 5, none⟩ = some (.int .i64 t) ∧ W.cell? ⟨n0, 6, none⟩ = some (.int .i64 m) ∧ W.cell? ⟨n0, 7, none⟩ = some (vS g) ∧ W.cell? ⟨n0, 8, none⟩ = some (.slice la M lc)) ∧ W.cell? ⟨b0, 0, none⟩ = some (.slice (some ad) N cp) ∧ W.cell? ad = some (.int .i64 c9) ∧ W.cell? ⟨ad.block, ad.off + 1, none⟩ = some (.int .i64 n9) ∧ W.cell? ⟨ad.block, ad.off + 2, none⟩ = some (.int .i64 kd9) ∧ W.cell? ⟨ad.block, ad.off + 3, none⟩ = some (.int .i64 o9) ∧ W.cell? ⟨ad.block, ad.off + 4, none⟩ = some (.int .i64 r9) ∧ W.cell? ⟨ad.block, ad.off + 5, none⟩ = some (.int .i64 t9) ∧ W.cell? ⟨ad.block, ad.off + 6, none⟩ = some (.int .i64 m9) ∧ W.cell? ⟨ad.block, ad.off + 7, none⟩ = some (vS g9) ∧ W.cell? ⟨ad.block, ad.off + 8, none⟩ = some (.slice la9 M9 lc9)) := Lib.hid (fun W hf0 => by
    have hbW := hf0.at_ hbx (fun h => h)
    have hf := hF0.trans hf0
    exact ⟨⟨cell_obj hbW 0 _ rfl, cell_obj hbW 1 _ rfl, cell_obj hbW 2 _ rfl, cell_obj hbW 3 _ rfl, cell_obj hbW 4 _ rfl, cell_obj hbW 5 _ rfl, cell_obj hbW 6 _ rfl, cell_obj hbW 7 _ rfl, cell_obj hbW 8 _ rfl⟩, hf.cell hb (fun h => h), hf.cell x09 (fun h => h), hf.cell x19 (fun h => h), hf.cell x29 (fun h => h), hf.cell x39 (fun h => h), hf.cell x49 (fun h => h), hf.cell x59 (fun h => h), hf.cell x69 (fun h => h), hf.cell x79 (fun h => h), hf.cell x89 (fun h => h)⟩)
  have HF0 := Lib.hid hF0
  have hC : Hid (∀ W : World, Fr (fun _ => False) W0 W → Calls Tryz.prog 46 #[.agg #[.int .i64 c, .int .i64 n, .int .i64 kd, .int .i64 o, .int .i64 r, .int .i64 t, .int .i64 m, vS g, .slice la M lc]] W fun e w' => ∃ v, e = .returned v ∧ (∀ W', Fr (fun _ => False) w' W' → (convert 72 9 v).run Tryz.prog W' = .ok (.string (bodyS P)) W') ∧ Fr (fun _ => False) W w') := Lib.hid (fun W hf => by
    have := kBodyS W P (aokKeeps HOK.out (HF0.out.trans hf) (fun _ h => h.elim)) hmy
    rw [HCS.out] at this; exact this)
  have hC9 : Hid (∀ W : World, Fr (fun _ => False) W0 W → Calls Tryz.prog 46 #[.agg #[.int .i64 c9, .int .i64 n9, .int .i64 kd9, .int .i64 o9, .int .i64 r9, .int .i64 t9, .int .i64 m9, vS g9, .slice la9 M9 lc9]] W fun e w' => ∃ v, e = .returned v ∧ (∀ W', Fr (fun _ => False) w' W' → (convert 72 9 v).run Tryz.prog W' = .ok (.string (bodyS P9)) W') ∧ Fr (fun _ => False) W w') := Lib.hid (fun W hf => by
    have := kBodyS W P9 (aokKeeps HOK9.out (HF0.out.trans hf) (fun _ h => h.elim)) hmy9
    rw [HCS9.out] at this; exact this)
  have hbd := Lib.hid (bdOk_of HOK.out hmy)
  have hbd9 := Lib.hid (bdOk_of HOK9.out hmy9)
  have hX : Hid (Fr (fun _ => False) W0 W0.drew) := Lib.hid (Fr.refl _ W0).drew
  obtain ⟨⟨y0, y1, y2, y3, y4, y5, y6, y7, y8⟩, ys, u0, u1, u2, u3, u4, u5, u6, u7, u8⟩ := hfacts.out _ hX.out
  clear x09 x19 x29 x39 x49 x59 x69 x79 x89 hF0 hbx hbb hb hG HOK HOK9 hmy hmy9
  by_cases hbb : bodyF P = bodyF P9
  · have hq := bodyS_eq hbb
    have hres : Hid (R = false) := Lib.hid (by rw [← HR.out]; simp [hbb])
    clear hbb hbd hbd9
    go_enter Tryz.func45, Tryz.ntmps45
    go_wp2_with fail
    go_region_with (go_at_call 46; first | ((with_reducible refine (hC.out _ hX.out).mono ?_); rintro e w2 ⟨v2, rfl, hcv, hf2⟩; (try (have kk9 := K9.out _ hf2; clear k9; have k9 := kk9; clear kk9)); have K1 := Lib.hid hcv; have k1 := hcv _ (Fr.refl _ _); clear hcv; have hX := Lib.hid (hX.out.trans hf2); clear hf2; clear y0 y1 y2 y3 y4 y5 y6 y7 y8 ys u0 u1 u2 u3 u4 u5 u6 u7 u8; obtain ⟨⟨y0, y1, y2, y3, y4, y5, y6, y7, y8⟩, ys, u0, u1, u2, u3, u4, u5, u6, u7, u8⟩ := hfacts.out _ hX.out) | ((with_reducible refine (hC9.out _ hX.out).mono ?_); rintro e w2 ⟨v2, rfl, hcv, hf2⟩; (try (have kk1 := K1.out _ hf2; clear k1; have k1 := kk1; clear kk1)); have K9 := Lib.hid hcv; have k9 := hcv _ (Fr.refl _ _); clear hcv; have hX := Lib.hid (hX.out.trans hf2); clear hf2; clear y0 y1 y2 y3 y4 y5 y6 y7 y8 ys u0 u1 u2 u3 u4 u5 u6 u7 u8; obtain ⟨⟨y0, y1, y2, y3, y4, y5, y6, y7, y8⟩, ys, u0, u1, u2, u3, u4, u5, u6, u7, u8⟩ := hfacts.out _ hX.out))
    all_goals
      go_wp2_with fail
      go_ret
      exact ⟨by rw [hres.out]; rfl, HF0.out.trans hX.out⟩
  · have hq := bodyS_ne hbd.out hbd9.out hbb
    have hres : Hid (R = true) := Lib.hid (by rw [← HR.out]; simp [hbb])
    clear hbb hbd hbd9
    go_enter Tryz.func45, Tryz.ntmps45
    go_wp2_with fail
    go_region_with (go_at_call 46; first | ((with_reducible refine (hC.out _ hX.out).mono ?_); rintro e w2 ⟨v2, rfl, hcv, hf2⟩; (try (have kk9 := K9.out _ hf2; clear k9; have k9 := kk9; clear kk9)); have K1 := Lib.hid hcv; have k1 := hcv _ (Fr.refl _ _); clear hcv; have hX := Lib.hid (hX.out.trans hf2); clear hf2; clear y0 y1 y2 y3 y4 y5 y6 y7 y8 ys u0 u1 u2 u3 u4 u5 u6 u7 u8; obtain ⟨⟨y0, y1, y2, y3, y4, y5, y6, y7, y8⟩, ys, u0, u1, u2, u3, u4, u5, u6, u7, u8⟩ := hfacts.out _ hX.out) | ((with_reducible refine (hC9.out _ hX.out).mono ?_); rintro e w2 ⟨v2, rfl, hcv, hf2⟩; (try (have kk1 := K1.out _ hf2; clear k1; have k1 := kk1; clear kk1)); have K9 := Lib.hid hcv; have k9 := hcv _ (Fr.refl _ _); clear hcv; have hX := Lib.hid (hX.out.trans hf2); clear hf2; clear y0 y1 y2 y3 y4 y5 y6 y7 y8 ys u0 u1 u2 u3 u4 u5 u6 u7 u8; obtain ⟨⟨y0, y1, y2, y3, y4, y5, y6, y7, y8⟩, ys, u0, u1, u2, u3, u4, u5, u6, u7, u8⟩ := hfacts.out _ hX.out))
    all_goals
      go_wp2_with fail
      go_ret
      exact ⟨by rw [hres.out]; rfl, HF0.out.trans hX.out⟩
set_option maxRecDepth 100000 in
set_option maxHeartbeats 4000000 in
theorem ixAsk (w : World) (v : Value) (L : List AV) (p : AV → Bool) (b0 : Nat) (h : Sq 9 AV.cs AOk w v L)
    (hf : ∀ (W : World) (i : Nat) (x : AV), L[i]? = some x → Fr (fun _ => False) w W → Calls Tryz.prog 45 #[.agg (AV.cs x), .pointer (some ⟨b0, 0, none⟩)] W fun e W' => e = .returned (.bool (p x)) ∧ Fr (fun _ => False) W W') :
    Calls Tryz.prog 61 #[v, .func (.func 45) #[] #[.pointer (some ⟨b0, 0, none⟩)]] w fun e w' => e = .returned (.int .i64 (idxOf p L)) ∧ Fr (fun _ => False) w w' := by
  obtain ⟨a, c, rfl⟩ := h.sl
  obtain ⟨N, hN⟩ : ∃ N, L.length = N := ⟨_, rfl⟩
  have hNb : (N : Int) ≤ 9223372036854775807 := by have := h.len; omega
  have HL := Lib.hid h; have HN := Lib.hid hN; have HF := Lib.hid hf
  rw [hN] at HL ⊢
  obtain ⟨R, hR⟩ : ∃ R, idxOf p L = R := ⟨_, rfl⟩
  have HR := Lib.hid hR
  rw [hR]
  clear h hN hf hR
  go_enter Tryz.func61, Tryz.ntmps61
  go_wp2_with fail
  go_loopw [5, 8] (fun _ i wr => ∃ j : Nat, j ≤ N ∧ i = .int .i64 j ∧ Fr (fun _ => False) w wr ∧ ∀ q x, q < j → L[q]? = some x → p x = false) (fun _ i _ => N - (intOf i).toNat)
  case atStart => exact ⟨0, Nat.zero_le _, rfl, Fr.refl _ _, fun q x hq => by omega⟩
  case round =>
    obtain ⟨j, hj, rfl, hfr, hno⟩ := hrel
    have HFR := Lib.hid hfr; have HNO := Lib.hid hno
    clear hno
    by_cases hlt : j < N
    · obtain ⟨x, hx⟩ : ∃ x, L[j]? = some x := ⟨L[j]'(by rw [HN.out]; exact hlt), List.getElem?_eq_getElem _⟩
      obtain ⟨ad, rfl, hok, z0, zs⟩ := (HL.out.fr0 aokKeeps hfr).at_ hx
      have hC := HF.out wr j x hx hfr
      obtain ⟨b, hb⟩ : ∃ b, p x = b := ⟨_, rfl⟩
      rw [hb] at hC
      have HB := Lib.hid hb; have HX := Lib.hid hx
      have hjI : (j : Int) < N := by omega
      obtain ⟨X, hXX⟩ : ∃ X, X = x := ⟨_, rfl⟩
      rw [← hXX] at HB HX
      obtain ⟨c, n, k, o, r, t, m, g, l, its⟩ := x
      clear hXX
      obtain ⟨la, lc, hl⟩ := hok.l.sl
      dsimp only at hl
      subst hl
      have x0 := z0 (.int .i64 c) rfl
      have x1 := zs 0 (.int .i64 n) rfl
      have x2 := zs 1 (.int .i64 k) rfl
      have x3 := zs 2 (.int .i64 o) rfl
      have x4 := zs 3 (.int .i64 r) rfl
      have x5 := zs 4 (.int .i64 t) rfl
      have x6 := zs 5 (.int .i64 m) rfl
      have x7 := zs 6 (vS g) rfl
      have x8 := zs 7 (.slice la its.length lc) rfl
      dsimp only [Nat.zero_add, Nat.reduceAdd] at x0 x1 x2 x3 x4 x5 x6 x7 x8
      have hC' : Calls Tryz.prog 45 #[.agg #[.int .i64 c, .int .i64 n, .int .i64 k, .int .i64 o, .int .i64 r, .int .i64 t, .int .i64 m, vS g, .slice la its.length lc], .pointer (some ⟨b0, 0, none⟩)] wr fun e W' => e = .returned (.bool b) ∧ Fr (fun _ => False) wr W' := hC
      have HC := Lib.hid hC'
      clear hC hC' hb hx hok z0 zs hfr
      cases b with
      | true =>
        have hres : Hid (R = (j : Int)) := Lib.hid (by rw [← HR.out]; exact idxOf_at HX.out HB.out HNO.out)
        go_wp2_with (go_at_call 45; refine HC.out.mono ?_; rintro e w1 ⟨rfl, hf1⟩; have HF1 := Lib.hid hf1; clear hf1)
        go_ret
        exact ⟨by rw [hres.out]; rfl, HFR.out.trans HF1.out⟩
      | false =>
        go_wp2_with (go_at_call 45; refine HC.out.mono ?_; rintro e w1 ⟨rfl, hf1⟩; have HF1 := Lib.hid hf1; clear hf1)
        go_roundw
        case rel =>
          refine ⟨j + 1, by omega, by go_num, HFR.out.trans HF1.out, fun q x hq hx => ?_⟩
          by_cases e : q = j
          · subst e
            have := HX.out
            rw [this] at hx
            injection hx with hx
            rw [← hx]
            exact HB.out
          · exact HNO.out q x (by omega) hx
        case measure => simp [intOf]; omega
    · obtain rfl : j = N := by omega
      have hres : Hid (R = -1) := Lib.hid (by rw [← HR.out]; exact idxOf_no (fun q x hx => HNO.out q x (by have := (List.getElem?_eq_some_iff.1 hx).1; have := HN.out; omega) hx))
      clear hfr
      go_wp2_with fail
      go_ret
      exact ⟨by rw [hres.out]; rfl, HFR.out⟩

theorem kContainsAsk (w : World) (v : Value) (L : List AV) (p : AV → Bool) (b0 : Nat) (h : Al w v L)
    (hf : ∀ (W : World) (i : Nat) (x : AV), L[i]? = some x → Fr (fun _ => False) w W → Calls Tryz.prog 45 #[.agg (AV.cs x), .pointer (some ⟨b0, 0, none⟩)] W fun e W' => e = .returned (.bool (p x)) ∧ Fr (fun _ => False) W W') :
    Calls Tryz.prog 44 #[v, .func (.func 45) #[] #[.pointer (some ⟨b0, 0, none⟩)]] w fun e w' => e = .returned (.bool (L.any p)) ∧ Fr (fun _ => False) w w' := by
  have hI := Lib.hid (ixAsk w v L p b0 h hf)
  have hcs := idxOf_cases p L
  obtain ⟨a, c, rfl⟩ := h.sl
  rcases hcs with ⟨h1, -, h3⟩ | ⟨j, x, hx, hp, h1, -⟩
  · rw [h1] at hI
    have hr : Hid (L.any p = false) := Lib.hid (by rw [List.any_eq_false]; intro x hx; simp [h3 x hx])
    clear h hf h1 h3
    go_enter Tryz.func44, Tryz.ntmps44
    go_wp2_with (go_at_call 61; refine hI.out.mono ?_; rintro e w1 ⟨rfl, hf1⟩; have HF1 := Lib.hid hf1; clear hf1)
    go_ret
    exact ⟨by rw [hr.out]; rfl, HF1.out⟩
  · rw [h1] at hI
    have hr : Hid (L.any p = true) := Lib.hid (List.any_eq_true.2 ⟨x, List.mem_of_getElem? hx, hp⟩)
    have hj : (0 : Int) ≤ (j : Int) := by omega
    clear h hf h1 hx hp
    go_enter Tryz.func44, Tryz.ntmps44
    go_wp2_with (go_at_call 61; refine hI.out.mono ?_; rintro e w1 ⟨rfl, hf1⟩; have HF1 := Lib.hid hf1; clear hf1)
    go_ret
    exact ⟨by rw [hr.out]; first | rfl | simp, HF1.out⟩
theorem plainL_any (G : List AV) : G.any (fun x => decide (bodyF x ≠ bodyF (G.headD x))) = !plainL G := by
  unfold plainL
  rw [List.not_all_eq_any_not]
  congr 1
  funext x
  simp
set_option maxRecDepth 100000 in
theorem kPlain (w : World) (v : Value) (G : List AV) (h : Al w v G) (hm : ∀ p ∈ G, p.may = true) : Calls Tryz.prog 25 #[v] w fun e w' => e = .returned (.bool (plainL G)) ∧ Fr (fun _ => False) w w' := by
  obtain ⟨n0, hn0⟩ : ∃ n0, w.heap.size = n0 := ⟨_, rfl⟩
  obtain ⟨W0, hW0⟩ : ∃ W0, w.alloc (.cells #[v] 22) = W0 := ⟨_, rfl⟩
  have hF0 : Fr (fun _ => False) w W0 := by rw [← hW0]; exact (Fr.refl _ _).alloc _
  have hb0 : W0.cell? ⟨n0, 0, none⟩ = some v := cell_obj (by rw [← hW0]; exact heap_at hn0.symm _) 0 _ rfl
  have hC := Lib.hid (kContainsAsk W0 v G (fun x => decide (bodyF x ≠ bodyF (G.headD x))) n0 (h.fr0 aokKeeps hF0) (fun W i x hx hf => by
    obtain ⟨a, ha⟩ : ∃ a, G[0]? = some a := ⟨G[0]'(by have := (List.getElem?_eq_some_iff.1 hx).1; omega), List.getElem?_eq_getElem _⟩
    have := kPlain1 W x a n0 v G (hf.cell hb0 (fun h => h)) (h.fr0 aokKeeps (hF0.trans hf)) (aokKeeps (h.okm (List.mem_of_getElem? hx)) (hF0.trans hf) (fun _ h => h.elim)) (hm x (List.mem_of_getElem? hx)) ha (hm a (List.mem_of_getElem? ha))
    rw [head_get ha]
    exact this))
  rw [plainL_any] at hC
  obtain ⟨R, hR⟩ : ∃ R, plainL G = R := ⟨_, rfl⟩
  rw [hR] at hC ⊢
  have HF0 := Lib.hid hF0
  obtain ⟨a, c, rfl⟩ := h.sl
  obtain ⟨N, hN⟩ : ∃ N, G.length = N := ⟨_, rfl⟩
  rw [hN] at hC hb0 hW0 ⊢
  clear h hm hF0 hR hN
  go_enter Tryz.func25, Tryz.ntmps25
  go_wp2_with (go_at_call 44; refine hC.out.mono ?_; rintro e w1 ⟨rfl, hf1⟩; have HF1 := Lib.hid hf1; clear hf1)
  go_ret
  exact ⟨by first | rfl | simp, HF0.out.trans HF1.out⟩
end Go.Proofs.YtbeikkkmobbnkaaGreat
