/- model.groups (written by wip/tools/md22.py). -/
import Derived.Test.YtbeikkkmobbnkaaGreatModMoreM30
import Derived.Test.YtbeikkkmobbnkaaGreatModMoreM26
import Derived.Test.YtbeikkkmobbnkaaGreatModMoreM17
import Derived.Shelf.Abstract
namespace Go.Proofs.YtbeikkkmobbnkaaGreat
open Go.RowKit Go.Maps
attribute [local go_sem] Oper.semAt_some
def GrJ (w : World) (n0 : Nat) (R : List AV) (k : Nat) (C : Nat → Prop) (W : World) : Prop := ∃ l, GrI w W n0 (n0 + 1) n0 (R.take k) l C
set_option maxRecDepth 100000 in
set_option maxHeartbeats 8000000 in
theorem kGroups (w : World) (v : Value) (L : List AV) (h : Al w v L) (hl : L.length ≤ 1000) : Calls Tryz.prog 23 #[v] w fun e w' => ∃ n0 l C, e = .returned (.map (some n0)) ∧ w.heap.size = n0 ∧ GrI w w' n0 (n0 + 1) n0 (rightL L) l C ∧ Fr (fun _ => False) w w' := by
  obtain ⟨i0, hi', hz0, hz1, hz2⟩ := info_parts infoAsk
  obtain ⟨n0, hn0⟩ : ∃ n0, w.heap.size = n0 := ⟨_, rfl⟩
  have HS := Lib.hid hn0
  have HL := Lib.hid h
  have hRL : Hid ((rightL L).length ≤ 1000) := Lib.hid (by have := rightL_len L L.length; rw [List.take_length] at this; omega)
  have hokR : Hid (∀ p ∈ rightL L, AOk w p) := Lib.hid (fun p hp => h.okm (List.mem_filter.1 hp).1)
  obtain ⟨a, c, rfl⟩ := h.sl
  obtain ⟨N, hN⟩ : ∃ N, L.length = N := ⟨_, rfl⟩
  rw [hN] at HL ⊢
  clear h hN hl
  refine (callsIn_wide (n := 0)).1 ?_
  refine callsIn_of_wp_marks Tryz.func23 rfl trivial ?_ rfl
  simp only [Tryz.ntmps23, List.size_toArray, List.length_cons, List.length_nil, Nat.reduceAdd, Nat.reduceSub, Array.replicate_succ, Array.replicate_zero, List.push_toArray, List.append_toArray, List.nil_append, List.cons_append]
  have hfn : ∀ f, Fence.wide.fn f := fun _ => trivial
  have hmm := @run_makeMap Tryz.prog
  have hdp : Fence.wide.depth.isSome = false := rfl
  gi_wp2_with (gi_at_call 31; refine (callsIn_wide.2 (kRightF _ (.slice a N c) _ _ _)).mono ?_; rintro e w1 ⟨rfl, rfl⟩)
  clear hmm
  have hI0 : GrI w (((w.alloc (.map #[] 0)).alloc (.cells #[.map (some n0)] 53)).alloc (.cells #[.slice a N c] 22)) n0 (n0 + 1) n0 [] [] (fun _ => False) := by
    have hm := Mp.made (κ := PK) (ν := Value) Tryz.prog w ktW ktP id
    rw [hn0] at hm
    exact ⟨heap_keep (heap_at (by simp; omega) _) _, (hm.alloc _).alloc _, fun x v hx => by simp [getS] at hx, fun x v hx => by simp [getS] at hx, fun x _ => rfl, fun x v b hx => by simp [getS] at hx, fun x y v v' b hx => by simp [getS] at hx,
      (((Fr.refl _ w).alloc _).alloc _).alloc _, ⟨Nat.le_refl _, by omega, by omega⟩, Nat.le_refl _⟩
  have hF0 : Fr (fun b => w.heap.size ≤ b) w (((w.alloc (.map #[] 0)).alloc (.cells #[.map (some n0)] 53)).alloc (.cells #[.slice a N c] 22)) := (((Fr.refl _ w).alloc _).alloc _).alloc _
  have hB0 : Boxed (((w.alloc (.map #[] 0)).alloc (.cells #[.map (some n0)] 53)).alloc (.cells #[.slice a N c] 22)) (n0 + 2) 22 (.slice a N c) := heap_at (by simp; omega) _
  have hs0 : (((w.alloc (.map #[] 0)).alloc (.cells #[.map (some n0)] 53)).alloc (.cells #[.slice a N c] 22)).heap.size = n0 + 3 := by simp; omega
  obtain ⟨W2, hW2⟩ : ∃ W2, (((w.alloc (.map #[] 0)).alloc (.cells #[.map (some n0)] 53)).alloc (.cells #[.slice a N c] 22)) = W2 := ⟨_, rfl⟩
  rw [hW2] at hI0 hF0 hB0 hs0
  (try rw [hW2])
  have HI0 := Lib.hid hI0; have HS0 := Lib.hid hs0; have HF0 := Lib.hid hF0
  clear hW2 hI0 hF0
  refine rangeX (w0 := W2) (X := rightL L) (S := fun b => b = n0) rfl (enters_of Tryz.func49 (by kernel_rfl) rfl)
    (kRight2 _ w W2 (n0 + 2) _ L hB0 HL.out HF0.out (fun b hb e => by omega)) (Below.refl _ _) (fun b hb => by omega) (fun _ => rfl)
    (GrJ w n0 (rightL L)) (fun _ _ _ _ => False)
    (fun k C W W' hs hf => by obtain ⟨l, h1⟩ := hs; exact ⟨l, h1.fa hf (by omega)⟩) (fun c k C W W' hs hf => hs)
    ⟨[], by simpa using HI0.out⟩ ?round ?done ?stop
  case stop => intro D c k C W hD hk hX; exact hX.elim
  case round =>
    rintro lp k x C W hx hlp hi hr
    have hokx := hokR.out x (List.mem_of_getElem? hx)
    have hkl : k < 1000 := by have := (List.getElem?_eq_some_iff.1 hx).1; have := hRL.out; omega
    have HX := Lib.hid hx
    have hone := avOne hokx
    obtain ⟨P, hP⟩ : ∃ P : AV, P = x := ⟨_, rfl⟩
    rw [← hP] at HX hone
    have hokP := hokx
    rw [← hP] at hokP
    obtain ⟨c', n, kd, o, r, t, m, g, l, its⟩ := x
    obtain ⟨la, lc, hl⟩ := hokx.l.sl
    dsimp only at hl
    subst hl
    obtain ⟨M, hM⟩ : ∃ M, its.length = M := ⟨_, rfl⟩
    have hcs : P.cs = #[.int .i64 c', .int .i64 n, .int .i64 kd, .int .i64 o, .int .i64 r, .int .i64 t, .int .i64 m, vS g, .slice la M lc] := by rw [hP, ← hM]; rfl
    have hPK : PK.of P hokP.c hokP.n = ⟨(c', n), hokx.c, hokx.n⟩ := by subst hP; rfl
    have hkc : okI c' := hokx.c
    have hkn : okI n := hokx.n
    have HOKP := Lib.hid (⟨hokP.c, hokP.n⟩ : okI P.c ∧ okI P.n)
    rw [hcs] at hone
    have HCS := Lib.hid hcs; have HONE := Lib.hid hone; have HPK := Lib.hid hPK
    dsimp only [encA, AV.cs]
    rw [hM]
    clear hM hP hcs hone hPK hx
    obtain ⟨xb, hxb⟩ : ∃ xb, W.heap.size = xb := ⟨_, rfl⟩
    gi_wp2
    have hFW : Fr (fun _ => False) W (W.alloc (.cells #[.int .i64 c', .int .i64 n, .int .i64 kd, .int .i64 o, .int .i64 r, .int .i64 t, .int .i64 m, vS g, .slice la M lc] 50)) := (Fr.refl _ W).alloc _
    have hbW : (W.alloc (.cells #[.int .i64 c', .int .i64 n, .int .i64 kd, .int .i64 o, .int .i64 r, .int .i64 t, .int .i64 m, vS g, .slice la M lc] 50)).heap[xb]? = some (.cells #[.int .i64 c', .int .i64 n, .int .i64 kd, .int .i64 o, .int .i64 r, .int .i64 t, .int .i64 m, vS g, .slice la M lc] 50) := heap_at hxb.symm _
    refine Took.mk (hFW.mono (fun _ _ e => e.elim)) (by obtain ⟨l, h1⟩ := hi; exact ⟨l, h1.keep hFW⟩) ?_
    rintro Wb ⟨gl, hG⟩ hrb hf hsz hsw hCC _
    have hbb := Fa.cells hf hbW
    have hszW : W.heap.size < (W.alloc (.cells #[.int .i64 c', .int .i64 n, .int .i64 kd, .int .i64 o, .int .i64 r, .int .i64 t, .int .i64 m, vS g, .slice la M lc] 50)).heap.size := by simp
    obtain ⟨kx, hkx⟩ : ∃ kx : PK, kx = ⟨(c', n), hkc, hkn⟩ := ⟨_, rfl⟩
    have hzz : ∀ u : World, (zeroValue 22).run Tryz.prog u = .ok (.slice none 0 0) u := fun u => by kernel_rfl
    have hg3 := hG.keep (((Fr.refl (fun _ => False) Wb).alloc (.cells #[.int .i64 c', .int .i64 n] 56)).alloc (.cells #[.int .i64 c', .int .i64 n, .int .i64 kd, .int .i64 o, .int .i64 r, .int .i64 t, .int .i64 m, vS g, .slice la M lc] 50))
    have hlen : gl.length < 9223372036854775807 := by have := hG.len; have h2 : ((rightL L).take k).length ≤ k := List.length_take_le _ _; omega
    obtain ⟨st, W4, hrun, hturn, hst⟩ := hg3.mp.entry whoLaw whoK Tryz.underlying53 hlen hzz (x := kx) trivial
    have hsl : (getS gl kx).elim (.slice none 0 0) id = slotOf gl kx := by unfold slotOf; cases getS gl kx <;> rfl
    rw [hsl] at hrun
    have hrow := hg3.slot kx
    obtain ⟨q, hq⟩ : ∃ q, (((rightL L).take k).filter (isK kx)).length = q := ⟨_, rfl⟩
    obtain ⟨F, hF⟩ : ∃ F, flat AV.cs (((rightL L).take k).filter (isK kx)) = F := ⟨_, rfl⟩
    have hql : q ≤ 1000 := by rw [← hq]; have h1 := List.length_filter_le (isK kx) ((rightL L).take k); have h2 : ((rightL L).take k).length ≤ k := List.length_take_le _ _; omega
    rw [hq, hF] at hrow
    have hnm : ∀ b, (slotOf gl kx).ownBlock = some b → b ≠ n0 := fun b hb => hG.slotNe hb
    have h34 : Fr (fun b => b = n0) _ W4 := Fr.turned hturn rfl
    have hrow4 := h34.row hrow (fun b hb e => hnm b hb e)
    obtain ⟨sv, hsv⟩ : ∃ sv, slotOf gl kx = sv := ⟨_, rfl⟩
    rw [hsv] at hrun hrow4 hnm
    obtain ⟨a0, c0, rfl⟩ := row_sl hrow4
    have hn0b : n0 < W4.heap.size := by have h1 := h34.size; have := hG.mp.lt; simp at h1; omega
    have hcell4 : ∀ (j : Nat) (u : Value), [.int .i64 c', .int .i64 n, .int .i64 kd, .int .i64 o, .int .i64 r, .int .i64 t, .int .i64 m, vS g, .slice la M lc][j]? = some u → W4.cell? ((⟨Wb.heap.size + 1, 0, none⟩ : Addr).add j) = some u := fun j u hu => by
      have e0 : (⟨Wb.heap.size + 1, 0, none⟩ : Addr).add j = ⟨Wb.heap.size + 1, j, none⟩ := by unfold Addr.add; split <;> simp_all
      rw [e0]
      have hb4 : W4.heap[Wb.heap.size + 1]? = some (.cells #[.int .i64 c', .int .i64 n, .int .i64 kd, .int .i64 o, .int .i64 r, .int .i64 t, .int .i64 m, vS g, .slice la M lc] 50) := h34.at_ (heap_at (by simp) _) (by have := hG.mp.lt; omega)
      exact cell_obj hb4 j u (by simpa using hu)
    have hcm : Wb.cell? ⟨n0 + 1, 0, none⟩ = some (.map (some n0)) := cell_obj hG.box 0 _ rfl
    have hcx : Wb.cell? ⟨xb, 0, none⟩ = some (.int .i64 c') ∧ Wb.cell? ⟨xb, 1, none⟩ = some (.int .i64 n) ∧ Wb.cell? ⟨xb, 2, none⟩ = some (.int .i64 kd) ∧ Wb.cell? ⟨xb, 3, none⟩ = some (.int .i64 o) ∧ Wb.cell? ⟨xb, 4, none⟩ = some (.int .i64 r) ∧ Wb.cell? ⟨xb, 5, none⟩ = some (.int .i64 t) ∧ Wb.cell? ⟨xb, 6, none⟩ = some (.int .i64 m) ∧ Wb.cell? ⟨xb, 7, none⟩ = some (vS g) ∧ Wb.cell? ⟨xb, 8, none⟩ = some (.slice la M lc) :=
      ⟨cell_obj hbb 0 _ rfl, cell_obj hbb 1 _ rfl, cell_obj hbb 2 _ rfl, cell_obj hbb 3 _ rfl, cell_obj hbb 4 _ rfl, cell_obj hbb 5 _ rfl, cell_obj hbb 6 _ rfl, cell_obj hbb 7 _ rfl, cell_obj hbb 8 _ rfl⟩
    obtain ⟨x0, x1, x2, x3, x4, x5, x6, x7, x8⟩ := hcx
    have hal : ∀ (p : Addr) (v : Value), Wb.cell? p = some v → ∀ o, (Wb.alloc o).cell? p = some v := fun p v h o => ((Fr.refl (fun _ => False) Wb).alloc o).cell h (fun h => h)
    have xcm := hal _ _ hcm
    have z0 := hal _ _ x0; have z1 := hal _ _ x1; have z2 := hal _ _ x2; have z3 := hal _ _ x3; have z4 := hal _ _ x4; have z5 := hal _ _ x5; have z6 := hal _ _ x6; have z7 := hal _ _ x7; have z8 := hal _ _ x8
    clear hal
    have hrun' : (Instr.mapEntry 53 (.map (some n0)) (.agg #[.int .i64 c', .int .i64 n])).run Tryz.prog ((Wb.alloc (.cells #[.int .i64 c', .int .i64 n] 56)).alloc (.cells #[.int .i64 c', .int .i64 n, .int .i64 kd, .int .i64 o, .int .i64 r, .int .i64 t, .int .i64 m, vS g, .slice la M lc] 50)) = .ok (.tuple #[.slice a0 q c0, .int .i64 st]) W4 := by
      subst hkx
      exact hrun
    have hst' : Hid (∀ (w2 : World) (v : Value), w2.heap[n0]? = W4.heap[n0]? → ∃ w3, (Instr.entryStore 53 (.map (some n0)) (.int .i64 st) v).run Tryz.prog w2 = .ok () w3 ∧ Mp Tryz.prog w3 ktW ktP id n0 (putS ktP.lt gl kx v) ∧ w2.mapTurned w3 n0) := Lib.hid (fun w2 v e => hst w2 v e)
    have HG := Lib.hid hG; have HR4 := Lib.hid hrow4; have H34 := Lib.hid h34; have HNM := Lib.hid hnm; have HQ := Lib.hid hq; have HF := Lib.hid hF; have HSV := Lib.hid hsv; have HC4 := Lib.hid hcell4; have HKX := Lib.hid hkx
    have HSZ := Lib.hid hsz; have HCCw := Lib.hid hCC; have HXB := Lib.hid hxb; have HHF := Lib.hid hf; have HN0 := Lib.hid hn0b; have HQL := Lib.hid hql
    clear hi hr hf hrb hbb hszW hkx hzz hg3 hlen hrun hturn hst hsl hrow hq hF hnm h34 hrow4 hsv hcell4 hG hxb hbW hFW hCC hql
    gi_wp2_with (gi_at_builtin; refine wpListIn_append_own_at _ rfl _ _ 22 rfl n0 50 i0 _ 9 96 Tryz.underlying22 hi' hz0 hz1 hz2 rfl (by decide) _ q F rfl HR4.out ⟨Wb.heap.size + 1, 0, none⟩ 1 1 [.int .i64 c', .int .i64 n, .int .i64 kd, .int .i64 o, .int .i64 r, .int .i64 t, .int .i64 m, vS g, .slice la M lc] rfl rfl HC4.out (fun u hu => HONE.out u (by simpa using hu)) (by have := HQL.out; unfold maxLen; omega) (by have := HQL.out; omega) (by have := HN0.out; omega) ?_; intro v' w5 hown' hgrow _ hat; obtain ⟨g', cap', rfl⟩ := ownsRow_succ hown'; obtain ⟨w6, hrun6, hm6, ht6⟩ := hst'.out w5 (.slice (some ⟨g', 0, none⟩) (q + 1) cap') (hgrow.block n0 HN0.out (fun e => HNM.out n0 e.symm rfl)))
    have hkk : PK.of P HOKP.out.1 HOKP.out.2 = kx := by rw [HKX.out]; exact HPK.out
    have h4' : Fr (fun b => b = n0) Wb W4 := (((Fr.refl (fun b => b = n0) Wb).alloc (.cells #[.int .i64 c', .int .i64 n] 56)).alloc (.cells #[.int .i64 c', .int .i64 n, .int .i64 kd, .int .i64 o, .int .i64 r, .int .i64 t, .int .i64 m, vS g, .slice la M lc] 50)).trans' H34.out (fun _ _ e => e)
    have hstep := GrI.step (a := P) (hc := HOKP.out.1) (hn := HOKP.out.2) (W4 := W4) (W5 := w5) (W6 := w6) HG.out h4' (by rw [hkk, HQ.out, HF.out, HCS.out]; exact hown') (by rw [hkk, HSV.out]; exact hgrow) (by rw [hkk, HSV.out]; exact hat) (by rw [hkk]; exact hm6) ht6 (fun b hb => by have := HCCw.out b hb; have := HS0.out; omega) HS.out
    have hfr6 : Fr (fun b => b = n0 ∨ CC C W Wb b) Wb w6 := hstep.2.mono (fun b hb e => by
      rcases e with e | e | e
      · exact .inl e
      · exact .inr (.inl e)
      · omega)
    refine ⟨hfr6, putS ktP.lt gl (PK.of P HOKP.out.1 HOKP.out.2) (.slice (some ⟨g', 0, none⟩) (q + 1) cap'), ?_⟩
    have htk : (rightL L).take (k + 1) = (rightL L).take k ++ [P] := by rw [List.take_add_one, HX.out]; rfl
    rw [htk]
    exact hstep.1.monoC (fun b e => e.elim .inl (fun e => .inr ⟨by have := HSZ.out; omega, e.2⟩))
  case done =>
    rintro D C W hD ⟨l, hG⟩ hr hK
    rw [List.take_length] at hG
    have HG := Lib.hid hG; have HK := Lib.hid hK
    have hcm := cell_obj hG.box 0 (.map (some n0)) rfl
    clear hG hr hK
    gi_wp2_with fail
    refine ⟨by simp, .inl ⟨_, _, rfl, run_takeDeferred HK.out, ?_⟩⟩
    have hfa : Fa n0 W (W.putObj D (.deferred none)) := frPut (B := n0) (.deferred none) (by have := HS0.out; omega) HK.out rfl
    have hG' := HG.out.fa hfa (by have := HS.out; omega)
    refine ⟨.map (some n0), by simp [results, Tryz.results23, go_sem], n0, l, C, rfl, HS.out, hG', hG'.fr.mono (fun b hb e => by have := HS.out; omega)⟩
end Go.Proofs.YtbeikkkmobbnkaaGreat
