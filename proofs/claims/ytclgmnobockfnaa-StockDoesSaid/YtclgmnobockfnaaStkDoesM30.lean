/- entrepotref07: Pack (and entrepotref01's Maker.Text). -/
import Derived.Test.YtclgmnobockfnaaStkDoesM21
import Derived.Test.YtclgmnobockfnaaStkDoesM29
import Derived.Lib.AppendStr
namespace Go.Proofs.Ytclgmnobockfnaa
open Go.RowKit Go.Maps
theorem mkQ_flat {bs c : List Int} (h : bs.length + c.length ≤ 262144) : mkQ (bs, false) c = (bs ++ c, false) := by
  unfold mkQ putB putL
  have : ¬ 262144 < bs.length + c.length := by omega
  simp [this]
theorem strCells_sB (s : Str) : Lib.strCells ⟨s.toArray⟩ = u8s (sB s) := by
  unfold Lib.strCells u8s sB
  simp
theorem own_row_cons {w : World} {base : Nat} {v : Value} {x : Int} {bs : List Int} {n : Nat} (h : w.ownsRow base 5 1 v n ([.int .u8 x] ++ u8s bs)) : w.ownsRow base 5 1 v (x :: bs).length (u8s (x :: bs)) := by
  have hl : n = (x :: bs).length := by have := h.1; simp [u8s] at this; simp; omega
  subst hl
  simpa [u8s] using h
set_option maxRecDepth 100000 in
set_option maxHeartbeats 1000000 in
theorem rNumO (w : World) (n : Int) (hn : okI n) : Calls Try.prog 77 #[.int .i64 n] w fun e w' => ∃ v, e = .returned v ∧ w'.ownsRow w.heap.size 5 1 v (numB n).length (u8s (numB n)) ∧ Below w.heap.size w w' := by
  obtain ⟨i0, hi', hz0, hz1, hz2⟩ := info_parts infoU8
  have HN := Lib.hid hn
  have hmem : Hid (∀ y ∈ numB n, 0 ≤ y ∧ y < 256) := Lib.hid (fun y hy => numB_mem hn hy)
  unfold okI at hn
  by_cases h : 0 ≤ n ∧ n < 128
  · obtain ⟨h0, h1⟩ := h
    have e : numB n = [n] := by unfold numB; rw [if_pos ⟨h0, h1⟩]
    rw [e] at hmem ⊢
    go_enter Try.func77, Try.ntmps77
    go_wp2
    go_ret
    exact ⟨_, rfl, by simpa [u8s] using own_new (w := w) #[.int .u8 n] (Nat.le_refl _) (by simp), (Below.refl _ _).alloc (Nat.le_refl _) _⟩
  · have hU1 := numU_lt HN.out
    have e := numB_big h
    rw [e] at hmem ⊢
    have hs8 : nSz (numU n) ≤ 8 := nSz_le (by omega)
    have hD := fun w => rDigits w (numU n) (by omega)
    obtain ⟨U, hU⟩ : ∃ U, numU n = U := ⟨_, rfl⟩
    rw [hU] at hU1 hs8 hD hmem ⊢
    obtain ⟨s, hs⟩ : ∃ s, nSz U = s := ⟨_, rfl⟩
    obtain ⟨dg, hdg⟩ : ∃ dg, beB U s = dg := ⟨_, rfl⟩
    have hdl : dg.length = s := by rw [← hdg, beB_len]
    rw [hs] at hs8 hD hmem ⊢
    rw [hdg] at hD hmem ⊢
    have HD := Lib.hid hD
    have HDL := Lib.hid hdl
    clear hD hs hdg hdl e
    rcases (by omega : n < 0 ∨ 128 ≤ n) with hneg | hpos
    · have hH : numH n = 144 := if_pos hneg
      have hx : -1 - n = (U : Int) := by rw [← hU]; unfold numU; rw [if_pos hneg]; omega
      rw [hH] at hmem ⊢
      clear hU hH h
      go_enter Try.func77, Try.ntmps77
      obtain ⟨V, hV⟩ : ∃ V : Nat, IntKind.u64.wrap n = (V : Int) := ⟨(n + 18446744073709551616).toNat, by show n % 18446744073709551616 = _; omega⟩
      have hV2 : V < 18446744073709551616 := by have : n % 18446744073709551616 = (V : Int) := hV; omega
      have HV2 := Lib.hid hV2
      clear hV2
      go_wp2_with fail
      refine (rDigits w V HV2.out).mono ?_
      rintro e w1 ⟨v, rfl, -, hB⟩
      have HB1 := Lib.hid hB
      clear hB hV
      have hxw : IntKind.u64.wrap (U : Int) = (U : Int) := by show (U : Int) % 18446744073709551616 = _; omega
      go_wp2_with fail
      refine (HD.out w1).mono ?_
      rintro e w2 ⟨v2, rfl, hown, hB⟩
      obtain ⟨av, cv, rfl⟩ := row_sl hown
      have hBB := HB1.out.trans (hB.mono HB1.out.size)
      have hsz := hBB.size
      have HOW := Lib.hid (own_base hown HB1.out.size); have HB := Lib.hid hBB
      clear hown hB hBB
      go_wp2_with (at_builtin; refine wpList_append_src rfl _ _ 31 rfl w.heap.size 5 i0 (.int .u8 0) 1 Try.underlying31 hi' hz0 hz1 hz2 rfl (by decide) _ 1 [.int .u8 (144 + (s : Int))] rfl (own_new #[.int .u8 (144 + (s : Int))] hsz (by simp)) cv rfl ((Rd.own HOW.out).fr ((Fr.refl (fun _ => False) w2).alloc _) (fun _ _ h => h)) (by intro u hu; simp [u8s] at hu; obtain ⟨x, _, rfl⟩ := hu; rfl) (by unfold maxLen; omega) (by omega) (by simp; omega) ?_; intro v' w3 hown' hgrow _)
      go_ret
      exact ⟨_, rfl, own_row_cons hown', (HB.out.alloc hsz _).grown hgrow (by simp; omega) (fun r hr => by cases hr; exact hsz)⟩
    · have hH : numH n = 128 := if_neg (by omega)
      have hx : n = (U : Int) := by rw [← hU]; unfold numU; rw [if_neg (by omega)]; omega
      rw [hH] at hmem ⊢
      clear hU hH h HN
      subst hx
      go_enter Try.func77, Try.ntmps77
      go_wp2_with fail
      refine (HD.out w).mono ?_
      rintro e w1 ⟨v, rfl, hown, hB⟩
      obtain ⟨av, cv, rfl⟩ := row_sl hown
      have hsz := hB.size
      have HOW := Lib.hid hown; have HB := Lib.hid hB
      clear hown hB
      go_wp2_with (at_builtin; refine wpList_append_src rfl _ _ 31 rfl w.heap.size 5 i0 (.int .u8 0) 1 Try.underlying31 hi' hz0 hz1 hz2 rfl (by decide) _ 1 [.int .u8 (128 + (s : Int))] rfl (own_new #[.int .u8 (128 + (s : Int))] hsz (by simp)) cv rfl ((Rd.own HOW.out).fr ((Fr.refl (fun _ => False) w1).alloc _) (fun _ _ h => h)) (by intro u hu; simp [u8s] at hu; obtain ⟨x, _, rfl⟩ := hu; rfl) (by unfold maxLen; omega) (by omega) (by simp; omega) ?_; intro v' w2 hown' hgrow _)
      go_ret
      exact ⟨_, rfl, own_row_cons hown', (HB.out.alloc hsz _).grown hgrow (by simp; omega) (fun r hr => by cases hr; exact hsz)⟩
set_option maxRecDepth 100000 in
set_option maxHeartbeats 2000000 in
theorem rMText (w : World) (g B : Nat) (s : List Int × Bool) (t : Str) (h : RK w g B s) (ht : t.length ≤ 65536) (hB : B ≤ w.heap.size) :
    Calls Try.prog 63 #[.pointer (some ⟨g, 0, none⟩), vS t] w fun e w' => (∃ v, e = .returned v) ∧ RK w' g B (mkQ s (textB t)) ∧ Fr (fun b => b = g) w w' := by
  obtain ⟨i0, hi', hz0, hz1, hz2⟩ := info_parts infoU8
  have HH := Lib.hid h; have hg := h.lt
  obtain ⟨m, hm⟩ : ∃ m, t.length = m := ⟨_, rfl⟩
  obtain ⟨T, hT⟩ : ∃ T, ByteArray.mk t.toArray = T := ⟨_, rfl⟩
  have hTs : T.size = m := by rw [← hT, ← hm]; simp [ByteArray.size]
  have hok : okI (m : Int) := by unfold okI; omega
  have hnl := (numB_len hok).2
  have hcells : Hid (Lib.strCells T = u8s (sB t)) := Lib.hid (by rw [← hT]; exact strCells_sB t)
  have htx : Hid (textB t = numB (m : Int) ++ sB t) := Lib.hid (by unfold textB; rw [hm])
  have hbyt : Hid (∀ y ∈ numB (m : Int) ++ sB t, 0 ≤ y ∧ y < 256) := Lib.hid (fun y hy => by
    rcases List.mem_append.1 hy with e | e
    · exact numB_mem hok e
    · exact sB_byt t y e)
  have hsl : Hid ((sB t).length = m) := Lib.hid (by rw [sB_len, hm])
  obtain ⟨nb, hnb⟩ : ∃ nb, numB (m : Int) = nb := ⟨_, rfl⟩
  rw [hnb] at hnl htx hbyt
  have HTS := Lib.hid hTs; have HNL := Lib.hid hnl
  have hmI : (m : Int) ≤ 65536 := by omega
  rw [← hTs] at hmI
  have hN2 : Hid (∀ W : World, Calls Try.prog 77 #[.int .i64 (T.size : Int)] W fun e w' => ∃ v, e = .returned v ∧ w'.ownsRow W.heap.size 5 1 v nb.length (u8s nb) ∧ Below W.heap.size W w') := Lib.hid (fun W => by
    have := rNumO W (m : Int) hok
    rw [hnb] at this
    rw [HTS.out]; exact this)
  clear h ht hnb hm hTs hok
  unfold vS
  rw [hT]
  clear hT
  go_enter Try.func63, Try.ntmps63
  go_wp2_with fail
  refine (hN2.out w).mono ?_
  rintro e w1 ⟨v, rfl, hv, hb⟩
  obtain ⟨av, cv, rfl⟩ := row_sl hv
  obtain ⟨nl, hnl2⟩ : ∃ nl, nb.length = nl := ⟨_, rfl⟩
  have HNL2 := Lib.hid hnl2
  rw [hnl2] at hv hnl ⊢
  have HV := Lib.hid hv; have HB := Lib.hid hb
  have hsz : w.heap.size ≤ w1.heap.size := hb.size
  clear hv hb hnl2
  go_wp2_with (first
    | (at_builtin; (refine Lib.wpList_append_own_string _ rfl _ _ 31 9 rfl w.heap.size 5 i0 Try.underlying31 Try.underlying9 hi' hz0 hz1 hz2 _ _ _ rfl HV.out T rfl (by unfold maxLen; omega) (by omega) hsz ?_; intro v2 w2 hown2 hgrow2 _; have HO2 := Lib.hid hown2; have HF2 : Hid (Fr (fun b => w.heap.size ≤ b) w w2) := Lib.hid ((Fr.below HB.out).trans (Fr.grown hgrow2 (fun r hr _ => (HV.out.lt r hr).1))); clear hown2 hgrow2)))
  have hbs : Bs w2 v2 (nb ++ sB t) := by
    have := HO2.out
    rw [hcells.out, HTS.out] at this
    have e1 : u8s nb ++ u8s (sB t) = u8s (nb ++ sB t) := by simp [u8s]
    have e2 : nl + m = (nb ++ sB t).length := by rw [List.length_append, HNL2.out, hsl.out]
    rw [e1, e2] at this
    exact (Bs.own this hbyt.out).1
  have hF2' : Fr (fun _ => False) w w2 := HF2.out.mono (fun b hb e => by omega)
  refine (rPut w2 g B s v2 (nb ++ sB t) (HH.out.fr hF2' (fun _ _ h => h)) hbs (by rw [List.length_append, HNL2.out, hsl.out]; have := HTS.out; omega) (Nat.le_trans hB hF2'.size)).mono ?_
  rintro e w3 ⟨⟨v3, rfl⟩, hk, hf⟩
  have HK := Lib.hid hk; have HF3 := Lib.hid ((hF2'.mono (S' := fun b => b = g) (fun _ _ e => e.elim)).trans hf)
  clear hk hf
  go_wp2_with fail
  go_end0
  exact ⟨⟨_, rfl⟩, by rw [htx.out]; exact HK.out, HF3.out⟩
/-- On the way of Pack. -/
structure PaI (w : World) (n0 : Nat) (bs : List Int) (W : World) : Prop where
  rk : RK W n0 n0 (bs, false)
  fr : Fr (fun b => n0 ≤ b) w W
theorem PaI.keep {w W W' : World} {n0 : Nat} {bs : List Int} (h : PaI w n0 bs W) (hf : Fr (fun _ => False) W W') : PaI w n0 bs W' := ⟨h.rk.fr hf (fun _ _ e => e), h.fr.trans' hf (fun _ _ e => e.elim)⟩
theorem PaI.put {w W W' : World} {n0 : Nat} {bs c : List Int} (h : PaI w n0 bs W) (hk : RK W' n0 n0 (mkQ (bs, false) c)) (hf : Fr (fun b => b = n0) W W') (hl : bs.length + c.length ≤ 262144) : PaI w n0 (bs ++ c) W' := ⟨by rw [mkQ_flat hl] at hk; exact hk, h.fr.trans' hf (fun b _ e => by omega)⟩
theorem PaI.sz {w W : World} {n0 : Nat} {bs : List Int} (h : PaI w n0 bs W) : n0 ≤ W.heap.size := Nat.le_of_lt h.rk.lt
theorem bs_at {A : Stk} (hA : SOk A) {k : Nat} (hk : k ≤ A.length) : (numB (A.length : Int) ++ (A.take k).flatMap rowB).length ≤ 9 + 124 * k := by
  rw [List.length_append]
  have h1 := (numB_len (n := (A.length : Int)) (by have := hA.len; unfold okI; omega)).2
  have h2 := rows_len (L := A.take k) (fun p hp => ⟨hA.good p (List.mem_of_mem_take hp), hA.row p (List.mem_of_mem_take hp)⟩)
  rw [List.length_take] at h2
  have : min k A.length = k := by omega
  rw [this] at h2
  omega
set_option maxRecDepth 100000 in
set_option maxHeartbeats 8000000 in
theorem r7Pack (w : World) (g : Nat) (TS : Nat → Prop) (A : Stk) (h : RS w g TS A) (hA : SOk A) :
    Calls Try.prog 27 #[.pointer (some ⟨g, 0, none⟩)] w fun e w' => ∃ v, e = .returned v ∧ w'.ownsRow w.heap.size 5 1 v (packS A).length (u8s (packS A)) ∧ Fr (fun _ => False) w w' := by
  obtain ⟨n0, hn0⟩ : ∃ n0, w.heap.size = n0 := ⟨_, rfl⟩
  obtain ⟨N, hN⟩ : ∃ N, A.length = N := ⟨_, rfl⟩
  obtain ⟨W0, hW0⟩ : ∃ W0, w.alloc (.cells #[.slice none 0 0, .bool false] 109) = W0 := ⟨_, rfl⟩
  have hI0 : PaI w n0 [] W0 := by rw [← hW0, ← hn0]; exact ⟨RK.new w, (Fr.refl _ w).alloc _⟩
  have hKeep : Hid (∀ W, Fr (fun b => n0 ≤ b) w W → RS W g TS A) := Lib.hid (fun W hf => h.fr hf (fun b hb e => by have := h.lt b hb; omega))
  have hN64 : (N : Int) ≤ 64 := by have := hA.len; omega
  have hGL : Hid (g < n0) := Lib.hid (by have := h.lt g h.own; omega)
  have HI0 := Lib.hid hI0; have HN := Lib.hid hN; have HA := Lib.hid hA; have HS := Lib.hid hn0; have HW0 := Lib.hid hW0
  have hbl := Lib.hid (fun k (hk : k ≤ N) => bs_at (k := k) hA (by omega))
  rw [hN] at hbl
  clear h hA hn0 hN hW0 hI0
  go_enter Try.func27, Try.ntmps27
  obtain ⟨sa, sc, sc0, -, -⟩ := (hKeep.out W0 HI0.out.fr).cell
  rw [HN.out] at sc0
  go_upto_region 2 with (fail)
  rw [HW0.out, HS.out]
  go_wp2_with fail
  refine (rMNum W0 n0 n0 ([], false) (N : Int) HI0.out.rk (by unfold okI; omega) HI0.out.sz).mono ?_
  rintro e w1 ⟨⟨v1, rfl⟩, hk1, hf1⟩
  have hI1 := HI0.out.put hk1 hf1 (by have := (numB_len (n := (N : Int)) (by unfold okI; omega)).2; simp; omega)
  have HI1 := Lib.hid hI1
  clear hk1 hf1 hI1 sc0
  go_wp2_with fail
  go_loopw [4] (fun i wr => ∃ k : Nat, k ≤ N ∧ i = .int .i64 k ∧ PaI w n0 (numB (N : Int) ++ (A.take k).flatMap rowB) wr) (fun i _ => N - (intOf i).toNat)
  case atStart => exact ⟨0, Nat.zero_le _, rfl, by simpa using HI1.out⟩
  case round =>
    obtain ⟨k, hk, rfl, hI⟩ := hrel
    have HI := Lib.hid hI
    obtain ⟨sa, sc, sc0, srow, -⟩ := (hKeep.out wr hI.fr).cell
    rw [HN.out] at sc0 srow
    clear hI HI1
    by_cases hlt : k < N
    · obtain ⟨p, hp⟩ : ∃ p, A[k]? = some p := ⟨A[k]'(by rw [HN.out]; exact hlt), List.getElem?_eq_getElem _⟩
      have hlI : (k : Int) < N := by omega
      obtain ⟨gp, rfl, hrc⟩ := row12 srow HN.out.symm hp
      have hgd := HA.out.good p (List.mem_of_getElem? hp)
      have hrk := HA.out.row p (List.mem_of_getElem? hp)
      have hnx : Hid ((A.take (k + 1)).flatMap rowB = (A.take k).flatMap rowB ++ rowB p) := Lib.hid (by rw [List.take_add_one, hp]; simp)
      obtain ⟨bs, hbs⟩ : ∃ bs, numB (N : Int) ++ (A.take k).flatMap rowB = bs := ⟨_, rfl⟩
      have hbsl : Hid (bs.length ≤ 9 + 124 * 64) := Lib.hid (by have := hbl.out k hk; rw [hbs] at this; omega)
      have hnx2 : Hid (numB (N : Int) ++ (A.take (k + 1)).flatMap rowB = bs ++ rowB p) := Lib.hid (by rw [hnx.out, ← List.append_assoc, hbs])
      rw [hbs] at HI
      obtain ⟨gd, R⟩ := p
      dsimp only at hgd hrk
      have hgl := goodB_len hgd
      have htl := textB_len hgl
      have HTL := Lib.hid htl; have HRK := Lib.hid hrk; have HGL2 := Lib.hid hgl
      have y0 := hrc 0 (vS gd) rfl
      have y1 := hrc 1 (.int .i64 R.free) rfl
      have y2 := hrc 2 (.int .i64 R.held) rfl
      have y3 := hrc 3 (.int .i64 R.picked) rfl
      have y4 := hrc 4 (.int .i64 R.aside) rfl
      have y5 := hrc 5 (.int .i64 R.received) rfl
      have y6 := hrc 6 (.int .i64 R.returned) rfl
      have y7 := hrc 7 (.int .i64 R.counted) rfl
      have y8 := hrc 8 (.int .i64 R.came) rfl
      have y9 := hrc 9 (.int .i64 R.shipped) rfl
      have y10 := hrc 10 (.int .i64 R.scrapped) rfl
      have y11 := hrc 11 (.int .i64 R.sent) rfl
      rw [Nat.add_zero] at y0
      clear hrc srow hp hbs hgd hrk hgl htl
      go_upto_region 7 with (fail)
      obtain ⟨rb, hrb⟩ : ∃ rb, wr.heap.size = rb := ⟨_, rfl⟩
      obtain ⟨W2, hW2⟩ : ∃ W2, wr.alloc (.cells #[vS gd, .int .i64 R.free, .int .i64 R.held, .int .i64 R.picked, .int .i64 R.aside, .int .i64 R.received, .int .i64 R.returned, .int .i64 R.counted, .int .i64 R.came, .int .i64 R.shipped, .int .i64 R.scrapped, .int .i64 R.sent] 96) = W2 := ⟨_, rfl⟩
      have hI2 : PaI w n0 bs W2 := by rw [← hW2]; exact HI.out.keep ((Fr.refl _ _).alloc _)
      have hR2 : W2.heap[rb]? = some (.cells (rowV gd R) 96) := by rw [← hW2, ← hrb]; exact heap_new _ _
      rw [hW2, hrb]
      have hrn : Hid (n0 < rb) := Lib.hid (by have := HI.out.rk.lt; omega)
      have HI2 := Lib.hid hI2; have HR2 := Lib.hid hR2
      have x0 := cell_obj hR2 0 (vS gd) rfl
      clear hW2 hrb hI2 hR2 y0 y1 y2 y3 y4 y5 y6 y7 y8 y9 y10 y11 sc0
      go_wp2_with (go_at_call 63; refine (rMText W2 n0 n0 (bs, false) gd HI2.out.rk (by have := HGL2.out; omega) HI2.out.sz).mono ?_; rintro e w3 ⟨⟨v3, rfl⟩, hk3, hf3⟩; have HI3 := Lib.hid (HI2.out.put hk3 hf3 (by have := HTL.out; have := hbsl.out; omega)); have hR3 := hf3.at_ HR2.out (by have := hrn.out; omega); have HR3 := Lib.hid hR3; have x0 := cell_obj hR3 0 (vS gd) rfl; have x1 := cell_obj hR3 1 (.int .i64 R.free) rfl; have x2 := cell_obj hR3 2 (.int .i64 R.held) rfl; have x3 := cell_obj hR3 3 (.int .i64 R.picked) rfl; have x4 := cell_obj hR3 4 (.int .i64 R.aside) rfl; have x5 := cell_obj hR3 5 (.int .i64 R.received) rfl; have x6 := cell_obj hR3 6 (.int .i64 R.returned) rfl; have x7 := cell_obj hR3 7 (.int .i64 R.counted) rfl; have x8 := cell_obj hR3 8 (.int .i64 R.came) rfl; have x9 := cell_obj hR3 9 (.int .i64 R.shipped) rfl; have x10 := cell_obj hR3 10 (.int .i64 R.scrapped) rfl; have x11 := cell_obj hR3 11 (.int .i64 R.sent) rfl; clear hk3 hf3 hR3)
      obtain ⟨lb, hlb⟩ : ∃ lb, w3.heap.size = lb := ⟨_, rfl⟩
      obtain ⟨W4, hW4⟩ : ∃ W4, w3.alloc (.cells #[.int .i64 R.free, .int .i64 R.held, .int .i64 R.picked, .int .i64 R.aside, .int .i64 R.received, .int .i64 R.returned, .int .i64 R.counted, .int .i64 R.came, .int .i64 R.shipped, .int .i64 R.scrapped, .int .i64 R.sent] 3) = W4 := ⟨_, rfl⟩
      have hI4 : PaI w n0 (bs ++ textB gd) W4 := by rw [← hW4]; exact HI3.out.keep ((Fr.refl _ _).alloc _)
      have hL4 : W4.heap[lb]? = some (.cells R.cs 3) := by rw [← hW4, ← hlb]; exact heap_new _ _
      have hln : Hid (n0 < lb) := Lib.hid (by have := HI3.out.rk.lt; omega)
      rw [hW4, hlb]
      have HI4 := Lib.hid hI4; have HL4 := Lib.hid hL4
      clear hW4 hlb hI4 hL4 x0 x1 x2 x3 x4 x5 x6 x7 x8 x9 x10 x11
      go_loopw [7] (fun i wq => ∃ j : Nat, j ≤ 11 ∧ i = .int .i64 j ∧ PaI w n0 (bs ++ textB gd ++ numsB R j) wq ∧ wq.heap[lb]? = some (.cells R.cs 3)) (fun i _ => 11 - (intOf i).toNat)
      case atStart => exact ⟨0, Nat.zero_le _, rfl, by simpa [numsB] using HI4.out, HL4.out⟩
      case round =>
        obtain ⟨j, hj, rfl, hIj, hLj⟩ := hrel
        by_cases hlj : j < 11
        · have hlJ : (j : Int) < 11 := by omega
          have hc := cell_obj hLj j _ (R.cs_get hlj)
          have hnum := Lib.hid (rMNum wr n0 n0 _ (R.get j) hIj.rk (HRK.out.get j) hIj.sz)
          obtain ⟨q, hq⟩ : ∃ q, R.get j = q := ⟨_, rfl⟩
          have hns : Hid (bs ++ textB gd ++ numsB R (j + 1) = bs ++ textB gd ++ numsB R j ++ numB q) := Lib.hid (by rw [numsB_succ, hq, ← List.append_assoc])
          have hql : Hid ((numB q).length ≤ 9) := Lib.hid (by have := (numB_len (HRK.out.get j)).2; rw [hq] at this; exact this)
          have hnl : Hid ((numsB R j).length ≤ 9 * 11) := Lib.hid (by have := numsB_len HRK.out j; omega)
          rw [hq] at hc hnum
          have HIj := Lib.hid hIj; have HLj := Lib.hid hLj
          clear hIj hLj hq
          go_wp2_with (go_at_call 62; refine hnum.out.mono ?_; rintro e w5 ⟨⟨v5, rfl⟩, hk5, hf5⟩; have HI5 := Lib.hid (HIj.out.put hk5 hf5 (by have := HTL.out; have := hbsl.out; have := hql.out; have := hnl.out; simp only [List.length_append]; omega)); have HL5 := Lib.hid (hf5.at_ HLj.out (by have := hln.out; omega)); clear hk5 hf5)
          go_roundw
          case rel => exact ⟨j + 1, by omega, by go_num, by rw [hns.out]; exact HI5.out, HL5.out⟩
          case measure => simp [intOf]; omega
        · obtain rfl : j = 11 := by omega
          have HI5 := Lib.hid hIj
          clear hIj hLj
          go_wp2_with fail
          go_roundw
          case rel => exact ⟨k + 1, by omega, by go_num, by rw [hnx2.out]; have := HI5.out; rw [List.append_assoc] at this; exact this⟩
          case measure => simp [intOf]; omega
    · obtain rfl : k = N := by omega
      have hfull : Hid (numB (k : Int) ++ (A.take k).flatMap rowB = packS A) := Lib.hid (by unfold packS; rw [HN.out, List.take_of_length_le (by rw [HN.out]; exact Nat.le_refl _)])
      rw [hfull.out] at HI
      obtain ⟨⟨v, h1, h2, h3⟩, -, -⟩ := HI.out.rk
      obtain ⟨a, c, rfl⟩ := row_sl h2
      dsimp only at h1 h2
      obtain ⟨pl, hpl⟩ : ∃ pl, (packS A).length = pl := ⟨_, rfl⟩
      rw [hpl] at h1 h2
      have m0 := cell_obj h1 0 (.slice a pl c) rfl
      have H2 := Lib.hid h2; have HPL := Lib.hid hpl
      clear h1 h2 h3 srow hpl
      go_wp2_with fail
      go_ret
      exact ⟨_, rfl, by rw [HPL.out]; have := H2.out; rw [← HS.out] at this; exact this, HI.out.fr.mono (fun b hb e => by have := HS.out; omega)⟩
end Go.Proofs.Ytclgmnobockfnaa
