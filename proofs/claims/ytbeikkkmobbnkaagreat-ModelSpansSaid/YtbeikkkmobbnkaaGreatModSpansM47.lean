/- entrepotref25.Span (written by wip/tools/md26.py). -/
import Derived.Test.YtbeikkkmobbnkaaGreatModSpansM38
namespace Go.Proofs.YtbeikkkmobbnkaaGreat
open Go.RowKit Go.Maps
theorem any_take {α : Type} {p : α → Bool} {L : List α} {k : Nat} {a : α} (h : L[k]? = some a) : (L.take (k + 1)).any p = ((L.take k).any p || p a) := by
  rw [List.take_add_one, h, List.any_append]
  simp
theorem frd {S : Nat → Prop} {w w' : World} (h : Fr S w w') : Fr S w w'.drew := h.drew
set_option maxRecDepth 100000 in
set_option maxHeartbeats 40000000 in
theorem r25Span (w : World) (kind : Int) (gd : Str) (v vy : Value) (L : List AV) (Y : List YV) (h : Al w v L) (hl : L.length ≤ 1000) (hy : Yl w vy Y) : Calls Tryz.prog 10 #[.int .i64 kind, vS gd, v, vy] w fun e w' =>
    e = .returned (.agg #[.int .i64 (wrap64 (spanT (leastG kind gd L Y) (rightL L) (rightL L).length)), .int .i64 (wrap64 (spanT (mostG kind gd L Y) (rightL L) (rightL L).length))]) ∧ Fr (fun _ => False) w w' := by
  obtain ⟨n0, hn0⟩ : ∃ n0, w.heap.size = n0 := ⟨_, rfl⟩
  obtain ⟨W1, hW1⟩ : ∃ W1, (w.alloc (.cells #[.int .i64 0, .int .i64 0] 27)).alloc (.cells #[.int .i64 0, .int .i64 0] 27) = W1 := ⟨_, rfl⟩
  have hF1 : Fr (fun _ => False) w W1 := by rw [← hW1]; exact ((Fr.refl _ w).alloc _).alloc _
  have hb0 : W1.heap[n0]? = some (.cells #[.int .i64 0, .int .i64 0] 27) := by rw [← hW1]; exact heap_keep (heap_at hn0.symm _) _
  have hb1 : W1.heap[n0 + 1]? = some (.cells #[.int .i64 0, .int .i64 0] 27) := by rw [← hW1]; exact heap_at (by simp; omega) _
  have hs1 : W1.heap.size = n0 + 2 := by rw [← hW1]; simp; omega
  have hRr := Lib.hid (r25Right W1 v L (h.fr0 aokKeeps hF1) hl)
  have HL := Lib.hid h; have HY := Lib.hid hy; have HLL := Lib.hid hl
  have hokR : Hid (∀ p ∈ rightL L, AOk w p ∧ p.may = true) := Lib.hid (fun p hp => ⟨h.okm (List.mem_filter.1 hp).1, (List.mem_filter.1 hp).2⟩)
  obtain ⟨va, vc, rfl⟩ := h.sl
  obtain ⟨ya, yc, rfl⟩ := hy.sl
  obtain ⟨N, hN⟩ : ∃ N, L.length = N := ⟨_, rfl⟩
  obtain ⟨K, hK⟩ : ∃ K, Y.length = K := ⟨_, rfl⟩
  rw [hN] at HL hRr ⊢
  rw [hK] at HY ⊢
  have hSt : Hid (∀ W c n, Fr (fun b => w.heap.size ≤ b) w W → Calls Tryz.prog 17 #[.int .i64 c, .int .i64 n, .slice ya K yc] W fun e w' => e = .returned (.int .i64 (stF c n Y)) ∧ Fr (fun _ => False) W w') := Lib.hid (fun W c n hf => r25State W c n _ Y (HY.out.fr yokKeeps hf (fun b hb => hb)))
  have hGp : Hid (∀ W c n, Fr (fun b => w.heap.size ≤ b) w W → Calls Tryz.prog 27 #[.int .i64 c, .int .i64 n, .slice va N vc] W fun e w' => ∃ v', e = .returned v' ∧ w'.ownsRow W.heap.size 50 9 v' (grpL c n L).length (flat AV.cs (grpL c n L)) ∧ Fr (fun _ => False) W w') := Lib.hid (fun W c n hf => r25Group W c n _ L (HL.out.fr aokKeeps hf (fun b hb => hb)) HLL.out)
  have hPl : Hid (∀ W c n, Fr (fun b => w.heap.size ≤ b) w W → Calls Tryz.prog 15 #[.int .i64 c, .int .i64 n, .slice va N vc] W fun e w' => e = .returned (.bool (plainL (grpL c n L))) ∧ Fr (fun _ => False) W w') := Lib.hid (fun W c n hf => r25Plain W c n _ L (HL.out.fr aokKeeps hf (fun b hb => hb)) HLL.out)
  have hMv : Hid (∀ W P, AOk W P → P.may = true → Fr (fun b => w.heap.size ≤ b) w W → Calls Tryz.prog 28 #[.agg P.cs, .int .i64 kind, vS gd, .slice va N vc] W fun e w' => e = .returned (.int .i64 (movF P kind gd L)) ∧ Fr (fun _ => False) W w') := Lib.hid (fun W P hp hm hf => r25moves W P kind gd _ L hp hm (HL.out.fr aokKeeps hf (fun b hb => hb)))
  obtain ⟨fL, hfL⟩ : ∃ f, leastG kind gd L Y = f := ⟨_, rfl⟩
  obtain ⟨fM, hfM⟩ : ∃ f, mostG kind gd L Y = f := ⟨_, rfl⟩
  rw [hfL, hfM]
  have HfL := Lib.hid hfL; have HfM := Lib.hid hfM
  have HS := Lib.hid hn0; have HF1 := Lib.hid hF1; have HB0 := Lib.hid hb0; have HB1 := Lib.hid hb1; have HS1 := Lib.hid hs1
  obtain ⟨R, hR⟩ : ∃ R, rightL L = R := ⟨_, rfl⟩
  rw [hR] at hRr hokR ⊢
  have HR := Lib.hid hR
  obtain ⟨NR, hNR⟩ : ∃ n, R.length = n := ⟨_, rfl⟩
  rw [hNR] at hRr ⊢
  have HNR := Lib.hid hNR
  have hNI : (NR : Int) ≤ 1000 := by have := rightL_len L L.length; rw [List.take_length, hR] at this; omega
  have HW1 := Lib.hid hW1
  clear h hl hy hN hK hfL hfM hF1 hb0 hb1 hs1 hW1 hR hNR
  go_enter Tryz.func10, Tryz.ntmps10
  go_wp2_with (go_at_call 26; (try rw [hn0]); rw [HW1.out]; refine hRr.out.mono ?_; rintro e w2 ⟨v2, rfl, ho2, hf2⟩; obtain ⟨ra, rc, rfl⟩ := row_sl ho2; have HO2 := Lib.hid ho2; have HF2 := Lib.hid hf2; clear ho2 hf2)
  have hA2 : Hid (Al w2 (.slice ra NR rc) R) := Lib.hid (by have := Al.own (L := R) (by rw [HNR.out]; exact HO2.out) (fun p hp => aokKeeps (hokR.out p hp).1 (HF1.out.trans HF2.out) (fun _ h => h.elim)); exact this)
  have hlt2 : Hid (n0 + 1 < w2.heap.size) := Lib.hid (by have := HF2.out.size; have := HS1.out; omega)
  have hown2 : Hid (∀ b, (Value.slice ra NR rc).ownBlock = some b → b ≠ n0 + 1) := Lib.hid (fun b hb => by have := (HO2.out.lt b hb).1; have := HS1.out; omega)
  go_loopw [11] (fun i wr => ∃ k : Nat, k ≤ NR ∧ i = .int .i64 k ∧ wr.heap[n0 + 1]? = some (.cells #[.int .i64 (wrap64 (spanT fL R k)), .int .i64 (wrap64 (spanT fM R k))] 27) ∧ Fr (fun b => b = n0 + 1) w2 wr) (fun i _ => NR - (intOf i).toNat)
  case atStart =>
    refine ⟨0, Nat.zero_le _, rfl, ?_, Fr.refl _ _⟩
    show w2.heap[n0 + 1]? = some (.cells #[.int .i64 (wrap64 0), .int .i64 (wrap64 0)] 27)
    rw [wrap_zero]
    exact HF2.out.at_ HB1.out (fun h => h)
  case round =>
    obtain ⟨k, hk, rfl, hbx, hfr⟩ := hrel
    have HBX := Lib.hid hbx; have HFR := Lib.hid hfr
    have hFw : Hid (Fr (fun b => w.heap.size ≤ b) w wr) := Lib.hid (((HF1.out.trans HF2.out).mono (fun _ _ e => e.elim)).trans' hfr (fun b _ e => by have := HS.out; omega))
    obtain ⟨wo, hwo⟩ : ∃ wo : World, wo = wr := ⟨_, rfl⟩
    rw [← hwo] at HBX HFR hFw ⊢
    clear hbx hfr hwo
    by_cases hlt : k < NR
    · obtain ⟨p, hp⟩ : ∃ p, R[k]? = some p := ⟨R[k]'(by rw [HNR.out]; exact hlt), List.getElem?_eq_getElem _⟩
      have hkI : (k : Int) < NR := by omega
      have hmyP : Hid (p.may = true) := Lib.hid (hokR.out p (List.mem_of_getElem? hp)).2
      have hAo : Hid (Al wo (.slice ra NR rc) R) := Lib.hid (by
        refine ⟨hA2.out.1, ra, rc, by rw [HNR.out], fun i r hr => ?_⟩
        obtain ⟨_, a', c', e, hx⟩ := hA2.out
        injection e with e1
        obtain ⟨_, ad, e2, hc⟩ := hx i r hr
        refine ⟨aokKeeps (hokR.out r (List.mem_of_getElem? hr)).1 hFw.out (fun b hb => hb), ad, e1.trans e2, fun j u hu => HFR.out.cell (hc j u hu) (fun e3 => hown2.out ad.block (by rw [e1, e2]; rfl) (by rw [add_block] at e3; exact e3))⟩)
      obtain ⟨ad, rfl, hok, z0, zs⟩ := (hAo.out).at_ hp
      have HOK := Lib.hid hok
      have hone := avOne hok
      obtain ⟨la, lc, hl⟩ := hok.l.sl
      obtain ⟨P, hP⟩ : ∃ P : AV, P = p := ⟨_, rfl⟩
      rw [← hP] at hp HOK hone hmyP
      obtain ⟨c, n, kd, o, r, t, m, g, l, its⟩ := p
      dsimp only at hl
      subst hl
      have x0 := z0 (.int .i64 c) rfl
      have x1 := zs 0 (.int .i64 n) rfl
      have x2 := zs 1 (.int .i64 kd) rfl
      have x3 := zs 2 (.int .i64 o) rfl
      have x4 := zs 3 (.int .i64 r) rfl
      have x5 := zs 4 (.int .i64 t) rfl
      have x6 := zs 5 (.int .i64 m) rfl
      have x7 := zs 6 (vS g) rfl
      have x8 := zs 7 (.slice la its.length lc) rfl
      dsimp only [Nat.zero_add, Nat.reduceAdd] at x0 x1 x2 x3 x4 x5 x6 x7 x8
      have hcs : P.cs = #[.int .i64 c, .int .i64 n, .int .i64 kd, .int .i64 o, .int .i64 r, .int .i64 t, .int .i64 m, vS g, .slice la its.length lc] := by rw [hP]; rfl
      have hPc : P.c = c := by rw [hP]
      have hPn : P.n = n := by rw [hP]
      have hPk : P.k = kd := by rw [hP]
      have hPo : P.o = o := by rw [hP]
      have hPi : P.its = its := by rw [hP]
      have hPg : P.g = g := by rw [hP]
      have hPl : P.l = .slice la its.length lc := by rw [hP]
      obtain ⟨M, hM⟩ : ∃ M, its.length = M := ⟨_, rfl⟩
      rw [hM] at x8 hcs hPl
      rw [hcs] at hone
      have HP := Lib.hid hp
      have HCS := Lib.hid hcs
      have HONE := Lib.hid hone
      have HPC := Lib.hid hPc
      have HPN := Lib.hid hPn
      have HPK := Lib.hid hPk
      have HPO := Lib.hid hPo
      have HPI := Lib.hid hPi
      have HPG := Lib.hid hPg
      have HPL := Lib.hid hPl
      have HM := Lib.hid hM
      clear hp hok hone z0 zs hP hcs hPc hPn hPk hPo hPi hPg hPl hM
      have hcK : Hid (∀ W : World, Fr (fun _ => False) wo W → W.cell? (ad.add (k * 9)) = some (.int .i64 c) ∧ W.cell? ⟨(ad.add (k * 9)).block, (ad.add (k * 9)).off + 1, none⟩ = some (.int .i64 n)) := Lib.hid (fun W hf => ⟨hf.cell x0 (fun h => h), hf.cell x1 (fun h => h)⟩)
      clear x0 x1 x2 x3 x4 x5 x6 x7 x8
      go_wp2_with fail
      go_loopw [12, 13] (fun fst kk wr => ∃ q : Nat, q ≤ k ∧ kk = .int .i64 q ∧ fst = .bool (!(R.take q).any (isG c n)) ∧ Fr (fun _ => False) wo wr) (fun _ kk _ => k - (intOf kk).toNat)
      case atStart => exact ⟨0, Nat.zero_le _, rfl, rfl, Fr.refl _ _⟩
      case round =>
        obtain ⟨q, hq, rfl, rfl, hfr⟩ := hrel
        have HFQ := Lib.hid hfr
        by_cases hqk : q < k
        · obtain ⟨p9, hp9⟩ : ∃ p9, R[q]? = some p9 := ⟨R[q]'(by rw [HNR.out]; omega), List.getElem?_eq_getElem _⟩
          have hqI : (q : Int) < k := by omega
          have hqN : (q : Int) < NR := by omega
          have HT := Lib.hid (any_take (p := isG c n) hp9)
          obtain ⟨T, hT⟩ : ∃ T, (R.take q).any (isG c n) = T := ⟨_, rfl⟩
          rw [hT] at HT ⊢
          have hcQ : ∃ ad9, some ad = some ad9 ∧ wr.cell? (ad9.add (q * 9)) = some (.int .i64 p9.c) ∧ wr.cell? ⟨(ad9.add (q * 9)).block, (ad9.add (q * 9)).off + 1, none⟩ = some (.int .i64 p9.n) := by
            obtain ⟨ad9, e, _, z0, zs⟩ := (hAo.out.fr0 aokKeeps hfr).at_ hp9
            exact ⟨ad9, e, z0 _ rfl, zs 0 _ rfl⟩
          obtain ⟨ad9, e9, u0, u1⟩ := hcQ
          obtain rfl : ad = ad9 := by injection e9
          obtain ⟨t0, t1⟩ := hcK.out wr hfr
          have y0 := FrW.cell u0; have y1 := FrW.cell u1; have y2 := FrW.cell t0; have y3 := FrW.cell t1
          have hisG : Hid (isG c n p9 = (decide (p9.c = c) && decide (p9.n = n))) := Lib.hid rfl
          obtain ⟨c9, hc9⟩ : ∃ c9, p9.c = c9 := ⟨_, rfl⟩
          obtain ⟨n9, hn9⟩ : ∃ n9, p9.n = n9 := ⟨_, rfl⟩
          rw [hc9] at y0 hisG
          rw [hn9] at y1 hisG
          clear hT hfr e9 u0 u1 t0 t1 hc9 hn9 hp9
          by_cases hcc : c9 = c
          · have b1 : (c9 == c) = true := by simpa using hcc
            by_cases hnn : n9 = n
            · have b2 : (n9 == n) = true := by simpa using hnn
              have hres : Hid ((R.take (q + 1)).any (isG c n) = true) := Lib.hid (by rw [HT.out, hisG.out]; simp [hcc, hnn])
              clear hcc hnn
              go_wp2_with fail
              refine wp_region_fr (by kernel_rfl) (by kernel_rfl) ?_
              repeat (go_big_quiet_step (fail))
              refine wpQuiet_nil ?_
              rintro _ ⟨⟨V, hV⟩, rfl⟩
              go_wp2_with fail
              go_roundw
              case rel => exact ⟨q + 1, by omega, by go_num, by rw [hres.out]; rfl, HFQ.out.trans hV⟩
              case measure => simp [intOf]; omega
            · have b2 : (n9 == n) = false := by simpa using hnn
              have hres : Hid ((R.take (q + 1)).any (isG c n) = T) := Lib.hid (by rw [HT.out, hisG.out]; simp [hnn])
              clear hcc hnn
              go_wp2_with fail
              refine wp_region_fr (by kernel_rfl) (by kernel_rfl) ?_
              repeat (go_big_quiet_step (fail))
              refine wpQuiet_nil ?_
              rintro _ ⟨⟨V, hV⟩, rfl⟩
              go_wp2_with fail
              go_roundw
              case rel => exact ⟨q + 1, by omega, by go_num, by rw [hres.out], HFQ.out.trans hV⟩
              case measure => simp [intOf]; omega
          · have b1 : (c9 == c) = false := by simpa using hcc
            have hres : Hid ((R.take (q + 1)).any (isG c n) = T) := Lib.hid (by rw [HT.out, hisG.out]; simp [hcc])
            clear hcc
            go_wp2_with fail
            refine wp_region_fr (by kernel_rfl) (by kernel_rfl) ?_
            repeat (go_big_quiet_step (fail))
            refine wpQuiet_nil ?_
            rintro _ ⟨⟨V, hV⟩, rfl⟩
            go_wp2_with fail
            go_roundw
            case rel => exact ⟨q + 1, by omega, by go_num, by rw [hres.out], HFQ.out.trans hV⟩
            case measure => simp [intOf]; omega
        · obtain rfl : q = k := by omega
          have hqn : ¬ (q : Int) < q := by omega
          cases hB : (R.take q).any (isG c n) with
          | true =>
            have hsk : Hid (spanT fL R (q + 1) = spanT fL R q ∧ spanT fM R (q + 1) = spanT fM R q) := Lib.hid ⟨spanT_no HP.out (by rw [HPC.out, HPN.out]; exact hB), spanT_no HP.out (by rw [HPC.out, HPN.out]; exact hB)⟩
            clear hB hfr
            go_wp2_with fail
            go_roundw
            case rel => exact ⟨q + 1, by omega, by go_num, by rw [hsk.out.1, hsk.out.2]; exact HFQ.out.at_ HBX.out (fun h => h), HFR.out.trans' HFQ.out (fun _ _ e => e.elim)⟩
            case measure => simp [intOf]; omega
          | false =>
            have hyL : Hid (spanT fL R (q + 1) = spanT fL R q + fL c n) := Lib.hid (by have := spanT_yes (f := fL) HP.out (by rw [HPC.out, HPN.out]; exact hB); rw [HPC.out, HPN.out] at this; exact this)
            have hyM : Hid (spanT fM R (q + 1) = spanT fM R q + fM c n) := Lib.hid (by have := spanT_yes (f := fM) HP.out (by rw [HPC.out, HPN.out]; exact hB); rw [HPC.out, HPN.out] at this; exact this)
            obtain ⟨G, hG0⟩ : ∃ G, grpL c n L = G := ⟨_, rfl⟩
            obtain ⟨M, hM⟩ : ∃ M, G.length = M := ⟨_, rfl⟩
            obtain ⟨ST, hST⟩ : ∃ s, stF c n Y = s := ⟨_, rfl⟩
            obtain ⟨PL, hPL⟩ : ∃ b, plainL G = b := ⟨_, rfl⟩
            obtain ⟨MX, hMX⟩ : ∃ m, mxF kind gd L G = m := ⟨_, rfl⟩
            obtain ⟨MV, hMV⟩ : ∃ m, headM kind gd L G = m := ⟨_, rfl⟩
            obtain ⟨BB, hBB⟩ : ∃ b, (decide (ST = 1) && PL) = b := ⟨_, rfl⟩
            have hfLx : Hid (fL c n = if BB = true then MV else 0) := Lib.hid (by rw [← HfL.out, ← hBB]; unfold leastG; rw [hST, hG0, hPL, hMV]; congr 1; simp)
            have hfMx : Hid (fM c n = if ST = 2 then 0 else MX) := Lib.hid (by rw [← HfM.out]; unfold mostG; rw [hST, hG0, hMX])
            obtain ⟨SA, hSA⟩ : ∃ s, spanT fL R q = s := ⟨_, rfl⟩
            obtain ⟨SB, hSB⟩ : ∃ s, spanT fM R q = s := ⟨_, rfl⟩
            rw [hSA] at hyL
            rw [hSB] at hyM
            obtain ⟨A, hA⟩ : ∃ a, wrap64 SA = a := ⟨_, rfl⟩
            obtain ⟨B, hB2⟩ : ∃ a, wrap64 SB = a := ⟨_, rfl⟩
            have hbx0 : wo.heap[n0 + 1]? = some (.cells #[.int .i64 A, .int .i64 B] 27) := by rw [← hA, ← hB2, ← hSA, ← hSB]; exact HBX.out
            have hGm : Hid (∀ p ∈ G, p.may = true ∧ AOk wo p) := Lib.hid (fun p hp => by rw [← hG0] at hp; obtain ⟨q1, q2, q3⟩ := grp_may hp; exact ⟨q1, aokKeeps (hokR.out p (by rw [← HR.out]; exact List.mem_filter.2 ⟨q3, q1⟩)).1 hFw.out (fun b hb => hb)⟩)
            have hGne : Hid (∃ p9, G[0]? = some p9) := Lib.hid (by
              have hm : P ∈ G := by
                rw [← hG0]
                exact List.mem_filter.2 ⟨by rw [HR.out]; exact List.mem_of_getElem? HP.out, by rw [← HPC.out, ← HPN.out]; exact isG_iff.2 ⟨rfl, rfl⟩⟩
              cases G with
              | nil => cases hm
              | cons a r => exact ⟨a, rfl⟩)
            have hStC : Hid (∀ W, Fr (fun _ => False) wo W → Calls Tryz.prog 17 #[.int .i64 c, .int .i64 n, .slice ya K yc] W fun e w' => e = .returned (.int .i64 ST) ∧ Fr (fun _ => False) W w') := Lib.hid (fun W hf => by
              have := hSt.out W c n (hFw.out.trans' hf (fun _ _ e => e.elim))
              rw [hST] at this; exact this)
            have hPlC : Hid (∀ W, Fr (fun _ => False) wo W → Calls Tryz.prog 15 #[.int .i64 c, .int .i64 n, .slice va N vc] W fun e w' => e = .returned (.bool PL) ∧ Fr (fun _ => False) W w') := Lib.hid (fun W hf => by
              have := hPl.out W c n (hFw.out.trans' hf (fun _ _ e => e.elim))
              rw [hG0, hPL] at this; exact this)
            have hGpC : Hid (∀ W, Fr (fun _ => False) wo W → Calls Tryz.prog 27 #[.int .i64 c, .int .i64 n, .slice va N vc] W fun e w' => ∃ ga gc, e = .returned (.slice ga M gc) ∧ Al w' (.slice ga M gc) G ∧ (∀ b, (Value.slice ga M gc).ownBlock = some b → b ≠ n0 + 1) ∧ Fr (fun _ => False) W w') := Lib.hid (fun W hf => by
              refine (hGp.out W c n (hFw.out.trans' hf (fun _ _ e => e.elim))).mono ?_
              rintro e w6 ⟨v6, rfl, ho6, hf6⟩
              rw [hG0, hM] at ho6
              obtain ⟨ga, gc, rfl⟩ := row_sl ho6
              exact ⟨ga, gc, rfl, Al.own (by rw [hM]; exact ho6) (fun p hp => aokKeeps (hGm.out p hp).2 (hf.trans hf6) (fun _ h => h.elim)), fun b hb => by have h1 := (ho6.lt b hb).1; have h2 := hf.size; have h3 := (Array.getElem?_eq_some_iff.1 HBX.out).1; omega, hf6⟩)
            have hMvC : Hid (∀ W P, P ∈ G → Fr (fun b => b = n0 + 1) wo W → Calls Tryz.prog 28 #[.agg P.cs, .int .i64 kind, vS gd, .slice va N vc] W fun e w' => e = .returned (.int .i64 (movF P kind gd L)) ∧ Fr (fun _ => False) W w') := Lib.hid (fun W P hp hf => by
              have hw : Fr (fun b => w.heap.size ≤ b) w W := hFw.out.trans' hf (fun b _ e => by have := HS.out; omega)
              have hpw : AOk w P := by
                have := hGm.out P hp
                rw [← hG0] at hp
                obtain ⟨q1, q2, q3⟩ := grp_may hp
                exact (hokR.out P (by rw [← HR.out]; exact List.mem_filter.2 ⟨q3, q1⟩)).1
              exact hMv.out W P (aokKeeps hpw hw (fun b hb => hb)) (hGm.out P hp).1 hw)
            have hGok : Hid (∀ p ∈ G, ∀ W, Fr (fun b => b = n0 + 1) wo W → AOk W p) := Lib.hid (fun p hp W hf => by
              have hw : Fr (fun b => w.heap.size ≤ b) w W := hFw.out.trans' hf (fun b _ e => by have := HS.out; omega)
              rw [← hG0] at hp
              obtain ⟨q1, q2, q3⟩ := grp_may hp
              exact aokKeeps (hokR.out p (by rw [← HR.out]; exact List.mem_filter.2 ⟨q3, q1⟩)).1 hw (fun b hb => hb))
            have hMI : (M : Int) ≤ 1000 := by
              have h1 : G.length ≤ R.length := by rw [← hG0, ← HR.out]; exact List.length_filter_le _ _
              have := HNR.out
              omega
            have hA' : Hid (A = wrap64 SA) := Lib.hid hA.symm
            have hB' : Hid (B = wrap64 SB) := Lib.hid hB2.symm
            have HM := Lib.hid hM; have HMX := Lib.hid hMX; have HMV := Lib.hid hMV; have HBB := Lib.hid hBB; have HBX0 := Lib.hid hbx0
            obtain ⟨t0, t1⟩ := hcK.out wr hfr
            have y0 := FrW.cell t0; have y1 := FrW.cell t1
            clear hB hfr hG0 hM hST hPL hMX hMV hBB hSA hSB hA hB2 hbx0
            go_wp2_with fail
            refine wp_region_fr (by kernel_rfl) (by kernel_rfl) ?_
            repeat (go_big_quiet_step ((go_at_call 17; rename_i X; refine (hStC.out X.val (HFQ.out.trans X.fr)).mono ?_; rintro e w5 ⟨rfl, hF⟩; exact ⟨rfl, ⟨w5, X.fr.trans hF⟩, rfl⟩)))
            refine wpQuiet_nil ?_
            rintro _ ⟨⟨V, hV⟩, rfl⟩
            have HV := Lib.hid (HFQ.out.trans hV)
            clear hV y0 y1 t0 t1
            go_wp2_with fail
            go_cut [15] (fun sg wx => ∃ ga gc, sg = .slice ga M gc ∧ Al wx (.slice ga M gc) G ∧ (∀ b, (Value.slice ga M gc).ownBlock = some b → b ≠ n0 + 1) ∧ Fr (fun _ => False) wo wx)
            case first =>
              have hVd := HV.out.drew
              have HVd := Lib.hid hVd
              obtain ⟨t0, t1⟩ := hcK.out _ hVd
              clear hVd
              go_region_with ((go_at_call 27; refine (hGpC.out _ HVd.out).mono ?_; rintro e w6 ⟨ga, gc, rfl, hga6, hnb6, hf6⟩; have HGA6 := Lib.hid hga6; have HF6 := Lib.hid hf6; have HNB6 := Lib.hid hnb6; clear hga6 hf6 hnb6))
              all_goals
                go_wp2_with fail
                go_meet
                exact ⟨_, _, rfl, HGA6.out, HNB6.out, HVd.out.trans HF6.out⟩
            case rest =>
            obtain ⟨ga, gc, rfl, hGa, hnb, hw6⟩ := hcut
            have HGA := Lib.hid hGa; have HW6 := Lib.hid hw6
            have hAlK : Hid (∀ W W', Fr (fun b => b = n0 + 1) W W' → Fr (fun b => b = n0 + 1) wo W' → Al W (.slice ga M gc) G → Al W' (.slice ga M gc) G) := Lib.hid (fun W W' hf hfo hal => by
              obtain ⟨h0, a', c', e, hx⟩ := hal
              refine ⟨h0, a', c', e, fun i r hr => ?_⟩
              obtain ⟨_, ad', e2, hc⟩ := hx i r hr
              refine ⟨hGok.out r (List.mem_of_getElem? hr) W' hfo, ad', e2, fun j u hu => hf.cell (hc j u hu) (fun e3 => hnb ad'.block (by injection e with e1; rw [e1, e2]; rfl) (by rw [add_block] at e3; exact e3))⟩)
            clear hnb
            obtain ⟨t0, t1⟩ := hcK.out _ hw6
            have y0 := FrW.cell t0; have y1 := FrW.cell t1
            clear hGa hw6 t0 t1
            go_wp2_with fail
            go_cut [98] (fun s wx => s = .bool BB ∧ Al wx (.slice ga M gc) G ∧ Fr (fun _ => False) wo wx)
            case first =>
              by_cases h1 : ST = 1
              · have b1 : (ST == 1) = true := by simpa using h1
                have hbb : Hid (BB = PL) := Lib.hid (by rw [← HBB.out, h1]; rfl)
                clear h1
                refine wp_region_fr (by kernel_rfl) (by kernel_rfl) ?_
                repeat (go_big_quiet_step ((go_at_call 15; rename_i X; refine (hPlC.out X.val (HW6.out.trans X.fr)).mono ?_; rintro e w5 ⟨rfl, hF⟩; exact ⟨rfl, ⟨w5, X.fr.trans hF⟩, rfl⟩)))
                refine wpQuiet_nil ?_
                rintro _ ⟨⟨V2, hV2⟩, rfl⟩
                go_wp2_with fail
                go_meet
                exact ⟨by rw [hbb.out], HGA.out.fr0 aokKeeps hV2, HW6.out.trans hV2⟩
              · have b1 : (ST == 1) = false := by simpa using h1
                have hbb : Hid (BB = false) := Lib.hid (by rw [← HBB.out, decide_eq_false h1]; rfl)
                clear h1
                refine wp_region_fr (by kernel_rfl) (by kernel_rfl) ?_
                repeat (go_big_quiet_step (fail))
                refine wpQuiet_nil ?_
                rintro _ ⟨⟨V2, hV2⟩, rfl⟩
                go_wp2_with fail
                go_meet
                exact ⟨by rw [hbb.out], HGA.out.fr0 aokKeeps hV2, HW6.out.trans hV2⟩
            case rest =>
            obtain ⟨rfl, hGa, hw7⟩ := hcut
            have HGA2 := Lib.hid hGa; have HW7 := Lib.hid hw7
            clear hGa hw7 y0 y1
            go_upto_if 98 with (fail)
            go_cut [14] (fun s wx => s = .int .i64 ST ∧ wx.heap[n0 + 1]? = some (.cells #[.int .i64 (wrap64 (SA + if BB = true then MV else 0)), .int .i64 B] 27) ∧ Al wx (.slice ga M gc) G ∧ Fr (fun b => b = n0 + 1) wo wx)
            case first =>
              cases BB with
              | false =>
                go_wp2_with fail
                go_meet
                refine ⟨rfl, ?_, HGA2.out, HW7.out.mono (fun _ _ e => e.elim)⟩
                have := HW7.out.at_ HBX0.out (fun h => h)
                rw [hA'.out] at this
                simpa using this
              | true =>
                obtain ⟨p9, hp9⟩ := hGne.out
                have hl0n : 0 < M := by have := (List.getElem?_eq_some_iff.1 hp9).1; have := HM.out; omega
                have hl0 : (0 : Int) < (M : Int) := by omega
                have hMV9 : movF p9 kind gd L = MV := by
                  rw [← HMV.out]
                  cases G with
                  | nil => simp at hp9
                  | cons q r => simp at hp9; rw [← hp9]; rfl
                have hmem9 : p9 ∈ G := List.mem_of_getElem? hp9
                obtain ⟨ad9, rfl, hok9, z0, zs⟩ := (HGA2.out).at_ hp9
                have HOK9 := Lib.hid hok9
                have hone9 := avOne hok9
                obtain ⟨la9, lc9, hl9⟩ := hok9.l.sl
                obtain ⟨P9, hP9⟩ : ∃ P : AV, P = p9 := ⟨_, rfl⟩
                rw [← hP9] at hp9 HOK9 hone9 hMV9 hmem9
                obtain ⟨c9, n9, kd9, o9, r9, t9, m9, g9, l9, its9⟩ := p9
                dsimp only at hl9
                subst hl9
                have x09 := z0 (.int .i64 c9) rfl
                have x19 := zs 0 (.int .i64 n9) rfl
                have x29 := zs 1 (.int .i64 kd9) rfl
                have x39 := zs 2 (.int .i64 o9) rfl
                have x49 := zs 3 (.int .i64 r9) rfl
                have x59 := zs 4 (.int .i64 t9) rfl
                have x69 := zs 5 (.int .i64 m9) rfl
                have x79 := zs 6 (vS g9) rfl
                have x89 := zs 7 (.slice la9 its9.length lc9) rfl
                dsimp only [Nat.zero_add, Nat.reduceAdd] at x09 x19 x29 x39 x49 x59 x69 x79 x89
                have hcs9 : P9.cs = #[.int .i64 c9, .int .i64 n9, .int .i64 kd9, .int .i64 o9, .int .i64 r9, .int .i64 t9, .int .i64 m9, vS g9, .slice la9 its9.length lc9] := by rw [hP9]; rfl
                have hPc9 : P9.c = c9 := by rw [hP9]
                have hPn9 : P9.n = n9 := by rw [hP9]
                have hPk9 : P9.k = kd9 := by rw [hP9]
                have hPo9 : P9.o = o9 := by rw [hP9]
                have hPi9 : P9.its = its9 := by rw [hP9]
                have hPg9 : P9.g = g9 := by rw [hP9]
                have hPl9 : P9.l = .slice la9 its9.length lc9 := by rw [hP9]
                obtain ⟨M9, hM9⟩ : ∃ M, its9.length = M := ⟨_, rfl⟩
                rw [hM9] at x89 hcs9 hPl9
                rw [hcs9] at hone9
                have HP9 := Lib.hid hp9
                have HCS9 := Lib.hid hcs9
                have HONE9 := Lib.hid hone9
                have HPC9 := Lib.hid hPc9
                have HPN9 := Lib.hid hPn9
                have HPK9 := Lib.hid hPk9
                have HPO9 := Lib.hid hPo9
                have HPI9 := Lib.hid hPi9
                have HPG9 := Lib.hid hPg9
                have HPL9 := Lib.hid hPl9
                have HM9 := Lib.hid hM9
                clear hp9 hok9 hone9 z0 zs hP9 hcs9 hPc9 hPn9 hPk9 hPo9 hPi9 hPg9 hPl9 hM9
                have h00 : ad9.add (0 * 9) = ad9 := by obtain ⟨b, f, s⟩ := ad9; cases s <;> simp [Addr.add]
                rw [h00] at x09 x19 x29 x39 x49 x59 x69 x79 x89
                clear h00
                have hMv9 : Hid (∀ W, Fr (fun _ => False) wc W → Calls Tryz.prog 28 #[.agg #[.int .i64 c9, .int .i64 n9, .int .i64 kd9, .int .i64 o9, .int .i64 r9, .int .i64 t9, .int .i64 m9, vS g9, .slice la9 M9 lc9], .int .i64 kind, vS gd, .slice va N vc] W fun e w' => e = .returned (.int .i64 MV) ∧ Fr (fun _ => False) W w') := Lib.hid (fun W hf => by
                  have := hMvC.out W P9 hmem9 ((HW7.out.trans hf).mono (fun _ _ e => e.elim))
                  rw [HCS9.out, hMV9] at this; exact this)
                have hfacts : Hid (∀ W : World, Fr (fun _ => False) wc W → (W.cell? ad9 = some (.int .i64 c9) ∧ W.cell? ⟨ad9.block, ad9.off + 1, none⟩ = some (.int .i64 n9) ∧ W.cell? ⟨ad9.block, ad9.off + 2, none⟩ = some (.int .i64 kd9) ∧ W.cell? ⟨ad9.block, ad9.off + 3, none⟩ = some (.int .i64 o9) ∧ W.cell? ⟨ad9.block, ad9.off + 4, none⟩ = some (.int .i64 r9) ∧ W.cell? ⟨ad9.block, ad9.off + 5, none⟩ = some (.int .i64 t9) ∧ W.cell? ⟨ad9.block, ad9.off + 6, none⟩ = some (.int .i64 m9) ∧ W.cell? ⟨ad9.block, ad9.off + 7, none⟩ = some (vS g9) ∧ W.cell? ⟨ad9.block, ad9.off + 8, none⟩ = some (.slice la9 M9 lc9)) ∧ W.cell? ⟨n0 + 1, 0, none⟩ = some (.int .i64 A) ∧ W.frozen? ⟨n0 + 1, 0, none⟩ = false ∧ W.heap[n0 + 1]? = some (.cells #[.int .i64 A, .int .i64 B] 27)) := Lib.hid (fun W hf => by
                  have hbx := (HW7.out.trans hf).at_ HBX0.out (fun h => h)
                  exact ⟨⟨hf.cell x09 (fun h => h), hf.cell x19 (fun h => h), hf.cell x29 (fun h => h), hf.cell x39 (fun h => h), hf.cell x49 (fun h => h), hf.cell x59 (fun h => h), hf.cell x69 (fun h => h), hf.cell x79 (fun h => h), hf.cell x89 (fun h => h)⟩, cell_obj hbx 0 _ rfl, obj_frozen hbx 0, hbx⟩)
                clear x09 x19 x29 x39 x49 x59 x69 x79 x89 hMV9 hmem9
                have hX : Hid (Fr (fun _ => False) wc wc.drew) := Lib.hid (Fr.refl _ wc).drew
                obtain ⟨⟨y0, y1, y2, y3, y4, y5, y6, y7, y8⟩, v0, v1, vb⟩ := hfacts.out _ hX.out
                clear vb
                go_wp2_with fail
                go_region_with ((go_at_call 28; refine (hMv9.out _ hX.out).mono ?_; rintro e w8 ⟨rfl, hf8⟩; have hX8 := Lib.hid (hX.out.trans hf8); obtain ⟨⟨z0, z1, z2, z3, z4, z5, z6, z7, z8⟩, q0, q1, qb⟩ := hfacts.out _ (hX.out.trans hf8); have HQB := Lib.hid qb; clear qb hf8))
                all_goals
                  go_wp2_with fail
                  go_meet
                  have hs := obj_set HQB.out 0 (.int .i64 (wrap64 (A + MV)))
                  have hv : wrap64 (A + MV) = wrap64 (SA + if true = true then MV else 0) := by rw [hA'.out, wrap_add]; simp
                  have hfr8 : Fr (fun b => b = n0 + 1) wc (w8.setCell ⟨n0 + 1, 0, none⟩ (.int .i64 (wrap64 (A + MV)))) := Fr.setCell (S := fun b => b = n0 + 1) (hX8.out.mono (fun _ _ e => e.elim)) (p := ⟨n0 + 1, 0, none⟩) (fun _ => rfl) _
                  simp only [IntWalk.i64_left]
                  have hv3 : wrap64 (A + MV) = wrap64 (SA + MV) := by rw [hA'.out, wrap_add]
                  refine ⟨by first | rfl | trivial, ?_, ?_, (HW7.out.mono (fun _ _ e => e.elim)).trans hfr8⟩
                  · first | (rw [← hv]; exact hs) | (simp only [if_true]; rw [← hv3]; exact hs) | (simpa only [if_true, ← hv3] using hs) | (simpa [hv3] using hs)
                  · exact hAlK.out _ _ hfr8 ((HW7.out.mono (fun _ _ e => e.elim)).trans hfr8) HGA2.out
            case rest =>
            obtain ⟨rfl, hbx7, hGa7, hf7⟩ := hcut
            have HBX7 := Lib.hid hbx7; have HGA7 := Lib.hid hGa7; have HF7 := Lib.hid hf7
            clear hbx7 hGa7 hf7
            go_wp2_with fail
            go_loopw [16, 17] (fun mo i wr => ∃ j : Nat, j ≤ M ∧ i = .int .i64 j ∧ mo = .int .i64 (mxF kind gd L (G.take j)) ∧ Fr (fun _ => False) wc wr) (fun _ i _ => M - (intOf i).toNat)
            case atStart => exact ⟨0, Nat.zero_le _, rfl, rfl, Fr.refl _ _⟩
            case round =>
              obtain ⟨j, hj, rfl, rfl, hfr⟩ := hrel
              have HFJ := Lib.hid hfr
              by_cases hlt7 : j < M
              · obtain ⟨p7, hp7⟩ : ∃ p7, G[j]? = some p7 := ⟨G[j]'(by rw [HM.out]; exact hlt7), List.getElem?_eq_getElem _⟩
                have hjI : (j : Int) < M := by omega
                have HT := Lib.hid (mxF_take kind gd L hp7)
                obtain ⟨T, hT⟩ : ∃ T, mxF kind gd L (G.take j) = T := ⟨_, rfl⟩
                rw [hT] at HT ⊢
                have hmem7 : p7 ∈ G := List.mem_of_getElem? hp7
                clear hT
                obtain ⟨ad7, rfl, hok7, z0, zs⟩ := (HGA7.out.fr0 aokKeeps hfr).at_ hp7
                have HOK7 := Lib.hid hok7
                have hone7 := avOne hok7
                obtain ⟨la7, lc7, hl7⟩ := hok7.l.sl
                obtain ⟨P7, hP7⟩ : ∃ P : AV, P = p7 := ⟨_, rfl⟩
                rw [← hP7] at hp7 HOK7 hone7 HT hmem7
                obtain ⟨c7, n7, kd7, o7, r7, t7, m7, g7, l7, its7⟩ := p7
                dsimp only at hl7
                subst hl7
                have x07 := z0 (.int .i64 c7) rfl
                have x17 := zs 0 (.int .i64 n7) rfl
                have x27 := zs 1 (.int .i64 kd7) rfl
                have x37 := zs 2 (.int .i64 o7) rfl
                have x47 := zs 3 (.int .i64 r7) rfl
                have x57 := zs 4 (.int .i64 t7) rfl
                have x67 := zs 5 (.int .i64 m7) rfl
                have x77 := zs 6 (vS g7) rfl
                have x87 := zs 7 (.slice la7 its7.length lc7) rfl
                dsimp only [Nat.zero_add, Nat.reduceAdd] at x07 x17 x27 x37 x47 x57 x67 x77 x87
                have hcs7 : P7.cs = #[.int .i64 c7, .int .i64 n7, .int .i64 kd7, .int .i64 o7, .int .i64 r7, .int .i64 t7, .int .i64 m7, vS g7, .slice la7 its7.length lc7] := by rw [hP7]; rfl
                have hPc7 : P7.c = c7 := by rw [hP7]
                have hPn7 : P7.n = n7 := by rw [hP7]
                have hPk7 : P7.k = kd7 := by rw [hP7]
                have hPo7 : P7.o = o7 := by rw [hP7]
                have hPi7 : P7.its = its7 := by rw [hP7]
                have hPg7 : P7.g = g7 := by rw [hP7]
                have hPl7 : P7.l = .slice la7 its7.length lc7 := by rw [hP7]
                obtain ⟨M7, hM7⟩ : ∃ M, its7.length = M := ⟨_, rfl⟩
                rw [hM7] at x87 hcs7 hPl7
                rw [hcs7] at hone7
                have HP7 := Lib.hid hp7
                have HCS7 := Lib.hid hcs7
                have HONE7 := Lib.hid hone7
                have HPC7 := Lib.hid hPc7
                have HPN7 := Lib.hid hPn7
                have HPK7 := Lib.hid hPk7
                have HPO7 := Lib.hid hPo7
                have HPI7 := Lib.hid hPi7
                have HPG7 := Lib.hid hPg7
                have HPL7 := Lib.hid hPl7
                have HM7 := Lib.hid hM7
                clear hp7 hok7 hone7 z0 zs hP7 hcs7 hPc7 hPn7 hPk7 hPo7 hPi7 hPg7 hPl7 hM7
                have hMv7 : Hid (Calls Tryz.prog 28 #[.agg #[.int .i64 c7, .int .i64 n7, .int .i64 kd7, .int .i64 o7, .int .i64 r7, .int .i64 t7, .int .i64 m7, vS g7, .slice la7 M7 lc7], .int .i64 kind, vS gd, .slice va N vc] wr fun e w' => e = .returned (.int .i64 (movF P7 kind gd L)) ∧ Fr (fun _ => False) wr w') := Lib.hid (by
                  have := hMvC.out wr P7 hmem7 (HF7.out.trans (HFJ.out.mono (fun _ _ e => e.elim)))
                  rw [HCS7.out] at this; exact this)
                obtain ⟨MP, hMP⟩ : ∃ m, movF P7 kind gd L = m := ⟨_, rfl⟩
                rw [hMP] at hMv7 HT
                clear hfr hMP hmem7
                by_cases hgt : T < MP
                · have hres : Hid (mxF kind gd L (G.take (j + 1)) = MP) := Lib.hid (by rw [HT.out]; omega)
                  go_wp2_with (go_at_call 28; refine hMv7.out.mono ?_; rintro e w9 ⟨rfl, hf9⟩; have HF9 := Lib.hid hf9; clear hf9)
                  go_roundw
                  case rel => exact ⟨j + 1, by omega, by go_num, by rw [hres.out], HFJ.out.trans HF9.out⟩
                  case measure => simp [intOf]; omega
                · have hres : Hid (mxF kind gd L (G.take (j + 1)) = T) := Lib.hid (by rw [HT.out]; omega)
                  go_wp2_with (go_at_call 28; refine hMv7.out.mono ?_; rintro e w9 ⟨rfl, hf9⟩; have HF9 := Lib.hid hf9; clear hf9)
                  go_roundw
                  case rel => exact ⟨j + 1, by omega, by go_num, by rw [hres.out], HFJ.out.trans HF9.out⟩
                  case measure => simp [intOf]; omega
              · obtain rfl : j = M := by omega
                have hall : G.take j = G := List.take_of_length_le (by rw [HM.out]; exact Nat.le_refl _)
                rw [hall, HMX.out]
                have hjn : ¬ (j : Int) < j := by omega
                have hbx8 := HFJ.out.at_ HBX7.out (fun h => h)
                have HBX8 := Lib.hid hbx8
                have hLs : Hid (wrap64 (SA + if BB = true then MV else 0) = wrap64 (spanT fL R (q + 1))) := Lib.hid (by rw [hyL.out, hfLx.out])
                obtain ⟨A2, hA2'⟩ : ∃ a, wrap64 (SA + if BB = true then MV else 0) = a := ⟨_, rfl⟩
                rw [hA2'] at hLs HBX8
                have u1 := cell_obj hbx8 1 (.int .i64 B) rfl
                have f1 := obj_frozen hbx8 1
                clear hall hfr hbx8 hA2'
                by_cases h2 : ST = 2
                · have b2 : (ST != 2) = false := by simpa using h2
                  have hMs : Hid (B = wrap64 (spanT fM R (q + 1))) := Lib.hid (by rw [hyM.out, hfMx.out, if_pos h2, hB'.out]; simp)
                  clear h2
                  go_wp2_with fail
                  go_roundw
                  case rel => exact ⟨q + 1, by omega, by go_num, by rw [← hLs.out, ← hMs.out]; exact HBX8.out, HFR.out.trans (HF7.out.trans (HFJ.out.mono (fun _ _ e => e.elim)))⟩
                  case measure => simp [intOf]; omega
                · have b2 : (ST != 2) = true := by simpa using h2
                  have hMs : Hid (wrap64 (B + MX) = wrap64 (spanT fM R (q + 1))) := Lib.hid (by rw [hyM.out, hfMx.out, if_neg h2, hB'.out, wrap_add])
                  clear h2
                  go_wp2_with fail
                  go_roundw
                  case rel =>
                    refine ⟨q + 1, by omega, by go_num, by rw [← hLs.out, ← hMs.out]; exact obj_set HBX8.out 1 _, HFR.out.trans (HF7.out.trans ?_)⟩
                    exact Fr.setCell (S := fun b => b = n0 + 1) (HFJ.out.mono (fun _ _ e => e.elim)) (p := ⟨n0 + 1, 1, none⟩) (fun _ => rfl) _
                  case measure => simp [intOf]; omega
    · obtain rfl : k = NR := by omega
      have hkn : ¬ (k : Int) < k := by omega
      have hbx := HBX.out
      obtain ⟨SL, hSL⟩ : ∃ s, spanT fL R k = s := ⟨_, rfl⟩
      obtain ⟨SM, hSM⟩ : ∃ s, spanT fM R k = s := ⟨_, rfl⟩
      rw [hSL, hSM] at hbx
      have HSL := Lib.hid hSL; have HSM := Lib.hid hSM
      have u0 := cell_obj hbx 0 (.int .i64 (wrap64 SL)) rfl
      have u1 := cell_obj hbx 1 (.int .i64 (wrap64 SM)) rfl
      have hb0 := HFR.out.at_ (HF2.out.at_ HB0.out (fun h => h)) (by omega)
      have t0 := cell_obj hb0 0 (.int .i64 0) rfl
      have t1 := cell_obj hb0 1 (.int .i64 0) rfl
      have g0 := obj_frozen hb0 0
      have g1 := obj_frozen hb0 1
      have hset := obj_set (obj_set hb0 0 (.int .i64 (wrap64 SL))) 1 (.int .i64 (wrap64 SM))
      have s0 := cell_obj hset 0 (.int .i64 (wrap64 SL)) rfl
      have s1 := cell_obj hset 1 (.int .i64 (wrap64 SM)) rfl
      clear hSL hSM hbx hb0 hset
      go_wp2_with fail
      refine bodyPost_ret (v := .agg #[.int .i64 (wrap64 SL), .int .i64 (wrap64 SM)]) (by simp [results, Tryz.results10, go_sem, s0, s1]) rfl ⟨by rw [HSL.out, HSM.out], ?_⟩
      have hfin : Fr (fun b => n0 ≤ b) w wo := (HF1.out.trans HF2.out |>.mono (fun _ _ e => e.elim)).trans' HFR.out (fun b _ e => by omega)
      exact ((hfin.setCell (p := ⟨n0, 0, none⟩) (fun _ => Nat.le_refl _) _).setCell (p := ⟨n0, 1, none⟩) (fun _ => Nat.le_refl _) _).mono (fun b hb e => by have := HS.out; omega)
end Go.Proofs.YtbeikkkmobbnkaaGreat
