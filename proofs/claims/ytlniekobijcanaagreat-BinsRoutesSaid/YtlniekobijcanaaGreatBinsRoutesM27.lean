/- bins: Unpack, walked. -/
import Derived.Test.YtlniekobijcanaaGreatBinsRoutesM26
import Derived.Test.YtlniekobijcanaaGreatBinsRoutesM2
import Derived.Deep.RegionHeld3
namespace Go.Proofs.YtlniekobijcanaaGreat
open Go.RowKit Go.Maps
theorem flat_self (V : List Value) : flat (fun u : Value => #[u]) V = V := by
  induction V with
  | nil => rfl
  | cons a r ih => unfold flat at *; rw [List.flatMap_cons, ih]; rfl
theorem Sq.keepT {α : Type} {k : Nat} {cs : α → Array Value} {S : Nat → Prop} {w w' : World} {v : Value} {L : List α} (h : Sq k cs (fun _ _ => True) w v L) (hf : Fr S w w') (hS : ∀ b, v.ownBlock = some b → ¬ S b) : Sq k cs (fun _ _ => True) w' v L := by
  obtain ⟨h0, a, cap, rfl, h1⟩ := h
  refine ⟨h0, a, cap, rfl, fun i r hr => ?_⟩
  obtain ⟨ho, ad, rfl, hc⟩ := h1 i r hr
  exact ⟨ho, ad, rfl, fun j u hu => hf.cell (hc j u hu) (by have := hS ad.block rfl; unfold Addr.add; first | exact this | (split <;> exact this))⟩
/-- The bins, the first m of them with their lists. -/
def mixE (B : List BI) (I : List Its) (m : Nat) : List BE := List.zipWith putI (B.take m) (I.take m) ++ (B.drop m).map BI.e
theorem mixE_set {B : List BI} {I : List Its} {m : Nat} {b : BI} {i : Its} (hb : B[m]? = some b) (hi : I[m]? = some i) : (mixE B I m)[m]? = some b.e ∧ (mixE B I m).set m (putI b i) = mixE B I (m + 1) := by
  have h1 := (List.getElem?_eq_some_iff.1 hb).1
  have h2 := (List.getElem?_eq_some_iff.1 hi).1
  have hl : (List.zipWith putI (B.take m) (I.take m)).length = m := by rw [List.length_zipWith, List.length_take, List.length_take]; omega
  have hd : B.drop m = b :: B.drop (m + 1) := drop_at hb
  unfold mixE
  rw [hd, List.map_cons]
  refine ⟨by rw [List.getElem?_append_right (by omega), hl, Nat.sub_self]; rfl, ?_⟩
  rw [List.set_append_right _ _ (by omega), hl, Nat.sub_self, List.set_cons_zero, List.take_add_one, List.take_add_one, hb, hi]
  simp only [Option.toList]
  rw [List.zipWith_append (by rw [List.length_take, List.length_take]; omega)]
  simp
set_option maxRecDepth 100000 in
set_option maxHeartbeats 8000000 in
theorem bUnpack (w : World) (v : Value) (bs : List Int) (h : Bs w v bs) (hl : (bs.length : Int) ≤ 140737488351232) (hb : ∀ x ∈ bs, 0 ≤ x ∧ x < 256) :
    Calls Tryz.prog 22 #[v] w fun e w' => UnP w (unpackE bs) e w' := by
  obtain ⟨i0, hi', hz0, hz1, hz2⟩ := info_parts infoBi
  obtain ⟨j0, hj', hy0, hy1, hy2⟩ := info_parts infoIl
  obtain ⟨Z, hZ⟩ : ∃ Z, unpackE bs = Z := ⟨_, rfl⟩
  rw [hZ]
  have hqi := tk_in1 (bs, false) (b := 64) (by omega)
  have HTk := Lib.hid (cTake w v bs h hl hb)
  obtain ⟨q, hq⟩ : ∃ q, tk (bs, false) 1 64 = q := ⟨_, rfl⟩
  have HQ := Lib.hid hq
  have hZ2 : Hid (Z = if mayBs (unG q.2 q.1.toNat).2.1 = true ∧ doneT (unG q.2 q.1.toNat).1.1 (unG q.2 q.1.toNat).1.2 = 0 ∧ ((List.zipWith putI (unG q.2 q.1.toNat).2.1 (unG q.2 q.1.toNat).2.2).all fun b => decide (0 ≤ leftE b)) = true then some (List.zipWith putI (unG q.2 q.1.toNat).2.1 (unG q.2 q.1.toNat).2.2) else none) := Lib.hid (by rw [← hZ]; unfold unpackE; rw [hq])
  rw [hq] at hqi
  obtain ⟨q1, q2⟩ := q
  obtain ⟨N, rfl⟩ : ∃ N : Nat, q1 = N := ⟨q1.toNat, by dsimp only at hqi; omega⟩
  dsimp only at hqi hZ2
  rw [Int.toNat_natCast] at hZ2
  have hN : N ≤ 64 := by omega
  obtain ⟨PP, hPP⟩ : ∃ PP, UnP w Z = PP := ⟨_, rfl⟩
  have HPP := Lib.hid hPP
  rw [hPP]
  clear h hl hb hZ hq hqi hPP
  go_enter Tryz.func22, Tryz.ntmps22
  go_wp2_with (first
    | (go_at_call 62; refine HTk.out.mono ?_; rintro e w1 ⟨gt, TT, rfl, ht1, hf1, hl1⟩; have HT1 := Lib.hid ht1; have HF1 := Lib.hid hf1; have HL1 := Lib.hid hl1; clear ht1 hf1 hl1)
    | (go_at_call 63; refine (xTk w1 gt TT (bs, false) 1 64 HT1.out).mono ?_; rw [HQ.out]; rintro e w2 ⟨rfl, ht2, hf2⟩; have HT2 := Lib.hid ht2; have HF2 := Lib.hid hf2; clear ht2 hf2))
  obtain ⟨n1, hn1⟩ : ∃ n1, w1.heap.size = n1 := ⟨_, rfl⟩
  have HLT : Hid (∀ b, TT b → b < n1) := Lib.hid (by rw [← hn1]; exact HT1.out.lt)
  have hf02 : Fr (fun _ => False) w w2 := HF1.out.trans' HF2.out (fun b hb e => by have := HL1.out b e; omega)
  have HF02 := Lib.hid hf02
  have HN1 : Hid (w.heap.size ≤ n1 ∧ n1 ≤ w2.heap.size) := Lib.hid ⟨by rw [← hn1]; exact HF1.out.size, by rw [← hn1]; exact HF2.out.size⟩
  clear hn1 hf02
  go_loopw [5, 6, 14] (fun vl vn vi wr => ∃ (k : Nat) (V : List Value), k ≤ N ∧ vi = .int .i64 k ∧ V.length = k ∧ UnI n1 wr vl vn (unG q2 k).2.1 V (unG q2 k).2.2 ∧ TK wr gt TT (unG q2 k).1.1 (unG q2 k).1.2 ∧ Fr (fun _ => False) w wr ∧ n1 ≤ wr.heap.size) (fun _ _ vi _ => N - (intOf vi).toNat)
  case atStart => exact ⟨0, [], Nat.zero_le _, rfl, rfl, ⟨World.ownsRow_nil _ _ _ _, World.ownsRow_nil _ _ _ _, rfl, fun j v its hv => by simp at hv, fun c hc => by cases hc⟩, HT2.out, HF02.out, HN1.out.2⟩
  case round =>
    obtain ⟨k, V, hk, rfl, hVk, hU, hT, hF, hz⟩ := hrel
    have HV := Lib.hid hVk; have HU := Lib.hid hU; have HT := Lib.hid hT; have HF := Lib.hid hF
    have HLEN := Lib.hid (unG_len q2 k)
    obtain ⟨la, lc, rfl⟩ := row_sl hU.ob
    obtain ⟨va, vc, rfl⟩ := row_sl hU.oi
    rw [HLEN.out.1, hVk]
    have HZ := Lib.hid hz
    by_cases hlt : k < N
    · have hkI : (k : Int) < N := by omega
      have hstep : Hid (unG q2 (k + 1) = un1 (unG q2 k)) := Lib.hid rfl
      obtain ⟨S, hSS⟩ : ∃ S, unG q2 k = S := ⟨_, rfl⟩
      rw [hSS] at hstep HT HU HLEN
      obtain ⟨t0, B, I⟩ := S
      unfold un1 at hstep
      dsimp only at hstep HT HU HLEN
      have hA := Lib.hid (fun W (h : TK W gt TT t0.1 t0.2) => xTk W gt TT t0 1 4096 h)
      obtain ⟨a, ha⟩ : ∃ a, tk t0 1 4096 = a := ⟨_, rfl⟩
      rw [ha] at hstep hA
      obtain ⟨a, t1⟩ := a
      dsimp only at hstep hA
      have hB := Lib.hid (fun W (h : TK W gt TT t1.1 t1.2) => xTk W gt TT t1 0 15 h)
      obtain ⟨b, hb⟩ : ∃ b, tk t1 0 15 = b := ⟨_, rfl⟩
      rw [hb] at hstep hB
      obtain ⟨b, t2⟩ := b
      dsimp only at hstep hB
      have hC := Lib.hid (fun W (h : TK W gt TT t2.1 t2.2) => xTk W gt TT t2 1 1099511627776 h)
      obtain ⟨c, hc⟩ : ∃ c, tk t2 1 1099511627776 = c := ⟨_, rfl⟩
      rw [hc] at hstep hC
      obtain ⟨c, t3⟩ := c
      dsimp only at hstep hC
      have hD := Lib.hid (fun W (h : TK W gt TT t3.1 t3.2) => iTakeX W gt TT t3 h)
      obtain ⟨d, hd⟩ : ∃ d, itemsT t3 = d := ⟨_, rfl⟩
      rw [hd] at hstep hD
      obtain ⟨its, t4⟩ := d
      dsimp only at hstep hD
      clear hVk hU hT hF hz hSS ha hb hc hd
      have HU : Hid (UnI n1 wr (.slice la k lc) (.slice va k vc) B V I) := Lib.hid (by have := HU.out; rw [HLEN.out.1, HV.out] at this; exact this)
      go_wp2_with (first
        | (go_at_call 63; with_reducible refine (hA.out _ HT.out).mono ?_; rintro e wa ⟨rfl, hta, hfa⟩; have HTA := Lib.hid hta; have HFA := Lib.hid hfa; clear hta hfa)
        | (go_at_call 63; with_reducible refine (hB.out _ HTA.out).mono ?_; rintro e wb ⟨rfl, htb, hfb⟩; have HTB := Lib.hid htb; have HFB := Lib.hid (HFA.out.trans hfb); clear htb hfb)
        | (go_at_call 63; with_reducible refine (hC.out _ HTB.out).mono ?_; rintro e wc ⟨rfl, htc, hfc⟩; have hfc2 := HFB.out.trans hfc; have HTC := Lib.hid htc; have HFC := Lib.hid hfc2; have HUC := Lib.hid (HU.out.fr hfc2 HLT.out); have HZC : Hid (n1 ≤ wc.heap.size) := Lib.hid (Nat.le_trans HZ.out hfc2.size); clear htc hfc hfc2)
        | (at_builtin; refine wpList_append_src rfl _ _ 22 rfl n1 36 i0 (.agg #[.int .i64 0, .int .i64 0, .int .i64 0]) 24 Tryz.underlying22 hi' hz0 hz1 hz2 rfl (by decide) (.slice la k lc) k (flat biC B) rfl (by have := (((Fr.refl (fun _ => False) wc).alloc (.cells #[.int .i64 a, .int .i64 b, .int .i64 c] 36)).row HUC.out.ob (fun _ _ e => e)); rw [HLEN.out.1] at this; exact this) 1 rfl (rd_obj (cs := [.int .i64 a, .int .i64 b, .int .i64 c]) (heap_new _ _) rfl) (by intro u hu; simp only [List.mem_cons, List.not_mem_nil, or_false] at hu; rcases hu with rfl | rfl | rfl <;> rfl) (by unfold maxLen; omega) (by omega) (by have := HZC.out; simp; omega) ?_; intro v6 w6 hown6 hgrow6 hloc6; have HO6 := Lib.hid hown6; have HG6 := Lib.hid hgrow6; have HL6 := Lib.hid hloc6; clear hown6 hgrow6 hloc6))
      have hfr6 : Fr (fun e => (Value.slice la k lc).ownBlock = some e) wc w6 := ((Fr.refl _ wc).alloc _).trans' (Fr.grown HG6.out (fun r hr _ => hr)) (fun _ _ e => e)
      have hn6 : ∀ e, v6.ownBlock = some e → (Value.slice la k lc).ownBlock = some e ∨ wc.heap.size ≤ e := fun e he => by
        rcases HL6.out with h | h
        · exact .inl (h ▸ he)
        · rw [h] at he; injection he with he; right; simp at he; omega
      have ho6 : w6.ownsRow n1 36 3 v6 (B ++ [BI.mk a b c]).length (flat biC (B ++ [BI.mk a b c])) := by
        rw [flat_app, List.length_append, HLEN.out.1]; exact HO6.out
      have hU6 := HUC.out.addB ho6 hfr6 hn6
      have hT6 := HTC.out.fr hfr6 (fun b hb e => by
        have h1 := (HUC.out.ob.lt b e).1
        have h2 := HLT.out b hb
        omega)
      have hF6 : Fr (fun _ => False) w w6 := ((HF.out.trans' HFC.out (fun b hb e => by have := HL1.out b e; have := HF1.out.size; omega)).trans' hfr6 (fun b hb e => by
        have h1 := (HUC.out.ob.lt b e).1
        have h2 := HN1.out.1
        omega))
      have HU6 := Lib.hid hU6; have HT6 := Lib.hid hT6; have HF6 := Lib.hid hF6
      have HZ6 : Hid (n1 ≤ w6.heap.size) := Lib.hid (Nat.le_trans HZC.out hfr6.size)
      have HD6 := Lib.hid (hD.out w6 hT6)
      clear hfr6 hn6 ho6 hU6 hT6 hF6
      refine HD6.out.mono ?_
      rintro e w7 ⟨v7, rfl, hil7, hlo7, ht7, hf7⟩
      obtain ⟨xa, xc, rfl⟩ := hil7.sl
      have hU7 := HU6.out.fr hf7 HLT.out
      have hb6 : ∀ e, v6.ownBlock = some e → e < w6.heap.size := fun e he => (HU6.out.ob.lt e he).2
      have hb5 : ∀ e, (Value.slice va k vc).ownBlock = some e → e < w6.heap.size := fun e he => (HU6.out.oi.lt e he).2
      have HU7 := Lib.hid hU7; have HIL7 := Lib.hid hil7; have HLO7 := Lib.hid hlo7; have HT7 := Lib.hid ht7; have HB6 := Lib.hid hb6; have HB5 := Lib.hid hb5
      have HF7 : Hid (Fr (fun _ => False) w w7) := Lib.hid (HF6.out.trans' hf7 (fun b hb e => by have := HL1.out b e; have := HF1.out.size; omega))
      have HZ7 : Hid (n1 ≤ w7.heap.size) := Lib.hid (Nat.le_trans HZ6.out hf7.size)
      clear hil7 hlo7 ht7 hf7 hU7 hb6 hb5
      go_wp2_with (at_builtin; refine wpList_append_src rfl _ _ 100 rfl n1 65 j0 (.slice none 0 0) 24 Tryz.underlying100 hj' hy0 hy1 hy2 rfl (by decide) (.slice va k vc) k V rfl (by have := (((Fr.refl (fun _ => False) w7).alloc (.cells #[.slice xa its.length xc] 65)).row HU7.out.oi (fun _ _ e => e)); rw [HV.out] at this; exact this) 1 rfl (rd_obj (cs := [.slice xa its.length xc]) (heap_new _ _) rfl) (by intro u hu; simp only [List.mem_cons, List.not_mem_nil, or_false] at hu; rcases hu with rfl; rfl) (by unfold maxLen; omega) (by omega) (by have := HZ7.out; simp; omega) ?_; intro v8 w8 hown8 hgrow8 hloc8; have HO8 := Lib.hid hown8; have HG8 := Lib.hid hgrow8; have HL8 := Lib.hid hloc8; clear hown8 hgrow8 hloc8)
      go_roundw
      case rel =>
        have hfr8 : Fr (fun e => (Value.slice va k vc).ownBlock = some e) w7 w8 := ((Fr.refl _ w7).alloc _).trans' (Fr.grown HG8.out (fun r hr _ => hr)) (fun _ _ e => e)
        have hn8 : ∀ e, v8.ownBlock = some e → (Value.slice va k vc).ownBlock = some e ∨ w7.heap.size ≤ e := fun e he => by
          rcases HL8.out with h | h
          · exact .inl (h ▸ he)
          · rw [h] at he; injection he with he; right; simp at he; omega
        have ho8 : w8.ownsRow n1 65 1 v8 (V ++ [Value.slice xa its.length xc]).length (V ++ [Value.slice xa its.length xc]) := by
          rw [List.length_append, HV.out]; exact HO8.out
        have hU8 := HU7.out.addI ho8 hfr8 hn8 HIL7.out (fun e he => Nat.le_trans HZ6.out (HLO7.out e he)) (fun _ e he => ⟨fun h => by have := HB6.out e h; have := HLO7.out e he; omega, fun h => by have := HB5.out e h; have := HLO7.out e he; omega⟩)
        refine ⟨k + 1, V ++ [Value.slice xa its.length xc], by omega, by go_num, by rw [List.length_append, HV.out]; rfl, ?_, ?_, ?_, ?_⟩
        · rw [hstep.out]; exact hU8
        · rw [hstep.out]; exact HT7.out.fr hfr8 (fun b hb e => by
            have h1 := (HU7.out.oi.lt b e).1
            have h2 := HLT.out b hb
            omega)
        · exact HF7.out.trans' hfr8 (fun b hb e => by
            have h1 := (HU7.out.oi.lt b e).1
            have h2 := HN1.out.1
            omega)
        · exact Nat.le_trans HZ7.out hfr8.size
      case measure => simp [intOf]; omega
    · obtain rfl : k = N := by omega
      have hkI : ¬ (k : Int) < k := by omega
      have HOKB := Lib.hid (unG_ok q2 k)
      obtain ⟨S, hSS⟩ : ∃ S, unG q2 k = S := ⟨_, rfl⟩
      rw [hSS] at HT HU HLEN hZ2 HOKB
      obtain ⟨t0, B, I⟩ := S
      dsimp only at HT HU HLEN hZ2 HOKB
      obtain ⟨hlB, hlI⟩ := HLEN.out
      have hSb : Sbi wr (.slice la k lc) B := Sq.own biSize (by have := HU.out.ob; rw [hlB] at this ⊢; exact this) HOKB.out
      have hNew := Lib.hid (bNew wr _ B hSb)
      have HU : Hid (UnI n1 wr (.slice la k lc) (.slice va k vc) B V I) := Lib.hid (by have := HU.out; rw [hlB, HV.out] at this; exact this)
      obtain ⟨D, hD⟩ : ∃ D, doneT t0.1 t0.2 = D := ⟨_, rfl⟩
      have HDn := Lib.hid (fun W (h : TK W gt TT t0.1 t0.2) => cTDone W gt TT t0.1 t0.2 h)
      rw [hD] at HDn hZ2
      have HLB := Lib.hid hlB; have HLI := Lib.hid hlI
      clear hVk hU hT hF hz hSS hSb hD hlB hlI
      go_wp2_with fail
      refine hNew.out.mono ?_
      rintro e w3 ⟨hf3, ⟨hm, rfl⟩ | ⟨hm, g, TS, L, rfl, hFA, hLm, hTS⟩⟩
      · have HF3 := Lib.hid (HF.out.trans hf3)
        have HT3 := Lib.hid (HT.out.fr hf3 (fun _ _ e => e))
        have hr : Hid (Z = none) := Lib.hid (by rw [hZ2.out, if_neg (by rw [hm]; simp)])
        clear hf3 hm
        by_cases hD0 : D = 0
        · have hd1 : (D != 0) = false := by simp [hD0]
          go_wp2_with (go_at_call 65; refine (HDn.out _ HT3.out).mono ?_; rintro e w4 ⟨rfl, rfl⟩)
          rw [← HPP.out, hr.out]
          exact ⟨HF3.out, rfl⟩
        · have hd1 : (D != 0) = true := by simpa using hD0
          go_wp2_with (go_at_call 65; refine (HDn.out _ HT3.out).mono ?_; rintro e w4 ⟨rfl, rfl⟩)
          rw [← HPP.out, hr.out]
          exact ⟨HF3.out, rfl⟩
      · have HT3 := Lib.hid (HT.out.fr hf3 (fun _ _ e => e))
        by_cases hD0 : D = 0
        case neg =>
          have HF3 := Lib.hid (HF.out.trans hf3)
          have hr : Hid (Z = none) := Lib.hid (by rw [hZ2.out, if_neg (fun e => hD0 e.2.1)])
          have hd1 : (D != 0) = true := by simpa using hD0
          clear hf3 hm hFA hLm hTS
          go_wp2_with (go_at_call 65; refine (HDn.out _ HT3.out).mono ?_; rintro e w4 ⟨rfl, rfl⟩)
          rw [← HPP.out, hr.out]
          exact ⟨HF3.out, rfl⟩
        · have hd1 : (D != 0) = false := by simp [hD0]
          have hz3 : Hid (Z = if ((List.zipWith putI B I).all fun b => decide (0 ≤ leftE b)) = true then some (List.zipWith putI B I) else none) := Lib.hid (by
            rw [hZ2.out]
            cases hq : ((List.zipWith putI B I).all fun b => decide (0 ≤ leftE b)) with
            | true => rw [if_pos ⟨hm, hD0, rfl⟩]; rfl
            | false => rw [if_neg (fun e => by cases e.2.2)]; rfl)
          obtain ⟨r, cap, hFB0⟩ := hFA.fb
          have hU3 := HU.out.fr hf3 (fun _ e => e.elim)
          have hTB : ∀ b, TS b → n1 ≤ b := fun b hb => by have := hTS b hb; have := HZ.out; omega
          have hFB := hFB0.mono (T2 := fun b => n1 ≤ b ∧ b < w3.heap.size) (fun b hb => ⟨hTB b hb, hFB0.lt b hb⟩) (fun b hb => hb.2)
          have hlL : L.length = k := by have := congrArg List.length hLm; rw [List.length_map, List.length_map] at this; rw [this]; exact HLB.out
          have hil : Hid (∀ (j : Nat) (u : Value) (its : Its), V[j]? = some u → I[j]? = some its → Il w3 u its ∧ (its ≠ [] → ∀ c, u.ownBlock = some c → (n1 ≤ c ∧ c < w3.heap.size) ∧ c ≠ g ∧ c ≠ r)) := Lib.hid (fun j u its hu hi => by
            obtain ⟨q1, q2, q3⟩ := HU.out.il j u its hu hi
            obtain ⟨q4, -, -⟩ := hU3.il j u its hu hi
            refine ⟨q4, fun hne c hc => ⟨⟨q2 c hc, q4.lt hne c hc⟩, ?_, ?_⟩⟩
            · intro e; have := hTS g hFB0.own.1; have := q1.lt hne c hc; omega
            · intro e; have := hTS r hFB0.own.2.1; have := q1.lt hne c hc; omega)
          have HO3 := Lib.hid hU3.oi
          have hHD : Hid (D = 0) := Lib.hid hD0
          have hgr : Hid (wr.heap.size ≤ g ∧ wr.heap.size ≤ r) := Lib.hid ⟨hTS g hFB0.own.1, hTS r hFB0.own.2.1⟩
          have c0 := cell_obj hFB.obj 0 (.slice (some ⟨r, 0, none⟩) L.length cap) rfl
          rw [hlL] at c0
          have hvb : Hid (∀ e, (Value.slice va k vc).ownBlock = some e → e < wr.heap.size) := Lib.hid (fun e he => (HU.out.oi.lt e he).2)
          have HFB := Lib.hid hFB; have HLL := Lib.hid hlL; have HLM := Lib.hid hLm; have HF3 := Lib.hid (HF.out.trans hf3); have HZ3 : Hid (wr.heap.size ≤ w3.heap.size) := Lib.hid hf3.size
          clear hf3 hm hFA hLm hTS hFB0 hU3 hFB hlL hTB hD0
          go_wp2_with (go_at_call 65; refine (HDn.out _ HT3.out).mono ?_; rintro e w4 ⟨rfl, rfl⟩)
          have hvq : Sq 1 (fun u : Value => #[u]) (fun _ _ => True) w3 (.slice va k vc) V := Sq.own (fun _ => rfl) (by have := HO3.out; rw [flat_self]; rw [HV.out] at this ⊢; exact this) (fun _ _ => trivial)
          have HVQ := Lib.hid hvq
          clear hvq
          go_loopw [49] (fun vi wr2 => ∃ (m : Nat) (Lm : List BV), m ≤ k ∧ vi = .int .i64 m ∧ FB wr2 g (fun b => n1 ≤ b ∧ b < w3.heap.size) Lm r cap ∧ Lm.map BV.e = mixE B I m ∧ Fr (fun _ => False) w wr2 ∧ Fr (fun c => c = r) w3 wr2 ∧ ((List.zipWith putI (B.take m) (I.take m)).all fun b => decide (0 ≤ leftE b)) = true) (fun vi _ => k - (intOf vi).toNat)
          case atStart => exact ⟨0, L, Nat.zero_le _, rfl, HFB.out, by rw [HLM.out]; simp [mixE], HF3.out, Fr.refl _ _, by simp⟩
          case round =>
            obtain ⟨m, Lm, hmk, rfl, hFB2, hLm2, hf2, hfr2, hall⟩ := hrel
            have HFB2 := Lib.hid hFB2; have HLM2 := Lib.hid hLm2; have HF2 := Lib.hid hf2; have HFR2 := Lib.hid hfr2; have HALL := Lib.hid hall
            have hll : Lm.length = k := by
              have := congrArg List.length hLm2
              rw [List.length_map] at this
              rw [this]
              unfold mixE
              rw [List.length_append, List.length_zipWith, List.length_take, List.length_take, List.length_map, List.length_drop, HLB.out, HLI.out]; omega
            by_cases hlt : m < k
            · have hmI : (m : Int) < k := by omega
              obtain ⟨b, hb⟩ : ∃ b, B[m]? = some b := ⟨B[m]'(by rw [HLB.out]; exact hlt), List.getElem?_eq_getElem _⟩
              obtain ⟨i, hi⟩ : ∃ i, I[m]? = some i := ⟨I[m]'(by rw [HLI.out]; exact hlt), List.getElem?_eq_getElem _⟩
              obtain ⟨u, hu⟩ : ∃ u, V[m]? = some u := ⟨V[m]'(by rw [HV.out]; exact hlt), List.getElem?_eq_getElem _⟩
              obtain ⟨x, hx⟩ : ∃ x, Lm[m]? = some x := ⟨Lm[m]'(by rw [hll]; exact hlt), List.getElem?_eq_getElem _⟩
              obtain ⟨hm1, hm2⟩ := mixE_set hb hi
              have hxe : x.e = b.e := by
                have h1 : (Lm.map BV.e)[m]? = some x.e := by rw [List.getElem?_map, hx]; rfl
                rw [hLm2, hm1] at h1; injection h1 with h1; exact h1.symm
              obtain ⟨hil0, hil1⟩ := hil.out m u i hu hi
              obtain ⟨ua, uc, rfl⟩ := hil0.sl
              have hgr2 := hgr.out; have hvb2 := hvb.out
              have hsq2 := HVQ.out.keepT hfr2 (fun e he h => by have := hvb2 e he; have h : e = r := h; omega)
              obtain ⟨ad, rfl, -, vz, -⟩ := hsq2.at_ hu
              have q0 := vz (.slice ua i.length uc) rfl
              rw [Nat.mul_one] at q0
              have hil2 : Il wr (.slice ua i.length uc) i := hil0.keep hfr2 (fun hne c hc => (hil1 hne c hc).2.2)
              obtain ⟨b0, b1, b2, b3, b4, bf⟩ := hFB2.cells hx
              have hmap : (Lm.set m ⟨x.nu, x.zo, x.ro, .slice ua i.length uc, i⟩).map BV.e = mixE B I (m + 1) := by
                rw [List.map_set, hLm2]
                have : (BV.e ⟨x.nu, x.zo, x.ro, .slice ua i.length uc, i⟩ : BE) = putI b i := by
                  have e1 : x.nu = b.nu := congrArg BE.nu hxe
                  have e2 : x.zo = b.zo := congrArg BE.zo hxe
                  have e3 : x.ro = b.ro := congrArg BE.ro hxe
                  unfold BV.e putI
                  rw [e1, e2, e3]
                rw [this]; exact hm2
              have HPE : Hid ((BV.e ⟨x.nu, x.zo, x.ro, .slice ua i.length uc, i⟩ : BE) = putI b i) := Lib.hid (by
                have e1 : x.nu = b.nu := congrArg BE.nu hxe
                have e2 : x.zo = b.zo := congrArg BE.zo hxe
                have e3 : x.ro = b.ro := congrArg BE.ro hxe
                unfold BV.e putI
                rw [e1, e2, e3])
              have hgx : (Lm.set m ⟨x.nu, x.zo, x.ro, .slice ua i.length uc, i⟩)[m]? = some ⟨x.nu, x.zo, x.ro, .slice ua i.length uc, i⟩ := by rw [List.getElem?_set_self (by rw [hll]; exact hlt)]
              rw [hll] at b0
              have HIL2 := Lib.hid hil2; have HIL1 := Lib.hid hil1
              have HMAP := Lib.hid hmap; have HGX := Lib.hid hgx; have HBB := Lib.hid hb; have HII := Lib.hid hi; have HLL2 := Lib.hid hll; have HXE := Lib.hid hxe; have HXX := Lib.hid hx
              clear hFB2 hLm2 hf2 hfr2 hall hll hb hi hu hx hm1 hm2 hxe hil0 hil1 hgr2 hvb2 hsq2 vz hil2 bf hmap hgx c0
              go_wp2_with fail
              refine wp_region_eff [(11, false)] [] 6 (by kernel_rfl) rfl (by kernel_rfl) (by kernel_rfl) ?_
              apply Exists.intro
              refine ⟨?hh, ?pu, ?ef⟩
              case hh =>
                intro X
                have b0 := FrW.cell (X.fr.cell b0 (fun e => e)); have q0 := FrW.cell (X.fr.cell q0 (fun e => e))
                simp (config := { decide := true }) only [boxedF, efIdx, List.map_cons, List.map_nil, idleU, if_true, if_false, ite_true, ite_false]
                repeat (go_big_quiet_step (fail))
                exact wpQuiet_nil rfl
              case pu =>
                intro i' hi' o ho
                cases hi'
              case ef =>
                simp only [efOps, List.filterMap_cons, List.filterMap_nil, List.getElem?_cons_succ, List.getElem?_cons_zero, Option.map_some]
                clear b0 b1 b2 b3 b4 q0
                intro w5 hw5
                have hFB5 := HFB2.out.keep hw5
                obtain ⟨b0, b1, b2, b3, b4, bf⟩ := hFB5.cells HXX.out
                have f3 := bf (m * 4 + 3)
                obtain ⟨hset, hsf⟩ := hFB5.setL HXX.out (HIL2.out.fr hw5 (fun _ e => e.elim)) HIL1.out
                have HSET := Lib.hid hset; have HSF := Lib.hid hsf; have HW5 := Lib.hid hw5
                clear hFB5 bf hset hsf hw5 b0 b1 b2 b3
                go_wp2_with fail
                intro w6 hw6
                have hFB6 := HSET.out.keep hw6
                obtain ⟨c0, d0, d1, d2, d3, -⟩ := hFB6.cells HGX.out
                rw [List.length_set, HLL2.out] at c0
                dsimp only at d0 d1 d2 d3
                have hbk := (hFB6.bins _ (List.mem_of_getElem? HGX.out)).1
                have hLf := Lib.hid (bLeft w6 _ hbk)
                rw [leftE_e, HPE.out] at hLf
                have hall2 : ((List.zipWith putI (B.take (m + 1)) (I.take (m + 1))).all fun b => decide (0 ≤ leftE b)) = decide (0 ≤ leftE (putI b i)) := by
                  rw [List.take_add_one, List.take_add_one, HBB.out, HII.out]
                  simp only [Option.toList]
                  rw [List.zipWith_append (by rw [List.length_take, List.length_take, HLB.out, HLI.out]), List.all_append, HALL.out]
                  simp
                obtain ⟨LV, hLV⟩ : ∃ x, leftE (putI b i) = x := ⟨_, rfl⟩
                rw [hLV] at hLf hall2
                have HALL2 := Lib.hid hall2; have HFB6 := Lib.hid hFB6; have HW6 := Lib.hid hw6
                have HFF : Hid (Fr (fun _ => False) w w6) := Lib.hid (((HF2.out.trans HW5.out).trans' HSF.out (fun c hc e => by have e : c = r := e; have := hgr.out.2; have := HZ.out; have := HN1.out.1; omega)).trans hw6)
                have hcs : BV.cs ⟨x.nu, x.zo, x.ro, .slice ua i.length uc, i⟩ = #[.int .i64 x.nu, .int .i64 x.zo, .int .i64 x.ro, .slice ua i.length uc] := rfl
                rw [hcs] at hLf
                clear hall2 hFB6 hw6 hbk hLV hcs
                by_cases hlv : LV < 0
                · have hr : Hid (Z = none) := Lib.hid (by
                    rw [hz3.out]
                    have : ((List.zipWith putI B I).all fun b => decide (0 ≤ leftE b)) = false := by
                      rw [← List.take_append_drop (m + 1) B, ← List.take_append_drop (m + 1) I, List.zipWith_append (by rw [List.length_take, List.length_take, HLB.out, HLI.out]), List.all_append, HALL2.out]
                      simp; omega
                    rw [if_neg (by rw [this]; simp)])
                  go_wp2_with (go_at_call 52; refine hLf.out.mono ?_; rintro e w7 ⟨rfl, hf7⟩; have HF7 := Lib.hid (HFF.out.trans hf7); clear hf7)
                  rw [← HPP.out, hr.out]
                  exact ⟨HF7.out, rfl⟩
                · have hnx : Hid (((List.zipWith putI (B.take (m + 1)) (I.take (m + 1))).all fun b => decide (0 ≤ leftE b)) = true) := Lib.hid (by rw [HALL2.out]; simp; omega)
                  go_wp2_with (go_at_call 52; refine hLf.out.mono ?_; rintro e w7 ⟨rfl, hf7⟩; have HF7 := Lib.hid hf7; clear hf7)
                  go_roundw
                  case rel =>
                    exact ⟨m + 1, _, by omega, by go_num, HFB6.out.keep HF7.out, HMAP.out, HFF.out.trans HF7.out, ((((HFR2.out.trans' HW5.out (fun _ _ e => e.elim)).trans HSF.out).trans' HW6.out (fun _ _ e => e.elim)).trans' HF7.out (fun _ _ e => e.elim)), hnx.out⟩
                  case measure => simp [intOf]; omega
            · obtain rfl : m = k := by omega
              have hmI : ¬ (m : Int) < m := by omega
              have hzz : Hid (Z = some (List.zipWith putI B I)) := Lib.hid (by
                rw [hz3.out, if_pos]
                have := HALL.out
                rw [List.take_of_length_le (by rw [HLB.out]; exact Nat.le_refl _), List.take_of_length_le (by rw [HLI.out]; exact Nat.le_refl _)] at this
                exact this)
              have hmm : Hid (Lm.map BV.e = List.zipWith putI B I) := Lib.hid (by
                rw [HLM2.out]; unfold mixE
                rw [List.take_of_length_le (by rw [HLB.out]; exact Nat.le_refl _), List.take_of_length_le (by rw [HLI.out]; exact Nat.le_refl _), List.drop_of_length_le (by rw [HLB.out]; exact Nat.le_refl _)]
                simp)
              clear hFB2 hLm2 hf2 hfr2 hall hll c0
              go_wp2_with fail
              rw [← HPP.out, hzz.out]
              exact ⟨HF2.out, g, _, Lm, rfl, HFB2.out.fa, hmm.out, fun b hb => Nat.le_trans HN1.out.1 hb.1⟩
end Go.Proofs.YtlniekobijcanaaGreat
