/- stock: Unpack, walked. -/
import Derived.Test.YtclgmnobockfnaaStkUnpacksM12
import Derived.Test.YtclgmnobockfnaaStkUnpacksM1
import Derived.Test.YtclgmnobockfnaaStkUnpacksM2
import Derived.Deep.RegionWith
namespace Go.Proofs.Ytclgmnobockfnaa
open Go.RowKit Go.Maps
theorem tkT_len (t : Tst) {m : Int} (hm : 0 ≤ m) : ((tkT t m).1.length : Int) ≤ m := by
  have h := tk_in t (a := 0) (b := m) (Int.le_refl _) hm
  unfold tkT
  dsimp only
  split <;> (try split) <;> simp [bS, List.length_take] <;> omega
/-- What Unpack leaves. -/
def UpP (w : World) (Z : Option Stk) (e : Ending) (w' : World) : Prop := Fr (fun _ => False) w w' ∧ match Z with
  | some A => ∃ g TS, e = .returned (.tuple #[.pointer (some ⟨g, 0, none⟩), .int .i64 0]) ∧ SA w' g TS A ∧ ∀ b, TS b → w.heap.size ≤ b
  | none => e = .returned (.tuple #[.pointer none, .int .i64 10])
def ZU (Z : Option Stk) (U : Option (Stk × Tst)) : Prop := match U with | none => Z = none | some (A, t) => Z = if doneT t.1 t.2 = 0 then some A else none
theorem rowCells {W : World} {b : Nat} {f0 f1 f2 f3 f4 f5 f6 f7 f8 f9 f10 : Int} (h : RowAt W b ⟨f0, f1, f2, f3, f4, f5, f6, f7, f8, f9, f10⟩) :
    W.cell? ⟨b, 0, none⟩ = some (.int .i64 f0) ∧ W.cell? ⟨b, 1, none⟩ = some (.int .i64 f1) ∧ W.cell? ⟨b, 2, none⟩ = some (.int .i64 f2) ∧ W.cell? ⟨b, 3, none⟩ = some (.int .i64 f3) ∧ W.cell? ⟨b, 4, none⟩ = some (.int .i64 f4) ∧ W.cell? ⟨b, 5, none⟩ = some (.int .i64 f5) ∧ W.cell? ⟨b, 6, none⟩ = some (.int .i64 f6) ∧ W.cell? ⟨b, 7, none⟩ = some (.int .i64 f7) ∧ W.cell? ⟨b, 8, none⟩ = some (.int .i64 f8) ∧ W.cell? ⟨b, 9, none⟩ = some (.int .i64 f9) ∧ W.cell? ⟨b, 10, none⟩ = some (.int .i64 f10) :=
  ⟨cell_obj h 0 _ rfl, cell_obj h 1 _ rfl, cell_obj h 2 _ rfl, cell_obj h 3 _ rfl, cell_obj h 4 _ rfl, cell_obj h 5 _ rfl, cell_obj h 6 _ rfl, cell_obj h 7 _ rfl, cell_obj h 8 _ rfl, cell_obj h 9 _ rfl, cell_obj h 10 _ rfl⟩
/-- On the way of Unpack: what is taken, what is left, what is laid. -/
structure UpI (w w1 : World) (gt : Nat) (TT : Nat → Prop) (gs s0 : Nat) (U : Option (Stk × Tst)) (n : Nat) (t : Tst) (last : Str) (B : Stk) (W : World) : Prop where
  tk : TK W gt TT t.1 t.2
  st : SA W gs (fun b => b = s0 ∨ b = s0 + 1) B
  fr : Fr (fun _ => False) w W
  rest : unpL n t last B = U
  len : B.length + n ≤ 64
  ok : okS last
set_option maxRecDepth 100000 in
set_option maxHeartbeats 8000000 in
theorem sUnpack (w : World) (v : Value) (bs : List Int) (h : Bs w v bs) (hl : (bs.length : Int) ≤ 140737488351232) (hb : Byt bs) (ho : ∀ b, v.ownBlock = some b → b < w.heap.size) :
    Calls Try.prog 14 #[v] w (UpP w (unpS bs)) := by
  obtain ⟨Z, hZ⟩ : ∃ Z, unpS bs = Z := ⟨_, rfl⟩
  rw [hZ]
  have HZ := Lib.hid hZ
  obtain ⟨n0, hn0⟩ : ∃ n0, w.heap.size = n0 := ⟨_, rfl⟩
  have HS := Lib.hid hn0
  have HTk := Lib.hid (cTake w v bs h hl hb)
  clear hZ h hl hb ho
  go_enter Try.func14, Try.ntmps14
  go_wp2_with (first
    | (go_at_call 44; refine HTk.out.mono ?_; rintro e w1 ⟨gt, TT, rfl, ht1, hf1, hl1⟩; have HT1 := Lib.hid ht1; have HF1 := Lib.hid hf1; have HL1 := Lib.hid hl1; clear ht1 hf1 hl1)
    | (go_at_call 10; refine (sNew _).mono ?_; rintro e w2 ⟨rfl, hs2, hf2, hz2⟩; have HS2 := Lib.hid hs2; have HF2 := Lib.hid hf2; have HZ2 := Lib.hid hz2; clear hs2 hf2 hz2)
    | (go_at_call 45; refine (xTk w2 gt TT (bs, false) 0 64 (HT1.out.fr HF2.out (fun _ _ h => h))).mono ?_; rintro e w3 ⟨rfl, ht3, hf3⟩; have HT3 := Lib.hid ht3; have HF3 := Lib.hid hf3; clear ht3 hf3))
  obtain ⟨q0, hq0⟩ : ∃ q, tk (bs, false) 0 64 = q := ⟨_, rfl⟩
  have hqi := tk_in (bs, false) (a := 0) (b := 64) (by omega) (by omega)
  rw [hq0] at hqi HT3 ⊢
  obtain ⟨N, hN⟩ : ∃ N : Nat, q0.1 = N := ⟨q0.1.toNat, by omega⟩
  have hUU : Hid (ZU Z (unpL N q0.2 [] [])) := Lib.hid (by
    have := HZ.out
    unfold unpS at this
    rw [hq0, hN] at this
    rw [show ((N : Int)).toNat = N by omega] at this
    unfold ZU
    cases e : unpL N q0.2 [] [] with
    | none => rw [e] at this; exact this.symm
    | some p => rw [e] at this; exact this.symm)
  obtain ⟨U, hU⟩ : ∃ U, unpL N q0.2 [] [] = U := ⟨_, rfl⟩
  rw [hU] at hUU
  rw [hN] at hqi ⊢
  have hz1 : Hid (w1.heap.size + 1 < w3.heap.size) := Lib.hid (by have := HF3.out.size; have := HZ2.out; omega)
  have hI0 : UpI w w1 gt TT (w1.heap.size + 1) w1.heap.size U N q0.2 [] [] w3 := ⟨HT3.out, HS2.out.fr HF3.out (fun b hb e => by have := HT1.out.lt b e; omega), (HF1.out.trans HF2.out).trans' HF3.out (fun b hb e => by have := HL1.out b e; have := HS.out; omega), hU, by simp; omega, by simp [okS]⟩
  have HI0 := Lib.hid hI0
  obtain ⟨s0, hs0⟩ : ∃ s0, w1.heap.size = s0 := ⟨_, rfl⟩
  have HLT : Hid (∀ b, TT b → b < s0) := Lib.hid (by rw [← hs0]; exact HT1.out.lt)
  have hs1 : Hid (n0 ≤ s0) := Lib.hid (by have := HF1.out.size; have := HS.out; omega)
  rw [hs0] at hI0 HI0 hz1 ⊢
  have HQ := Lib.hid hq0; have HNN := Lib.hid hN; have HU := Lib.hid hU
  have hN64 : (N : Int) ≤ 64 := hqi.2
  clear HTk hI0 hq0 hN hU HF1 HT1 HS2 HF2 HZ2 HT3 HF3 hs0 hqi
  go_loopw [16, 6] (fun i ls wr => ∃ (k : Nat) (t : Tst) (last : Str) (B : Stk), k ≤ N ∧ i = .int .i64 k ∧ ls = vS last ∧ UpI w w1 gt TT (s0 + 1) s0 U (N - k) t last B wr) (fun i _ _ => N - (intOf i).toNat)
  case atStart => exact ⟨0, q0.2, [], [], Nat.zero_le _, rfl, rfl, HI0.out⟩
  case round =>
    obtain ⟨k, t, last, B, hk, rfl, rfl, hI⟩ := hrel
    have HI := Lib.hid hI
    clear hI
    by_cases hlt : k < N
    · have hlI : (k : Int) < N := by omega
      have hrest : Hid (unpL (N - k) t last B = U) := Lib.hid HI.out.rest
      obtain ⟨T1, hT1⟩ : ∃ T, tkT t 16 = T := ⟨_, rfl⟩
      have hTx := Lib.hid (cTText wr gt TT t 16 HI.out.tk (by omega))
      rw [hT1] at hTx
      have hgl := tkT_len t (m := 16) (by omega)
      rw [hT1] at hgl
      obtain ⟨gd, t1⟩ := T1
      dsimp only at hTx hgl
      have HT1 := Lib.hid hT1; have HGL := Lib.hid hgl
      clear hT1 hgl
      go_wp2_with (first
        | (go_at_call 46; refine hTx.out.mono ?_; rintro e w4 ⟨rfl, ht4, hf4⟩; have HT4 := Lib.hid ht4; have HF4 := Lib.hid hf4; clear ht4 hf4)
        | (go_at_call 42; refine (sNumbers _ _).mono ?_; rintro e w6 ⟨rfl, hf6⟩; have HF6 := Lib.hid hf6; clear hf6))
      obtain ⟨rb, hrb⟩ : ∃ rb, w4.heap.size = rb := ⟨_, rfl⟩
      have hrow0 : RowAt (w4.alloc (.cells SR.zero.cs 69)) w4.heap.size SR.zero := heap_new _ _
      have hrow6 := HF6.out.at_ hrow0 (fun h => h)
      have hf46 : Fr (fun _ => False) w4 w6 := ((Fr.refl _ w4).alloc _).trans HF6.out
      have hT6 := HT4.out.fr hf46 (fun _ _ h => h)
      have hnT : Hid (¬ TT rb) := Lib.hid (fun e => by have := HT4.out.lt _ e; omega)
      rw [hrb] at hrow6 ⊢
      obtain ⟨Pt, hPt⟩ : ∃ Pt, ptrs rb = Pt := ⟨_, rfl⟩
      rw [hPt]
      have HPT := Lib.hid hPt; have HRW0 := Lib.hid hrow6; have HF46 := Lib.hid hf46; have HT6 := Lib.hid hT6; have HRB := Lib.hid hrb
      clear hrow0 hrow6 hf46 hT6 hPt hrb HF6 hTx HT4
      have hzr : s0 + 1 < wr.heap.size := by have := HI.out.st.lt (s0 + 1) (.inr rfl); exact this
      obtain ⟨wo, hwo⟩ : ∃ wo, wr = wo := ⟨_, rfl⟩
      rw [hwo] at HI HF4 hzr
      have HWO := Lib.hid hzr
      clear hwo hzr
      go_loopw [22] (fun i wq => ∃ j : Nat, j ≤ 11 ∧ i = .int .i64 j ∧ TK wq gt TT (tkNums t1 j).2.1 (tkNums t1 j).2.2 ∧ RowAt wq rb (tkNums t1 j).1 ∧ Fr (fun b => TT b ∨ b = rb) w6 wq) (fun i _ => 11 - (intOf i).toNat)
      case atStart => exact ⟨0, Nat.zero_le _, rfl, HT6.out, HRW0.out, Fr.refl _ _⟩
      case round =>
        obtain ⟨j, hj, rfl, hTj, hRj, hFj⟩ := hrel
        by_cases hlj : j < 11
        · have hix := idxPtr wr rb hlj
          rw [HPT.out] at hix
          have hlJ : (j : Int) < 11 := by omega
          have hnum := Lib.hid (xTk wr gt TT (tkNums t1 j).2 minI maxI hTj)
          obtain ⟨R, hR⟩ : ∃ R, (tkNums t1 j).1 = R := ⟨_, rfl⟩
          obtain ⟨q, hq⟩ : ∃ q, tk (tkNums t1 j).2 minI maxI = q := ⟨_, rfl⟩
          have hnext : Hid (tkNums t1 (j + 1) = (R.set j q.1, q.2)) := Lib.hid (by show ((tkNums t1 j).1.set j (tk (tkNums t1 j).2 minI maxI).1, (tk (tkNums t1 j).2 minI maxI).2) = _; rw [hR, hq])
          rw [hR] at hRj
          rw [hq] at hnum
          have HRj := Lib.hid hRj; have HFj := Lib.hid hFj
          clear hTj hRj hFj hR hq
          go_wp2_with (go_at_call 45; refine hnum.out.mono ?_; rintro e wz ⟨rfl, htz, hfz⟩; have hRz := hfz.at_ HRj.out hnT.out; have hcz := cell_obj hRz j _ (R.cs_get hlj); have hzz := obj_frozen hRz j; have HTZ := Lib.hid htz; have HFZ := Lib.hid hfz; have HRZ := Lib.hid hRz; clear htz hfz hRz)
          go_roundw
          case rel =>
            have hset := obj_set HRZ.out j (.int .i64 q.1)
            rw [R.cs_set hlj] at hset
            have hfs : Fr (fun b => b = rb) wz (wz.setCell ⟨rb, j, none⟩ (.int .i64 q.1)) := (Fr.refl (fun b => b = rb) wz).setCell (p := ⟨rb, j, none⟩) (fun _ => rfl) _
            refine ⟨j + 1, by omega, by go_num, ?_, ?_, ?_⟩
            · rw [hnext.out]; exact HTZ.out.fr hfs (fun b hb e => hnT.out (e ▸ hb))
            · rw [hnext.out]; exact hset
            · exact (HFj.out.trans (HFZ.out.mono (fun _ _ e => .inl e))).trans (hfs.mono (fun _ _ e => .inr e))
          case measure => simp [intOf]; omega
        · obtain rfl : j = 11 := by omega
          obtain ⟨RT, hRT⟩ : ∃ RT, tkNums t1 11 = RT := ⟨_, rfl⟩
          rw [hRT] at hTj hRj
          have htr : Hid (tkRow t = (gd, RT)) := Lib.hid (by unfold tkRow; rw [HT1.out, hRT])
          obtain ⟨R, t2⟩ := RT
          dsimp only at hTj hRj
          have hokg : Hid (okS gd) := Lib.hid (by have := HGL.out; unfold okS maxLen; omega)
          obtain ⟨M, hM⟩ : ∃ M, N - k = M + 1 := ⟨N - k - 1, by omega⟩
          have hstep : Hid (U = if rowMay last gd R = true then unpL M t2 gd (putS ktS.lt B gd R) else none) := Lib.hid (by
            rw [← hrest.out, hM]
            show (if rowMay last (tkRow t).1 (tkRow t).2.1 = true then unpL M (tkRow t).2.2 (tkRow t).1 (putS ktS.lt B (tkRow t).1 (tkRow t).2.1) else none) = _
            rw [htr.out])
          have hfw : Hid (Fr (fun b => TT b ∨ rb ≤ b) wo wr) := Lib.hid (by
            have h1 := HF4.out
            have h2 := HF46.out
            have hs := HRB.out
            exact ((h1.mono (S' := fun b => TT b ∨ rb ≤ b) (fun b _ e => .inl e)).trans (h2.mono (fun b _ e => e.elim))).trans (hFj.mono (fun b _ e => e.elim .inl (fun e => .inr (by omega)))))
          have HRW := Lib.hid hRj; have HTj := Lib.hid hTj; have HMM := Lib.hid hM
          clear hTj hRj hFj hRT hM hrest
          obtain ⟨f0, f1, f2, f3, f4, f5, f6, f7, f8, f9, f10⟩ := R
          have HFQ : Hid (Fr (fun _ => False) w wr) := Lib.hid (HI.out.fr.trans' hfw.out (fun b hb e => by have := HL1.out; have := HI.out.fr.size; have := HRB.out; have := HF4.out.size; have := HS.out; exact e.elim (fun e => by have := HL1.out b e; omega) (fun e => by omega)))
          have hbad : Hid (rowMay last gd ⟨f0, f1, f2, f3, f4, f5, f6, f7, f8, f9, f10⟩ = false → Z = none) := Lib.hid (fun e => by
            have h1 := hstep.out
            rw [e] at h1
            have h2 := hUU.out
            rw [h1] at h2
            exact h2)
          obtain ⟨bal, hbal⟩ : ∃ b, (SR.mk f0 f1 f2 f3 f4 f5 f6 f7 f8 f9 f10).bal = b := ⟨_, rfl⟩
          obtain ⟨ri, hri⟩ : ∃ b, (SR.mk f0 f1 f2 f3 f4 f5 f6 f7 f8 f9 f10).right = b := ⟨_, rfl⟩
          have hBal : Hid (∀ W, Calls Try.prog 17 #[.agg #[.int .i64 f0, .int .i64 f1, .int .i64 f2, .int .i64 f3], .agg #[.int .i64 f4, .int .i64 f5, .int .i64 f6, .int .i64 f7, .int .i64 f8, .int .i64 f9, .int .i64 f10]] W fun e w' => e = .returned (.bool bal) ∧ Fr (fun _ => False) W w') := Lib.hid (fun W => by rw [← hbal]; exact sBalanced W ⟨f0, f1, f2, f3, f4, f5, f6, f7, f8, f9, f10⟩)
          by_cases hg : goodB gd = true
          · rcases str_tri last gd with hlt2 | heq | hgt
            · have q1 : Op.bytesLess gd last = false := by rw [bytesLess_eq]; simpa using str_asym hlt2
              have q2 : (gd == last) = false := by
                simp only [beq_eq_false_iff_ne, ne_eq]
                rintro rfl; exact str_irr _ hlt2
              have HL2 := Lib.hid hlt2
              clear hlt2
              cases bal with
              | false =>
                have hZ0 := Lib.hid (hbad.out (by unfold rowMay; rw [hbal]; simp))
                clear hbal
                go_wp2_with (first
                  | (go_at_call 47; refine (iGood _ gd hokg.out).mono ?_; rw [hg]; rintro e w7 ⟨rfl, hf7⟩; have hr7 := hf7.at_ HRW.out (fun h => h); have HR7 := Lib.hid hr7; obtain ⟨d0, d1, d2, d3, d4, d5, d6, d7, d8, d9, d10⟩ := rowCells hr7; have HF7 := Lib.hid hf7; clear hr7 hf7)
                  | (go_at_call 17; refine (hBal.out _).mono ?_; rintro e w8 ⟨rfl, hf8⟩; have HF8 := Lib.hid hf8; have HR8 := Lib.hid (hf8.at_ HR7.out (fun h => h)); clear hf8)
                  | (go_at_call 38; refine (sRight _ _ _ HR8.out).mono ?_; rw [HRI.out]; rintro e w9 ⟨rfl, hf9⟩; have HF9 := Lib.hid hf9; clear hf9))
                go_ret2
                exact ⟨(HFQ.out.trans HF7.out).trans HF8.out, by rw [hZ0.out]; rfl⟩
              | true =>
                cases ri with
                | false =>
                  have hZ0 := Lib.hid (hbad.out (by unfold rowMay; rw [hri]; simp))
                  have HRI := Lib.hid hri
                  clear hbal hri
                  go_wp2_with (first
                    | (go_at_call 47; refine (iGood _ gd hokg.out).mono ?_; rw [hg]; rintro e w7 ⟨rfl, hf7⟩; have hr7 := hf7.at_ HRW.out (fun h => h); have HR7 := Lib.hid hr7; obtain ⟨d0, d1, d2, d3, d4, d5, d6, d7, d8, d9, d10⟩ := rowCells hr7; have HF7 := Lib.hid hf7; clear hr7 hf7)
                    | (go_at_call 17; refine (hBal.out _).mono ?_; rintro e w8 ⟨rfl, hf8⟩; have HF8 := Lib.hid hf8; have HR8 := Lib.hid (hf8.at_ HR7.out (fun h => h)); clear hf8)
                    | (go_at_call 38; refine (sRight _ _ _ HR8.out).mono ?_; rw [HRI.out]; rintro e w9 ⟨rfl, hf9⟩; have HF9 := Lib.hid hf9; clear hf9))
                  go_ret2
                  exact ⟨((HFQ.out.trans HF7.out).trans HF8.out).trans HF9.out, by rw [hZ0.out]; rfl⟩
                | true =>
                  have hyes : Hid (rowMay last gd ⟨f0, f1, f2, f3, f4, f5, f6, f7, f8, f9, f10⟩ = true) := Lib.hid (by unfold rowMay; rw [hbal, hri, hg, decide_eq_true HL2.out]; rfl)
                  have HRI := Lib.hid hri
                  clear hbal hri
                  go_wp2_with (first
                    | (go_at_call 47; refine (iGood _ gd hokg.out).mono ?_; rw [hg]; rintro e w7 ⟨rfl, hf7⟩; have hr7 := hf7.at_ HRW.out (fun h => h); have HR7 := Lib.hid hr7; obtain ⟨d0, d1, d2, d3, d4, d5, d6, d7, d8, d9, d10⟩ := rowCells hr7; have HF7 := Lib.hid hf7; clear hr7 hf7)
                    | (go_at_call 17; refine (hBal.out _).mono ?_; rintro e w8 ⟨rfl, hf8⟩; have HF8 := Lib.hid hf8; have HR8 := Lib.hid (hf8.at_ HR7.out (fun h => h)); clear hf8)
                    | (go_at_call 38; refine (sRight _ _ _ HR8.out).mono ?_; rw [HRI.out]; rintro e w9 ⟨rfl, hf9⟩; have HF9 := Lib.hid hf9; clear hf9))
                  have hF : Fr (fun _ => False) wr w9.drew := ((HF7.out.trans HF8.out).trans HF9.out).drew
                  have hB3 : RowAt w9.drew rb ⟨f0, f1, f2, f3, f4, f5, f6, f7, f8, f9, f10⟩ := hF.at_ HRW.out (fun h => h)
                  have hrs : Hid (s0 + 1 < rb) := Lib.hid (by have := hz1.out; have := HRB.out; have := HF4.out.size; have := HWO.out; omega)
                  have hsA := (HI.out.st.fr hfw.out (fun b hb e => by have := hrs.out; exact e.elim (fun e => by have := HLT.out b e; omega) (fun e => by omega))).fr hF (fun _ _ h => h)
                  have hmm : ∃ m, w9.drew.heap[s0 + 1]? = some (.cells #[.map (some m)] 64) ∧ Mp Try.prog w9.drew 9 ktS SR.enc m B ∧ (m = s0 ∨ m = s0 + 1) := hsA.ex
                  obtain ⟨m, hgc, hmp, hTm⟩ := hmm
                  obtain ⟨w5, hst5, hm5, ht5⟩ := hmp.store kS Try.underlying62 (by have := HI.out.len; omega) hokg.out (SR.mk f0 f1 f2 f3 f4 f5 f6 f7 f8 f9 f10)
                  have hne : s0 + 1 ≠ m := map_ne_cells hmp hgc
                  have hltA := hsA.lt
                  obtain ⟨d0, d1, d2, d3, d4, d5, d6, d7, d8, d9, d10⟩ := rowCells hB3
                  have cg := cell_obj hgc 0 (.map (some m)) rfl
                  have hst6 : (Instr.mapUpdate 62 (.map (some m)) (vS gd) (.agg #[.int .i64 f0, .int .i64 f1, .int .i64 f2, .int .i64 f3, .int .i64 f4, .int .i64 f5, .int .i64 f6, .int .i64 f7, .int .i64 f8, .int .i64 f9, .int .i64 f10])).run Try.prog w9.drew = .ok () w5 := hst5
                  clear hst5
                  have HF := Lib.hid hF; have HM5 := Lib.hid hm5; have HT5 := Lib.hid ht5; have HGC := Lib.hid hgc; have HTM := Lib.hid hTm; have HNE := Lib.hid hne; have HLA := Lib.hid hltA
                  refine wp_region_still_tail 6 (by kernel_rfl) (by kernel_rfl) ?_
                  simp only [List.take_succ_cons, List.take_zero, List.drop_succ_cons, List.drop_zero]
                  change wpStill _ _ w9.drew (fun a' => wpList _ _ _ _ a' w9.drew) _ _
                  clear hF hB3 hsA hgc hmp hTm hm5 ht5 hne hltA
                  generalize w9.drew = V at *
                  repeat still_step
                  refine wpStill_nil ?_
                  go_wp2_with fail
                  have hF5 : Fr (fun b => b = m) wr w5 := (HF.out.mono (fun _ _ h => h.elim)).trans' (Fr.turned (S := fun b => b = m) HT5.out rfl) (fun b _ e => e)
                  have hF5v : Fr (fun b => b = m) V w5 := Fr.turned (S := fun b => b = m) HT5.out rfl
                  have hms : s0 ≤ m := by have := HTM.out; omega
                  go_roundw
                  case rel =>
                    refine ⟨k + 1, t2, gd, putS ktS.lt B gd ⟨f0, f1, f2, f3, f4, f5, f6, f7, f8, f9, f10⟩, by omega, by go_num, rfl, ?_⟩
                    refine ⟨HTj.out.fr hF5 (fun b hb e => by have := HLT.out b hb; omega), ⟨⟨m, hF5v.at_ HGC.out HNE.out, HM5.out, HTM.out⟩, .inr rfl, fun b hb => Nat.lt_of_lt_of_le (HLA.out b hb) hF5v.size⟩, HFQ.out.trans' hF5 (fun b hb e => by have := hs1.out; have := HS.out; omega), ?_, ?_, hokg.out⟩
                    · have h1 := hstep.out
                      rw [if_pos hyes.out] at h1
                      rw [show N - (k + 1) = M by have := HMM.out; omega]
                      exact h1.symm
                    · have := putK_len ktS.lt B gd (SR.mk f0 f1 f2 f3 f4 f5 f6 f7 f8 f9 f10)
                      have := HI.out.len
                      omega
                  case measure => simp [intOf]; omega
            · have hZ0 := Lib.hid (hbad.out (by unfold rowMay; rw [heq, decide_eq_false (str_irr gd)]; simp))
              have q2 : (gd == last) = true := by simp [heq]
              clear hbal heq
              go_wp2_with (first
                | (go_at_call 47; refine (iGood _ gd hokg.out).mono ?_; rw [hg]; rintro e w7 ⟨rfl, hf7⟩; have hr7 := hf7.at_ HRW.out (fun h => h); have HR7 := Lib.hid hr7; obtain ⟨d0, d1, d2, d3, d4, d5, d6, d7, d8, d9, d10⟩ := rowCells hr7; have HF7 := Lib.hid hf7; clear hr7 hf7)
                | (go_at_call 17; refine (hBal.out _).mono ?_; rintro e w8 ⟨rfl, hf8⟩; have HF8 := Lib.hid hf8; have HR8 := Lib.hid (hf8.at_ HR7.out (fun h => h)); clear hf8)
                | (go_at_call 38; refine (sRight _ _ _ HR8.out).mono ?_; rw [HRI.out]; rintro e w9 ⟨rfl, hf9⟩; have HF9 := Lib.hid hf9; clear hf9))
              go_ret2
              exact ⟨HFQ.out.trans HF7.out, by rw [hZ0.out]; rfl⟩
            · have hZ0 := Lib.hid (hbad.out (by unfold rowMay; rw [decide_eq_false (str_asym hgt)]; simp))
              have q1 : Op.bytesLess gd last = true := by rw [bytesLess_eq]; simpa using hgt
              clear hbal hgt
              go_wp2_with (first
                | (go_at_call 47; refine (iGood _ gd hokg.out).mono ?_; rw [hg]; rintro e w7 ⟨rfl, hf7⟩; have hr7 := hf7.at_ HRW.out (fun h => h); have HR7 := Lib.hid hr7; obtain ⟨d0, d1, d2, d3, d4, d5, d6, d7, d8, d9, d10⟩ := rowCells hr7; have HF7 := Lib.hid hf7; clear hr7 hf7)
                | (go_at_call 17; refine (hBal.out _).mono ?_; rintro e w8 ⟨rfl, hf8⟩; have HF8 := Lib.hid hf8; have HR8 := Lib.hid (hf8.at_ HR7.out (fun h => h)); clear hf8)
                | (go_at_call 38; refine (sRight _ _ _ HR8.out).mono ?_; rw [HRI.out]; rintro e w9 ⟨rfl, hf9⟩; have HF9 := Lib.hid hf9; clear hf9))
              go_ret2
              exact ⟨HFQ.out.trans HF7.out, by rw [hZ0.out]; rfl⟩
          · have hg : goodB gd = false := by simpa using hg
            have hZ0 := Lib.hid (hbad.out (by unfold rowMay; rw [hg]; simp))
            clear hbal
            go_wp2_with (first
              | (go_at_call 47; refine (iGood _ gd hokg.out).mono ?_; rw [hg]; rintro e w7 ⟨rfl, hf7⟩; have hr7 := hf7.at_ HRW.out (fun h => h); have HR7 := Lib.hid hr7; obtain ⟨d0, d1, d2, d3, d4, d5, d6, d7, d8, d9, d10⟩ := rowCells hr7; have HF7 := Lib.hid hf7; clear hr7 hf7)
              | (go_at_call 17; refine (hBal.out _).mono ?_; rintro e w8 ⟨rfl, hf8⟩; have HF8 := Lib.hid hf8; have HR8 := Lib.hid (hf8.at_ HR7.out (fun h => h)); clear hf8)
              | (go_at_call 38; refine (sRight _ _ _ HR8.out).mono ?_; rw [HRI.out]; rintro e w9 ⟨rfl, hf9⟩; have HF9 := Lib.hid hf9; clear hf9))
            go_ret2
            exact ⟨HFQ.out.trans HF7.out, by rw [hZ0.out]; rfl⟩
    · have : k = N := by omega
      subst this
      have hZe : Hid (Z = if doneT t.1 t.2 = 0 then some B else none) := Lib.hid (by
        have h1 := HI.out.rest
        rw [Nat.sub_self] at h1
        have h2 := hUU.out
        rw [← h1] at h2
        exact h2)
      have hDone := Lib.hid (cTDone wr gt TT t.1 t.2 HI.out.tk)
      obtain ⟨Dn, hDn⟩ : ∃ D, doneT t.1 t.2 = D := ⟨_, rfl⟩
      rw [hDn] at hZe hDone
      clear hDn
      by_cases hd : Dn = 0
      · subst hd
        have hz := hZe.out
        rw [if_pos rfl] at hz
        have HZE := Lib.hid hz
        clear hz
        go_wp2_with (go_at_call 48; refine hDone.out.mono ?_; rintro e w4 ⟨rfl, rfl⟩)
        go_ret2
        refine ⟨HI.out.fr, ?_⟩
        rw [HZE.out]
        exact ⟨_, _, rfl, HI.out.st, fun b hb => by have := hs1.out; have := HS.out; omega⟩
      · have hz := hZe.out
        rw [if_neg hd] at hz
        have HZE := Lib.hid hz
        clear hz
        go_wp2_with (go_at_call 48; refine hDone.out.mono ?_; rintro e w4 ⟨rfl, rfl⟩)
        go_ret2
        exact ⟨HI.out.fr, by rw [HZE.out]; rfl⟩
end Go.Proofs.Ytclgmnobockfnaa
