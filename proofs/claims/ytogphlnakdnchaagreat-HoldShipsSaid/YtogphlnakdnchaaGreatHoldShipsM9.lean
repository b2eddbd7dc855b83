/- Texts of this claim, joined: stock: Unpack, walked; hold: Unpack (written by wip/tools/unp08.py); stock's laws: lives: the states that its program goes through; hold: a shelf's Pack, Unpack and Sound; a law's own shelf; the states of lives; entrepotref05.May; entrepotref06: Good, May, Same; entrepotref06: May, Same; hold's laws: lives; ref06: Of; HoldShips on its way: the shelf, the two books of what was taken and what was shipped; HoldShips, plainly: the books after each call. -/
import Derived.Test.YtogphlnakdnchaaGreatHoldShipsM4
import Derived.Test.YtogphlnakdnchaaGreatHoldShipsM2
import Derived.Test.YtogphlnakdnchaaGreatHoldShipsM1
import Derived.Deep.RegionWith
import Derived.Test.YtogphlnakdnchaaGreatHoldShipsM8
import Derived.Test.YtogphlnakdnchaaGreatHoldShipsM6
import Derived.LoopN
import Derived.Test.YtogphlnakdnchaaGreatHoldShipsM7
import Derived.Deep.QuietTactic
import Derived.BigQuiet
import Derived.Deep.RegionHeld3
import Derived.Test.YtogphlnakdnchaaGreatHoldShipsM3
namespace Go.Proofs.YtogphlnakdnchaaGreat
open Go.RowKit Go.Maps
theorem tkT_len (t : Tst) {m : Int} (hm : 0 ≤ m) : ((tkT t m).1.length : Int) ≤ m := by
  have h := tk_in t (a := 0) (b := m) (Int.le_refl _) hm
  unfold tkT
  dsimp only
  split <;> (try split) <;> simp [bS, List.length_take] <;> omega
/-- What Unpack leaves. -/
def UpP (w : World) (Z : Option Stk) (e : Ending) (w' : World) : Prop := Fr (fun _ => False) w w' ∧ match Z with
  | some A => ∃ g TS, e = .returned (.tuple #[.pointer (some ⟨g, 0, none⟩), .int .i64 0]) ∧ SA w' g TS A ∧ ∀ b, TS b → w.heap.size ≤ b
  | none => e = .returned (.tuple #[.pointer none, .int .i64 10])
def ZU (Z : Option Stk) (U : Option (Stk × Tst)) : Prop := match U with | none => Z = none | some (A, t) => Z = if doneT t.1 t.2 = 0 then some A else none
theorem rowCells {W : World} {b : Nat} {f0 f1 f2 f3 f4 f5 f6 f7 f8 f9 f10 : Int} (h : RowAt W b ⟨f0, f1, f2, f3, f4, f5, f6, f7, f8, f9, f10⟩) :
    W.cell? ⟨b, 0, none⟩ = some (.int .i64 f0) ∧ W.cell? ⟨b, 1, none⟩ = some (.int .i64 f1) ∧ W.cell? ⟨b, 2, none⟩ = some (.int .i64 f2) ∧ W.cell? ⟨b, 3, none⟩ = some (.int .i64 f3) ∧ W.cell? ⟨b, 4, none⟩ = some (.int .i64 f4) ∧ W.cell? ⟨b, 5, none⟩ = some (.int .i64 f5) ∧ W.cell? ⟨b, 6, none⟩ = some (.int .i64 f6) ∧ W.cell? ⟨b, 7, none⟩ = some (.int .i64 f7) ∧ W.cell? ⟨b, 8, none⟩ = some (.int .i64 f8) ∧ W.cell? ⟨b, 9, none⟩ = some (.int .i64 f9) ∧ W.cell? ⟨b, 10, none⟩ = some (.int .i64 f10) :=
  ⟨cell_obj h 0 _ rfl, cell_obj h 1 _ rfl, cell_obj h 2 _ rfl, cell_obj h 3 _ rfl, cell_obj h 4 _ rfl, cell_obj h 5 _ rfl, cell_obj h 6 _ rfl, cell_obj h 7 _ rfl, cell_obj h 8 _ rfl, cell_obj h 9 _ rfl, cell_obj h 10 _ rfl⟩
/-- On the way of Unpack: what is taken, what is left, what is laid. -/
structure UpI (w w1 : World) (gt : Nat) (TT : Nat → Prop) (gs s0 : Nat) (U : Option (Stk × Tst)) (n : Nat) (t : Tst) (last : Str) (B : Stk) (W : World) : Prop where
  tk : TK W gt TT t.1 t.2
  st : SA W gs (fun b => b = s0 ∨ b = s0 + 1) B
  fr : Fr (fun _ => False) w W
  rest : unpL n t last B = U
  len : B.length + n ≤ 64
  ok : okS last
set_option maxRecDepth 100000 in
set_option maxHeartbeats 8000000 in
theorem sUnpack (w : World) (v : Value) (bs : List Int) (h : Bs w v bs) (hl : (bs.length : Int) ≤ 140737488351232) (hb : Byt bs) (ho : ∀ b, v.ownBlock = some b → b < w.heap.size) :
    Calls Tryz.prog 62 #[v] w (UpP w (unpS bs)) := by
  obtain ⟨Z, hZ⟩ : ∃ Z, unpS bs = Z := ⟨_, rfl⟩
  rw [hZ]
  have HZ := Lib.hid hZ
  obtain ⟨n0, hn0⟩ : ∃ n0, w.heap.size = n0 := ⟨_, rfl⟩
  have HS := Lib.hid hn0
  have HTk := Lib.hid (cTake w v bs h hl hb)
  clear hZ h hl hb ho
  go_enter Tryz.func62, Tryz.ntmps62
  go_wp2_with (first
    | (go_at_call 61; refine HTk.out.mono ?_; rintro e w1 ⟨gt, TT, rfl, ht1, hf1, hl1⟩; have HT1 := Lib.hid ht1; have HF1 := Lib.hid hf1; have HL1 := Lib.hid hl1; clear ht1 hf1 hl1)
    | (go_at_call 24; refine (sNew _).mono ?_; rintro e w2 ⟨rfl, hs2, hf2, hz2⟩; have HS2 := Lib.hid hs2; have HF2 := Lib.hid hf2; have HZ2 := Lib.hid hz2; clear hs2 hf2 hz2)
    | (go_at_call 64; refine (xTk w2 gt TT (bs, false) 0 64 (HT1.out.fr HF2.out (fun _ _ h => h))).mono ?_; rintro e w3 ⟨rfl, ht3, hf3⟩; have HT3 := Lib.hid ht3; have HF3 := Lib.hid hf3; clear ht3 hf3))
  obtain ⟨q0, hq0⟩ : ∃ q, tk (bs, false) 0 64 = q := ⟨_, rfl⟩
  have hqi := tk_in (bs, false) (a := 0) (b := 64) (by omega) (by omega)
  rw [hq0] at hqi HT3 ⊢
  obtain ⟨N, hN⟩ : ∃ N : Nat, q0.1 = N := ⟨q0.1.toNat, by omega⟩
  have hUU : Hid (ZU Z (unpL N q0.2 [] [])) := Lib.hid (by
    have := HZ.out
    unfold unpS at this
    rw [hq0, hN] at this
    rw [show ((N : Int)).toNat = N by omega] at this
    unfold ZU
    cases e : unpL N q0.2 [] [] with
    | none => rw [e] at this; exact this.symm
    | some p => rw [e] at this; exact this.symm)
  obtain ⟨U, hU⟩ : ∃ U, unpL N q0.2 [] [] = U := ⟨_, rfl⟩
  rw [hU] at hUU
  rw [hN] at hqi ⊢
  have hz1 : Hid (w1.heap.size + 1 < w3.heap.size) := Lib.hid (by have := HF3.out.size; have := HZ2.out; omega)
  have hI0 : UpI w w1 gt TT (w1.heap.size + 1) w1.heap.size U N q0.2 [] [] w3 := ⟨HT3.out, HS2.out.fr HF3.out (fun b hb e => by have := HT1.out.lt b e; omega), (HF1.out.trans HF2.out).trans' HF3.out (fun b hb e => by have := HL1.out b e; have := HS.out; omega), hU, by simp; omega, by simp [okS]⟩
  have HI0 := Lib.hid hI0
  obtain ⟨s0, hs0⟩ : ∃ s0, w1.heap.size = s0 := ⟨_, rfl⟩
  have HLT : Hid (∀ b, TT b → b < s0) := Lib.hid (by rw [← hs0]; exact HT1.out.lt)
  have hs1 : Hid (n0 ≤ s0) := Lib.hid (by have := HF1.out.size; have := HS.out; omega)
  rw [hs0] at hI0 HI0 hz1 ⊢
  have HQ := Lib.hid hq0; have HNN := Lib.hid hN; have HU := Lib.hid hU
  have hN64 : (N : Int) ≤ 64 := hqi.2
  clear HTk hI0 hq0 hN hU HF1 HT1 HS2 HF2 HZ2 HT3 HF3 hs0 hqi
  go_loopw [16, 6] (fun i ls wr => ∃ (k : Nat) (t : Tst) (last : Str) (B : Stk), k ≤ N ∧ i = .int .i64 k ∧ ls = vS last ∧ UpI w w1 gt TT (s0 + 1) s0 U (N - k) t last B wr) (fun i _ _ => N - (intOf i).toNat)
  case atStart => exact ⟨0, q0.2, [], [], Nat.zero_le _, rfl, rfl, HI0.out⟩
  case round =>
    obtain ⟨k, t, last, B, hk, rfl, rfl, hI⟩ := hrel
    have HI := Lib.hid hI
    clear hI
    by_cases hlt : k < N
    · have hlI : (k : Int) < N := by omega
      have hrest : Hid (unpL (N - k) t last B = U) := Lib.hid HI.out.rest
      obtain ⟨T1, hT1⟩ : ∃ T, tkT t 16 = T := ⟨_, rfl⟩
      have hTx := Lib.hid (cTText wr gt TT t 16 HI.out.tk (by omega))
      rw [hT1] at hTx
      have hgl := tkT_len t (m := 16) (by omega)
      rw [hT1] at hgl
      obtain ⟨gd, t1⟩ := T1
      dsimp only at hTx hgl
      have HT1 := Lib.hid hT1; have HGL := Lib.hid hgl
      clear hT1 hgl
      go_wp2_with (first
        | (go_at_call 63; refine hTx.out.mono ?_; rintro e w4 ⟨rfl, ht4, hf4⟩; have HT4 := Lib.hid ht4; have HF4 := Lib.hid hf4; clear ht4 hf4)
        | (go_at_call 91; refine (sNumbers _ _).mono ?_; rintro e w6 ⟨rfl, hf6⟩; have HF6 := Lib.hid hf6; clear hf6))
      obtain ⟨rb, hrb⟩ : ∃ rb, w4.heap.size = rb := ⟨_, rfl⟩
      have hrow0 : RowAt (w4.alloc (.cells SR.zero.cs 121)) w4.heap.size SR.zero := heap_new _ _
      have hrow6 := HF6.out.at_ hrow0 (fun h => h)
      have hf46 : Fr (fun _ => False) w4 w6 := ((Fr.refl _ w4).alloc _).trans HF6.out
      have hT6 := HT4.out.fr hf46 (fun _ _ h => h)
      have hnT : Hid (¬ TT rb) := Lib.hid (fun e => by have := HT4.out.lt _ e; omega)
      rw [hrb] at hrow6 ⊢
      obtain ⟨Pt, hPt⟩ : ∃ Pt, ptrs rb = Pt := ⟨_, rfl⟩
      rw [hPt]
      have HPT := Lib.hid hPt; have HRW0 := Lib.hid hrow6; have HF46 := Lib.hid hf46; have HT6 := Lib.hid hT6; have HRB := Lib.hid hrb
      clear hrow0 hrow6 hf46 hT6 hPt hrb HF6 hTx HT4
      have hzr : s0 + 1 < wr.heap.size := by have := HI.out.st.lt (s0 + 1) (.inr rfl); exact this
      obtain ⟨wo, hwo⟩ : ∃ wo, wr = wo := ⟨_, rfl⟩
      rw [hwo] at HI HF4 hzr
      have HWO := Lib.hid hzr
      clear hwo hzr
      go_loopw [22] (fun i wq => ∃ j : Nat, j ≤ 11 ∧ i = .int .i64 j ∧ TK wq gt TT (tkNums t1 j).2.1 (tkNums t1 j).2.2 ∧ RowAt wq rb (tkNums t1 j).1 ∧ Fr (fun b => TT b ∨ b = rb) w6 wq) (fun i _ => 11 - (intOf i).toNat)
      case atStart => exact ⟨0, Nat.zero_le _, rfl, HT6.out, HRW0.out, Fr.refl _ _⟩
      case round =>
        obtain ⟨j, hj, rfl, hTj, hRj, hFj⟩ := hrel
        by_cases hlj : j < 11
        · have hix := idxPtr wr rb hlj
          rw [HPT.out] at hix
          have hlJ : (j : Int) < 11 := by omega
          have hnum := Lib.hid (xTk wr gt TT (tkNums t1 j).2 minI maxI hTj)
          obtain ⟨R, hR⟩ : ∃ R, (tkNums t1 j).1 = R := ⟨_, rfl⟩
          obtain ⟨q, hq⟩ : ∃ q, tk (tkNums t1 j).2 minI maxI = q := ⟨_, rfl⟩
          have hnext : Hid (tkNums t1 (j + 1) = (R.set j q.1, q.2)) := Lib.hid (by show ((tkNums t1 j).1.set j (tk (tkNums t1 j).2 minI maxI).1, (tk (tkNums t1 j).2 minI maxI).2) = _; rw [hR, hq])
          rw [hR] at hRj
          rw [hq] at hnum
          have HRj := Lib.hid hRj; have HFj := Lib.hid hFj
          clear hTj hRj hFj hR hq
          go_wp2_with (go_at_call 64; refine hnum.out.mono ?_; rintro e wz ⟨rfl, htz, hfz⟩; have hRz := hfz.at_ HRj.out hnT.out; have hcz := cell_obj hRz j _ (R.cs_get hlj); have hzz := obj_frozen hRz j; have HTZ := Lib.hid htz; have HFZ := Lib.hid hfz; have HRZ := Lib.hid hRz; clear htz hfz hRz)
          go_roundw
          case rel =>
            have hset := obj_set HRZ.out j (.int .i64 q.1)
            rw [R.cs_set hlj] at hset
            have hfs : Fr (fun b => b = rb) wz (wz.setCell ⟨rb, j, none⟩ (.int .i64 q.1)) := (Fr.refl (fun b => b = rb) wz).setCell (p := ⟨rb, j, none⟩) (fun _ => rfl) _
            refine ⟨j + 1, by omega, by go_num, ?_, ?_, ?_⟩
            · rw [hnext.out]; exact HTZ.out.fr hfs (fun b hb e => hnT.out (e ▸ hb))
            · rw [hnext.out]; exact hset
            · exact (HFj.out.trans (HFZ.out.mono (fun _ _ e => .inl e))).trans (hfs.mono (fun _ _ e => .inr e))
          case measure => simp [intOf]; omega
        · obtain rfl : j = 11 := by omega
          obtain ⟨RT, hRT⟩ : ∃ RT, tkNums t1 11 = RT := ⟨_, rfl⟩
          rw [hRT] at hTj hRj
          have htr : Hid (tkRow t = (gd, RT)) := Lib.hid (by unfold tkRow; rw [HT1.out, hRT])
          obtain ⟨R, t2⟩ := RT
          dsimp only at hTj hRj
          have hokg : Hid (okS gd) := Lib.hid (by have := HGL.out; unfold okS maxLen; omega)
          obtain ⟨M, hM⟩ : ∃ M, N - k = M + 1 := ⟨N - k - 1, by omega⟩
          have hstep : Hid (U = if rowMay last gd R = true then unpL M t2 gd (putS ktS.lt B gd R) else none) := Lib.hid (by
            rw [← hrest.out, hM]
            show (if rowMay last (tkRow t).1 (tkRow t).2.1 = true then unpL M (tkRow t).2.2 (tkRow t).1 (putS ktS.lt B (tkRow t).1 (tkRow t).2.1) else none) = _
            rw [htr.out])
          have hfw : Hid (Fr (fun b => TT b ∨ rb ≤ b) wo wr) := Lib.hid (by
            have h1 := HF4.out
            have h2 := HF46.out
            have hs := HRB.out
            exact ((h1.mono (S' := fun b => TT b ∨ rb ≤ b) (fun b _ e => .inl e)).trans (h2.mono (fun b _ e => e.elim))).trans (hFj.mono (fun b _ e => e.elim .inl (fun e => .inr (by omega)))))
          have HRW := Lib.hid hRj; have HTj := Lib.hid hTj; have HMM := Lib.hid hM
          clear hTj hRj hFj hRT hM hrest
          obtain ⟨f0, f1, f2, f3, f4, f5, f6, f7, f8, f9, f10⟩ := R
          have HFQ : Hid (Fr (fun _ => False) w wr) := Lib.hid (HI.out.fr.trans' hfw.out (fun b hb e => by have := HL1.out; have := HI.out.fr.size; have := HRB.out; have := HF4.out.size; have := HS.out; exact e.elim (fun e => by have := HL1.out b e; omega) (fun e => by omega)))
          have hbad : Hid (rowMay last gd ⟨f0, f1, f2, f3, f4, f5, f6, f7, f8, f9, f10⟩ = false → Z = none) := Lib.hid (fun e => by
            have h1 := hstep.out
            rw [e] at h1
            have h2 := hUU.out
            rw [h1] at h2
            exact h2)
          obtain ⟨bal, hbal⟩ : ∃ b, (SR.mk f0 f1 f2 f3 f4 f5 f6 f7 f8 f9 f10).bal = b := ⟨_, rfl⟩
          obtain ⟨ri, hri⟩ : ∃ b, (SR.mk f0 f1 f2 f3 f4 f5 f6 f7 f8 f9 f10).right = b := ⟨_, rfl⟩
          have hBal : Hid (∀ W, Calls Tryz.prog 99 #[.agg #[.int .i64 f0, .int .i64 f1, .int .i64 f2, .int .i64 f3], .agg #[.int .i64 f4, .int .i64 f5, .int .i64 f6, .int .i64 f7, .int .i64 f8, .int .i64 f9, .int .i64 f10]] W fun e w' => e = .returned (.bool bal) ∧ Fr (fun _ => False) W w') := Lib.hid (fun W => by rw [← hbal]; exact sBalanced W ⟨f0, f1, f2, f3, f4, f5, f6, f7, f8, f9, f10⟩)
          by_cases hg : goodB gd = true
          · rcases str_tri last gd with hlt2 | heq | hgt
            · have q1 : Op.bytesLess gd last = false := by rw [bytesLess_eq]; simpa using str_asym hlt2
              have q2 : (gd == last) = false := by
                simp only [beq_eq_false_iff_ne, ne_eq]
                rintro rfl; exact str_irr _ hlt2
              have HL2 := Lib.hid hlt2
              clear hlt2
              cases bal with
              | false =>
                have hZ0 := Lib.hid (hbad.out (by unfold rowMay; rw [hbal]; simp))
                clear hbal
                go_wp2_with (first
                  | (go_at_call 67; refine (iGood _ gd hokg.out).mono ?_; rw [hg]; rintro e w7 ⟨rfl, hf7⟩; have hr7 := hf7.at_ HRW.out (fun h => h); have HR7 := Lib.hid hr7; obtain ⟨d0, d1, d2, d3, d4, d5, d6, d7, d8, d9, d10⟩ := rowCells hr7; have HF7 := Lib.hid hf7; clear hr7 hf7)
                  | (go_at_call 99; refine (hBal.out _).mono ?_; rintro e w8 ⟨rfl, hf8⟩; have HF8 := Lib.hid hf8; have HR8 := Lib.hid (hf8.at_ HR7.out (fun h => h)); clear hf8)
                  | (go_at_call 76; refine (sRight _ _ _ HR8.out).mono ?_; rw [HRI.out]; rintro e w9 ⟨rfl, hf9⟩; have HF9 := Lib.hid hf9; clear hf9))
                go_ret2
                exact ⟨(HFQ.out.trans HF7.out).trans HF8.out, by rw [hZ0.out]; rfl⟩
              | true =>
                cases ri with
                | false =>
                  have hZ0 := Lib.hid (hbad.out (by unfold rowMay; rw [hri]; simp))
                  have HRI := Lib.hid hri
                  clear hbal hri
                  go_wp2_with (first
                    | (go_at_call 67; refine (iGood _ gd hokg.out).mono ?_; rw [hg]; rintro e w7 ⟨rfl, hf7⟩; have hr7 := hf7.at_ HRW.out (fun h => h); have HR7 := Lib.hid hr7; obtain ⟨d0, d1, d2, d3, d4, d5, d6, d7, d8, d9, d10⟩ := rowCells hr7; have HF7 := Lib.hid hf7; clear hr7 hf7)
                    | (go_at_call 99; refine (hBal.out _).mono ?_; rintro e w8 ⟨rfl, hf8⟩; have HF8 := Lib.hid hf8; have HR8 := Lib.hid (hf8.at_ HR7.out (fun h => h)); clear hf8)
                    | (go_at_call 76; refine (sRight _ _ _ HR8.out).mono ?_; rw [HRI.out]; rintro e w9 ⟨rfl, hf9⟩; have HF9 := Lib.hid hf9; clear hf9))
                  go_ret2
                  exact ⟨((HFQ.out.trans HF7.out).trans HF8.out).trans HF9.out, by rw [hZ0.out]; rfl⟩
                | true =>
                  have hyes : Hid (rowMay last gd ⟨f0, f1, f2, f3, f4, f5, f6, f7, f8, f9, f10⟩ = true) := Lib.hid (by unfold rowMay; rw [hbal, hri, hg, decide_eq_true HL2.out]; rfl)
                  have HRI := Lib.hid hri
                  clear hbal hri
                  go_wp2_with (first
                    | (go_at_call 67; refine (iGood _ gd hokg.out).mono ?_; rw [hg]; rintro e w7 ⟨rfl, hf7⟩; have hr7 := hf7.at_ HRW.out (fun h => h); have HR7 := Lib.hid hr7; obtain ⟨d0, d1, d2, d3, d4, d5, d6, d7, d8, d9, d10⟩ := rowCells hr7; have HF7 := Lib.hid hf7; clear hr7 hf7)
                    | (go_at_call 99; refine (hBal.out _).mono ?_; rintro e w8 ⟨rfl, hf8⟩; have HF8 := Lib.hid hf8; have HR8 := Lib.hid (hf8.at_ HR7.out (fun h => h)); clear hf8)
                    | (go_at_call 76; refine (sRight _ _ _ HR8.out).mono ?_; rw [HRI.out]; rintro e w9 ⟨rfl, hf9⟩; have HF9 := Lib.hid hf9; clear hf9))
                  have hF : Fr (fun _ => False) wr w9.drew := ((HF7.out.trans HF8.out).trans HF9.out).drew
                  have hB3 : RowAt w9.drew rb ⟨f0, f1, f2, f3, f4, f5, f6, f7, f8, f9, f10⟩ := hF.at_ HRW.out (fun h => h)
                  have hrs : Hid (s0 + 1 < rb) := Lib.hid (by have := hz1.out; have := HRB.out; have := HF4.out.size; have := HWO.out; omega)
                  have hsA := (HI.out.st.fr hfw.out (fun b hb e => by have := hrs.out; exact e.elim (fun e => by have := HLT.out b e; omega) (fun e => by omega))).fr hF (fun _ _ h => h)
                  have hmm : ∃ m, w9.drew.heap[s0 + 1]? = some (.cells #[.map (some m)] 102) ∧ Mp Tryz.prog w9.drew 9 ktS SR.enc m B ∧ (m = s0 ∨ m = s0 + 1) := hsA.ex
                  obtain ⟨m, hgc, hmp, hTm⟩ := hmm
                  obtain ⟨w5, hst5, hm5, ht5⟩ := hmp.store kS Tryz.underlying100 (by have := HI.out.len; omega) hokg.out (SR.mk f0 f1 f2 f3 f4 f5 f6 f7 f8 f9 f10)
                  have hne : s0 + 1 ≠ m := map_ne_cells hmp hgc
                  have hltA := hsA.lt
                  obtain ⟨d0, d1, d2, d3, d4, d5, d6, d7, d8, d9, d10⟩ := rowCells hB3
                  have cg := cell_obj hgc 0 (.map (some m)) rfl
                  have hst6 : (Instr.mapUpdate 100 (.map (some m)) (vS gd) (.agg #[.int .i64 f0, .int .i64 f1, .int .i64 f2, .int .i64 f3, .int .i64 f4, .int .i64 f5, .int .i64 f6, .int .i64 f7, .int .i64 f8, .int .i64 f9, .int .i64 f10])).run Tryz.prog w9.drew = .ok () w5 := hst5
                  clear hst5
                  have HF := Lib.hid hF; have HM5 := Lib.hid hm5; have HT5 := Lib.hid ht5; have HGC := Lib.hid hgc; have HTM := Lib.hid hTm; have HNE := Lib.hid hne; have HLA := Lib.hid hltA
                  refine wp_region_still_tail 6 (by kernel_rfl) (by kernel_rfl) ?_
                  simp only [List.take_succ_cons, List.take_zero, List.drop_succ_cons, List.drop_zero]
                  change wpStill _ _ w9.drew (fun a' => wpList _ _ _ _ a' w9.drew) _ _
                  clear hF hB3 hsA hgc hmp hTm hm5 ht5 hne hltA
                  generalize w9.drew = V at *
                  repeat still_step
                  refine wpStill_nil ?_
                  go_wp2_with fail
                  have hF5 : Fr (fun b => b = m) wr w5 := (HF.out.mono (fun _ _ h => h.elim)).trans' (Fr.turned (S := fun b => b = m) HT5.out rfl) (fun b _ e => e)
                  have hF5v : Fr (fun b => b = m) V w5 := Fr.turned (S := fun b => b = m) HT5.out rfl
                  have hms : s0 ≤ m := by have := HTM.out; omega
                  go_roundw
                  case rel =>
                    refine ⟨k + 1, t2, gd, putS ktS.lt B gd ⟨f0, f1, f2, f3, f4, f5, f6, f7, f8, f9, f10⟩, by omega, by go_num, rfl, ?_⟩
                    refine ⟨HTj.out.fr hF5 (fun b hb e => by have := HLT.out b hb; omega), ⟨⟨m, hF5v.at_ HGC.out HNE.out, HM5.out, HTM.out⟩, .inr rfl, fun b hb => Nat.lt_of_lt_of_le (HLA.out b hb) hF5v.size⟩, HFQ.out.trans' hF5 (fun b hb e => by have := hs1.out; have := HS.out; omega), ?_, ?_, hokg.out⟩
                    · have h1 := hstep.out
                      rw [if_pos hyes.out] at h1
                      rw [show N - (k + 1) = M by have := HMM.out; omega]
                      exact h1.symm
                    · have := putK_len ktS.lt B gd (SR.mk f0 f1 f2 f3 f4 f5 f6 f7 f8 f9 f10)
                      have := HI.out.len
                      omega
                  case measure => simp [intOf]; omega
            · have hZ0 := Lib.hid (hbad.out (by unfold rowMay; rw [heq, decide_eq_false (str_irr gd)]; simp))
              have q2 : (gd == last) = true := by simp [heq]
              clear hbal heq
              go_wp2_with (first
                | (go_at_call 67; refine (iGood _ gd hokg.out).mono ?_; rw [hg]; rintro e w7 ⟨rfl, hf7⟩; have hr7 := hf7.at_ HRW.out (fun h => h); have HR7 := Lib.hid hr7; obtain ⟨d0, d1, d2, d3, d4, d5, d6, d7, d8, d9, d10⟩ := rowCells hr7; have HF7 := Lib.hid hf7; clear hr7 hf7)
                | (go_at_call 99; refine (hBal.out _).mono ?_; rintro e w8 ⟨rfl, hf8⟩; have HF8 := Lib.hid hf8; have HR8 := Lib.hid (hf8.at_ HR7.out (fun h => h)); clear hf8)
                | (go_at_call 76; refine (sRight _ _ _ HR8.out).mono ?_; rw [HRI.out]; rintro e w9 ⟨rfl, hf9⟩; have HF9 := Lib.hid hf9; clear hf9))
              go_ret2
              exact ⟨HFQ.out.trans HF7.out, by rw [hZ0.out]; rfl⟩
            · have hZ0 := Lib.hid (hbad.out (by unfold rowMay; rw [decide_eq_false (str_asym hgt)]; simp))
              have q1 : Op.bytesLess gd last = true := by rw [bytesLess_eq]; simpa using hgt
              clear hbal hgt
              go_wp2_with (first
                | (go_at_call 67; refine (iGood _ gd hokg.out).mono ?_; rw [hg]; rintro e w7 ⟨rfl, hf7⟩; have hr7 := hf7.at_ HRW.out (fun h => h); have HR7 := Lib.hid hr7; obtain ⟨d0, d1, d2, d3, d4, d5, d6, d7, d8, d9, d10⟩ := rowCells hr7; have HF7 := Lib.hid hf7; clear hr7 hf7)
                | (go_at_call 99; refine (hBal.out _).mono ?_; rintro e w8 ⟨rfl, hf8⟩; have HF8 := Lib.hid hf8; have HR8 := Lib.hid (hf8.at_ HR7.out (fun h => h)); clear hf8)
                | (go_at_call 76; refine (sRight _ _ _ HR8.out).mono ?_; rw [HRI.out]; rintro e w9 ⟨rfl, hf9⟩; have HF9 := Lib.hid hf9; clear hf9))
              go_ret2
              exact ⟨HFQ.out.trans HF7.out, by rw [hZ0.out]; rfl⟩
          · have hg : goodB gd = false := by simpa using hg
            have hZ0 := Lib.hid (hbad.out (by unfold rowMay; rw [hg]; simp))
            clear hbal
            go_wp2_with (first
              | (go_at_call 67; refine (iGood _ gd hokg.out).mono ?_; rw [hg]; rintro e w7 ⟨rfl, hf7⟩; have hr7 := hf7.at_ HRW.out (fun h => h); have HR7 := Lib.hid hr7; obtain ⟨d0, d1, d2, d3, d4, d5, d6, d7, d8, d9, d10⟩ := rowCells hr7; have HF7 := Lib.hid hf7; clear hr7 hf7)
              | (go_at_call 99; refine (hBal.out _).mono ?_; rintro e w8 ⟨rfl, hf8⟩; have HF8 := Lib.hid hf8; have HR8 := Lib.hid (hf8.at_ HR7.out (fun h => h)); clear hf8)
              | (go_at_call 76; refine (sRight _ _ _ HR8.out).mono ?_; rw [HRI.out]; rintro e w9 ⟨rfl, hf9⟩; have HF9 := Lib.hid hf9; clear hf9))
            go_ret2
            exact ⟨HFQ.out.trans HF7.out, by rw [hZ0.out]; rfl⟩
    · have : k = N := by omega
      subst this
      have hZe : Hid (Z = if doneT t.1 t.2 = 0 then some B else none) := Lib.hid (by
        have h1 := HI.out.rest
        rw [Nat.sub_self] at h1
        have h2 := hUU.out
        rw [← h1] at h2
        exact h2)
      have hDone := Lib.hid (cTDone wr gt TT t.1 t.2 HI.out.tk)
      obtain ⟨Dn, hDn⟩ : ∃ D, doneT t.1 t.2 = D := ⟨_, rfl⟩
      rw [hDn] at hZe hDone
      clear hDn
      by_cases hd : Dn = 0
      · subst hd
        have hz := hZe.out
        rw [if_pos rfl] at hz
        have HZE := Lib.hid hz
        clear hz
        go_wp2_with (go_at_call 66; refine hDone.out.mono ?_; rintro e w4 ⟨rfl, rfl⟩)
        go_ret2
        refine ⟨HI.out.fr, ?_⟩
        rw [HZE.out]
        exact ⟨_, _, rfl, HI.out.st, fun b hb => by have := hs1.out; have := HS.out; omega⟩
      · have hz := hZe.out
        rw [if_neg hd] at hz
        have HZE := Lib.hid hz
        clear hz
        go_wp2_with (go_at_call 66; refine hDone.out.mono ?_; rintro e w4 ⟨rfl, rfl⟩)
        go_ret2
        exact ⟨HI.out.fr, by rw [HZE.out]; rfl⟩
end Go.Proofs.YtogphlnakdnchaaGreat

namespace Go.Proofs.YtogphlnakdnchaaGreat
open Go.RowKit Go.Maps
theorem bytesWorld_bsN (w : World) (s : Str) (c : Nat) (hs : s.length ≤ 1000000) : Bs (Lib.bytesWorld w 5 ⟨s.toArray⟩) (.slice (some ⟨w.heap.size, 0, none⟩) s.length c) (sB s) := by
  refine ⟨by rw [sB_len]; omega, some ⟨w.heap.size, 0, none⟩, c, by rw [sB_len], fun i x hx => ?_⟩
  have hb := sB_byt s x (List.mem_of_getElem? hx)
  refine ⟨hb.1, hb.2, _, rfl, ?_⟩
  have hi : i < s.length := by have := (List.getElem?_eq_some_iff.1 hx).1; rwa [sB_len] at this
  have := Lib.bytesWorld_cell w 5 ⟨s.toArray⟩ i (by simpa [ByteArray.size] using hi)
  rw [show (⟨w.heap.size, 0, none⟩ : Addr).add i = ⟨w.heap.size, i, none⟩ by simp [Addr.add]; omega, this]
  unfold sB at hx
  rw [List.getElem?_map, List.getElem?_eq_getElem hi] at hx
  injection hx with hx
  subst hx
  simp [List.getD, hi]
theorem tkT_lenU (t : Tst) {m : Int} (hm : 0 ≤ m) : ((tkT t m).1.length : Int) ≤ m := ftkT_len t hm
/-- What Unpack leaves. -/
def UhP (w : World) (Z : Option (Stk × Hes)) (e : Ending) (w' : World) : Prop := Fr (fun _ => False) w w' ∧ match Z with
  | some (A, le) => ∃ g TS, e = .returned (.tuple #[.pointer (some ⟨g, 0, none⟩), .int .i64 0]) ∧ SHE w' g TS A le ∧ ∀ b, TS b → w.heap.size ≤ b
  | none => e = .returned (.tuple #[.pointer none, .int .i64 10])
/-- On the way of Unpack: what is left to take, the shelf so far. -/
structure UhI (w W : World) (gt : Nat) (TT : Nat → Prop) (z1 g gs m : Nat) (T0 TB : Nat → Prop) (A : Stk) (l : List (Int × HV)) (t : Tst) : Prop where
  tk : TK W gt TT t.1 t.2
  sb : SB W g gs m T0 TB A l
  fr : Fr (fun _ => False) w W
  lo : ∀ b, (b = g ∨ b = m ∨ T0 b ∨ TB b) → z1 ≤ b
  tt : ∀ b, TT b → w.heap.size ≤ b ∧ b < z1
section
variable {w W W' : World} {gt z1 g gs m : Nat} {TT T0 TB : Nat → Prop} {A : Stk} {l : List (Int × HV)} {t t' : Tst}
theorem UhI.take (h : UhI w W gt TT z1 g gs m T0 TB A l t) (hf : Fr TT W W') (ht : TK W' gt TT t'.1 t'.2) : UhI w W' gt TT z1 g gs m T0 TB A l t' :=
  ⟨ht, h.sb.keep hf (fun b hb e => by have := h.lo b hb; have := h.tt b e; omega), h.fr.trans' hf (fun b hb e => by have := h.tt b e; omega), h.lo, h.tt⟩
theorem UhI.keep {S : Nat → Prop} (h : UhI w W gt TT z1 g gs m T0 TB A l t) (hf : Fr S W W') (hS : ∀ b, S b → z1 ≤ b ∧ ¬ (b = g ∨ b = m ∨ T0 b ∨ TB b)) (hz : w.heap.size ≤ z1) : UhI w W' gt TT z1 g gs m T0 TB A l t :=
  ⟨h.tk.fr hf (fun b hb e => by have := hS b e; have := h.tt b hb; omega), h.sb.keep hf (fun b hb e => (hS b e).2 hb), h.fr.trans' hf (fun b hb e => by have := hS b e; omega), h.lo, h.tt⟩
end
def nilV : Value := .slice none 0 0
/-- The box of a hold that is being read: j lists are there. -/
structure BxI (W : World) (hb : Nat) (o : Int) (f : Nat → Value) (t1 : Tst) (j : Nat) : Prop where
  bx : W.heap[hb]? = some (.cells #[.int .i64 o, f 0, f 1, f 2] 37)
  ar : W.heap[hb + 1]? = some (.cells #[.pointer (some ⟨hb, 1, none⟩), .pointer (some ⟨hb, 2, none⟩), .pointer (some ⟨hb, 3, none⟩)] 76)
  li : ∀ i, i < j → Il W (f i) (readT (rdF t1 i).1).1 ∧ ∀ b, (f i).ownBlock = some b → hb + 2 ≤ b ∧ b < W.heap.size
  nl : ∀ i, j ≤ i → f i = nilV
theorem BxI.keep {S : Nat → Prop} {W W' : World} {hb : Nat} {o : Int} {f : Nat → Value} {t1 : Tst} {j : Nat} (h : BxI W hb o f t1 j) (hf : Fr S W W') (hS : ∀ b, S b → b < hb) : BxI W' hb o f t1 j :=
  ⟨hf.at_ h.bx (fun e => by have := hS _ e; omega), hf.at_ h.ar (fun e => by have := hS _ e; omega), fun i hi => ⟨(h.li i hi).1.keep hf (fun _ b hb' e => by have := (h.li i hi).2 b hb'; have := hS _ e; omega), fun b hb' => ⟨((h.li i hi).2 b hb').1, Nat.lt_of_lt_of_le ((h.li i hi).2 b hb').2 hf.size⟩⟩, h.nl⟩
theorem BxI.put {W : World} {hb : Nat} {o : Int} {f : Nat → Value} {t1 : Tst} {j : Nat} {v : Value} (h : BxI W hb o f t1 j) (hj : j < 3) (hv : Il W v (readT (rdF t1 j).1).1) (hvb : ∀ b, v.ownBlock = some b → hb + 2 ≤ b ∧ b < W.heap.size) :
    BxI (W.setCell ⟨hb, j + 1, none⟩ v) hb o (fun i => if i = j then v else f i) t1 (j + 1) := by
  have hF : Fr (fun b => b = hb) W (W.setCell ⟨hb, j + 1, none⟩ v) := (Fr.refl (fun b => b = hb) W).setCell (p := ⟨hb, j + 1, none⟩) (fun _ => rfl) _
  refine ⟨?_, hF.at_ h.ar (by omega), fun i hi => ?_, fun i hi => ?_⟩
  · rw [obj_set h.bx (j + 1) v]
    match j, hj with
    | 0, _ => rfl
    | 1, _ => rfl
    | 2, _ => rfl
  · by_cases e : i = j
    · subst e
      simp only [if_true]
      exact ⟨hv.keep hF (fun _ b hb' e => by have := hvb b hb'; omega), fun b hb' => by have := hvb b hb'; simpa using this⟩
    · simp only [if_neg e]
      have := h.li i (by omega)
      exact ⟨this.1.keep hF (fun _ b hb' e => by have := this.2 b hb'; omega), fun b hb' => by have := this.2 b hb'; simpa using this⟩
  · simp only [if_neg (show ¬ i = j by omega)]
    exact h.nl i (by omega)
theorem BxI.ptr {W : World} {hb : Nat} {o : Int} {f : Nat → Value} {t1 : Tst} {n j : Nat} (h : BxI W hb o f t1 n) (hj : j < 3) : W.cell? ⟨hb + 1, j, none⟩ = some (.pointer (some ⟨hb, j + 1, none⟩)) := by
  refine cell_obj h.ar j _ ?_
  match j, hj with
  | 0, _ => rfl
  | 1, _ => rfl
  | 2, _ => rfl
theorem BxI.cellf {W : World} {hb : Nat} {o : Int} {f : Nat → Value} {t1 : Tst} {n j : Nat} (h : BxI W hb o f t1 n) (hj : j < 3) : W.cell? ⟨hb, j + 1, none⟩ = some (f j) := by
  refine cell_obj h.bx (j + 1) _ ?_
  match j, hj with
  | 0, _ => rfl
  | 1, _ => rfl
  | 2, _ => rfl
theorem SB.ltn {W : World} {g gs m : Nat} {T0 TB : Nat → Prop} {A : Stk} {l : List (Int × HV)} (h : SB W g gs m T0 TB A l) : ∀ b, TB b → ¬ T0 b ∧ b ≠ g ∧ b ≠ m := fun b e => ⟨h.nb b e, fun e2 => h.ng.2.1 (e2 ▸ e), fun e2 => h.nm.2 (e2 ▸ e)⟩
set_option maxRecDepth 100000 in
set_option maxHeartbeats 32000000 in
theorem hUnpack (w : World) (v : Value) (bs : List Int) (h : Bs w v bs) (hl : (bs.length : Int) ≤ 140737488351232) (hb : Byt bs) : Calls Tryz.prog 25 #[v] w (UhP w (unpackH bs)) := by
  obtain ⟨Z, hZ⟩ : ∃ Z, unpackH bs = Z := ⟨_, rfl⟩
  have hZd := hZ.symm
  rw [hZ]
  unfold unpackH at hZd
  have HOKZ : Hid (∀ A le, Z = some (A, le) → ShOk A le) := Lib.hid (fun A le e => unpackH_ok (hZ.trans e))
  have hT := Lib.hid (cTake w v bs h hl hb)
  obtain ⟨_, va, vc, rfl, _⟩ := id h
  obtain ⟨q1, hq1⟩ : ∃ q, tkT (bs, false) 262144 = q := ⟨_, rfl⟩
  have hq1l := tkT_lenU (bs, false) (m := 262144) (by omega)
  have hTx := fun W g TS (h : TK W g TS bs false) => cTText W g TS (bs, false) 262144 h (by omega)
  rw [hq1] at hZd hq1l hTx
  obtain ⟨s, t1⟩ := q1
  dsimp only at hZd hq1l hTx
  have HTX := Lib.hid hTx
  have hcv := fun (W : World) => Lib.run_convert_string_bytes (P := Tryz.prog) W 9 48 5 ⟨s.toArray⟩ Tryz.underlying9 Tryz.underlying48 Tryz.underlying5
  have hsz : (ByteArray.mk s.toArray).size = s.length := by simp [ByteArray.size]
  simp only [hsz] at hcv
  have hsl : s.length ≤ 1000000 := by omega
  have HSL := Lib.hid hsl
  obtain ⟨US, hUS⟩ : ∃ U, unpS (sB s) = U := ⟨_, rfl⟩
  have hUn : Hid (∀ W c, Calls Tryz.prog 62 #[.slice (some ⟨W.heap.size, 0, none⟩) s.length c] (Lib.bytesWorld W 5 ⟨s.toArray⟩) (UpP (Lib.bytesWorld W 5 ⟨s.toArray⟩) US)) := Lib.hid (fun W c => by
    rw [← hUS]
    refine sUnpack _ _ (sB s) (bytesWorld_bsN W s c HSL.out) (by rw [sB_len]; have := HSL.out; omega) (sB_byt s) (fun b e => ?_)
    have e2 : W.heap.size = b := by simpa [Value.ownBlock] using e
    rw [Lib.bytesWorld_size]; omega)
  rw [hUS] at hZd
  have hmm := @run_makeMap Tryz.prog
  have HUS := Lib.hid hUS
  clear h hl hb hTx hq1 hq1l hsz hsl hUS
  cases US with
  | none =>
    have HZ := Lib.hid hZd
    clear hZd hmm
    go_enter Tryz.func25, Tryz.ntmps25
    go_wp2_with (first
      | (go_at_call 61; refine hT.out.mono ?_; rintro e w1 ⟨gt, TT, rfl, hk, hf, hlo⟩; have HK := Lib.hid hk; have HF1 := Lib.hid hf; have HLO := Lib.hid hlo; clear hk hf hlo)
      | (go_at_call 63; refine (HTX.out _ _ _ HK.out).mono ?_; rintro e w2 ⟨rfl, hk, hf⟩; have HF2 : Hid (Fr (fun _ => False) w w2) := Lib.hid (HF1.out.trans' hf (fun b hb e => by have := HLO.out b e; omega)); clear hk hf)
      | (go_at_call 62; refine (hUn.out _ _).mono ?_; rintro e w4 ⟨hf, rfl⟩; have HF4 := Lib.hid ((HF2.out.trans (bytesWorld_fr _ _ _)).trans hf); clear hf))
    go_ret2
    rw [HZ.out]
    exact ⟨HF4.out, rfl⟩
  | some A =>
    dsimp only at hZd
    obtain ⟨q2, hq2⟩ : ∃ q, tk t1 0 256 = q := ⟨_, rfl⟩
    have hqi := tk_in t1 (a := 0) (b := 256) (by omega) (by omega)
    have hNm := fun W g TS (h : TK W g TS t1.1 t1.2) => xTk W g TS t1 0 256 h
    rw [hq2] at hZd hqi hNm
    obtain ⟨nI, t2⟩ := q2
    obtain ⟨N, rfl⟩ : ∃ N : Nat, nI = N := ⟨nI.toNat, by dsimp only at hqi; omega⟩
    dsimp only at hZd hqi hNm
    rw [Int.toNat_natCast] at hZd
    have hN : N ≤ 256 := by omega
    obtain ⟨U, hU⟩ : ∃ U, unhL N t2 0 [] = U := ⟨_, rfl⟩
    rw [hU] at hZd
    have HNm := Lib.hid hNm; have HZD := Lib.hid hZd; have HU := Lib.hid hU; have HN := Lib.hid hN
    clear hZd hq2 hqi hNm hU hN
    go_enter Tryz.func25, Tryz.ntmps25
    go_wp2_with (first
      | (go_at_call 61; refine hT.out.mono ?_; rintro e w1 ⟨gt, TT, rfl, hk, hf, hlo⟩; have HK := Lib.hid hk; have HF1 := Lib.hid hf; have HLO := Lib.hid hlo; have HTL := Lib.hid hk.lt; clear hk hf hlo)
      | (go_at_call 63; refine (HTX.out _ _ _ HK.out).mono ?_; rintro e w2 ⟨rfl, hk, hf⟩; have HK2 := Lib.hid hk; have HF12 := Lib.hid hf.size; have HF2 : Hid (Fr (fun _ => False) w w2) := Lib.hid (HF1.out.trans' hf (fun b hb e => by have := HLO.out b e; omega)); clear hk hf)
      | (go_at_call 62; refine (hUn.out _ _).mono ?_; rintro e w4 ⟨hf, gs, T0, rfl, hsa, hlo4⟩; have HF4b := Lib.hid ((bytesWorld_fr w2 _ _).trans hf); have HSA4 := Lib.hid hsa; have HLO4 := Lib.hid hlo4; clear hf hsa hlo4)
      | (go_at_call 64; refine (HNm.out _ gt TT (HK2.out.fr (HF4b.out.trans (((Fr.refl (fun _ => False) _).alloc _).alloc _)) (fun _ _ e => e))).mono ?_; rintro e w6 ⟨rfl, hk6, hf6⟩; have HK6 := Lib.hid hk6; have HF6 := Lib.hid hf6; clear hk6 hf6))
    clear hmm
    obtain ⟨z1, hz1⟩ : ∃ z, w2.heap.size = z := ⟨_, rfl⟩
    have hI0 : UhI w w6 gt TT z1 (w4.heap.size + 1) gs w4.heap.size T0 (fun _ => False) A [] t2 := by
      have h24 := HF4b.out.size
      have hbl := Lib.bytesWorld_size w2 5 ⟨s.toArray⟩
      have hst := HSA4.out
      have hsb : SB ((w4.alloc (.map #[] 0)).alloc (.cells #[.pointer (some ⟨gs, 0, none⟩), .map (some w4.heap.size)] 63)) (w4.heap.size + 1) gs w4.heap.size T0 (fun _ => False) A [] :=
        ⟨heap_at (by simp) _, (hst.fr ((Fr.refl (fun _ => False) w4).alloc _) (fun _ _ e => e)).fr ((Fr.refl (fun _ => False) _).alloc _) (fun _ _ e => e), (Mp.made Tryz.prog w4 3 ktI HV.enc).alloc _, fun p hp => (by cases hp), ⟨fun e => by have := hst.lt _ e; omega, fun e => e, by omega⟩, ⟨fun e => by have := hst.lt _ e; omega, fun e => e⟩, fun b e => e.elim, fun b e => e.elim⟩
      have htl : ∀ b, TT b → b < z1 := fun b hb => by have := HTL.out b hb; have := HF12.out; omega
      have hlo : ∀ b, (b = w4.heap.size + 1 ∨ b = w4.heap.size ∨ T0 b ∨ (fun _ => False) b) → z1 ≤ b := fun b hb => by
        rcases hb with e | e | e | e
        · omega
        · omega
        · have := HLO4.out b e; omega
        · exact e.elim
      refine ⟨HK6.out, hsb.keep HF6.out (fun b hb e => by have := hlo b hb; have := htl b e; omega), ?_, hlo, fun b hb => ⟨HLO.out b hb, htl b hb⟩⟩
      exact ((HF2.out.trans HF4b.out).trans (((Fr.refl (fun _ => False) _).alloc _).alloc _)).trans' HF6.out (fun b hb e => by have := HLO.out b e; omega)
    obtain ⟨m, hm⟩ : ∃ m, w4.heap.size = m := ⟨_, rfl⟩
    obtain ⟨g, hg⟩ : ∃ g, m + 1 = g := ⟨_, rfl⟩
    rw [hm, hg] at hI0
    try rw [hm, hg]
    try rw [hm]
    try rw [hg]
    have HI0 := Lib.hid hI0
    have HZ1 : Hid (w.heap.size ≤ z1) := Lib.hid (by have := HF2.out.size; omega)
    clear hI0 hm hg hz1 HF2 HF4b HSA4 HLO4 HK6 HF6 HTL HF12 HK2 HF1 HLO HK
    go_loopw [8, 32] (fun vl vi wr => ∃ (k : Nat) (t : Tst) (last : Int) (l : List (Int × HV)) (TB : Nat → Prop), k ≤ N ∧ vi = .int .i64 k ∧ vl = .int .i64 last ∧ UhI w wr gt TT z1 g gs m T0 TB A l t ∧ LeOk (mapE l) last ∧ l.length ≤ k ∧ unhL (N - k) t last (mapE l) = U) (fun _ vi _ => N - (intOf vi).toNat)
    case atStart => exact ⟨0, t2, 0, [], _, Nat.zero_le _, rfl, rfl, HI0.out, LeOk.nil, Nat.le_refl _, HU.out⟩
    case round =>
      obtain ⟨k, t, last, l, TB, hk, rfl, rfl, hI, hle, hll, hu⟩ := hrel
      have HI := Lib.hid hI; have HLE := Lib.hid hle; have HU2 := Lib.hid hu
      clear hI hle hu HU HI0
      by_cases hlt : k < N
      · have hkI : (k : Int) < N := by omega
        obtain ⟨M, hM⟩ : ∃ M, N - k = M + 1 := ⟨N - k - 1, by omega⟩
        obtain ⟨q, hq⟩ : ∃ q, tk t 1 1099511627776 = q := ⟨_, rfl⟩
        have hNm := Lib.hid (xTk wr gt TT t 1 1099511627776 HI.out.tk)
        have hqi := tk_in1 t (b := 1099511627776) (by omega)
        have hstep : Hid (U = if rdG (decide (last < q.1)) q.2 3 = true ∧ (HE.mk q.1 (readT (rdF q.2 0).1).1 (readT (rdF q.2 1).1).1 (readT (rdF q.2 2).1).1).num ≠ 0 then unhL M (rdF q.2 3).1 q.1 (putS ktI.lt (mapE l) q.1 ⟨q.1, (readT (rdF q.2 0).1).1, (readT (rdF q.2 1).1).1, (readT (rdF q.2 2).1).1⟩) else none) := Lib.hid (by
          have h1 := HU2.out
          rw [hM] at h1
          rw [← h1, ← hq]
          rfl)
        rw [hq] at hNm hqi
        obtain ⟨o, t1⟩ := q
        dsimp only at hNm hqi hstep
        have HQI := Lib.hid hqi
        obtain ⟨g0, hg0⟩ : ∃ b, decide (last < o) = b := ⟨_, rfl⟩
        rw [hg0] at hstep
        clear hq HU2
        have HG0 := Lib.hid hg0
        clear hqi
        go_wp2_with (go_at_call 64; refine hNm.out.mono ?_; rintro e w7 ⟨rfl, hk7, hf7⟩; have HI7 := Lib.hid (HI.out.take hf7 hk7); clear hk7 hf7)
        have hI8 := HI7.out.keep (S := fun _ => False) (((Fr.refl (fun _ => False) w7).alloc (.cells #[.int .i64 o, .slice none 0 0, .slice none 0 0, .slice none 0 0] 37)).alloc (.cells #[.pointer (some ⟨w7.heap.size, 1, none⟩), .pointer (some ⟨w7.heap.size, 2, none⟩), .pointer (some ⟨w7.heap.size, 3, none⟩)] 76)) (fun b e => e.elim) HZ1.out
        have hB8 : BxI ((w7.alloc (.cells #[.int .i64 o, .slice none 0 0, .slice none 0 0, .slice none 0 0] 37)).alloc (.cells #[.pointer (some ⟨w7.heap.size, 1, none⟩), .pointer (some ⟨w7.heap.size, 2, none⟩), .pointer (some ⟨w7.heap.size, 3, none⟩)] 76)) w7.heap.size o (fun _ => nilV) t1 0 := ⟨heap_keep (heap_at rfl _) _, heap_at (by simp) _, fun i hi => by omega, fun i hi => rfl⟩
        have hhi : Hid (z1 ≤ w7.heap.size ∧ ∀ b, (b = g ∨ b = m ∨ T0 b ∨ TB b) → b < w7.heap.size) := Lib.hid ⟨by have := HI7.out.lo g (.inl rfl); have := HI7.out.sb.lt g (.inl rfl); omega, HI7.out.sb.lt⟩
        obtain ⟨w8, hw8⟩ : ∃ W, (w7.alloc (.cells #[.int .i64 o, .slice none 0 0, .slice none 0 0, .slice none 0 0] 37)).alloc (.cells #[.pointer (some ⟨w7.heap.size, 1, none⟩), .pointer (some ⟨w7.heap.size, 2, none⟩), .pointer (some ⟨w7.heap.size, 3, none⟩)] 76) = W := ⟨_, rfl⟩
        rw [hw8] at hI8 hB8
        try rw [hw8]
        obtain ⟨hb, hhb⟩ : ∃ b, w7.heap.size = b := ⟨_, rfl⟩
        rw [hhb] at hhi hB8
        try rw [hhb]
        have HI8 := Lib.hid hI8; have HB8 := Lib.hid hB8
        clear hI8 hB8 hw8 hhb HI7 HI hNm
        go_loopw [10, 46] (fun vg vi wq => ∃ (j : Nat) (f : Nat → Value), j ≤ 3 ∧ vg = .bool (rdG g0 t1 j) ∧ vi = .int .i64 j ∧ UhI w wq gt TT z1 g gs m T0 TB A l (rdF t1 j).1 ∧ BxI wq hb o f t1 j) (fun _ vi _ => 3 - (intOf vi).toNat)
        case atStart => exact ⟨0, _, by omega, rfl, rfl, HI8.out, HB8.out⟩
        case round =>
          obtain ⟨j, f, hj, rfl, rfl, hI, hB⟩ := hrel
          have HI9 := Lib.hid hI; have HB := Lib.hid hB
          clear HI8 HB8
          by_cases hlj : j < 3
          · have hlJ : (j : Int) < 3 := by omega
            have hcp := hB.ptr hlj
            have hread := Lib.hid (hRead wr gt TT (rdF t1 j).1 hI.tk)
            have hgn : Hid (rdG g0 t1 (j + 1) = (rdG g0 t1 j && mayL (readT (rdF t1 j).1).1)) := Lib.hid rfl
            obtain ⟨gj, hgj⟩ : ∃ b, rdG g0 t1 j = b := ⟨_, rfl⟩
            obtain ⟨mj, hmj⟩ : ∃ b, mayL (readT (rdF t1 j).1).1 = b := ⟨_, rfl⟩
            rw [hgj, hmj] at hgn
            rw [hmj] at hread
            rw [hgj]
            have hTT : Hid (∀ b, TT b → b < hb) := Lib.hid (fun b e => by have := HI9.out.tt b e; have := hhi.out.1; omega)
            have hbz : Hid (hb + 1 < wr.heap.size) := Lib.hid (Array.getElem?_eq_some_iff.1 hB.ar).1
            clear hI hB hgj hmj
            cases gj with
            | false =>
              go_wp2_with (go_at_call 65; refine hread.out.mono ?_; rintro e wz ⟨v, rfl, hiz, hoz, htz, hfz⟩; obtain ⟨av, cv, rfl⟩ := hiz.sl; have hIZ := Lib.hid (HI9.out.take hfz htz); have hBz := HB.out.keep hfz hTT.out; have hcz := hBz.cellf hlj; have hzz := obj_frozen hBz.bx (j + 1); have HBZ := Lib.hid hBz; have HIL := Lib.hid hiz; have HOZ := Lib.hid hoz; clear hiz hoz htz hfz hBz)
              go_roundw
              case rel =>
                have hbz := hbz.out
                have hh := hhi.out
                refine ⟨j + 1, _, by omega, by rw [hgn.out]; rfl, by go_num, ?_, HBZ.out.put hlj HIL.out (fun b e => by have := HOZ.out b e; omega)⟩
                exact hIZ.out.keep (S := fun b => b = hb) ((Fr.refl (fun b => b = hb) wz).setCell (p := ⟨hb, j + 1, none⟩) (fun _ => rfl) _) (fun b e => ⟨by omega, fun e2 => by have := hh.2 b e2; omega⟩) HZ1.out
              case measure => simp [intOf]; omega
            | true =>
              go_wp2_with (go_at_call 65; refine hread.out.mono ?_; rintro e wz ⟨v, rfl, hiz, hoz, htz, hfz⟩; obtain ⟨av, cv, rfl⟩ := hiz.sl; have hIZ := Lib.hid (HI9.out.take hfz htz); have hBz := HB.out.keep hfz hTT.out; have hcz := hBz.cellf hlj; have hzz := obj_frozen hBz.bx (j + 1); have HBZ := Lib.hid hBz; have HIL := Lib.hid hiz; have HOZ := Lib.hid hoz; clear hiz hoz htz hfz hBz)
              go_roundw
              case rel =>
                have hbz := hbz.out
                have hh := hhi.out
                refine ⟨j + 1, _, by omega, by rw [hgn.out]; rfl, by go_num, ?_, HBZ.out.put hlj HIL.out (fun b e => by have := HOZ.out b e; omega)⟩
                exact hIZ.out.keep (S := fun b => b = hb) ((Fr.refl (fun b => b = hb) wz).setCell (p := ⟨hb, j + 1, none⟩) (fun _ => rfl) _) (fun b e => ⟨by omega, fun e2 => by have := hh.2 b e2; omega⟩) HZ1.out
              case measure => simp [intOf]; omega
          · obtain rfl : j = 3 := by omega
            have hI3 := hI
            obtain ⟨E0, hE0⟩ : ∃ E, (readT (rdF t1 0).1).1 = E := ⟨_, rfl⟩
            obtain ⟨E1, hE1⟩ : ∃ E, (readT (rdF t1 1).1).1 = E := ⟨_, rfl⟩
            obtain ⟨E2, hE2⟩ : ∃ E, (readT (rdF t1 2).1).1 = E := ⟨_, rfl⟩
            have l0 := hB.li 0 (by omega)
            have l1 := hB.li 1 (by omega)
            have l2 := hB.li 2 (by omega)
            have hbx := hB.bx
            rw [hE0] at l0; rw [hE1] at l1; rw [hE2] at l2
            rw [hE0, hE1, hE2] at hstep
            obtain ⟨b3, hb3⟩ : ∃ b, rdG g0 t1 3 = b := ⟨_, rfl⟩
            have hall : Hid (b3 = true → last < o ∧ mayL E0 = true ∧ mayL E1 = true ∧ mayL E2 = true) := Lib.hid (fun e => by
              obtain ⟨h1, h2⟩ := rdG_all (hb3.trans e)
              exact ⟨of_decide_eq_true (HG0.out.trans h1), hE0 ▸ h2 0 (by omega), hE1 ▸ h2 1 (by omega), hE2 ▸ h2 2 (by omega)⟩)
            obtain ⟨t3, ht3⟩ : ∃ t, (rdF t1 3).1 = t := ⟨_, rfl⟩
            rw [hb3, ht3] at hstep
            rw [hb3]
            rw [ht3] at hI3
            have HI3 := Lib.hid hI3
            obtain ⟨v0, hv0⟩ : ∃ v, f 0 = v := ⟨_, rfl⟩
            obtain ⟨v1, hv1⟩ : ∃ v, f 1 = v := ⟨_, rfl⟩
            obtain ⟨v2, hv2⟩ : ∃ v, f 2 = v := ⟨_, rfl⟩
            rw [hv0] at l0; rw [hv1] at l1; rw [hv2] at l2
            rw [hv0, hv1, hv2] at hbx
            obtain ⟨a0, c0, e0⟩ := l0.1.sl
            obtain ⟨a1, c1, e1⟩ := l1.1.sl
            obtain ⟨a2, c2, e2⟩ := l2.1.sl
            subst e0 e1 e2
            have hnum : Hid ((HE.mk o E0 E1 E2).num = E0.length + E1.length + E2.length) := Lib.hid rfl
            obtain ⟨n0, hn0⟩ : ∃ n, E0.length = n := ⟨_, rfl⟩
            obtain ⟨n1, hn1⟩ : ∃ n, E1.length = n := ⟨_, rfl⟩
            obtain ⟨n2, hn2⟩ : ∃ n, E2.length = n := ⟨_, rfl⟩
            rw [hn0, hn1, hn2] at hbx hnum
            rw [hn0] at l0; rw [hn1] at l1; rw [hn2] at l2
            have h16 : Hid (b3 = true → n0 ≤ 16 ∧ n1 ≤ 16 ∧ n2 ≤ 16) := Lib.hid (fun e => by
              obtain ⟨-, h1, h2, h3⟩ := hall.out e
              rw [← hn0, ← hn1, ← hn2]
              exact ⟨(mayL_iff.1 h1).2, (mayL_iff.1 h2).2, (mayL_iff.1 h3).2⟩)
            have HBX := Lib.hid hbx; have L0 := Lib.hid l0; have L1 := Lib.hid l1; have L2 := Lib.hid l2
            have hbz : Hid (hb + 1 < wr.heap.size) := Lib.hid (Array.getElem?_eq_some_iff.1 hB.ar).1
            have d0 := cell_obj hbx 0 _ rfl
            have d1 := cell_obj hbx 1 _ rfl
            have d2 := cell_obj hbx 2 _ rfl
            have d3 := cell_obj hbx 3 _ rfl
            clear hI hB HI9 HB hI3 hE0 hE1 hE2 hb3 ht3 hv0 hv1 hv2 hn0 hn1 hn2 l0 l1 l2 hbx HG0
            cases b3 with
            | false =>
              have hU0 : U = none := by rw [hstep.out, if_neg (by simp)]
              have hZ0 : Z = none := by rw [HZD.out, hU0]
              have HZ0 := Lib.hid hZ0
              clear hU0 hZ0
              go_wp2_with fail
              go_ret2
              exact ⟨HI3.out.fr, by rw [HZ0.out]; rfl⟩
            | true =>
              have h16' := h16.out rfl
              have hw1 : IntKind.i64.wrap ((n0 : Int) + n1) = (n0 : Int) + n1 := IntWalk.i64_in _ ⟨by omega, by omega⟩
              have hw2 : IntKind.i64.wrap ((n0 : Int) + n1 + n2) = (n0 : Int) + n1 + n2 := IntWalk.i64_in _ ⟨by omega, by omega⟩
              by_cases hz : n0 + n1 + n2 = 0
              · have hU0 : U = none := by rw [hstep.out, if_neg (by rw [hnum.out, hz]; simp)]
                have hZ0 : Z = none := by rw [HZD.out, hU0]
                have HZ0 := Lib.hid hZ0
                clear hU0 hZ0
                have hzI : ((n0 : Int) + n1 + n2 == 0) = true := by simp; omega
                clear hz h16'
                go_wp2_with fail
                go_ret2
                exact ⟨HI3.out.fr, by rw [HZ0.out]; rfl⟩
              · have hU1 : Hid (U = unhL M t3 o (putS ktI.lt (mapE l) o ⟨o, E0, E1, E2⟩)) := Lib.hid (by rw [hstep.out, if_pos ⟨rfl, by rw [hnum.out]; exact hz⟩])
                have hzI : ((n0 : Int) + n1 + n2 == 0) = false := by simp; omega
                have HZN := Lib.hid hz
                have HALL := Lib.hid (hall.out rfl)
                clear hz h16' hstep
                have hst : ∀ W, Fr (fun _ => False) wr W → ∃ w', (Instr.mapUpdate 61 (.map (some m)) (.int .i64 o) (.agg #[.int .i64 o, .slice a0 n0 c0, .slice a1 n1 c1, .slice a2 n2 c2])).run Tryz.prog W = .ok () w' ∧ Mp Tryz.prog w' 3 ktI HV.enc m (putS ktI.lt l o ⟨o, .slice a0 n0 c0, .slice a1 n1 c1, .slice a2 n2 c2, E0, E1, E2⟩) ∧ W.mapTurned w' m := fun W hW =>
                  (hW.mp HI3.out.sb.mp (fun h => h)).store kHI Tryz.underlying61 (by have := HN.out; omega) (show okI o by have := HQI.out; unfold okI; omega) (⟨o, .slice a0 n0 c0, .slice a1 n1 c1, .slice a2 n2 c2, E0, E1, E2⟩ : HV)
                have HST := Lib.hid hst
                clear hst
                go_wp2_with fail
                refine wp_region_still_tail 7 (by kernel_rfl) (by kernel_rfl) ?_
                simp only [List.take_succ_cons, List.take_zero, List.drop_succ_cons, List.drop_zero]
                have hF : Fr (fun _ => False) wr wr.drew := (Fr.refl _ _).drew
                have hB3 := hF.at_ HBX.out (fun e => e)
                clear d0 d1 d2 d3
                change wpStill _ _ wr.drew (fun a' => wpList _ _ _ _ a' wr.drew) _ _
                generalize wr.drew = V at hF hB3 ⊢
                obtain ⟨w5, hst5, hm5, ht5⟩ := HST.out V hF
                have hSV := HI3.out.sb.keep hF (fun _ _ e => e)
                obtain ⟨cg0, cg1⟩ := hSV.cells
                have d0 := cell_obj hB3 0 (.int .i64 o) rfl
                have d1 := cell_obj hB3 1 (.slice a0 n0 c0) rfl
                have d2 := cell_obj hB3 2 (.slice a1 n1 c1) rfl
                have d3 := cell_obj hB3 3 (.slice a2 n2 c2) rfl
                have HSV := Lib.hid hSV; have HF := Lib.hid hF; have HM5 := Lib.hid hm5; have HT5 := Lib.hid ht5
                clear hSV hF hB3 hm5 ht5
                repeat still_step
                refine wpStill_nil ?_
                have hN256 := HN.out
                go_wp2_with fail
                go_roundw
                case rel =>
                  have hFt : Fr (fun b => b = m) V w5 := Fr.turned HT5.out rfl
                  have hsz := HF.out.size
                  have hlo := HI3.out.lo
                  have htt := HI3.out.tt
                  have hh := hhi.out
                  have hmz := hlo m (.inr (.inl rfl))
                  have hz1 := HZ1.out
                  have hok := HALL.out
                  have hq := HQI.out
                  have hN : ∀ b, hb + 2 ≤ b → ¬ T0 b ∧ b ≠ g ∧ b ≠ m := fun b hb' => ⟨fun e => by have := hh.2 b (.inr (.inr (.inl e))); omega, fun e => by have := hh.2 b (.inl e); omega, fun e => by have := hh.2 b (.inr (.inl e)); omega⟩
                  have hsb : SB w5 g gs m T0 (fun b => TB b ∨ (hb + 2 ≤ b ∧ b < wr.heap.size)) A (putS ktI.lt l o ⟨o, .slice a0 n0 c0, .slice a1 n1 c1, .slice a2 n2 c2, E0, E1, E2⟩) :=
                    HSV.out.put (h' := ⟨o, .slice a0 n0 c0, .slice a1 n1 c1, .slice a2 n2 c2, E0, E1, E2⟩) HM5.out HT5.out (fun b e => .inl e)
                      ⟨by show okI o; unfold okI; omega, ⟨L0.out.1.keep HF.out (fun _ _ _ e => e), fun _ b e => .inr (L0.out.2 b e)⟩, ⟨L1.out.1.keep HF.out (fun _ _ _ e => e), fun _ b e => .inr (L1.out.2 b e)⟩, ⟨L2.out.1.keep HF.out (fun _ _ _ e => e), fun _ b e => .inr (L2.out.2 b e)⟩⟩
                      (fun b e => e.elim (fun e => ⟨by have := hh.2 b (.inr (.inr (.inr e))); have := hbz.out; omega, HI3.out.sb.ltn b e⟩) (fun e => ⟨by omega, hN b e.1⟩))
                  have hle := HLE.out.step (x := ⟨o, E0, E1, E2⟩) hok.1 hq.2 hok.2.1 hok.2.2.1 hok.2.2.2 (by rw [hnum.out]; exact HZN.out)
                  have hpm : mapE (putS ktI.lt l o ⟨o, .slice a0 n0 c0, .slice a1 n1 c1, .slice a2 n2 c2, E0, E1, E2⟩) = putS ktI.lt (mapE l) o ⟨o, E0, E1, E2⟩ := (putS_map (fun x : HV => x.e) ktI.lt l o ⟨o, .slice a0 n0 c0, .slice a1 n1 c1, .slice a2 n2 c2, E0, E1, E2⟩).symm
                  have hln := putK_len ktI.lt l o (⟨o, .slice a0 n0 c0, .slice a1 n1 c1, .slice a2 n2 c2, E0, E1, E2⟩ : HV)
                  refine ⟨k + 1, t3, o, _, _, by omega, by go_num, rfl, ⟨?_, hsb, ?_, ?_, htt⟩, ?_, by omega, ?_⟩
                  · exact (HI3.out.tk.fr HF.out (fun _ _ e => e)).fr hFt (fun b e1 e2 => by have := htt b e1; omega)
                  · exact (HI3.out.fr.trans HF.out).trans' hFt (fun b _ e => by omega)
                  · rintro b (e | e | e | e | e)
                    · exact hlo b (.inl e)
                    · exact hlo b (.inr (.inl e))
                    · exact hlo b (.inr (.inr (.inl e)))
                    · exact hlo b (.inr (.inr (.inr e)))
                    · have := hh.1; omega
                  · rw [hpm]; exact hle
                  · rw [hpm, hU1.out, show N - (k + 1) = M by omega]
                case measure => simp [intOf]; omega
      · obtain rfl : k = N := by omega
        have hkI : ¬ (k : Int) < k := by omega
        have hU0 : U = some (mapE l, t) := by
          have := HU2.out
          rw [Nat.sub_self] at this
          exact this.symm
        have hZe : Z = if doneT t.1 t.2 = 0 ∧ soundE A (mapE l) = true then some (A, mapE l) else none := by rw [HZD.out, hU0]
        have hsk : Hid (ShOk A (mapE l)) := Lib.hid ⟨(unpS_take (sB_byt s) HUS.out).1, HLE.out.rise, HLE.out.row, by rw [mapE_len]; have := HN.out; omega⟩
        have hDone := Lib.hid (cTDone wr gt TT t.1 t.2 HI.out.tk)
        have hSo := Lib.hid (hSound wr g gs m T0 TB A l HI.out.sb hsk.out)
        obtain ⟨so, hso⟩ : ∃ b, soundE A (mapE l) = b := ⟨_, rfl⟩
        rw [hso] at hSo hZe
        obtain ⟨dn, hdn⟩ : ∃ b, doneT t.1 t.2 = b := ⟨_, rfl⟩
        rw [hdn] at hDone hZe
        clear hU0 hso hdn HU2
        by_cases hd : dn = 0
        · subst hd
          cases so with
          | true =>
            rw [if_pos ⟨rfl, rfl⟩] at hZe
            have HZE := Lib.hid hZe
            clear hZe
            go_wp2_with (first
              | (go_at_call 66; refine hDone.out.mono ?_; rintro e w4 ⟨rfl, rfl⟩)
              | (go_at_call 23; refine hSo.out.mono ?_; rintro e w5 ⟨rfl, hf5⟩; have HF5 := Lib.hid hf5; clear hf5))
            go_ret2
            refine ⟨HI.out.fr.trans HF5.out, ?_⟩
            rw [HZE.out]
            exact ⟨g, fun b => b = g ∨ b = m ∨ T0 b ∨ TB b, rfl, ⟨l, ⟨gs, m, T0, TB, HI.out.sb.keep HF5.out (fun _ _ e => e), fun _ => Iff.rfl⟩, rfl⟩, fun b hb => by have := HI.out.lo b hb; have := HZ1.out; omega⟩
          | false =>
            rw [if_neg (by simp)] at hZe
            have HZE := Lib.hid hZe
            clear hZe
            go_wp2_with (first
              | (go_at_call 66; refine hDone.out.mono ?_; rintro e w4 ⟨rfl, rfl⟩)
              | (go_at_call 23; refine hSo.out.mono ?_; rintro e w5 ⟨rfl, hf5⟩; have HF5 := Lib.hid hf5; clear hf5))
            go_ret2
            exact ⟨HI.out.fr.trans HF5.out, by rw [HZE.out]; rfl⟩
        · rw [if_neg (fun e => hd e.1)] at hZe
          have HZE := Lib.hid hZe
          clear hZe
          go_wp2_with (go_at_call 66; refine hDone.out.mono ?_; rintro e w4 ⟨rfl, rfl⟩)
          go_ret2
          exact ⟨HI.out.fr, by rw [HZE.out]; rfl⟩
end Go.Proofs.YtogphlnakdnchaaGreat

namespace Go.Proofs.YtogphlnakdnchaaGreat
open Go.RowKit Go.Maps
def gA : Str := [97]
def L5 : Its := [(gA, 5)]
def B1 : Stk := [(gA, ⟨5, 0, 0, 0, 5, 0, 0, 0, 0, 0, 0⟩)]
def B2 : Stk := [(gA, ⟨2, 3, 0, 0, 5, 0, 0, 0, 0, 0, 0⟩)]
theorem okB {R : SR} (h : SRok R) : SOk [(gA, R)] := by
  have hm : ∀ p ∈ [(gA, R)], p = (gA, R) := fun p hp => by simpa using hp
  refine ⟨List.pairwise_singleton _ _, fun p hp => ?_, fun p hp => ?_, by simp⟩
  · rw [hm p hp]; rfl
  · rw [hm p hp]; exact h
theorem ok0 : SOk [] := by
  refine ⟨List.Pairwise.nil, fun p hp => ?_, fun p hp => ?_, by simp⟩ <;> exact absurd hp (by simp)
theorem ok1 : SOk B1 := okB (SRok.of rfl rfl)
theorem ok2 : SOk B2 := okB (SRok.of rfl rfl)
end Go.Proofs.YtogphlnakdnchaaGreat

namespace Go.Proofs.YtogphlnakdnchaaGreat
open Go.RowKit Go.Maps
section
variable {w W W' : World} {g : Nat} {TS : Nat → Prop} {A : Stk} {le : Hes}
theorem ePack (h : SHE w g TS A le) (hk : ShOk A le) : Calls Tryz.prog 17 #[.pointer (some ⟨g, 0, none⟩)] w fun e w' => ∃ v, e = .returned v ∧ Bs w' v (packH A le) ∧ (∀ b, v.ownBlock = some b → w.heap.size ≤ b) ∧ Fr (fun _ => False) w w' := by
  obtain ⟨l, ⟨gs, m, T0, TB, h1, h2⟩, rfl⟩ := h
  refine (hPack w g gs m T0 TB A l h1 hk).mono ?_
  rintro e w' ⟨v, rfl, q1, q2⟩
  have := Bs.own q1 (packH_byt hk)
  exact ⟨v, rfl, this.1, fun b hb => this.2 b hb, q2⟩
theorem eSound (h : SHE w g TS A le) (hk : ShOk A le) : Calls Tryz.prog 23 #[.pointer (some ⟨g, 0, none⟩)] w fun e w' => e = .returned (.bool (soundE A le)) ∧ Fr (fun _ => False) w w' := by
  obtain ⟨l, ⟨gs, m, T0, TB, h1, h2⟩, rfl⟩ := h
  exact hSound w g gs m T0 TB A l h1 hk
end
/-- A law's own shelf, and a list that is kept. -/
structure LvH (w W : World) (g : Nat) (A : Stk) (le : Hes) (v : Value) (L : Its) : Prop where
  ex : ∃ TS, SHE W g TS A le ∧ (∀ b, TS b → w.heap.size ≤ b) ∧ ∀ b, v.ownBlock = some b → ¬ TS b
  il : Il W v L
  vlt : ∀ b, v.ownBlock = some b → b < W.heap.size
  fr : Fr (fun _ => False) w W
  ok : ShOk A le
section
variable {w W W' : World} {g : Nat} {A A' : Stk} {le le' : Hes} {v u : Value} {L L' M : Its} {o c k : Int}
theorem LvH.keep (h : LvH w W g A le v L) (hf : Fr (fun _ => False) W W') : LvH w W' g A le v L := by
  obtain ⟨⟨TS, h1, h2, h3⟩, h4, h5, h6, h7⟩ := h
  exact ⟨⟨TS, h1.keep hf (fun _ _ e => e), h2, h3⟩, h4.fr hf (fun _ e => e.elim), fun b hb => Nat.lt_of_lt_of_le (h5 b hb) hf.size, h6.trans hf, h7⟩
theorem LvH.do (h : LvH w W g A le v L) (hu : Il W u M) (e : doH A k M = (c, A')) (hk : ShOk A' le) : Calls Tryz.prog 14 #[.pointer (some ⟨g, 0, none⟩), .int .i64 k, u] W fun e w' => e = .returned (.int .i64 c) ∧ LvH w w' g A' le v L := by
  obtain ⟨⟨TS, h1, h2, h3⟩, h4, h5, h6, h7⟩ := h
  refine (eDo k u M h1 h7 hu).mono ?_
  rintro e2 w' ⟨TS', rfl, q1, q2⟩
  rw [e] at q1 ⊢
  exact ⟨rfl, ⟨TS', q1, fun b hb => (q2.2 b hb).elim (h2 b) (fun e => Nat.le_trans h6.size e), fun b hb e => (q2.2 b e).elim (h3 b hb) (fun e => by have := h5 b hb; omega)⟩,
    h4.keep q2.1 (fun _ b hb => h3 b hb), fun b hb => Nat.lt_of_lt_of_le (h5 b hb) q2.1.size, h6.trans' q2.1 (fun b hl e => by have := h2 b e; omega), hk⟩
theorem LvH.ans (h : LvH w W g A le v L) {TS : Nat → Prop} (h1 : ∀ b, TS b → w.heap.size ≤ b) {e : Ending} (hA : Ans W g TS ((L', c), A', le') e W') (hk : ShOk A' le') : ∃ v', e = .returned (.tuple #[v', .int .i64 c]) ∧ LvH w W' g A' le' v' L' := by
  obtain ⟨v', TS', rfl, q1, q2, q3, q4⟩ := hA
  have h6 := h.fr
  exact ⟨v', rfl, ⟨TS', q1, fun b hb => (q4.2 b hb).elim (h1 b) (fun e => Nat.le_trans h6.size e), fun b hb => (q3 b hb).2.2⟩, q2, fun b hb => (q3 b hb).2.1, h6.trans' q4.1 (fun b hl e => by have := h1 b e; omega), hk⟩
theorem LvH.take (h : LvH w W g A le v L) (hu : Il W u M) (ho : okI o) (e : takeE A le o M = ((L', c), A', le')) (hk : ShOk A' le') : Calls Tryz.prog 8 #[.pointer (some ⟨g, 0, none⟩), .int .i64 o, u] W fun e w' => ∃ v', e = .returned (.tuple #[v', .int .i64 c]) ∧ LvH w w' g A' le' v' L' := by
  obtain ⟨TS, h1, h2, h3⟩ := h.ex
  refine (eTake o u M h1 h.ok ho hu).mono ?_
  intro e2 w' q
  rw [e] at q
  exact h.ans h2 q hk
/-- A call beside which the kept list stays. -/
theorem LvH.ans2 (h : LvH w W g A le v L) {TS : Nat → Prop} (h1 : ∀ b, TS b → w.heap.size ≤ b) (h3 : ∀ b, v.ownBlock = some b → ¬ TS b) {e : Ending} (hA : Ans W g TS ((L', c), A', le') e W') (hk : ShOk A' le') : ∃ v', e = .returned (.tuple #[v', .int .i64 c]) ∧ LvH w W' g A' le' v L ∧ Il W' v' L' := by
  obtain ⟨v', TS', rfl, q1, q2, q3, q4⟩ := hA
  have h6 := h.fr
  have h5 := h.vlt
  exact ⟨v', rfl, ⟨⟨TS', q1, fun b hb => (q4.2 b hb).elim (h1 b) (fun e => Nat.le_trans h6.size e), fun b hb e => (q4.2 b e).elim (h3 b hb) (fun e => by have := h5 b hb; omega)⟩, h.il.keep q4.1 (fun _ b hb => h3 b hb), fun b hb => Nat.lt_of_lt_of_le (h5 b hb) q4.1.size, h6.trans' q4.1 (fun b hl e => by have := h1 b e; omega), hk⟩, q2⟩
theorem LvH.free (h : LvH w W g A le v L) (ho : okI o) (e : freeE A le o = ((L', c), A', le')) (hk : ShOk A' le') : Calls Tryz.prog 10 #[.pointer (some ⟨g, 0, none⟩), .int .i64 o] W fun e w' => ∃ v', e = .returned (.tuple #[v', .int .i64 c]) ∧ LvH w w' g A' le' v L ∧ Il w' v' L' := by
  obtain ⟨TS, h1, h2, h3⟩ := h.ex
  refine (eFree o h1 h.ok ho).mono ?_
  intro e2 w' q
  rw [e] at q
  exact h.ans2 h2 h3 q hk
theorem LvH.pack (h : LvH w W g A le v L) : Calls Tryz.prog 17 #[.pointer (some ⟨g, 0, none⟩)] W fun e w' => ∃ u, e = .returned u ∧ Bs w' u (packH A le) ∧ LvH w w' g A le v L := by
  obtain ⟨TS, h1, h2, h3⟩ := h.ex
  refine (ePack h1 h.ok).mono ?_
  rintro e w' ⟨u, rfl, q1, -, q2⟩
  exact ⟨u, rfl, q1, h.keep q2⟩
theorem LvH.stock (h : LvH w W g A le v L) : Calls Tryz.prog 22 #[.pointer (some ⟨g, 0, none⟩)] W fun e w' => ∃ g', e = .returned (.pointer (some ⟨g', 0, none⟩)) ∧ LvH w w' g A le v L := by
  obtain ⟨TS, h1, h2, h3⟩ := h.ex
  refine (eStock h1).mono ?_
  rintro e w' ⟨g', TS', rfl, q1, q2, -⟩
  exact ⟨g', rfl, h.keep q2⟩
theorem LvH.new (w : World) : Calls Tryz.prog 6 #[] w fun e w' => ∃ g, e = .returned (.pointer (some ⟨g, 0, none⟩)) ∧ LvH w w' g [] [] (.slice none 0 0) [] := by
  refine (eNew w).mono ?_
  rintro e w' ⟨g, TS, rfl, h1, h2, h3⟩
  exact ⟨g, rfl, ⟨TS, h1, h2, fun b hb => (by cases hb)⟩, il_nil _, fun b hb => (by cases hb), h3, ⟨ok0, List.Pairwise.nil, fun p hp => (by cases hp), by simp⟩⟩
end
def HA2 : Stk := [(gA, ⟨0, 5, 0, 0, 5, 0, 0, 0, 0, 0, 0⟩)]
def hl2 : Hes := [(1, ⟨1, L5, [], []⟩)]
theorem hv1 : doH [] 1 L5 = (0, B1) := by kernel_rfl
theorem hv2 : takeE B1 [] 1 [(gA, 7)] = ((L5, 0), HA2, hl2) := by kernel_rfl
theorem hv3 : unpackH (packH HA2 hl2) = some (HA2, hl2) := by kernel_rfl
theorem hv4 : freeE HA2 hl2 1 = ((L5, 0), B1, []) := by kernel_rfl
theorem hv5 : freeE B1 [] 1 = (([], 4), B1, []) := by kernel_rfl
theorem hv6 : soundE HA2 hl2 = true := by kernel_rfl
theorem hkB : ShOk B1 [] := ⟨ok1, List.Pairwise.nil, fun p hp => (by cases hp), by simp⟩
theorem hk2 : ShOk HA2 hl2 := ⟨okB (SRok.of rfl rfl), List.pairwise_singleton _ _, fun p hp => by
  have : p = (1, ⟨1, L5, [], []⟩) := by simpa [hl2] using hp
  subst this
  exact ⟨rfl, by decide, rfl, rfl, rfl, by decide⟩, by decide⟩
theorem hlLen : (packH HA2 hl2).length = 23 := by kernel_rfl
end Go.Proofs.YtogphlnakdnchaaGreat

namespace Go.Proofs.YtogphlnakdnchaaGreat
open Go.RowKit Go.Maps
end Go.Proofs.YtogphlnakdnchaaGreat

namespace Go.Proofs.YtogphlnakdnchaaGreat
open Go.RowKit Go.Maps
theorem neq_item (w : World) (p q : Str × Int) : (binOp .neq 65 (.agg #[vS p.1, .int .i64 p.2]) (.agg #[vS q.1, .int .i64 q.2])).run Tryz.prog w = .ok (.bool (!decide (p = q))) w := by
  obtain ⟨a, m⟩ := p
  obtain ⟨b, n⟩ := q
  simp only [Prod.mk.injEq]
  by_cases h1 : a = b <;> by_cases h2 : m = n <;> simp [go_sem, h1, h2]
/-- An item's cells, at its place. -/
theorem Il.at_ {w : World} {a : Option Addr} {n c k : Nat} {L : Its} {p : Str × Int} (h : Il w (.slice a n c) L) (hp : L[k]? = some p) : ∃ ad, a = some ad ∧ okS p.1 ∧ okI p.2 ∧ w.cell? (ad.add (k * 2)) = some (vS p.1) ∧ w.cell? ⟨(ad.add (k * 2)).block, (ad.add (k * 2)).off + 1, none⟩ = some (.int .i64 p.2) := by
  obtain ⟨_, a', c', e, h1⟩ := h
  injection e with e1 _ _
  obtain ⟨x1, x2, ad, x3, x4, x5⟩ := h1 k p hp
  exact ⟨ad, e1.trans x3, x1, x2, x4, x5⟩
set_option maxRecDepth 100000 in
set_option maxHeartbeats 4000000 in
theorem r6Same (w : World) (u v : Value) (A B : Its) (hA : Il w u A) (hB : Il w v B) : Calls Tryz.prog 18 #[u, v] w fun e w' => e = .returned (.bool (decide (A = B))) ∧ ∃ n, w' = w.drewN n := by
  obtain ⟨G, hG⟩ : ∃ G, decide (A = B) = G := ⟨_, rfl⟩
  rw [hG]
  have HG := Lib.hid hG
  clear hG
  obtain ⟨a, c, rfl⟩ := hA.sl
  obtain ⟨b, d, rfl⟩ := hB.sl
  obtain ⟨n, hn⟩ : ∃ n, A.length = n := ⟨_, rfl⟩
  obtain ⟨m, hm⟩ : ∃ m, B.length = m := ⟨_, rfl⟩
  have hnI : (n : Int) ≤ 9223372036854775807 := by have := hA.1; omega
  have hmI : (m : Int) ≤ 9223372036854775807 := by have := hB.1; omega
  have HA := Lib.hid hA; have HB := Lib.hid hB; have HN := Lib.hid hn; have HM := Lib.hid hm
  rw [hn] at HA ⊢
  rw [hm] at HB ⊢
  clear hA hB hn hm
  by_cases hnm : n = m
  · subst hnm
    go_enter Tryz.func18, Tryz.ntmps18
    go_wp2_with fail
    go_loopw [5] (fun i wr => ∃ k e : Nat, k ≤ n ∧ i = .int .i64 k ∧ wr = w.drewN e ∧ ∀ j, j < k → A[j]? = B[j]?) (fun i _ => n - (intOf i).toNat)
    case atStart => exact ⟨0, 0, Nat.zero_le _, rfl, rfl, fun j hj => by omega⟩
    case round =>
      obtain ⟨k, e, hk, rfl, hwr, hall⟩ := hrel
      have HW := Lib.hid hwr; have HALL := Lib.hid hall
      have hAr : Il wr (.slice a n c) A := by rw [hwr]; exact HA.out.fr ((Fr.refl (fun _ => False) w).drewN e) (fun _ h => h.elim)
      have hBr : Il wr (.slice b n d) B := by rw [hwr]; exact HB.out.fr ((Fr.refl (fun _ => False) w).drewN e) (fun _ h => h.elim)
      clear hwr hall
      by_cases hlt : k < n
      · obtain ⟨p, hp⟩ : ∃ p, A[k]? = some p := ⟨A[k]'(by rw [HN.out]; exact hlt), List.getElem?_eq_getElem _⟩
        obtain ⟨q, hq⟩ : ∃ q, B[k]? = some q := ⟨B[k]'(by rw [HM.out]; exact hlt), List.getElem?_eq_getElem _⟩
        obtain ⟨aa, rfl, -, -, p0, p1⟩ := hAr.at_ hp
        obtain ⟨ba, rfl, -, -, q0, q1⟩ := hBr.at_ hq
        have hneq := fun W => neq_item W p q
        have HP := Lib.hid hp; have HQ := Lib.hid hq
        have hltI : (k : Int) < n := by omega
        clear hp hq hAr hBr
        by_cases hpq : p = q
        · rw [decide_eq_true hpq] at hneq
          have HPQ := Lib.hid hpq
          clear hpq
          go_wp2_with fail
          go_quiet (fail)
          go_wp2_with fail
          go_roundw
          case rel => exact ⟨k + 1, _, by omega, by go_num, (by rw [HW.out, World.drewN_drewN]), fun j hj => by
            by_cases e : j = k
            · rw [e, HP.out, HQ.out, HPQ.out]
            · exact HALL.out j (by omega)⟩
          case measure => simp [intOf]; omega
        · rw [decide_eq_false hpq] at hneq
          have hg : Hid (G = false) := Lib.hid (by
            rw [← HG.out]
            refine decide_eq_false (fun e => hpq ?_)
            have := HP.out
            rw [e, HQ.out] at this
            exact (Option.some.inj this).symm)
          clear hpq
          go_wp2_with fail
          go_quiet (fail)
          go_wp2_with fail
          go_ret
          exact ⟨by rw [hg.out]; rfl, _, by rw [HW.out, World.drewN_drewN]⟩
      · obtain rfl : k = n := by omega
        have hg : Hid (G = true) := Lib.hid (by
          rw [← HG.out]
          refine decide_eq_true (List.ext_getElem? (fun j => ?_))
          by_cases h : j < k
          · exact HALL.out j h
          · rw [List.getElem?_eq_none (by rw [HN.out]; omega), List.getElem?_eq_none (by rw [HM.out]; omega)])
        go_wp2_with fail
        go_ret
        exact ⟨by rw [hg.out]; rfl, _, HW.out⟩
  · have hg : Hid (G = false) := Lib.hid (by
      rw [← HG.out]
      refine decide_eq_false (fun e => hnm ?_)
      rw [← HN.out, ← HM.out, e])
    have hne : ((n : Int) != m) = true := by simp; omega
    go_enter Tryz.func18, Tryz.ntmps18
    go_wp2_with fail
    go_ret
    exact ⟨by rw [hg.out]; rfl, 0, rfl⟩
end Go.Proofs.YtogphlnakdnchaaGreat

namespace Go.Proofs.YtogphlnakdnchaaGreat
open Go.RowKit Go.Maps
theorem ilAt1 {W : World} {b : Nat} {n : Int} (h : W.heap[b]? = some (.cells #[.string ⟨#[97]⟩, .int .i64 n] 65)) (hn : okI n) : Il W (.slice (some ⟨b, 0, none⟩) 1 1) [(gA, n)] := by
  refine ⟨by simp, some ⟨b, 0, none⟩, 1, rfl, fun i p hp => ?_⟩
  match i, hp with
  | 0, hp =>
    cases hp
    exact ⟨by simp [okS, gA, maxLen], hn, _, rfl, cell_obj h 0 _ rfl, cell_obj h 1 _ rfl⟩
/-- Two shelves of a law's own, and two lists. -/
structure LvX (w W : World) (g : Nat) (A : Stk) (le : Hes) (v : Value) (L : Its) (u : Value) (M : Its) (gx : Nat) (B : Stk) (lx : Hes) : Prop where
  ex : ∃ TS TX, SHE W g TS A le ∧ SHE W gx TX B lx ∧ (∀ b, TS b → w.heap.size ≤ b) ∧ (∀ b, v.ownBlock = some b → ¬ TS b) ∧ (∀ b, u.ownBlock = some b → ¬ TS b) ∧ ∀ b, TX b → ¬ TS b
  il : Il W v L
  vlt : ∀ b, v.ownBlock = some b → b < W.heap.size
  iu : Il W u M
  ult : ∀ b, u.ownBlock = some b → b < W.heap.size
  fr : Fr (fun _ => False) w W
  ok : ShOk A le
section
variable {w W W' : World} {g gx : Nat} {A A' B : Stk} {le le' lx : Hes} {v u : Value} {L L' M : Its} {o c k : Int}
theorem LvX.of (h : LvH w W g A le v L) {TX : Nat → Prop} (hf : Fr (fun _ => False) W W') (hx : SHE W' gx TX B lx) (hl : ∀ b, TX b → W.heap.size ≤ b) : LvX w W' g A le v L (.slice none 0 0) [] gx B lx := by
  have h2 := h.keep hf
  obtain ⟨TS, q1, q2, q3⟩ := h.ex
  exact ⟨⟨TS, TX, q1.keep hf (fun _ _ e => e), hx, q2, q3, fun b hb => (by cases hb), fun b hb e => by have := q1.lt b e; have := hl b hb; omega⟩, h2.il, h2.vlt, il_nil _, fun b hb => (by cases hb), h2.fr, h2.ok⟩
theorem LvX.keep (h : LvX w W g A le v L u M gx B lx) (hf : Fr (fun _ => False) W W') : LvX w W' g A le v L u M gx B lx := by
  obtain ⟨⟨TS, TX, h1, h1x, h2, h3, h3u, h3x⟩, h4, h5, h4u, h5u, h6, h7⟩ := h
  exact ⟨⟨TS, TX, h1.keep hf (fun _ _ e => e), h1x.keep hf (fun _ _ e => e), h2, h3, h3u, h3x⟩, h4.fr hf (fun _ e => e.elim), fun b hb => Nat.lt_of_lt_of_le (h5 b hb) hf.size, h4u.fr hf (fun _ e => e.elim), fun b hb => Nat.lt_of_lt_of_le (h5u b hb) hf.size, h6.trans hf, h7⟩
theorem LvX.h (h : LvX w W g A le v L u M gx B lx) : LvH w W g A le v L := by
  obtain ⟨⟨TS, TX, h1, h1x, h2, h3, h3u, h3x⟩, h4, h5, h4u, h5u, h6, h7⟩ := h
  exact ⟨⟨TS, h1, h2, h3⟩, h4, h5, h6, h7⟩
theorem LvX.free (h : LvX w W g A le v L u M gx B lx) (ho : okI o) (e : freeE A le o = ((L', c), A', le')) (hk : ShOk A' le') : Calls Tryz.prog 10 #[.pointer (some ⟨g, 0, none⟩), .int .i64 o] W fun e w' => ∃ v', e = .returned (.tuple #[v', .int .i64 c]) ∧ LvX w w' g A' le' v L u M gx B lx ∧ LvX w w' g A' le' v L v' L' gx B lx := by
  obtain ⟨⟨TS, TX, h1, h1x, h2, h3, h3u, h3x⟩, h4, h5, h4u, h5u, h6, h7⟩ := h
  refine (eFree o h1 h7 ho).mono ?_
  intro e2 w' q
  rw [e] at q
  obtain ⟨v', TS', rfl, q1, q2, q3, q4⟩ := q
  have hlx := h1x.lt
  have a1 : ∀ b, TS' b → w.heap.size ≤ b := fun b hb => (q4.2 b hb).elim (h2 b) (fun e => Nat.le_trans h6.size e)
  have a2 : ∀ b, v.ownBlock = some b → ¬ TS' b := fun b hb e => (q4.2 b e).elim (h3 b hb) (fun e => by have := h5 b hb; omega)
  have a3 : ∀ b, u.ownBlock = some b → ¬ TS' b := fun b hb e => (q4.2 b e).elim (h3u b hb) (fun e => by have := h5u b hb; omega)
  have a4 : ∀ b, TX b → ¬ TS' b := fun b hb e => (q4.2 b e).elim (h3x b hb) (fun e => by have := hlx b hb; omega)
  have a5 := h1x.keep q4.1 h3x
  have a6 := h4.keep q4.1 (fun _ b hb => h3 b hb)
  have a7 : ∀ b, v.ownBlock = some b → b < w'.heap.size := fun b hb => Nat.lt_of_lt_of_le (h5 b hb) q4.1.size
  have a8 : Fr (fun _ => False) w w' := h6.trans' q4.1 (fun b hl e => by have := h2 b e; omega)
  exact ⟨v', rfl, ⟨⟨TS', TX, q1, a5, a1, a2, a3, a4⟩, a6, a7, h4u.keep q4.1 (fun _ b hb => h3u b hb), fun b hb => Nat.lt_of_lt_of_le (h5u b hb) q4.1.size, a8, hk⟩,
    ⟨⟨TS', TX, q1, a5, a1, a2, fun b hb => (q3 b hb).2.2, a4⟩, a6, a7, q2, fun b hb => (q3 b hb).2.1, a8, hk⟩⟩
theorem LvX.sound (h : LvX w W g A le v L u M gx B lx) (hk : ShOk B lx) : Calls Tryz.prog 23 #[.pointer (some ⟨gx, 0, none⟩)] W fun e w' => e = .returned (.bool (soundE B lx)) ∧ LvX w w' g A le v L u M gx B lx := by
  obtain ⟨TS, TX, h1, h1x, h2, h3, h3u, h3x⟩ := h.ex
  refine (eSound h1x hk).mono ?_
  rintro e w' ⟨rfl, hf⟩
  exact ⟨rfl, h.keep hf⟩
end
theorem ilCell {w : World} {ia : Addr} {n c : Nat} {p : Str × Int} {r : Its} (h : Il w (.slice (some ia) n c) (p :: r)) : w.cell? ia = some (vS p.1) ∧ w.cell? ⟨ia.block, ia.off + 1, none⟩ = some (.int .i64 p.2) := by
  obtain ⟨ad, e, -, -, h1, h2⟩ := Il.at_ (k := 0) (p := p) h rfl
  injection e with e
  subst e
  have e0 : ia.add (0 * 2) = ia := by unfold Addr.add; simp
  rw [e0] at h1 h2
  exact ⟨h1, h2⟩
set_option maxRecDepth 100000 in
set_option maxHeartbeats 8000000 in
theorem hLives (w : World) : Calls Tryz.prog 7 #[] w fun e w' => e = .returned (.bool true) ∧ Fr (fun _ => False) w w' := by
  have hnf := fun (w : World) (f : Fn) (x y : Array Value) => run_eql_func_nil (P := Tryz.prog) w 53 _ _ _ f x y Tryz.underlying53
  go_enter Tryz.func7, Tryz.ntmps7
  go_wp2_with (first
    | (go_at_call 22; refine HV7.out.stock.mono ?_; rintro e w13 ⟨gk, rfl, hv⟩; have HV8 := Lib.hid hv; clear hv)
    | (go_at_call 18; refine (r6Same _ _ _ _ _ HX6.out.il HX6.out.iu).mono ?_; rw [decide_eq_true rfl]; rintro e w12 ⟨rfl, n12, rfl⟩; have HV7 := Lib.hid (HX6.out.keep ((Fr.refl _ _).drewN n12)).h)
    | (go_at_call 23; refine (HXb.out.sound hk2).mono ?_; rw [hv6]; rintro e w11 ⟨rfl, hx⟩; have HX6 := Lib.hid hx; clear hx)
    | (go_at_call 10; refine (HXa.out.free (by simp [okI]) hv5 hkB).mono ?_; rintro e w10 ⟨v10, rfl, hx, hz⟩; obtain ⟨b10, d10, e10⟩ := hz.iu.sl; obtain rfl : v10 = .slice b10 0 d10 := e10; have HXb := Lib.hid hx; obtain ⟨i0, i1⟩ := ilCell hx.il; clear hx hz)
    | (go_at_call 10; refine (HX5.out.free (by simp [okI]) hv4 hkB).mono ?_; rintro e w9 ⟨v9, rfl, -, hx⟩; obtain ⟨b9, d9, e9⟩ := hx.iu.sl; obtain rfl : v9 = .slice b9 1 d9 := e9; have HXa := Lib.hid hx; clear hx)
    | (go_at_call 25; refine (hUnpack _ _ (packH HA2 hl2) HB6.out (by rw [hlLen]; decide) (packH_byt hk2)).mono ?_; rw [hv3]; rintro e w8 ⟨hf, gx, TX, rfl, hx, hlx⟩; have HX5 := Lib.hid (LvX.of HV4.out hf hx hlx); clear hf hx hlx)
    | (go_at_call 17; refine HV3.out.pack.mono ?_; rintro e w7 ⟨u7, rfl, hb, hv⟩; have HB6 := Lib.hid hb; have HV4 := Lib.hid hv; clear hb hv)
    | (go_at_call 8; refine ((HV2.out.keep ((Fr.refl _ _).alloc _)).take (ilAt1 (n := 7) (heap_new _ _) (by simp [okI])) (by simp [okI]) hv2 hk2).mono ?_; rintro e w6 ⟨v6, rfl, hv⟩; obtain ⟨ta, tc, e6⟩ := hv.il.sl; obtain rfl : v6 = .slice ta 1 tc := e6; obtain ⟨ia, rfl, -⟩ := Il.at_ (k := 0) (p := (gA, 5)) hv.il rfl; have HV3 := Lib.hid hv; clear hv)
    | (go_at_call 14; refine ((HV1.out.keep (((Fr.refl _ _).alloc _).alloc _)).do (ilAt1 (n := 5) (heap_at (by simp) _) (by simp [okI])) hv1 hkB).mono ?_; rintro e w4 ⟨rfl, hv⟩; have HV2 := Lib.hid hv; clear hv)
    | (go_at_call 19; refine (hOrders _ _).mono ?_; rintro e w2 ⟨rfl, rfl⟩)
    | (go_at_call 6; refine (LvH.new _).mono ?_; rintro e w1 ⟨g, rfl, hv⟩; have HV1 := Lib.hid hv; clear hv))
  go_ret
  exact ⟨rfl, HV8.out.fr⟩
end Go.Proofs.YtogphlnakdnchaaGreat

namespace Go.Proofs.YtogphlnakdnchaaGreat
open Go.RowKit Go.Maps
set_option maxRecDepth 100000 in
set_option maxHeartbeats 2000000 in
theorem r6Of (w : World) (v : Value) (L : Its) (s : Str) (h : Il w v L) : Calls Tryz.prog 9 #[v, vS s] w fun e w' => e = .returned (.int .i64 (ofF L s)) ∧ w = w' := by
  obtain ⟨a, c, rfl⟩ := h.sl
  obtain ⟨N, hN⟩ : ∃ N, L.length = N := ⟨_, rfl⟩
  have hNb : (N : Int) ≤ 9223372036854775807 := by have := h.1; omega
  have HL := Lib.hid h; have HN := Lib.hid hN
  rw [hN] at HL ⊢
  clear h hN
  go_enter Tryz.func9, Tryz.ntmps9
  go_wp2_with fail
  go_loop [5, 6] (fun n i => ∃ k : Nat, k ≤ N ∧ i = .int .i64 k ∧ n = .int .i64 (ofF (L.take k) s)) (fun _ i => N - (intOf i).toNat)
  case atStart => exact ⟨0, Nat.zero_le _, rfl, rfl⟩
  case round =>
    obtain ⟨k, hk, rfl, rfl⟩ := hrel
    by_cases hlt : k < N
    · obtain ⟨p, hp⟩ : ∃ p, L[k]? = some p := ⟨L[k]'(by rw [HN.out]; exact hlt), List.getElem?_eq_getElem _⟩
      obtain ⟨ad, rfl, -, -, x0, x1⟩ := HL.out.at_ hp
      have hlI : (k : Int) < N := by omega
      have HS := Lib.hid (ofF_take s hp)
      obtain ⟨A, hA⟩ : ∃ A, ofF (L.take k) s = A := ⟨_, rfl⟩
      rw [hA] at HS ⊢
      obtain ⟨g, n⟩ := p
      dsimp only at x0 x1
      clear hp hA
      by_cases hg : g = s
      · have q1 : (g == s) = true := by simpa using hg
        have HG := Lib.hid hg
        clear hg
        go_wp2_with fail
        go_round
        case rel => exact ⟨k + 1, by omega, by go_num, by rw [HS.out]; unfold ofStep; rw [if_pos HG.out]⟩
        case measure => simp [intOf]; omega
      · have q1 : (g == s) = false := by simpa using hg
        have HG := Lib.hid hg
        clear hg
        go_wp2_with fail
        go_round
        case rel => exact ⟨k + 1, by omega, by go_num, by rw [HS.out]; unfold ofStep; rw [if_neg HG.out]⟩
        case measure => simp [intOf]; omega
    · obtain rfl : k = N := by omega
      have HE : Hid (ofF (L.take k) s = ofF L s) := Lib.hid (by rw [List.take_of_length_le (by rw [HN.out]; exact Nat.le_refl _)])
      go_wp2_with fail
      go_ret
      exact ⟨by rw [HE.out]; rfl, rfl⟩
end Go.Proofs.YtogphlnakdnchaaGreat

namespace Go.Proofs.YtogphlnakdnchaaGreat
open Go.RowKit Go.Maps
abbrev encK : Int → Value := fun n => .int .i64 n
abbrev Bk := List (Int × Int)
def bk (T : Bk) (y : Int) : Int := (getS T y).getD 0
structure LgS (w W : World) (g mt ms : Nat) (A : Stk) (le : Hes) (T S : Bk) (n1 : Nat) (ob : Option Obj) : Prop where
  sh : ∃ TS, SHE W g TS A le ∧ (∀ b, TS b → w.heap.size ≤ b) ∧ ¬ TS mt ∧ ¬ TS ms ∧ ∀ o, ob = some o → ¬ TS n1
  ok : ShOk A le
  bt : Mp Tryz.prog W 3 ktI encK mt T
  bs : Mp Tryz.prog W 3 ktI encK ms S
  lo : w.heap.size ≤ mt ∧ w.heap.size ≤ ms ∧ mt ≠ ms
  fr : Fr (fun _ => False) w W
  bx : ∀ o, ob = some o → W.heap[n1]? = some o ∧ n1 ≠ mt ∧ n1 ≠ ms
/-- What the books say. -/
structure Led (le : Hes) (T S : Bk) (k : Nat) : Prop where
  tk : ∀ y, (heOf le y).of gA ≤ bk T y
  sp : ∀ y, getI (heOf le y).sh gA = bk S y
  top : ∀ y, bk T y ≤ k * 17592186044416
  len : T.length ≤ k ∧ S.length ≤ k
  rt : T.Pairwise (fun p q => p.1 < q.1) ∧ S.Pairwise (fun p q => p.1 < q.1)
section
variable {w W W' : World} {g mt ms k : Nat} {A A' : Stk} {le le' : Hes} {T S : Bk} {n1 : Nat} {ob : Option Obj} {o : Int}
theorem LgS.keep (h : LgS w W g mt ms A le T S n1 ob) (hf : Fr (fun _ => False) W W') : LgS w W' g mt ms A le T S n1 ob := by
  obtain ⟨⟨TS, h1, h2, h3, h4⟩, h5, h6, h7, h8, h9, h10⟩ := h
  exact ⟨⟨TS, h1.keep hf (fun _ _ e => e), h2, h3, h4⟩, h5, h6.at_ (hf.same mt h6.lt (fun e => e)), h7.at_ (hf.same ms h7.lt (fun e => e)), h8, h9.trans hf, fun o ho => ⟨hf.at_ (h10 o ho).1 (fun e => e), (h10 o ho).2⟩⟩
theorem LgS.box (h : LgS w W g mt ms A le T S n1 none) (o : Obj) : LgS w (W.alloc o) g mt ms A le T S W.heap.size (some o) := by
  obtain ⟨⟨TS, h1, h2, h3, h4, -⟩, h5, h6, h7, h8, h9, -⟩ := h
  have hf : Fr (fun _ => False) W (W.alloc o) := (Fr.refl _ W).alloc _
  have l1 := h6.lt
  have l2 := h7.lt
  exact ⟨⟨TS, h1.keep hf (fun _ _ e => e), h2, h3, h4, fun _ _ e => by have := h1.lt _ e; omega⟩, h5, h6.at_ (hf.same mt h6.lt (fun e => e)), h7.at_ (hf.same ms h7.lt (fun e => e)), h8, h9.trans hf, fun o' ho => by cases ho; exact ⟨heap_new _ _, by omega, by omega⟩⟩
theorem LgS.drop (h : LgS w W g mt ms A le T S n1 ob) (n2 : Nat) : LgS w W g mt ms A le T S n2 none := by
  obtain ⟨⟨TS, h1, h2, h3, h4, -⟩, h5, h6, h7, h8, h9, -⟩ := h
  exact ⟨⟨TS, h1, h2, h3, h4, fun _ e => by cases e⟩, h5, h6, h7, h8, h9, fun _ e => by cases e⟩
theorem LgS.ans (h : LgS w W g mt ms A le T S n1 ob) {TS : Nat → Prop} (h2 : ∀ b, TS b → w.heap.size ≤ b) (h3 : ¬ TS mt) (h4 : ¬ TS ms) (hx : ∀ o, ob = some o → ¬ TS n1) {R : (Its × Int) × Stk × Hes} (hR : ShOk R.2.1 R.2.2) {e : Ending} (q : Ans W g TS R e W') :
    ∃ v', e = .returned (.tuple #[v', .int .i64 R.1.2]) ∧ Il W' v' R.1.1 ∧ LgS w W' g mt ms R.2.1 R.2.2 T S n1 ob := by
  obtain ⟨v', TS', rfl, q1, q2, q3, q4⟩ := q
  have l1 := h.bt.lt
  have l2 := h.bs.lt
  have h9 := h.fr
  exact ⟨v', rfl, q2, ⟨TS', q1, fun b hb => (q4.2 b hb).elim (h2 b) (fun e => Nat.le_trans h9.size e), fun e => (q4.2 _ e).elim h3 (fun e => by omega), fun e => (q4.2 _ e).elim h4 (fun e => by omega), fun o ho e => (q4.2 _ e).elim (hx o ho) (fun e => by have := (Array.getElem?_eq_some_iff.1 (h.bx o ho).1).1; omega)⟩, hR, h.bt.at_ (q4.1.same mt l1 h3), h.bs.at_ (q4.1.same ms l2 h4), h.lo, h9.trans' q4.1 (fun b hl e => by have := h2 b e; omega), fun o ho => ⟨q4.1.at_ (h.bx o ho).1 (hx o ho), (h.bx o ho).2⟩⟩
theorem LgS.take {v : Value} {L : Its} (h : LgS w W g mt ms A le T S n1 ob) (ho : okI o) (hv : Il W v L) : Calls Tryz.prog 8 #[.pointer (some ⟨g, 0, none⟩), .int .i64 o, v] W fun e w' => ∃ v', e = .returned (.tuple #[v', .int .i64 (takeE A le o L).1.2]) ∧ Il w' v' (takeE A le o L).1.1 ∧ LgS w w' g mt ms (takeE A le o L).2.1 (takeE A le o L).2.2 T S n1 ob := by
  obtain ⟨TS, h1, h2, h3, h4, hx⟩ := h.sh
  refine (eTake o v L h1 h.ok ho hv).mono ?_
  intro e w' q
  exact h.ans h2 h3 h4 hx (take_ok h.ok).1.sh q
theorem LgS.free (h : LgS w W g mt ms A le T S n1 ob) (ho : okI o) : Calls Tryz.prog 10 #[.pointer (some ⟨g, 0, none⟩), .int .i64 o] W fun e w' => ∃ v', e = .returned (.tuple #[v', .int .i64 (freeE A le o).1.2]) ∧ Il w' v' (freeE A le o).1.1 ∧ LgS w w' g mt ms (freeE A le o).2.1 (freeE A le o).2.2 T S n1 ob := by
  obtain ⟨TS, h1, h2, h3, h4, hx⟩ := h.sh
  refine (eFree o h1 h.ok ho).mono ?_
  intro e w' q
  exact h.ans h2 h3 h4 hx (free_ok h.ok).1.sh q
theorem LgS.pick (h : LgS w W g mt ms A le T S n1 ob) (ho : okI o) : Calls Tryz.prog 11 #[.pointer (some ⟨g, 0, none⟩), .int .i64 o] W fun e w' => ∃ v', e = .returned (.tuple #[v', .int .i64 (pickE A le o).1.2]) ∧ Il w' v' (pickE A le o).1.1 ∧ LgS w w' g mt ms (pickE A le o).2.1 (pickE A le o).2.2 T S n1 ob := by
  obtain ⟨TS, h1, h2, h3, h4, hx⟩ := h.sh
  refine (ePick o h1 h.ok ho).mono ?_
  intro e w' q
  exact h.ans h2 h3 h4 hx (pickM_ok h.ok).1.sh q
theorem LgS.unpick (h : LgS w W g mt ms A le T S n1 ob) (ho : okI o) : Calls Tryz.prog 12 #[.pointer (some ⟨g, 0, none⟩), .int .i64 o] W fun e w' => ∃ v', e = .returned (.tuple #[v', .int .i64 (unpickE A le o).1.2]) ∧ Il w' v' (unpickE A le o).1.1 ∧ LgS w w' g mt ms (unpickE A le o).2.1 (unpickE A le o).2.2 T S n1 ob := by
  obtain ⟨TS, h1, h2, h3, h4, hx⟩ := h.sh
  refine (eUnpick o h1 h.ok ho).mono ?_
  intro e w' q
  exact h.ans h2 h3 h4 hx (unpickM_ok h.ok).1.sh q
theorem LgS.ship (h : LgS w W g mt ms A le T S n1 ob) (ho : okI o) : Calls Tryz.prog 13 #[.pointer (some ⟨g, 0, none⟩), .int .i64 o] W fun e w' => ∃ v', e = .returned (.tuple #[v', .int .i64 (shipE A le o).1.2]) ∧ Il w' v' (shipE A le o).1.1 ∧ LgS w w' g mt ms (shipE A le o).2.1 (shipE A le o).2.2 T S n1 ob := by
  obtain ⟨TS, h1, h2, h3, h4, hx⟩ := h.sh
  refine (eShip o h1 h.ok ho).mono ?_
  intro e w' q
  exact h.ans h2 h3 h4 hx (shipM_ok h.ok).1.sh q
theorem LgS.do {v : Value} {L : Its} {d : Int} (h : LgS w W g mt ms A le T S n1 ob) (hv : Il W v L) : Calls Tryz.prog 14 #[.pointer (some ⟨g, 0, none⟩), .int .i64 d, v] W fun e w' => e = .returned (.int .i64 (doH A d L).1) ∧ LgS w w' g mt ms (doH A d L).2 le T S n1 ob := by
  obtain ⟨TS, h1, h2, h3, h4, hx⟩ := h.sh
  have l1 := h.bt.lt
  have l2 := h.bs.lt
  have h9 := h.fr
  refine (eDo d v L h1 h.ok hv).mono ?_
  rintro e w' ⟨TS', rfl, q1, q4⟩
  exact ⟨rfl, ⟨TS', q1, fun b hb => (q4.2 b hb).elim (h2 b) (fun e => Nat.le_trans h9.size e), fun e => (q4.2 _ e).elim h3 (fun e => by omega), fun e => (q4.2 _ e).elim h4 (fun e => by omega), fun o ho e => (q4.2 _ e).elim (hx o ho) (fun e => by have := (Array.getElem?_eq_some_iff.1 (h.bx o ho).1).1; omega)⟩, do_ok h.ok, h.bt.at_ (q4.1.same mt l1 h3), h.bs.at_ (q4.1.same ms l2 h4), h.lo, h9.trans' q4.1 (fun b hl e => by have := h2 b e; omega), fun o ho => ⟨q4.1.at_ (h.bx o ho).1 (hx o ho), (h.bx o ho).2⟩⟩
theorem LgS.hold (h : LgS w W g mt ms A le T S n1 ob) (ho : okI o) : Calls Tryz.prog 15 #[.pointer (some ⟨g, 0, none⟩), .int .i64 o] W fun e w' => ∃ v, e = .returned v ∧ Hd w' W.heap.size v (heOf le o) ∧ Fr (fun _ => False) W w' := by
  obtain ⟨TS, h1, h2, h3, h4, hx⟩ := h.sh
  exact eHold o h1 h.ok ho
/-- A number is written into the book of what was taken. -/
theorem LgS.putT (h : LgS w W g mt ms A le T S n1 ob) (ho : okI o) (hl : T.length ≤ 1000) (n : Int) : ∃ w', (Instr.mapUpdate 26 (.map (some mt)) (.int .i64 o) (.int .i64 n)).run Tryz.prog W = .ok () w' ∧ LgS w w' g mt ms A le (putS ktI.lt T o n) S n1 ob ∧ Fr (fun b => b = mt) W w' := by
  obtain ⟨w', h1, h2, h3⟩ := h.bt.store kHI Tryz.underlying26 (by omega) ho n
  have hf : Fr (fun b => b = mt) W w' := Fr.turned h3 rfl
  obtain ⟨⟨TS, q1, q2, q3, q4, hx⟩, h5, h6, h7, h8, h9, h10⟩ := h
  exact ⟨w', h1, ⟨⟨TS, q1.keep hf (fun b hb e => q3 (e ▸ hb)), q2, q3, q4, hx⟩, h5, h2, h7.at_ (hf.same ms h7.lt (fun e => h8.2.2 e.symm)), h8, h9.trans' hf (fun b hl e => by omega), fun o ho => ⟨hf.at_ (h10 o ho).1 (h10 o ho).2.1, (h10 o ho).2⟩⟩, hf⟩
theorem LgS.putS' (h : LgS w W g mt ms A le T S n1 ob) (ho : okI o) (hl : S.length ≤ 1000) (n : Int) : ∃ w', (Instr.mapUpdate 26 (.map (some ms)) (.int .i64 o) (.int .i64 n)).run Tryz.prog W = .ok () w' ∧ LgS w w' g mt ms A le T (putS ktI.lt S o n) n1 ob ∧ Fr (fun b => b = ms) W w' := by
  obtain ⟨w', h1, h2, h3⟩ := h.bs.store kHI Tryz.underlying26 (by omega) ho n
  have hf : Fr (fun b => b = ms) W w' := Fr.turned h3 rfl
  obtain ⟨⟨TS, q1, q2, q3, q4, hx⟩, h5, h6, h7, h8, h9, h10⟩ := h
  exact ⟨w', h1, ⟨⟨TS, q1.keep hf (fun b hb e => q4 (e ▸ hb)), q2, q3, q4, hx⟩, h5, h6.at_ (hf.same mt h6.lt (fun e => h8.2.2 e)), h2, h8, h9.trans' hf (fun b hl e => by omega), fun o ho => ⟨hf.at_ (h10 o ho).1 (h10 o ho).2.2, (h10 o ho).2⟩⟩, hf⟩
theorem LgS.look (h : LgS w W g mt ms A le T S n1 ob) (ho : okI o) : (Instr.lookup 26 (.map (some mt)) (.int .i64 o) false).run Tryz.prog W = .ok (.int .i64 (bk T o)) W ∧ (Instr.lookup 26 (.map (some ms)) (.int .i64 o) false).run Tryz.prog W = .ok (.int .i64 (bk S o)) W := by
  have h1 := h.bt.look kHI Tryz.underlying26 (z := .int .i64 0) (by kernel_rfl) (x := o) ho
  have h2 := h.bs.look kHI Tryz.underlying26 (z := .int .i64 0) (by kernel_rfl) (x := o) ho
  refine ⟨h1.trans ?_, h2.trans ?_⟩
  · unfold bk; cases getS T o <;> rfl
  · unfold bk; cases getS S o <;> rfl
end
end Go.Proofs.YtogphlnakdnchaaGreat

namespace Go.Proofs.YtogphlnakdnchaaGreat
open Go.RowKit Go.Maps
theorem bk_put {T : Bk} (h : T.Pairwise (fun p q => p.1 < q.1)) (o n y : Int) : bk (putS ktI.lt T o n) y = if o = y then n else bk T y := by
  unfold bk
  rw [getK_put (riseO_nd h)]
  by_cases e : o = y
  · rw [if_pos e, if_pos e]; rfl
  · rw [if_neg e, if_neg e]
theorem may_of {L : Its} (h : mayL L = true) (s : Str) : ofF L s = getI L s ∧ 0 ≤ getI L s ∧ getI L s ≤ 1099511627776 := by
  have hk := mayL_all h
  have hb : 0 ≤ getI L s ∧ getI L s ≤ 1099511627776 := by
    rw [getI_rise s hk.rise]
    cases e : getS L s with
    | none => exact ⟨Int.le_refl _, by simp⟩
    | some v =>
      have := hk.row _ (getK_mem e)
      simp only [Option.getD_some] at this ⊢
      omega
  refine ⟨?_, hb⟩
  have := ofF_aux s L 0 (Int.le_refl _) (fun p hp => by have := hk.row p hp; omega) (by omega)
  unfold ofF
  omega
section
variable {A : Stk} {le le' : Hes} {T S T' S' : Bk} {k : Nat} {o : Int}
theorem Led.nil : Led [] [] [] 0 := ⟨fun y => by show (heOf [] y).of gA ≤ bk [] y; exact Int.le_refl _, fun y => rfl, fun y => by show (0 : Int) ≤ _; omega, ⟨Nat.le_refl _, Nat.le_refl _⟩, List.Pairwise.nil, List.Pairwise.nil⟩
theorem Led.up (h : Led le T S k) : Led le T S (k + 1) :=
  ⟨h.tk, h.sp, fun y => by have := h.top y; omega, ⟨by have := h.len; omega, by have := h.len; omega⟩, h.rt⟩
theorem Led.nn (hk : ShOk A le) (y : Int) : 0 ≤ getI (heOf le y).he gA ∧ 0 ≤ getI (heOf le y).pi gA ∧ 0 ≤ getI (heOf le y).sh gA := by
  have hm := heOf_may hk.row y
  exact ⟨(may_of hm.1 gA).2.1, (may_of hm.2.1 gA).2.1, (may_of hm.2.2 gA).2.1⟩
theorem Led.less (h : Led le T S k) (hk : ShOk A le) (y : Int) : 0 ≤ bk S y ∧ bk S y ≤ bk T y := by
  have h1 := Led.nn hk y
  have h2 := h.tk y
  have h3 := h.sp y
  unfold HE.of at h2
  omega
theorem Led.stay {R : (Its × Int) × Stk × Hes} (h : Led le T S k) (st : StepOk le o R) (h1 : (heOf R.2.2 o).of gA ≤ (heOf le o).of gA) (h2 : getI (heOf R.2.2 o).sh gA = getI (heOf le o).sh gA) : Led R.2.2 T S (k + 1) := by
  have hu := h.up
  refine ⟨fun y => ?_, fun y => ?_, hu.top, hu.len, hu.rt⟩
  · by_cases e : y = o
    · subst e; have := h.tk y; omega
    · rw [st.same y e]; exact h.tk y
  · by_cases e : y = o
    · subst e; rw [h2]; exact h.sp y
    · rw [st.same y e]; exact h.sp y
theorem Led.take {L : Its} (h : Led le T S k) (hk : ShOk A le) : Led (takeE A le o L).2.2 (putS ktI.lt T o (bk T o + getI (takeE A le o L).1.1 gA)) S (k + 1) := by
  obtain ⟨st, h1⟩ := take_ok (o := o) (L := L) hk
  obtain ⟨h2, h3⟩ := h1 gA
  have hb := may_of st.out gA
  have hu := h.up
  refine ⟨fun y => ?_, fun y => ?_, fun y => ?_, ⟨?_, hu.len.2⟩, riseO_put h.rt.1, h.rt.2⟩
  · rw [bk_put h.rt.1]
    by_cases e : o = y
    · subst e; rw [if_pos rfl, h2]; have := h.tk o; omega
    · rw [if_neg e, st.same y (fun e2 => e e2.symm)]; exact h.tk y
  · by_cases e : y = o
    · subst e; rw [h3]; exact h.sp y
    · rw [st.same y e]; exact h.sp y
  · rw [bk_put h.rt.1]
    by_cases e : o = y
    · rw [if_pos e]; have := h.top o; omega
    · rw [if_neg e]; exact hu.top y
  · have := putK_len ktI.lt T o (bk T o + getI (takeE A le o L).1.1 gA)
    have := h.len.1
    omega
theorem Led.ship (h : Led le T S k) (hk : ShOk A le) : Led (shipE A le o).2.2 T (putS ktI.lt S o (bk S o + getI (shipE A le o).1.1 gA)) (k + 1) := by
  obtain ⟨st, h1⟩ := shipM_ok (o := o) hk
  obtain ⟨h2, h3⟩ := h1 gA
  have hu := h.up
  refine ⟨fun y => ?_, fun y => ?_, hu.top, ⟨hu.len.1, ?_⟩, h.rt.1, riseO_put h.rt.2⟩
  · by_cases e : y = o
    · subst e; have := h.tk y; exact Int.le_trans h2 this
    · have := st.same y e
      show (heOf (moveS A le o 6 1 (some 2)).2.2 y).of gA ≤ _
      rw [this]; exact h.tk y
  · rw [bk_put h.rt.2]
    by_cases e : o = y
    · subst e
      rw [if_pos rfl]
      have := h.sp o
      show getI (heOf (moveS A le o 6 1 (some 2)).2.2 o).sh gA = bk S o + getI (moveS A le o 6 1 (some 2)).1.1 gA
      rw [h3, this]
    · rw [if_neg e]
      have := st.same y (fun e2 => e e2.symm)
      show getI (heOf (moveS A le o 6 1 (some 2)).2.2 y).sh gA = _
      rw [this]; exact h.sp y
  · have := putK_len ktI.lt S o (bk S o + getI (shipE A le o).1.1 gA)
    have := h.len.2
    omega
end
end Go.Proofs.YtogphlnakdnchaaGreat

