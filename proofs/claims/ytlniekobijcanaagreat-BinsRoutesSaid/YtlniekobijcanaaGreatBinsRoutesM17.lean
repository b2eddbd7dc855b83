/- bins: New. -/
import Derived.Test.YtlniekobijcanaaGreatBinsRoutesM15
import Derived.Test.YtlniekobijcanaaGreatBinsRoutesM16
import Derived.Test.YtlniekobijcanaaGreatBinsRoutesM12
import Derived.Test.YtlniekobijcanaaGreatBinsRoutesM3
namespace Go.Proofs.YtlniekobijcanaaGreat
open Go.RowKit Go.Maps
/-- A bin as it is asked for. -/
structure BI where
  nu : Int
  zo : Int
  ro : Int
def biC (b : BI) : Array Value := #[.int .i64 b.nu, .int .i64 b.zo, .int .i64 b.ro]
def okBi (_ : World) (b : BI) : Prop := okI b.nu ∧ okI b.zo ∧ okI b.ro
theorem okBiKeeps : Keeps okBi := fun _ _ _ _ h _ _ => h
theorem biSize (b : BI) : (biC b).size = 3 := rfl
abbrev Sbi (w : World) (v : Value) (B : List BI) : Prop := Sq 3 biC okBi w v B
def BI.e (b : BI) : BE := ⟨b.nu, b.zo, b.ro, []⟩
def BI.bv (b : BI) : BV := ⟨b.nu, b.zo, b.ro, .slice none 0 0, []⟩
def bOkL : Int → List BI → Bool
  | _, [] => true
  | last, b :: r => mayBinF b.nu b.zo b.ro && decide (last < b.nu) && bOkL b.nu r
def mayBs (B : List BI) : Bool := decide (1 ≤ B.length) && decide (B.length ≤ 64) && bOkL 0 B
theorem drop_at {α : Type} {B : List α} {k : Nat} {b : α} (h : B[k]? = some b) : B.drop k = b :: B.drop (k + 1) := by
  rw [← (List.getElem?_eq_some_iff.1 h).2]
  exact List.drop_eq_getElem_cons _
/-- What New leaves. -/
def NwP (w : World) (B : List BI) (e : Ending) (w' : World) : Prop :=
  Fr (fun _ => False) w w' ∧ ((mayBs B = false ∧ e = .returned (.tuple #[.pointer none, .int .i64 1])) ∨
    (mayBs B = true ∧ ∃ g TS L, e = .returned (.tuple #[.pointer (some ⟨g, 0, none⟩), .int .i64 0]) ∧ FA w' g TS L ∧ L.map BV.e = B.map BI.e ∧ ∀ b, TS b → w.heap.size ≤ b))
theorem bv_map (B : List BI) : (B.map BI.bv).map BV.e = B.map BI.e := by rw [List.map_map]; rfl
theorem flat_bv_snoc (L : List BV) (b : BI) : flat BV.cs (L ++ [b.bv]) = flat BV.cs L ++ [.int .i64 b.nu, .int .i64 b.zo, .int .i64 b.ro, .slice none 0 0] := by rw [flat_app]; rfl
theorem bi_bok {w : World} {b : BI} (h : okBi w b) : BOk w b.bv := ⟨h.1, h.2.1, h.2.2, by exact ⟨Nat.zero_le _, none, 0, rfl, fun i p hp => by simp [BI.bv] at hp⟩⟩
theorem NwP.made {w W : World} {B : List BI} {n0 : Nat} {v : Value} (hm : mayBs B = true) (hf : Fr (fun _ => False) w W) (hn : w.heap.size ≤ n0) (hB : ∀ b ∈ B, okBi w b) (ho : W.heap[n0]? = some (.cells #[v] 79)) (hr : W.ownsRow (n0 + 1) 76 4 v B.length (flat BV.cs (B.map BI.bv))) : NwP w B (.returned (.tuple #[.pointer (some ⟨n0, 0, none⟩), .int .i64 0])) W := by
  have hB1 : 1 ≤ B.length := by
    unfold mayBs at hm
    simp only [Bool.and_eq_true, decide_eq_true_eq] at hm
    exact hm.1.1
  rcases hr.2 with ⟨_, h0⟩ | ⟨r, cap, cur, rfl, hbase, hb, hle, hmx, hsz, ht⟩
  · omega
  · have hrl := (Array.getElem?_eq_some_iff.1 hb).1
    have hnl := (Array.getElem?_eq_some_iff.1 ho).1
    refine ⟨hf, .inr ⟨hm, n0, fun c => c = n0 ∨ c = r, B.map BI.bv, rfl, ⟨⟨r, cap, cur, by rw [List.length_map]; exact ho, hb, by rw [List.length_map]; exact hle, hmx, hsz, by rw [List.length_map]; exact ht, .inr rfl, by omega, fun b hb' => ?_⟩, .inl rfl, fun b hb' => by omega⟩, bv_map B, fun b hb' => by omega⟩⟩
    obtain ⟨x, hx, rfl⟩ := List.mem_map.1 hb'
    exact ⟨bi_bok (hB x hx), fun hne => absurd rfl hne⟩
set_option maxRecDepth 100000 in
set_option maxHeartbeats 16000000 in
theorem bNew (w : World) (v : Value) (B : List BI) (h : Sbi w v B) : Calls Tryz.prog 27 #[v] w fun e w' => NwP w B e w' := by
  obtain ⟨i0, hi', hz0, hz1, hz2⟩ := info_parts infoBin
  obtain ⟨n0, hn0⟩ : ∃ n0, w.heap.size = n0 := ⟨_, rfl⟩
  obtain ⟨a, c, rfl⟩ := h.sl
  have HB := Lib.hid h
  have hlen := h.len
  obtain ⟨N, hN⟩ : ∃ N, B.length = N := ⟨_, rfl⟩
  have HN := Lib.hid hN
  rw [hN] at hlen ⊢
  obtain ⟨PP, hPP⟩ : ∃ PP, NwP w B = PP := ⟨_, rfl⟩
  have HPP := Lib.hid hPP
  rw [hPP]
  clear h hN hPP
  by_cases h1 : N < 1
  · have hr : Hid (mayBs B = false) := Lib.hid (by unfold mayBs; rw [HN.out]; simp; omega)
    have hI : (N : Int) < 1 := by omega
    clear h1
    go_enter Tryz.func27, Tryz.ntmps27
    go_wp2_with fail
    rw [← HPP.out]
    exact ⟨Fr.refl _ _, .inl ⟨hr.out, rfl⟩⟩
  by_cases h2 : 64 < N
  · have hr : Hid (mayBs B = false) := Lib.hid (by unfold mayBs; rw [HN.out]; simp; omega)
    have hI : ¬ (N : Int) < 1 := by omega
    have hI2 : (64 : Int) < N := by omega
    clear h1 h2
    go_enter Tryz.func27, Tryz.ntmps27
    go_wp2_with fail
    rw [← HPP.out]
    exact ⟨Fr.refl _ _, .inl ⟨hr.out, rfl⟩⟩
  have HMB : Hid (mayBs B = bOkL 0 B) := Lib.hid (by unfold mayBs; rw [HN.out]; simp; omega)
  have hI : ¬ (N : Int) < 1 := by omega
  have hI2 : ¬ (64 : Int) < N := by omega
  have HN64 : Hid (N ≤ 64) := Lib.hid (by omega)
  obtain ⟨W0, hW0⟩ : ∃ W0, w.alloc (.cells #[.slice none 0 0] 79) = W0 := ⟨_, rfl⟩
  have hf0 : Fr (fun _ => False) w W0 := by rw [← hW0]; exact (Fr.refl _ w).alloc _
  have hx0 : W0.heap[n0]? = some (.cells #[.slice none 0 0] 79) := by rw [← hW0]; exact heap_at hn0.symm _
  have HF0 := Lib.hid hf0; have HX0 := Lib.hid hx0; have HN0 := Lib.hid hn0
  have HS0 : Hid (W0.heap.size = n0 + 1) := Lib.hid (by rw [← hW0]; simp; omega)
  clear h1 h2 hf0 hx0
  go_enter Tryz.func27, Tryz.ntmps27
  go_wp2_with fail
  go_loopw [5, 20] (fun vl vi wr => ∃ (k : Nat) (last : Int) (vr : Value), k ≤ N ∧ vi = .int .i64 k ∧ vl = .int .i64 last ∧ bOkL 0 B = bOkL last (B.drop k) ∧ wr.heap[n0]? = some (.cells #[vr] 79) ∧ wr.ownsRow (n0 + 1) 76 4 vr k (flat BV.cs ((B.take k).map BI.bv)) ∧ Fr (fun _ => False) w wr) (fun _ vi _ => N - (intOf vi).toNat)
  case atStart => exact ⟨0, 0, .slice none 0 0, Nat.zero_le _, rfl, rfl, rfl, HX0.out, World.ownsRow_nil _ _ _ _, HF0.out⟩
  case round =>
    obtain ⟨k, last, vr, hk, rfl, rfl, hbo, hob, hown, hfr⟩ := hrel
    have HBO := Lib.hid hbo; have HOB := Lib.hid hob; have HOW := Lib.hid hown; have HFR := Lib.hid hfr
    obtain ⟨ra, rc, rfl⟩ := row_sl hown
    by_cases hlt : k < N
    · obtain ⟨b, hb⟩ : ∃ b, B[k]? = some b := ⟨B[k]'(by rw [HN.out]; exact hlt), List.getElem?_eq_getElem _⟩
      have HDR := Lib.hid (drop_at hb)
      obtain ⟨ad, rfl, hok, z0, zs⟩ := (HB.out.fr0 okBiKeeps hfr).at_ hb
      have x0 := z0 (.int .i64 b.nu) rfl
      have x1 := zs 0 (.int .i64 b.zo) rfl
      have x2 := zs 1 (.int .i64 b.ro) rfl
      dsimp only [Nat.zero_add, Nat.reduceAdd] at x0 x1 x2
      have hkI : (k : Int) < N := by omega
      have hMB := Lib.hid (fun W => bMayBin W b.nu b.zo b.ro)
      have HBB := Lib.hid hb
      obtain ⟨bx, hbx⟩ : ∃ bx, wr.heap.size = bx := ⟨_, rfl⟩
      have HBX := Lib.hid hbx
      clear hb hok z0 zs hbo hob hown hfr
      cases hmb : mayBinF b.nu b.zo b.ro with
      | false =>
        have hr : Hid (mayBs B = false) := Lib.hid (by rw [HMB.out, HBO.out, HDR.out]; simp [bOkL, hmb])
        rw [hmb] at hMB
        clear hmb
        go_wp2_with (go_at_call 79; refine (hMB.out _).mono ?_; rintro e w2 ⟨rfl, hf2⟩; have HF2 := Lib.hid (HFR.out.trans (((Fr.refl (fun _ => False) wr).alloc _).trans hf2)); clear hf2)
        rw [← HPP.out]
        exact ⟨HF2.out, .inl ⟨hr.out, rfl⟩⟩
      | true =>
        rw [hmb] at hMB
        by_cases hle : b.nu ≤ last
        · have hr : Hid (mayBs B = false) := Lib.hid (by rw [HMB.out, HBO.out, HDR.out]; simp [bOkL]; intro _ h; omega)
          clear hmb
          go_wp2_with (go_at_call 79; refine (hMB.out _).mono ?_; rintro e w2 ⟨rfl, hf2⟩; have HF2 := Lib.hid (HFR.out.trans (((Fr.refl (fun _ => False) wr).alloc _).trans hf2)); have hxb := hf2.at_ (heap_at HBX.out.symm (.cells #[.int .i64 b.nu, .int .i64 b.zo, .int .i64 b.ro] 36)) (fun e => e); have y0 := cell_obj hxb 0 (.int .i64 b.nu) rfl; clear hf2 hxb)
          rw [← HPP.out]
          exact ⟨HF2.out, .inl ⟨hr.out, rfl⟩⟩
        · have hnx : Hid (bOkL 0 B = bOkL b.nu (B.drop (k + 1))) := Lib.hid (by rw [HBO.out, HDR.out]; simp [bOkL, hmb]; intro h; omega)
          clear hmb
          go_wp2_with (go_at_call 79; refine (hMB.out _).mono ?_; rintro e w2 ⟨rfl, hf2⟩; have HF2 := Lib.hid (HFR.out.trans (((Fr.refl (fun _ => False) wr).alloc _).trans hf2)); have hxb := hf2.at_ (heap_at HBX.out.symm (.cells #[.int .i64 b.nu, .int .i64 b.zo, .int .i64 b.ro] 36)) (fun e => e); have HXB := Lib.hid hxb; have hgo := hf2.at_ (heap_keep HOB.out _) (fun e => e); have HGO := Lib.hid hgo; have HOW2 := Lib.hid ((((Fr.refl (fun _ => False) wr).alloc _).trans hf2).row HOW.out (fun _ _ e => e)); have y0 := cell_obj hxb 0 (.int .i64 b.nu) rfl; have y1 := cell_obj hxb 1 (.int .i64 b.zo) rfl; have y2 := cell_obj hxb 2 (.int .i64 b.ro) rfl; have g0 := cell_obj hgo 0 (.slice ra k rc) rfl; clear hf2 hxb hgo)
          refine wp_region_eff [(7, true), (8, false), (11, false)] [0, 1, 9, 10] 3 (by kernel_rfl) rfl (by kernel_rfl) (by kernel_rfl) ?_
          apply Exists.intro
          refine ⟨?hh, ?pu, ?ef⟩
          case hh =>
            intro X
            have g0 := FrW.cell (X.fr.cell g0 (fun e => e)); have y0 := FrW.cell (X.fr.cell y0 (fun e => e)); have y1 := FrW.cell (X.fr.cell y1 (fun e => e)); have y2 := FrW.cell (X.fr.cell y2 (fun e => e))
            simp (config := { decide := true }) only [boxedF, efIdx, List.map_cons, List.map_nil, idleU, if_true, if_false, ite_true, ite_false]
            repeat (go_big_quiet_step (fail))
            exact wpQuiet_nil rfl
          case pu =>
            intro i' hi' o ho
            simp only [List.mem_cons, List.not_mem_nil, or_false] at hi'
            rcases hi' with rfl | rfl | rfl | rfl
            all_goals
              cases ho
              apply Exists.intro
              intro w'
              simp [execOp, Act.eval, go_sem]
              try exact rfl
          case ef =>
            simp only [efOps, List.filterMap_cons, List.filterMap_nil, List.getElem?_cons_succ, List.getElem?_cons_zero, Option.map_some]
            clear g0 y0 y1 y2
            intro w3 hw3
            have HW3 := Lib.hid hw3
            clear hw3
            go_wp2_with fail
            refine ⟨(Fr.refl _ _).alloc _, ?_⟩
            intro w4 hw4
            have HW4 := Lib.hid hw4
            have hf24 : Fr (fun _ => False) w2 w4 := HW3.out.trans (((Fr.refl (fun _ => False) w3).alloc _).trans hw4)
            have HF24 := Lib.hid hf24
            have hsz4 : n0 + 1 ≤ w4.heap.size := by have h1 := (Array.getElem?_eq_some_iff.1 (hf24.at_ HGO.out (fun e => e))).1; omega
            have HSZ4 := Lib.hid hsz4
            clear hw4 hf24 hsz4
            go_wp2_with (at_builtin; refine wpList_append_src rfl _ _ 77 rfl (n0 + 1) 76 i0 (.agg #[.int .i64 0, .int .i64 0, .int .i64 0, .slice none 0 0]) 48 Tryz.underlying77 hi' hz0 hz1 hz2 rfl (by decide) (.slice ra k rc) k (flat BV.cs ((B.take k).map BI.bv)) rfl (HF24.out.row HOW2.out (fun _ _ e => e)) 1 rfl (rd_obj (cs := [.int .i64 b.nu, .int .i64 b.zo, .int .i64 b.ro, .slice none 0 0]) (HW4.out.at_ (heap_new _ _) (fun e => e)) rfl) (by intro u hu; simp only [List.mem_cons, List.not_mem_nil, or_false] at hu; rcases hu with rfl | rfl | rfl | rfl <;> rfl) (by have := HN64.out; unfold maxLen; omega) (by have := HN64.out; omega) HSZ4.out ?_; intro v5 w5 hown5 hgrow5 hloc5; have HO5 := Lib.hid hown5; have HG5 := Lib.hid (Fr.grown (S := fun c => (Value.slice ra k rc).ownBlock = some c) hgrow5 (fun c hc _ => hc)); obtain ⟨a5, c5, rfl⟩ := row_sl hown5; clear hown5 hgrow5 hloc5)
            intro w6 hw6
            have hlt : ∀ c, (Value.slice ra k rc).ownBlock = some c → n0 + 1 ≤ c ∧ c < wr.heap.size := fun c hc => HOW.out.lt c hc
            have hgo6 := hw6.at_ (HG5.out.at_ (HF24.out.at_ HGO.out (fun e => e)) (fun e => by have := hlt n0 e; omega)) (fun e => e)
            have hxb6 := hw6.at_ (HG5.out.at_ (HF24.out.at_ HXB.out (fun e => e)) (fun e => by have := hlt bx e; have := HBX.out; omega)) (fun e => e)
            have g0 := cell_obj hgo6 0 (.slice ra k rc) rfl
            have gf := obj_frozen hgo6 0
            have HO6 := Lib.hid (hw6.row HO5.out (fun _ _ e => e))
            have HGO6 := Lib.hid hgo6; have HXB6 := Lib.hid hxb6; have HLT := Lib.hid hlt
            have HFW : Hid (Fr (fun _ => False) w w6) := Lib.hid (((HF2.out.trans HF24.out).trans' HG5.out (fun c hc e => by have := (hlt c e).1; have := HN0.out; omega)).trans hw6)
            clear hw6 hlt hgo6 hxb6
            go_wp2_with fail
            have hfs : Fr (fun c => c = n0) w6 (w6.setCell ⟨n0, 0, none⟩ (.slice a5 (k + 1) c5)) := (Fr.refl (fun c => c = n0) w6).setCell (p := ⟨n0, 0, none⟩) (fun _ => rfl) _
            have hgo7 := obj_set HGO6.out 0 (.slice a5 (k + 1) c5)
            have hbne : bx ≠ n0 := by
              have h1 := (Array.getElem?_eq_some_iff.1 HOB.out).1
              have h2 := HBX.out
              omega
            have hxb7 := hfs.at_ HXB6.out hbne
            have HO7 := Lib.hid (hfs.row HO6.out (fun c hc e => by have := (HO6.out.lt c hc).1; omega))
            have HFS := Lib.hid (HFW.out.trans' hfs (fun c hc e => by have := HN0.out; omega))
            obtain ⟨W7, hW7⟩ : ∃ W, w6.setCell ⟨n0, 0, none⟩ (.slice a5 (k + 1) c5) = W := ⟨_, rfl⟩
            rw [hW7] at hgo7 hxb7 HO7 HFS ⊢
            have HGO7 := Lib.hid hgo7; have HXB7 := Lib.hid hxb7
            clear g0 gf hfs hgo7 hxb7 hbne hW7
            intro w8 hw8
            have y0 := cell_obj (hw8.at_ HXB7.out (fun e => e)) 0 (.int .i64 b.nu) rfl
            have HW8 := Lib.hid hw8
            clear hw8
            go_wp2_with fail
            go_roundw
            case rel =>
              refine ⟨k + 1, b.nu, _, by omega, by go_num, rfl, hnx.out, HW8.out.at_ HGO7.out (fun e => e), ?_, HFS.out.trans HW8.out⟩
              have h1 := HW8.out.row HO7.out (fun _ _ e => e)
              rw [List.take_add_one, HBB.out]
              show World.ownsRow w8 _ _ _ _ _ (flat BV.cs ((B.take k ++ [b]).map BI.bv))
              rw [List.map_append]
              show World.ownsRow w8 _ _ _ _ _ (flat BV.cs ((B.take k).map BI.bv ++ [b.bv]))
              rw [flat_bv_snoc]
              exact h1
            case measure => simp [intOf]; omega
    · obtain rfl : k = N := by omega
      have hkI : ¬ (k : Int) < k := by omega
      have hr : Hid (mayBs B = true) := Lib.hid (by rw [HMB.out, HBO.out, List.drop_of_length_le (by rw [HN.out]; exact Nat.le_refl _)]; rfl)
      have HR2 : Hid (wr.ownsRow (n0 + 1) 76 4 (.slice ra k rc) B.length (flat BV.cs (B.map BI.bv))) := Lib.hid (by
        have := HOW.out
        rw [List.take_of_length_le (by rw [HN.out]; exact Nat.le_refl _)] at this
        rw [HN.out]
        exact this)
      clear hbo hob hown hfr
      go_wp2_with fail
      rw [← HPP.out]
      exact NwP.made hr.out HFR.out (by have := HN0.out; omega) (fun b hb => HB.out.okm hb) HOB.out HR2.out
end Go.Proofs.YtlniekobijcanaaGreat
