/- entrepotref27: New. -/
import Derived.Test.YtlniekobijcanaaGreatBinsRoutesM17
namespace Go.Proofs.YtlniekobijcanaaGreat
open Go.RowKit Go.Maps
theorem infoRow27 : (Tryz.prog.info? 82).map (fun i => (i.zero, i.size, i.bytes)) = some (some (.agg #[.int .i64 0, .int .i64 0, .int .i64 0, .slice none 0 0]), 4, 48) := by kernel_rfl
/-- What New leaves. -/
def RnP (w : World) (B : List BI) (e : Ending) (w' : World) : Prop :=
  ∃ g vr, e = .returned (.pointer (some ⟨g, 0, none⟩)) ∧ w.heap.size ≤ g ∧ w'.heap[g]? = some (.cells #[vr] 85) ∧ w'.ownsRow (g + 1) 82 4 vr B.length (flat BV.cs (B.map BI.bv)) ∧ Fr (fun _ => False) w w'
set_option maxRecDepth 100000 in
set_option maxHeartbeats 16000000 in
theorem rNew (w : World) (v : Value) (B : List BI) (h : Sbi w v B) (h64 : B.length ≤ 64) : Calls Tryz.prog 35 #[v] w fun e w' => RnP w B e w' := by
  obtain ⟨i0, hi', hz0, hz1, hz2⟩ := info_parts infoRow27
  obtain ⟨n0, hn0⟩ : ∃ n0, w.heap.size = n0 := ⟨_, rfl⟩
  obtain ⟨a, c, rfl⟩ := h.sl
  have HB := Lib.hid h
  have hlen := h.len
  obtain ⟨N, hN⟩ : ∃ N, B.length = N := ⟨_, rfl⟩
  have HN := Lib.hid hN
  obtain ⟨PP, hPP⟩ : ∃ PP, RnP w B = PP := ⟨_, rfl⟩
  have HPP := Lib.hid hPP
  rw [hPP]
  rw [hN] at hlen h64 ⊢
  have HN64 := Lib.hid h64
  obtain ⟨W0, hW0⟩ : ∃ W0, w.alloc (.cells #[.slice none 0 0] 85) = W0 := ⟨_, rfl⟩
  have hf0 : Fr (fun _ => False) w W0 := by rw [← hW0]; exact (Fr.refl _ w).alloc _
  have hx0 : W0.heap[n0]? = some (.cells #[.slice none 0 0] 85) := by rw [← hW0]; exact heap_at hn0.symm _
  have HF0 := Lib.hid hf0; have HX0 := Lib.hid hx0; have HN0 := Lib.hid hn0
  have HS0 : Hid (W0.heap.size = n0 + 1) := Lib.hid (by rw [← hW0]; simp; omega)
  clear h hN hf0 hx0 hPP
  go_enter Tryz.func35, Tryz.ntmps35
  go_wp2_with fail
  go_loopw [4] (fun vi wr => ∃ (k : Nat) (vr : Value), k ≤ N ∧ vi = .int .i64 k ∧ wr.heap[n0]? = some (.cells #[vr] 85) ∧ wr.ownsRow (n0 + 1) 82 4 vr k (flat BV.cs ((B.take k).map BI.bv)) ∧ Fr (fun _ => False) w wr) (fun vi _ => N - (intOf vi).toNat)
  case atStart => exact ⟨0, .slice none 0 0, Nat.zero_le _, rfl, HX0.out, World.ownsRow_nil _ _ _ _, HF0.out⟩
  case round =>
    obtain ⟨k, vr, hk, rfl, hob, hown, hfr⟩ := hrel
    have HGO := Lib.hid hob; have HOW2 := Lib.hid hown; have HF2 := Lib.hid hfr
    obtain ⟨ra, rc, rfl⟩ := row_sl hown
    by_cases hlt : k < N
    · obtain ⟨b, hb⟩ : ∃ b, B[k]? = some b := ⟨B[k]'(by rw [HN.out]; exact hlt), List.getElem?_eq_getElem _⟩
      obtain ⟨ad, rfl, hok, z0, zs⟩ := (HB.out.fr0 okBiKeeps hfr).at_ hb
      have x0 := z0 (.int .i64 b.nu) rfl
      have x1 := zs 0 (.int .i64 b.zo) rfl
      have x2 := zs 1 (.int .i64 b.ro) rfl
      dsimp only [Nat.zero_add, Nat.reduceAdd] at x0 x1 x2
      have hkI : (k : Int) < N := by omega
      have HBB := Lib.hid hb
      have g0 := cell_obj hob 0 (.slice ra k rc) rfl
      clear hb hok z0 zs hob hown hfr
      go_wp2_with fail
      refine wp_region_eff [(10, true), (11, false), (14, false)] [0, 1, 12, 13] 8 (by kernel_rfl) rfl (by kernel_rfl) (by kernel_rfl) ?_
      apply Exists.intro
      refine ⟨?hh, ?pu, ?ef⟩
      case hh =>
        intro X
        have g0 := FrW.cell (X.fr.cell g0 (fun e => e)); have x0 := FrW.cell (X.fr.cell x0 (fun e => e)); have x1 := FrW.cell (X.fr.cell x1 (fun e => e)); have x2 := FrW.cell (X.fr.cell x2 (fun e => e))
        simp (config := { decide := true }) only [boxedF, efIdx, List.map_cons, List.map_nil, idleU, if_true, if_false, ite_true, ite_false]
        repeat (go_big_quiet_step (fail))
        exact wpQuiet_nil rfl
      case pu =>
        intro i' hi' o ho
        simp only [List.mem_cons, List.not_mem_nil, or_false] at hi'
        rcases hi' with rfl | rfl | rfl | rfl
        all_goals
          cases ho
          apply Exists.intro
          intro w'
          simp [execOp, Act.eval, go_sem]
          try exact rfl
      case ef =>
        simp only [efOps, List.filterMap_cons, List.filterMap_nil, List.getElem?_cons_succ, List.getElem?_cons_zero, Option.map_some]
        clear g0 x0 x1 x2
        intro w3 hw3
        have HW3 := Lib.hid hw3
        clear hw3
        go_wp2_with fail
        refine ⟨(Fr.refl _ _).alloc _, ?_⟩
        intro w4 hw4
        have HW4 := Lib.hid hw4
        have hf24 : Fr (fun _ => False) wr w4 := HW3.out.trans (((Fr.refl (fun _ => False) w3).alloc _).trans hw4)
        have HF24 := Lib.hid hf24
        have hsz4 : n0 + 1 ≤ w4.heap.size := by have h1 := (Array.getElem?_eq_some_iff.1 (hf24.at_ HGO.out (fun e => e))).1; omega
        have HSZ4 := Lib.hid hsz4
        clear hw4 hf24 hsz4
        go_wp2_with (at_builtin; refine wpList_append_src rfl _ _ 83 rfl (n0 + 1) 82 i0 (.agg #[.int .i64 0, .int .i64 0, .int .i64 0, .slice none 0 0]) 48 Tryz.underlying83 hi' hz0 hz1 hz2 rfl (by decide) (.slice ra k rc) k (flat BV.cs ((B.take k).map BI.bv)) rfl (HF24.out.row HOW2.out (fun _ _ e => e)) 1 rfl (rd_obj (cs := [.int .i64 b.nu, .int .i64 b.zo, .int .i64 b.ro, .slice none 0 0]) (HW4.out.at_ (heap_new _ _) (fun e => e)) rfl) (by intro u hu; simp only [List.mem_cons, List.not_mem_nil, or_false] at hu; rcases hu with rfl | rfl | rfl | rfl <;> rfl) (by have := HN64.out; unfold maxLen; omega) (by have := HN64.out; omega) HSZ4.out ?_; intro v5 w5 hown5 hgrow5 hloc5; have HO5 := Lib.hid hown5; have HG5 := Lib.hid (Fr.grown (S := fun c => (Value.slice ra k rc).ownBlock = some c) hgrow5 (fun c hc _ => hc)); obtain ⟨a5, c5, rfl⟩ := row_sl hown5; clear hown5 hgrow5 hloc5)
        intro w6 hw6
        have hlt : ∀ c, (Value.slice ra k rc).ownBlock = some c → n0 + 1 ≤ c ∧ c < wr.heap.size := fun c hc => HOW2.out.lt c hc
        have hgo6 := hw6.at_ (HG5.out.at_ (HF24.out.at_ HGO.out (fun e => e)) (fun e => by have := hlt n0 e; omega)) (fun e => e)
        have gf := obj_frozen hgo6 0
        have g0 := cell_obj hgo6 0 (.slice ra k rc) rfl
        have HO6 := Lib.hid (hw6.row HO5.out (fun _ _ e => e))
        have HGO6 := Lib.hid hgo6
        have HFW : Hid (Fr (fun _ => False) w w6) := Lib.hid (((HF2.out.trans HF24.out).trans' HG5.out (fun c hc e => by have := (hlt c e).1; have := HN0.out; omega)).trans hw6)
        clear hw6 hlt hgo6
        go_wp2_with fail
        have hfs : Fr (fun c => c = n0) w6 (w6.setCell ⟨n0, 0, none⟩ (.slice a5 (k + 1) c5)) := (Fr.refl (fun c => c = n0) w6).setCell (p := ⟨n0, 0, none⟩) (fun _ => rfl) _
        have hgo7 := obj_set HGO6.out 0 (.slice a5 (k + 1) c5)
        have HO7 := Lib.hid (hfs.row HO6.out (fun c hc e => by have := (HO6.out.lt c hc).1; omega))
        have HFS := Lib.hid (HFW.out.trans' hfs (fun c hc e => by have := HN0.out; omega))
        obtain ⟨W7, hW7⟩ : ∃ W, w6.setCell ⟨n0, 0, none⟩ (.slice a5 (k + 1) c5) = W := ⟨_, rfl⟩
        rw [hW7] at hgo7 HO7 HFS ⊢
        have HGO7 := Lib.hid hgo7
        clear g0 gf hfs hgo7 hW7
        intro w8 hw8
        have HW8 := Lib.hid hw8
        clear hw8
        go_wp2_with fail
        go_roundw
        case rel =>
          refine ⟨k + 1, _, by omega, by go_num, HW8.out.at_ HGO7.out (fun e => e), ?_, HFS.out.trans HW8.out⟩
          have h1 := HW8.out.row HO7.out (fun _ _ e => e)
          rw [List.take_add_one, HBB.out]
          show World.ownsRow w8 _ _ _ _ _ (flat BV.cs ((B.take k ++ [b]).map BI.bv))
          rw [List.map_append]
          show World.ownsRow w8 _ _ _ _ _ (flat BV.cs ((B.take k).map BI.bv ++ [b.bv]))
          rw [flat_bv_snoc]
          exact h1
        case measure => simp [intOf]; omega
    · obtain rfl : k = N := by omega
      have hkI : ¬ (k : Int) < k := by omega
      have HR2 : Hid (wr.ownsRow (n0 + 1) 82 4 (.slice ra k rc) k (flat BV.cs (B.map BI.bv))) := Lib.hid (by
        have := HOW2.out
        rw [List.take_of_length_le (by rw [HN.out]; exact Nat.le_refl _)] at this
        exact this)
      clear hob hown hfr
      go_wp2_with fail
      rw [← HPP.out]
      exact ⟨n0, _, rfl, Nat.le_of_eq HN0.out, HGO.out, by rw [HN.out]; exact HR2.out, HF2.out⟩
end Go.Proofs.YtlniekobijcanaaGreat
