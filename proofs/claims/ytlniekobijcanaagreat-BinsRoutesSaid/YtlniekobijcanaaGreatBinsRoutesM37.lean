/- entrepotref27: May. -/
import Derived.Test.YtlniekobijcanaaGreatBinsRoutesM17
import Derived.Test.YtlniekobijcanaaGreatBinsRoutesM2
import Derived.Test.YtlniekobijcanaaGreatBinsRoutesM4
import Derived.Deep.QuietTactic
namespace Go.Proofs.YtlniekobijcanaaGreat
open Go.RowKit Go.Maps
def lastB (B : List BI) : Nat → Int
  | 0 => 0
  | k + 1 => match B[k]? with | some b => b.nu | none => 0
theorem lastB_succ {B : List BI} {k : Nat} {b : BI} (h : B[k]? = some b) : lastB B (k + 1) = b.nu := by
  show (match B[k]? with | some b => b.nu | none => 0) = b.nu
  rw [h]
theorem bOkL_no {last : Int} {b : BI} {r : List BI} (h : b.nu < 1 ∨ 4096 < b.nu ∨ b.zo < 0 ∨ 15 < b.zo ∨ b.ro < 1 ∨ 1099511627776 < b.ro ∨ b.nu ≤ last) : bOkL last (b :: r) = false := by
  show (mayBinF b.nu b.zo b.ro && decide (last < b.nu) && bOkL b.nu r) = false
  unfold mayBinF
  rw [Bool.eq_false_iff]
  intro e
  simp only [Bool.and_eq_true, decide_eq_true_eq] at e
  omega
theorem bOkL_yes {last : Int} {b : BI} {r : List BI} (h : 1 ≤ b.nu ∧ b.nu ≤ 4096 ∧ 0 ≤ b.zo ∧ b.zo ≤ 15 ∧ 1 ≤ b.ro ∧ b.ro ≤ 1099511627776 ∧ last < b.nu) : bOkL last (b :: r) = bOkL b.nu r := by
  show (mayBinF b.nu b.zo b.ro && decide (last < b.nu) && bOkL b.nu r) = _
  unfold mayBinF
  obtain ⟨h1, h2, h3, h4, h5, h6, h7⟩ := h
  simp [h1, h2, h3, h4, h5, h6, h7]
set_option maxRecDepth 100000 in
set_option maxHeartbeats 8000000 in
theorem rMay (w : World) (v : Value) (B : List BI) (h : Sbi w v B) : Calls Tryz.prog 12 #[v] w fun e w' => e = .returned (.bool (mayBs B)) ∧ Fr (fun _ => False) w w' := by
  obtain ⟨a, c, rfl⟩ := h.sl
  have HB := Lib.hid h
  have hlen := h.len
  obtain ⟨N, hN⟩ : ∃ N, B.length = N := ⟨_, rfl⟩
  have HN := Lib.hid hN
  rw [hN] at hlen ⊢
  have hMB : Hid (mayBs B = (decide (1 ≤ N) && decide (N ≤ 64) && bOkL 0 B)) := Lib.hid (by unfold mayBs; rw [hN])
  obtain ⟨R, hR⟩ : ∃ R, mayBs B = R := ⟨_, rfl⟩
  rw [hR] at hMB ⊢
  clear h hN hR
  go_enter Tryz.func12, Tryz.ntmps12
  go_wp2_with fail
  go_loopw [3] (fun vi wr => ∃ (k : Nat), k ≤ N ∧ vi = .int .i64 k ∧ bOkL 0 B = bOkL (lastB B k) (B.drop k) ∧ Fr (fun _ => False) w wr) (fun vi _ => N - (intOf vi).toNat)
  case atStart => exact ⟨0, Nat.zero_le _, rfl, rfl, Fr.refl _ _⟩
  case round =>
    obtain ⟨k, hk, rfl, hbo, hfr⟩ := hrel
    have HBO := Lib.hid hbo; have HFR := Lib.hid hfr
    by_cases hlt : k < N
    · obtain ⟨b, hb⟩ : ∃ b, B[k]? = some b := ⟨B[k]'(by rw [HN.out]; exact hlt), List.getElem?_eq_getElem _⟩
      have HDR := Lib.hid (drop_at hb)
      obtain ⟨ad, rfl, hok, z0, zs⟩ := (HB.out.fr0 okBiKeeps hfr).at_ hb
      have x0 := z0 (.int .i64 b.nu) rfl
      have x1 := zs 0 (.int .i64 b.zo) rfl
      have x2 := zs 1 (.int .i64 b.ro) rfl
      dsimp only [Nat.zero_add, Nat.reduceAdd] at x0 x1 x2
      have hkI : (k : Int) < N := by omega
      have HBB := Lib.hid hb
      have hnxt := Lib.hid (lastB_succ hb)
      have hk1 : Hid (k + 1 ≤ N) := Lib.hid hlt
      rcases Nat.eq_zero_or_pos k with hk0 | hk0
      · have hl0 : Hid (lastB B k = 0) := Lib.hid (by rw [hk0]; rfl)
        have hkz : ¬ (0 : Int) < k := by omega
        have hkn : ¬ 0 < k := by omega
        have hkd : decide (0 < k) = false := by simp [hk0]
        clear hk0
        have HNO : Hid ((b.nu < 1 ∨ 4096 < b.nu ∨ b.zo < 0 ∨ 15 < b.zo ∨ b.ro < 1 ∨ 1099511627776 < b.ro ∨ b.nu ≤ 0) → R = false) := Lib.hid (fun e => by rw [hMB.out, HBO.out, HDR.out, bOkL_no (by rw [hl0.out]; exact e)]; simp)
        clear hb hok z0 zs hbo hfr
        go_wp2_with fail
        obtain ⟨W5, hW5⟩ : ∃ W, wr.alloc (.cells #[.int .i64 b.nu, .int .i64 b.zo, .int .i64 b.ro] 36) = W := ⟨_, rfl⟩
        obtain ⟨m0, hm0⟩ : ∃ n, wr.heap.size = n := ⟨_, rfl⟩
        have hF5 : Fr (fun _ => False) wr W5 := by rw [← hW5]; exact (Fr.refl _ wr).alloc _
        have HF5 := Lib.hid (HFR.out.trans hF5)
        have hx5 : W5.heap[m0]? = some (.cells #[.int .i64 b.nu, .int .i64 b.zo, .int .i64 b.ro] 36) := by rw [← hW5]; exact heap_at hm0.symm _
        rw [hW5, hm0]
        have z0 := cell_obj hx5 0 (.int .i64 b.nu) rfl; have z1 := cell_obj hx5 1 (.int .i64 b.zo) rfl; have z2 := cell_obj hx5 2 (.int .i64 b.ro) rfl
        clear x0 x1 x2 hW5 hm0 hx5
        have z0 := FrW.cell z0; have z1 := FrW.cell z1; have z2 := FrW.cell z2
        by_cases h1 : b.nu < 1
        · skip
          refine wp_region_fr (by kernel_rfl) (by kernel_rfl) ?_
          repeat (go_big_quiet_step (fail))
          refine wpQuiet_nil ?_
          rintro V ⟨⟨_, hV⟩, rfl⟩
          go_wp2_with fail
          go_ret
          exact ⟨by rw [HNO.out (by omega)]; rfl, HF5.out.trans hV⟩
        by_cases h2 : 4096 < b.nu
        · skip
          refine wp_region_fr (by kernel_rfl) (by kernel_rfl) ?_
          repeat (go_big_quiet_step (fail))
          refine wpQuiet_nil ?_
          rintro V ⟨⟨_, hV⟩, rfl⟩
          go_wp2_with fail
          go_ret
          exact ⟨by rw [HNO.out (by omega)]; rfl, HF5.out.trans hV⟩
        by_cases h3 : b.zo < 0
        · skip
          refine wp_region_fr (by kernel_rfl) (by kernel_rfl) ?_
          repeat (go_big_quiet_step (fail))
          refine wpQuiet_nil ?_
          rintro V ⟨⟨_, hV⟩, rfl⟩
          go_wp2_with fail
          go_ret
          exact ⟨by rw [HNO.out (by omega)]; rfl, HF5.out.trans hV⟩
        by_cases h4 : 15 < b.zo
        · skip
          refine wp_region_fr (by kernel_rfl) (by kernel_rfl) ?_
          repeat (go_big_quiet_step (fail))
          refine wpQuiet_nil ?_
          rintro V ⟨⟨_, hV⟩, rfl⟩
          go_wp2_with fail
          go_ret
          exact ⟨by rw [HNO.out (by omega)]; rfl, HF5.out.trans hV⟩
        by_cases h5 : b.ro < 1
        · skip
          refine wp_region_fr (by kernel_rfl) (by kernel_rfl) ?_
          repeat (go_big_quiet_step (fail))
          refine wpQuiet_nil ?_
          rintro V ⟨⟨_, hV⟩, rfl⟩
          go_wp2_with fail
          go_ret
          exact ⟨by rw [HNO.out (by omega)]; rfl, HF5.out.trans hV⟩
        by_cases h6 : 1099511627776 < b.ro
        · skip
          refine wp_region_fr (by kernel_rfl) (by kernel_rfl) ?_
          repeat (go_big_quiet_step (fail))
          refine wpQuiet_nil ?_
          rintro V ⟨⟨_, hV⟩, rfl⟩
          go_wp2_with fail
          go_ret
          exact ⟨by rw [HNO.out (by omega)]; rfl, HF5.out.trans hV⟩
        refine wp_region_fr (by kernel_rfl) (by kernel_rfl) ?_
        repeat (go_big_quiet_step (fail))
        refine wpQuiet_nil ?_
        rintro V ⟨⟨_, hV⟩, rfl⟩
        go_wp2_with fail
        go_roundw
        case rel => exact ⟨_, hk1.out, by go_num, by rw [HBO.out, HDR.out, bOkL_yes (by rw [hl0.out]; omega), hnxt.out], HF5.out.trans hV⟩
        case measure => simp [intOf]; omega
      · obtain ⟨j, rfl⟩ : ∃ j, k = j + 1 := ⟨k - 1, by omega⟩
        have hkz : (0 : Int) < ((j + 1 : Nat) : Int) := by omega
        have hjk : ((j + 1 : Nat) : Int) - 1 = (j : Int) := by omega
        obtain ⟨p, hp⟩ : ∃ p, B[j]? = some p := ⟨B[j]'(by rw [HN.out]; omega), List.getElem?_eq_getElem _⟩
        obtain ⟨ad', e', -, y0, -⟩ := (HB.out.fr0 okBiKeeps hfr).at_ hp
        cases e'
        have y0 := y0 (.int .i64 p.nu) rfl
        have hlast := Lib.hid (lastB_succ hp)
        have HNO : Hid ((b.nu < 1 ∨ 4096 < b.nu ∨ b.zo < 0 ∨ 15 < b.zo ∨ b.ro < 1 ∨ 1099511627776 < b.ro ∨ b.nu ≤ p.nu) → R = false) := Lib.hid (fun e => by rw [hMB.out, HBO.out, HDR.out, bOkL_no (by rw [hlast.out]; exact e)]; simp)
        clear hb hok z0 zs hbo hfr hp
        go_wp2_with fail
        obtain ⟨W5, hW5⟩ : ∃ W, wr.alloc (.cells #[.int .i64 b.nu, .int .i64 b.zo, .int .i64 b.ro] 36) = W := ⟨_, rfl⟩
        obtain ⟨m0, hm0⟩ : ∃ n, wr.heap.size = n := ⟨_, rfl⟩
        have hF5 : Fr (fun _ => False) wr W5 := by rw [← hW5]; exact (Fr.refl _ wr).alloc _
        have HF5 := Lib.hid (HFR.out.trans hF5)
        have hx5 : W5.heap[m0]? = some (.cells #[.int .i64 b.nu, .int .i64 b.zo, .int .i64 b.ro] 36) := by rw [← hW5]; exact heap_at hm0.symm _
        rw [hW5, hm0]
        have z0 := cell_obj hx5 0 (.int .i64 b.nu) rfl; have z1 := cell_obj hx5 1 (.int .i64 b.zo) rfl; have z2 := cell_obj hx5 2 (.int .i64 b.ro) rfl
        clear x0 x1 x2 hW5 hm0 hx5
        have z0 := FrW.cell z0; have z1 := FrW.cell z1; have z2 := FrW.cell z2; have y0 := FrW.cell (hF5.cell y0 (fun e => e))
        by_cases h1 : b.nu < 1
        · skip
          refine wp_region_fr (by kernel_rfl) (by kernel_rfl) ?_
          repeat (go_big_quiet_step (fail))
          refine wpQuiet_nil ?_
          rintro V ⟨⟨_, hV⟩, rfl⟩
          go_wp2_with fail
          go_ret
          exact ⟨by rw [HNO.out (by omega)]; rfl, HF5.out.trans hV⟩
        by_cases h2 : 4096 < b.nu
        · skip
          refine wp_region_fr (by kernel_rfl) (by kernel_rfl) ?_
          repeat (go_big_quiet_step (fail))
          refine wpQuiet_nil ?_
          rintro V ⟨⟨_, hV⟩, rfl⟩
          go_wp2_with fail
          go_ret
          exact ⟨by rw [HNO.out (by omega)]; rfl, HF5.out.trans hV⟩
        by_cases h3 : b.zo < 0
        · skip
          refine wp_region_fr (by kernel_rfl) (by kernel_rfl) ?_
          repeat (go_big_quiet_step (fail))
          refine wpQuiet_nil ?_
          rintro V ⟨⟨_, hV⟩, rfl⟩
          go_wp2_with fail
          go_ret
          exact ⟨by rw [HNO.out (by omega)]; rfl, HF5.out.trans hV⟩
        by_cases h4 : 15 < b.zo
        · skip
          refine wp_region_fr (by kernel_rfl) (by kernel_rfl) ?_
          repeat (go_big_quiet_step (fail))
          refine wpQuiet_nil ?_
          rintro V ⟨⟨_, hV⟩, rfl⟩
          go_wp2_with fail
          go_ret
          exact ⟨by rw [HNO.out (by omega)]; rfl, HF5.out.trans hV⟩
        by_cases h5 : b.ro < 1
        · skip
          refine wp_region_fr (by kernel_rfl) (by kernel_rfl) ?_
          repeat (go_big_quiet_step (fail))
          refine wpQuiet_nil ?_
          rintro V ⟨⟨_, hV⟩, rfl⟩
          go_wp2_with fail
          go_ret
          exact ⟨by rw [HNO.out (by omega)]; rfl, HF5.out.trans hV⟩
        by_cases h6 : 1099511627776 < b.ro
        · skip
          refine wp_region_fr (by kernel_rfl) (by kernel_rfl) ?_
          repeat (go_big_quiet_step (fail))
          refine wpQuiet_nil ?_
          rintro V ⟨⟨_, hV⟩, rfl⟩
          go_wp2_with fail
          go_ret
          exact ⟨by rw [HNO.out (by omega)]; rfl, HF5.out.trans hV⟩
        by_cases h7 : b.nu ≤ p.nu
        · skip
          refine wp_region_fr (by kernel_rfl) (by kernel_rfl) ?_
          repeat (go_big_quiet_step (fail))
          refine wpQuiet_nil ?_
          rintro V ⟨⟨_, hV⟩, rfl⟩
          go_wp2_with fail
          go_ret
          exact ⟨by rw [HNO.out (by omega)]; rfl, HF5.out.trans hV⟩
        refine wp_region_fr (by kernel_rfl) (by kernel_rfl) ?_
        repeat (go_big_quiet_step (fail))
        refine wpQuiet_nil ?_
        rintro V ⟨⟨_, hV⟩, rfl⟩
        go_wp2_with fail
        go_roundw
        case rel => exact ⟨_, hk1.out, by go_num, by rw [HBO.out, HDR.out, bOkL_yes (by rw [hlast.out]; omega), hnxt.out], HF5.out.trans hV⟩
        case measure => simp [intOf]; omega
    · obtain rfl : k = N := by omega
      have hkI : ¬ (k : Int) < k := by omega
      have hok : Hid (bOkL 0 B = true) := Lib.hid (by rw [hbo, List.drop_of_length_le (by rw [HN.out]; exact Nat.le_refl _)]; rfl)
      clear hbo hfr
      by_cases h1 : 1 ≤ k
      · have h1I : decide ((1 : Int) ≤ k) = true := by simp; omega
        by_cases h2 : k ≤ 64
        · have h2I : decide ((k : Int) ≤ 64) = true := by simp; omega
          have hr : Hid (R = true) := Lib.hid (by rw [hMB.out, hok.out]; simp [h1, h2])
          go_wp2_with fail
          go_ret
          exact ⟨by rw [hr.out]; rfl, HFR.out⟩
        · have h2I : decide ((k : Int) ≤ 64) = false := by simp; omega
          have hr : Hid (R = false) := Lib.hid (by rw [hMB.out, hok.out]; simp [h2])
          go_wp2_with fail
          go_ret
          exact ⟨by rw [hr.out]; rfl, HFR.out⟩
      · have h1I : decide ((1 : Int) ≤ k) = false := by simp; omega
        have hr : Hid (R = false) := Lib.hid (by rw [hMB.out, hok.out]; simp [h1])
        go_wp2_with fail
        go_ret
        exact ⟨by rw [hr.out]; rfl, HFR.out⟩
end Go.Proofs.YtlniekobijcanaaGreat
