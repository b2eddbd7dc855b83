/- entrepotref07: each, sum, right, Balanced. -/
import Derived.Test.YtclgmnobockfnaaStkDoesM16
import Derived.Test.YtclgmnobockfnaaStkDoesM1
namespace Go.Proofs.Ytclgmnobockfnaa
open Go.RowKit Go.Maps
theorem addk (b k : Nat) : (⟨b, 0, none⟩ : Addr).add k = ⟨b, k, none⟩ := by unfold Addr.add; split <;> simp_all
def SR.l4 (r : SR) : Array Value := #[.int .i64 r.free, .int .i64 r.held, .int .i64 r.picked, .int .i64 r.aside]
def SR.f7 (r : SR) : Array Value := #[.int .i64 r.received, .int .i64 r.returned, .int .i64 r.counted, .int .i64 r.came, .int .i64 r.shipped, .int .i64 r.scrapped, .int .i64 r.sent]
def SR.f6 (r : SR) : List Int := [r.received, r.returned, r.came, r.shipped, r.scrapped, r.sent]
/-- A block of ints. -/
def BI (w : World) (b : Nat) (L : List Int) : Prop := w.heap[b]? = some (.cells (L.map (Value.int .i64)).toArray 3)
theorem BI.at_ {w : World} {b k : Nat} {L : List Int} {x : Int} (h : BI w b L) (hk : L[k]? = some x) : w.cell? ⟨b, k, none⟩ = some (.int .i64 x) :=
  cell_obj h k _ (by rw [List.getElem?_toArray, List.getElem?_map, hk]; rfl)
set_option maxRecDepth 100000 in
set_option maxHeartbeats 4000000 in
theorem r7Each (w : World) (r : SR) : Calls Try.prog 54 #[r.lev, r.flo] w fun e w' => e = .returned (.bool r.each) ∧ Fr (fun _ => False) w w' := by
  obtain ⟨G, hG⟩ : ∃ G, r.each = G := ⟨_, rfl⟩
  rw [hG]
  have hG2 : G = ([r.free, r.held, r.picked, r.aside].all mayI && r.f6.all flowI) := by
    rw [← hG]
    simp [SR.each, SR.f6, Bool.and_assoc]
  have HG := Lib.hid hG2
  clear hG hG2
  obtain ⟨f0, f1, f2, f3, f4, f5, f6, f7, f8, f9, f10⟩ := r
  unfold SR.lev SR.flo
  dsimp only [SR.f6] at HG ⊢
  obtain ⟨n0, hn0⟩ : ∃ n0, w.heap.size = n0 := ⟨_, rfl⟩
  have HS := Lib.hid hn0
  go_enter Try.func54, Try.ntmps54
  go_wp2_with fail
  obtain ⟨W, hW⟩ : ∃ W, (((w.alloc (.cells #[.int .i64 f0, .int .i64 f1, .int .i64 f2, .int .i64 f3] 42)).alloc (.cells #[.int .i64 f4, .int .i64 f5, .int .i64 f6, .int .i64 f7, .int .i64 f8, .int .i64 f9, .int .i64 f10] 44)).alloc (.cells #[.int .i64 f0, .int .i64 f1, .int .i64 f2, .int .i64 f3] 3)) = W := ⟨_, rfl⟩
  have hA : BI W (n0 + 1 + 1) [f0, f1, f2, f3] := by rw [← hW, ← hn0]; exact heap_at (by simp) _
  have hB : W.heap[n0 + 1]? = some (.cells #[.int .i64 f4, .int .i64 f5, .int .i64 f6, .int .i64 f7, .int .i64 f8, .int .i64 f9, .int .i64 f10] 44) := by rw [← hW, ← hn0]; exact heap_keep (heap_at (by simp) _) _
  have hF : Fr (fun _ => False) w W := by rw [← hW]; exact (((Fr.refl _ w).alloc _).alloc _).alloc _
  have hs : W.heap.size = n0 + 3 := by rw [← hW, ← hn0]; simp
  obtain ⟨A, hAL⟩ : ∃ A, [f0, f1, f2, f3] = A := ⟨_, rfl⟩
  have hlA : A.length = 4 := by rw [← hAL]; rfl
  rw [hAL] at HG hA
  rw [hW]
  have HA := Lib.hid hA; have HB := Lib.hid hB; have HF := Lib.hid hF; have HSZ := Lib.hid hs; have HLA := Lib.hid hlA
  clear hA hB hF hs hlA hW hAL HS hn0
  go_loopw [6] (fun i wr => ∃ k : Nat, k ≤ 4 ∧ i = .int .i64 k ∧ wr = W ∧ ∀ x ∈ A.take k, mayI x = true) (fun i _ => 4 - (intOf i).toNat)
  case atStart => exact ⟨0, by omega, rfl, rfl, fun x hx => by simp at hx⟩
  case round =>
    obtain ⟨k, hk, rfl, rfl, hall⟩ := hrel
    have HALL := Lib.hid hall
    clear hall
    by_cases hlt : k < 4
    · obtain ⟨x, hx⟩ : ∃ x, A[k]? = some x := ⟨A[k]'(by rw [HLA.out]; exact hlt), List.getElem?_eq_getElem _⟩
      have hc := HA.out.at_ hx
      have hltI : (k : Int) < 4 := by omega
      have hM := Lib.hid (fun W => r5May W x)
      have hmem : Hid (x ∈ A) := Lib.hid (List.mem_of_getElem? hx)
      have hnx : Hid (A.take (k + 1) = A.take k ++ [x]) := Lib.hid (by rw [List.take_add_one, hx]; rfl)
      clear hx
      cases hm : mayI x with
      | true =>
        rw [hm] at hM
        have hy : Hid (∀ y ∈ A.take (k + 1), mayI y = true) := Lib.hid (fun y hy => by
          rw [hnx.out] at hy
          rcases List.mem_append.1 hy with h | h
          · exact HALL.out y h
          · rw [List.mem_singleton.1 h]; exact hm)
        clear hm
        go_wp2_with (go_at_call 57; refine (hM.out _).mono ?_; rintro e w2 ⟨rfl, rfl⟩)
        go_roundw
        case rel => exact ⟨k + 1, by omega, by go_num, (by first | rfl | trivial), hy.out⟩
        case measure => simp [intOf]; omega
      | false =>
        rw [hm] at hM
        have hg : Hid (G = false) := Lib.hid (by
          rw [HG.out]
          have : A.all mayI = false := List.all_eq_false.2 ⟨x, hmem.out, by rw [hm]; simp⟩
          rw [this]; rfl)
        clear hm
        go_wp2_with (go_at_call 57; refine (hM.out _).mono ?_; rintro e w2 ⟨rfl, rfl⟩)
        go_ret
        exact ⟨by rw [hg.out]; rfl, HF.out⟩
    · have hk4 : k = 4 := by omega
      have hAt : A.all mayI = true := List.all_eq_true.2 (fun x hx => HALL.out x (by rw [List.take_of_length_le (by rw [HLA.out]; omega)]; exact hx))
      rw [hAt] at HG
      clear hAt HALL HA HLA hk4
      have q0 := cell_obj HB.out 0 _ rfl
      have q1 := cell_obj HB.out 1 _ rfl
      have q3 := cell_obj HB.out 3 _ rfl
      have q4 := cell_obj HB.out 4 _ rfl
      have q5 := cell_obj HB.out 5 _ rfl
      have q6 := cell_obj HB.out 6 _ rfl
      obtain ⟨n1, hn1⟩ : ∃ n1, wr.heap.size = n1 := ⟨_, rfl⟩
      go_wp2_with fail
      obtain ⟨W2, hW2⟩ : ∃ W2, wr.alloc (.cells #[.int .i64 f4, .int .i64 f5, .int .i64 f7, .int .i64 f8, .int .i64 f9, .int .i64 f10] 3) = W2 := ⟨_, rfl⟩
      have hB2 : BI W2 n1 [f4, f5, f7, f8, f9, f10] := by rw [← hW2, ← hn1]; exact heap_new _ _
      have hF2 : Fr (fun _ => False) w W2 := by rw [← hW2]; exact HF.out.alloc _
      obtain ⟨B, hBL⟩ : ∃ B, [f4, f5, f7, f8, f9, f10] = B := ⟨_, rfl⟩
      have hlB : B.length = 6 := by rw [← hBL]; rfl
      rw [hBL] at HG hB2
      rw [hW2]
      clear HF
      have HB2 := Lib.hid hB2; have HF := Lib.hid hF2; have HLB := Lib.hid hlB
      clear hB2 hF2 hlB hW2 hBL hn1 q0 q1 q3 q4 q5 q6 HB HSZ hk hlt
      go_loopw [8] (fun i wr => ∃ k : Nat, k ≤ 6 ∧ i = .int .i64 k ∧ wr = W2 ∧ ∀ x ∈ B.take k, flowI x = true) (fun i _ => 6 - (intOf i).toNat)
      case atStart => exact ⟨0, by omega, rfl, rfl, fun x hx => by simp at hx⟩
      case round =>
        obtain ⟨k, hk, rfl, rfl, hall⟩ := hrel
        have HALL := Lib.hid hall
        clear hall
        by_cases hlt : k < 6
        · obtain ⟨x, hx⟩ : ∃ x, B[k]? = some x := ⟨B[k]'(by rw [HLB.out]; exact hlt), List.getElem?_eq_getElem _⟩
          have hc := HB2.out.at_ hx
          have hltI : (k : Int) < 6 := by omega
          have hmem : Hid (x ∈ B) := Lib.hid (List.mem_of_getElem? hx)
          have hnx : Hid (B.take (k + 1) = B.take k ++ [x]) := Lib.hid (by rw [List.take_add_one, hx]; rfl)
          clear hx
          have hno : Hid (flowI x = false → G = false) := Lib.hid (fun hm => by
            rw [HG.out]
            have : B.all flowI = false := List.all_eq_false.2 ⟨x, hmem.out, by rw [hm]; simp⟩
            rw [this]; rfl)
          rcases (by omega : x < 0 ∨ (0 ≤ x ∧ 72057594037927936 < x) ∨ (0 ≤ x ∧ x ≤ 72057594037927936)) with h | ⟨h, h'⟩ | ⟨h, h'⟩
          · have hg := Lib.hid (hno.out (by unfold flowI; simp; omega))
            go_wp2_with fail
            go_ret
            exact ⟨by rw [hg.out]; rfl, HF.out⟩
          · have hg := Lib.hid (hno.out (by unfold flowI; simp; omega))
            go_wp2_with fail
            go_ret
            exact ⟨by rw [hg.out]; rfl, HF.out⟩
          · have hy : Hid (∀ y ∈ B.take (k + 1), flowI y = true) := Lib.hid (fun y hy => by
              rw [hnx.out] at hy
              rcases List.mem_append.1 hy with hh | hh
              · exact HALL.out y hh
              · rw [List.mem_singleton.1 hh]; exact flowI_iff.2 ⟨h, h'⟩)
            go_wp2_with fail
            go_roundw
            case rel => exact ⟨k + 1, by omega, by go_num, (by first | rfl | trivial), hy.out⟩
            case measure => simp [intOf]; omega
        · obtain rfl : k = 6 := by omega
          have hBt : B.all flowI = true := List.all_eq_true.2 (fun x hx => HALL.out x (by rw [List.take_of_length_le (by rw [HLB.out]; omega)]; exact hx))
          rw [hBt] at HG
          clear hBt HALL HB2 HLB
          go_wp2_with fail
          go_ret
          exact ⟨by rw [HG.out]; rfl, HF.out⟩
set_option maxRecDepth 100000 in
theorem r7Sum (w : World) (r : SR) (h : SRb r) : Calls Try.prog 55 #[r.lev] w fun e w' => e = .returned (.int .i64 r.sum) ∧ Fr (fun _ => False) w w' := by
  obtain ⟨w1, w2, w3⟩ := sum_wraps h
  unfold SR.sum SR.lev
  go_enter Try.func55, Try.ntmps55
  go_wp2_with fail
  go_ret
  exact ⟨rfl, (Fr.refl _ w).alloc _⟩
set_option maxRecDepth 100000 in
set_option maxHeartbeats 4000000 in
theorem r7Balanced (w : World) (r : SR) : Calls Try.prog 18 #[r.lev, r.flo] w fun e w' => e = .returned (.bool r.bal) ∧ Fr (fun _ => False) w w' := by
  obtain ⟨G, hG⟩ : ∃ G, r.bal = G := ⟨_, rfl⟩
  rw [hG]
  have HG := Lib.hid hG
  clear hG
  have HE := Lib.hid (fun W => r7Each W r)
  have HSm := Lib.hid (fun W => r7Sum W r)
  obtain ⟨W, hW⟩ : ∃ W, (w.alloc (.cells r.l4 42)).alloc (.cells r.f7 44) = W := ⟨_, rfl⟩
  have HF0 : Hid (Fr (fun _ => False) w W) := Lib.hid (by rw [← hW]; exact ((Fr.refl _ w).alloc _).alloc _)
  have HB0 : Hid (W.heap[w.heap.size]? = some (.cells r.l4 42)) := Lib.hid (by rw [← hW]; exact heap_keep (heap_new _ _) _)
  have HB1 : Hid (W.heap[w.heap.size + 1]? = some (.cells r.f7 44)) := Lib.hid (by rw [← hW]; exact heap_at (by simp) _)
  unfold SR.lev SR.flo at HE ⊢
  unfold SR.lev at HSm
  unfold SR.l4 at HB0 hW
  unfold SR.f7 at HB1 hW
  obtain ⟨f0, f1, f2, f3, f4, f5, f6, f7, f8, f9, f10⟩ := r
  dsimp only at HE HSm HB0 HB1 hW ⊢
  subst hW
  cases hE : SR.each ⟨f0, f1, f2, f3, f4, f5, f6, f7, f8, f9, f10⟩ with
  | false =>
    have hg : Hid (G = false) := Lib.hid (by rw [← HG.out]; simp [SR.bal, hE])
    rw [hE] at HE
    clear hE
    go_enter Try.func18, Try.ntmps18
    go_wp2_with (go_at_call 54; refine (HE.out _).mono ?_; rintro e w1 ⟨rfl, hF⟩; have HF := Lib.hid (HF0.out.trans hF); clear hF)
    go_ret
    exact ⟨by rw [hg.out]; rfl, HF.out⟩
  | true =>
    have hb := SR.each_iff.1 hE
    have hbal : Hid (G = (decide (-576460752303423488 ≤ f6) && decide (f6 ≤ 576460752303423488) && decide (f0 + f1 + f2 + f3 = f4 + f5 + f6 + f7 - f8 - f9 - f10))) := Lib.hid (by rw [← HG.out]; unfold SR.bal; rw [hE]; rfl)
    rw [hE] at HE
    have HSm2 := Lib.hid (fun W => HSm.out W hb)
    unfold SR.sum at HSm2
    dsimp only at HSm2
    obtain ⟨a0, a1, a2, a3, c0, c1, c2, c3, c4, c5⟩ := hb
    dsimp only at a0 a1 a2 a3 c0 c1 c2 c3 c4 c5
    obtain ⟨a0, a0'⟩ := a0; obtain ⟨a1, a1'⟩ := a1; obtain ⟨a2, a2'⟩ := a2; obtain ⟨a3, a3'⟩ := a3
    obtain ⟨c0, c0'⟩ := c0; obtain ⟨c1, c1'⟩ := c1; obtain ⟨c2, c2'⟩ := c2; obtain ⟨c3, c3'⟩ := c3; obtain ⟨c4, c4'⟩ := c4; obtain ⟨c5, c5'⟩ := c5
    clear hE HSm
    rcases (by omega : f6 < -576460752303423488 ∨ (-576460752303423488 ≤ f6 ∧ 576460752303423488 < f6) ∨ (-576460752303423488 ≤ f6 ∧ f6 ≤ 576460752303423488)) with h | ⟨h, h'⟩ | ⟨h, h'⟩
    · have hg : Hid (G = false) := Lib.hid (by rw [hbal.out]; simp; omega)
      go_enter Try.func18, Try.ntmps18
      go_wp2_with (go_at_call 54; refine (HE.out _).mono ?_; rintro e w1 ⟨rfl, hF⟩; have HF := Lib.hid (HF0.out.trans hF); have q0 := cell_obj (hF.at_ HB1.out (fun h => h)) 2 (.int .i64 f6) rfl; clear hF)
      go_ret
      exact ⟨by rw [hg.out]; rfl, HF.out⟩
    · have hg : Hid (G = false) := Lib.hid (by rw [hbal.out]; simp; omega)
      go_enter Try.func18, Try.ntmps18
      go_wp2_with (go_at_call 54; refine (HE.out _).mono ?_; rintro e w1 ⟨rfl, hF⟩; have HF := Lib.hid (HF0.out.trans hF); have q0 := cell_obj (hF.at_ HB1.out (fun h => h)) 2 (.int .i64 f6) rfl; clear hF)
      go_ret
      exact ⟨by rw [hg.out]; rfl, HF.out⟩
    · have hg : Hid (G = decide (f0 + f1 + f2 + f3 = f4 + f5 + f6 + f7 - f8 - f9 - f10)) := Lib.hid (by rw [hbal.out]; simp [h, h'])
      go_enter Try.func18, Try.ntmps18
      go_wp2_with (go_at_call 54; refine (HE.out _).mono ?_; rintro e w1 ⟨rfl, hF⟩; have HF := Lib.hid (HF0.out.trans hF); have x0 := hF.at_ HB0.out (fun h => h); have x1 := hF.at_ HB1.out (fun h => h); have q2 := cell_obj x1 2 (.int .i64 f6) rfl; have p0 := FrW.cell (cell_obj x0 0 (.int .i64 f0) rfl); have p1 := FrW.cell (cell_obj x0 1 (.int .i64 f1) rfl); have p2 := FrW.cell (cell_obj x0 2 (.int .i64 f2) rfl); have p3 := FrW.cell (cell_obj x0 3 (.int .i64 f3) rfl); have s0 := FrW.cell (cell_obj x1 0 (.int .i64 f4) rfl); have s1 := FrW.cell (cell_obj x1 1 (.int .i64 f5) rfl); have s2 := FrW.cell (cell_obj x1 2 (.int .i64 f6) rfl); have s3 := FrW.cell (cell_obj x1 3 (.int .i64 f7) rfl); have s4 := FrW.cell (cell_obj x1 4 (.int .i64 f8) rfl); have s5 := FrW.cell (cell_obj x1 5 (.int .i64 f9) rfl); have s6 := FrW.cell (cell_obj x1 6 (.int .i64 f10) rfl); clear hF)
      have h1 : IntKind.i64.wrap (f4 + f5) = f4 + f5 := by rw [IntKind.wrap_i64]; omega
      have h2 : IntKind.i64.wrap (f4 + f5 + f6) = f4 + f5 + f6 := by rw [IntKind.wrap_i64]; omega
      have h3 : IntKind.i64.wrap (f4 + f5 + f6 + f7) = f4 + f5 + f6 + f7 := by rw [IntKind.wrap_i64]; omega
      have h4 : IntKind.i64.wrap (f4 + f5 + f6 + f7 - f8) = f4 + f5 + f6 + f7 - f8 := by rw [IntKind.wrap_i64]; omega
      have h5 : IntKind.i64.wrap (f4 + f5 + f6 + f7 - f8 - f9) = f4 + f5 + f6 + f7 - f8 - f9 := by rw [IntKind.wrap_i64]; omega
      have h6 : IntKind.i64.wrap (f4 + f5 + f6 + f7 - f8 - f9 - f10) = f4 + f5 + f6 + f7 - f8 - f9 - f10 := by rw [IntKind.wrap_i64]; omega
      clear a0 a0' a1 a1' a2 a2' a3 a3' c0 c0' c1 c1' c2 c2' c3 c3' c4 c4' c5 c5'
      refine wp_region_fr (by kernel_rfl) (by kernel_rfl) ?_
      repeat (go_big_quiet_step ((go_at_call 55; rename_i X; refine (HSm2.out _).mono ?_; rintro e w2 ⟨rfl, hF⟩; exact ⟨rfl, ⟨w2, X.fr.trans hF⟩, rfl⟩)))
      refine wpQuiet_nil ?_
      rintro _ ⟨⟨V, hV⟩, rfl⟩
      go_wp2_with fail
      go_ret
      refine ⟨?_, HF.out.trans hV⟩
      rw [hg.out]
      exact ret_bool (a := f0 + f1 + f2 + f3 == f4 + f5 + f6 + f7 - f8 - f9 - f10) (by rw [Bool.eq_iff_iff]; simp)
end Go.Proofs.Ytclgmnobockfnaa
