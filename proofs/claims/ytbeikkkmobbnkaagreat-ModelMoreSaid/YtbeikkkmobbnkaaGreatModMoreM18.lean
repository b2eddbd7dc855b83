/- The document's cells (entrepotref01): digits, Num. -/
import Derived.Test.YtbeikkkmobbnkaaGreatModMoreM12
import Derived.Test.YtbeikkkmobbnkaaGreatModMoreM17
namespace Go.Proofs.YtbeikkkmobbnkaaGreat
open Go.RowKit Go.Maps
theorem own_new {w : World} {base : Nat} {t : TypeId} (cs : Array Value) (h : base ≤ w.heap.size) (hc : cs.size ≤ 9223372036854775807) : (w.alloc (.cells cs t)).ownsRow base t 1 (.slice (some ⟨w.heap.size, 0, none⟩) cs.size cs.size) cs.size cs.toList :=
  ⟨by simp, .inr ⟨_, _, _, rfl, h, heap_new _ _, Nat.le_refl _, by unfold maxLen; omega, by simp, by rw [List.take_of_length_le (by simp)]⟩⟩
theorem nSz_of {u k : Nat} (hk : k ≤ 8) (h : u < 256 ^ k) : nSz u ≤ k := by
  have h2 : u < 2 ^ (8 * k) := by rw [Nat.pow_mul]; exact h
  have := Lib.bitLen_le u (8 * k) (by omega) h2
  unfold nSz; omega
theorem nSz_more {u k : Nat} (hu : u < 18446744073709551616) (h : 0 < u / 256 ^ k) : k < nSz u := by
  refine Nat.lt_of_not_le fun hge => ?_
  have h1 := nSz_lt hu
  have h2 : 256 ^ nSz u ≤ 256 ^ k := Nat.pow_le_pow_right (by omega) hge
  rw [Nat.div_eq_of_lt (by omega)] at h
  omega
theorem nSz_done {u k : Nat} (hk : k ≤ nSz u) (hu : u < 18446744073709551616) (h : u / 256 ^ k = 0) : k = nSz u := by
  have hp : 0 < 256 ^ k := Nat.pow_pos (by omega)
  have h1 : u < 256 ^ k := by
    rcases Nat.div_eq_zero_iff.1 h with h | h <;> omega
  have := nSz_of (by have := nSz_le hu; omega) h1
  omega
set_option maxRecDepth 100000 in
set_option maxHeartbeats 1000000 in
theorem rDigits (w : World) (U : Nat) (hU : U < 18446744073709551616) : Calls Tryz.prog 102 #[.int .u64 U] w fun e w' => ∃ v, e = .returned v ∧ w'.ownsRow w.heap.size 5 1 v (nSz U) (u8s (beB U (nSz U))) ∧ Below w.heap.size w w' := by
  obtain ⟨i0, hi', hz0, hz1, hz2⟩ := info_parts infoU8
  have HU := Lib.hid hU
  clear hU
  go_enter Tryz.func102, Tryz.ntmps102
  go_wp2_with fail
  go_loopw [0, 3] (fun u o wr => ∃ k : Nat, k ≤ nSz U ∧ u = .int .u64 ((U / 256 ^ k : Nat) : Int) ∧ wr.ownsRow w.heap.size 5 1 o k (u8s (beB U k)) ∧ Below w.heap.size w wr) (fun u _ _ => (intOf u).toNat)
  case atStart => exact ⟨0, Nat.zero_le _, by simp, ⟨rfl, .inl ⟨rfl, rfl⟩⟩, Below.refl _ _⟩
  case round =>
    obtain ⟨k, hk, rfl, hown, hB⟩ := hrel
    have hk8 := nSz_le HU.out
    obtain ⟨q, hq⟩ : ∃ q, U / 256 ^ k = q := ⟨_, rfl⟩
    have hqU : q ≤ U := by rw [← hq]; exact Nat.div_le_self _ _
    have hqb : (q : Int) < 18446744073709551616 := by have := HU.out; omega
    have hq1 : U / 256 ^ (k + 1) = q / 256 := by rw [Nat.pow_succ, ← Nat.div_div_eq_div_mul, hq]
    have hbe : beB U (k + 1) = ((q % 256 : Nat) : Int) :: beB U k := by simp only [beB]; rw [hq]
    have hsz := hB.size
    rw [hq]
    obtain ⟨ao, co, rfl⟩ := row_sl hown
    have HOW := Lib.hid hown; have HBB := Lib.hid hB; have HQ1 := Lib.hid hq1; have HBE := Lib.hid hbe; have HQ := Lib.hid hq
    clear hown hB hq1 hbe hq
    by_cases h0 : 0 < q
    · have hkm := nSz_more HU.out (by rw [HQ.out]; exact h0)
      go_wp2_with (at_builtin; refine wpList_append_src rfl _ _ 72 rfl w.heap.size 5 i0 (.int .u8 0) 1 Tryz.underlying72 hi' hz0 hz1 hz2 rfl (by decide) _ 1 [.int .u8 ((q : Int) % 256)] rfl (own_new #[.int .u8 ((q : Int) % 256)] hsz (by simp)) co rfl ((Rd.own HOW.out).fr ((Fr.refl (fun _ => False) wr).alloc _) (fun _ _ h => h)) (by intro u hu; simp [u8s] at hu; obtain ⟨x, _, rfl⟩ := hu; rfl) (by unfold maxLen; omega) (by omega) (by simp; omega) ?_; intro v' w1 hown' hgrow _)
      go_roundw
      case rel =>
        refine ⟨k + 1, hkm, by rw [HQ1.out]; rfl, ?_, (HBB.out.alloc hsz _).grown hgrow (by simp; omega) (fun r hr => by cases hr; exact hsz)⟩
        rw [HBE.out, Nat.add_comm]
        exact hown'
      case measure => simp [intOf]; omega
    · have hkk : k = nSz U := nSz_done hk HU.out (by rw [HQ.out]; omega)
      obtain rfl : q = 0 := by omega
      go_wp2_with fail
      go_ret
      exact ⟨_, rfl, by have := HOW.out; rw [← hkk]; exact this, HBB.out⟩
theorem own_row_bn {w : World} {base : Nat} {v : Value} {x : Int} {bs : List Int} {n : Nat} (h : w.ownsRow base 5 1 v n ([.int .u8 x] ++ u8s bs)) (hb : ∀ y ∈ x :: bs, 0 ≤ y ∧ y < 256) : Bn base w v (x :: bs) := by
  have hl : n = (x :: bs).length := by have := h.1; simp [u8s] at this; simp; omega
  subst hl
  exact Bs.own (by simpa [u8s] using h) hb
set_option maxRecDepth 100000 in
set_option maxHeartbeats 1000000 in
theorem rNum (w : World) (n : Int) (hn : okI n) : Calls Tryz.prog 83 #[.int .i64 n] w fun e w' => ∃ v, e = .returned v ∧ Bn w.heap.size w' v (numB n) ∧ Below w.heap.size w w' := by
  obtain ⟨i0, hi', hz0, hz1, hz2⟩ := info_parts infoU8
  have HN := Lib.hid hn
  have hmem : Hid (∀ y ∈ numB n, 0 ≤ y ∧ y < 256) := Lib.hid (fun y hy => numB_mem hn hy)
  unfold okI at hn
  by_cases h : 0 ≤ n ∧ n < 128
  · obtain ⟨h0, h1⟩ := h
    have e : numB n = [n] := by unfold numB; rw [if_pos ⟨h0, h1⟩]
    rw [e] at hmem ⊢
    go_enter Tryz.func83, Tryz.ntmps83
    go_wp2
    go_ret
    exact ⟨_, rfl, Bs.own (own_new #[.int .u8 n] (Nat.le_refl _) (by simp)) hmem.out, (Below.refl _ _).alloc (Nat.le_refl _) _⟩
  · have hU1 := numU_lt HN.out
    have e := numB_big h
    rw [e] at hmem ⊢
    have hs8 : nSz (numU n) ≤ 8 := nSz_le (by omega)
    have hD := fun w => rDigits w (numU n) (by omega)
    obtain ⟨U, hU⟩ : ∃ U, numU n = U := ⟨_, rfl⟩
    rw [hU] at hU1 hs8 hD hmem ⊢
    obtain ⟨s, hs⟩ : ∃ s, nSz U = s := ⟨_, rfl⟩
    obtain ⟨dg, hdg⟩ : ∃ dg, beB U s = dg := ⟨_, rfl⟩
    have hdl : dg.length = s := by rw [← hdg, beB_len]
    rw [hs] at hs8 hD hmem ⊢
    rw [hdg] at hD hmem ⊢
    have HD := Lib.hid hD
    have HDL := Lib.hid hdl
    clear hD hs hdg hdl e
    rcases (by omega : n < 0 ∨ 128 ≤ n) with hneg | hpos
    · have hH : numH n = 144 := if_pos hneg
      have hx : -1 - n = (U : Int) := by rw [← hU]; unfold numU; rw [if_pos hneg]; omega
      rw [hH] at hmem ⊢
      clear hU hH h
      go_enter Tryz.func83, Tryz.ntmps83
      obtain ⟨V, hV⟩ : ∃ V : Nat, IntKind.u64.wrap n = (V : Int) := ⟨(n + 18446744073709551616).toNat, by show n % 18446744073709551616 = _; omega⟩
      have hV2 : V < 18446744073709551616 := by have : n % 18446744073709551616 = (V : Int) := hV; omega
      have HV2 := Lib.hid hV2
      clear hV2
      go_wp2_with fail
      refine (rDigits w V HV2.out).mono ?_
      rintro e w1 ⟨v, rfl, -, hB⟩
      have HB1 := Lib.hid hB
      clear hB hV
      have hxw : IntKind.u64.wrap (U : Int) = (U : Int) := by show (U : Int) % 18446744073709551616 = _; omega
      go_wp2_with fail
      refine (HD.out w1).mono ?_
      rintro e w2 ⟨v2, rfl, hown, hB⟩
      obtain ⟨av, cv, rfl⟩ := row_sl hown
      have hBB := HB1.out.trans (hB.mono HB1.out.size)
      have hsz := hBB.size
      have HOW := Lib.hid (own_base hown HB1.out.size); have HB := Lib.hid hBB
      clear hown hB hBB
      go_wp2_with (at_builtin; refine wpList_append_src rfl _ _ 72 rfl w.heap.size 5 i0 (.int .u8 0) 1 Tryz.underlying72 hi' hz0 hz1 hz2 rfl (by decide) _ 1 [.int .u8 (144 + (s : Int))] rfl (own_new #[.int .u8 (144 + (s : Int))] hsz (by simp)) cv rfl ((Rd.own HOW.out).fr ((Fr.refl (fun _ => False) w2).alloc _) (fun _ _ h => h)) (by intro u hu; simp [u8s] at hu; obtain ⟨x, _, rfl⟩ := hu; rfl) (by unfold maxLen; omega) (by omega) (by simp; omega) ?_; intro v' w3 hown' hgrow _)
      go_ret
      exact ⟨_, rfl, own_row_bn hown' hmem.out, (HB.out.alloc hsz _).grown hgrow (by simp; omega) (fun r hr => by cases hr; exact hsz)⟩
    · have hH : numH n = 128 := if_neg (by omega)
      have hx : n = (U : Int) := by rw [← hU]; unfold numU; rw [if_neg (by omega)]; omega
      rw [hH] at hmem ⊢
      clear hU hH h HN
      subst hx
      go_enter Tryz.func83, Tryz.ntmps83
      go_wp2_with fail
      refine (HD.out w).mono ?_
      rintro e w1 ⟨v, rfl, hown, hB⟩
      obtain ⟨av, cv, rfl⟩ := row_sl hown
      have hsz := hB.size
      have HOW := Lib.hid hown; have HB := Lib.hid hB
      clear hown hB
      go_wp2_with (at_builtin; refine wpList_append_src rfl _ _ 72 rfl w.heap.size 5 i0 (.int .u8 0) 1 Tryz.underlying72 hi' hz0 hz1 hz2 rfl (by decide) _ 1 [.int .u8 (128 + (s : Int))] rfl (own_new #[.int .u8 (128 + (s : Int))] hsz (by simp)) cv rfl ((Rd.own HOW.out).fr ((Fr.refl (fun _ => False) w1).alloc _) (fun _ _ h => h)) (by intro u hu; simp [u8s] at hu; obtain ⟨x, _, rfl⟩ := hu; rfl) (by unfold maxLen; omega) (by omega) (by simp; omega) ?_; intro v' w2 hown' hgrow _)
      go_ret
      exact ⟨_, rfl, own_row_bn hown' hmem.out, (HB.out.alloc hsz _).grown hgrow (by simp; omega) (fun r hr => by cases hr; exact hsz)⟩
end Go.Proofs.YtbeikkkmobbnkaaGreat
