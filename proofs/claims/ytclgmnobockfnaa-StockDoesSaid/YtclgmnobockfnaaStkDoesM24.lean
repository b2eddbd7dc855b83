/- entrepotref07: Count, Free. -/
import Derived.Test.YtclgmnobockfnaaStkDoesM22
import Derived.Test.YtclgmnobockfnaaStkDoesM6
import Derived.Test.YtclgmnobockfnaaStkDoesM23
import Derived.Test.YtclgmnobockfnaaStkDoesM7
namespace Go.Proofs.Ytclgmnobockfnaa
open Go.RowKit Go.Maps
theorem FindR.no {A : Stk} {s : Str} {i : Int} (h : FindR A s i) (hn : getS A s = none) : i = -1 := by
  rcases h with ⟨k, r, -, -, h⟩ | ⟨h, -⟩
  · rw [hn] at h; cases h
  · exact h
theorem FindR.yes {A : Stk} {s : Str} {i : Int} {r : SR} (h : FindR A s i) (hn : getS A s = some r) : ∃ k : Nat, i = k := by
  rcases h with ⟨k, r, h, -, -⟩ | ⟨-, h⟩
  · exact ⟨k, h⟩
  · rw [hn] at h; cases h
theorem countS_may {A : Stk} {s : Str} {n : Int} (h : mayI n = false) : countS A s n = (0, 1, A) := by unfold countS; rw [if_pos h]
theorem countS_none {A : Stk} {s : Str} {n : Int} (h : mayI n = true) (h1 : getS A s = none) : countS A s n = (0, 71, A) := by unfold countS; rw [if_neg (by rw [h]; decide), h1]
theorem countS_held {A : Stk} {s : Str} {n : Int} {r : SR} (h : mayI n = true) (h1 : getS A s = some r) (h2 : n < r.held) : countS A s n = (0, 70, A) := by unfold countS; rw [if_neg (by rw [h]; decide), h1]; dsimp only; rw [if_pos h2]
theorem countS_some {A : Stk} {s : Str} {n f0 f1 f2 f3 f4 f5 f6 f7 f8 f9 f10 : Int} (h : mayI n = true) (h1 : getS A s = some ⟨f0, f1, f2, f3, f4, f5, f6, f7, f8, f9, f10⟩) (h2 : ¬ n < f1) :
    countS A s n = if (SR.mk (n - f1) f1 f2 f3 f4 f5 (f6 + (n - f1 - f0)) f7 f8 f9 f10).right = true then (n - f1 - f0, 0, putS ktS.lt A s (SR.mk (n - f1) f1 f2 f3 f4 f5 (f6 + (n - f1 - f0)) f7 f8 f9 f10)) else (0, 50, A) := by
  unfold countS
  rw [if_neg (by rw [h]; decide), h1]
  dsimp only
  rw [if_neg h2, show f0 + (n - f1 - f0) = n - f1 by omega]
set_option maxRecDepth 100000 in
set_option maxHeartbeats 8000000 in
theorem r7Count (w : World) (g : Nat) (TS : Nat → Prop) (A : Stk) (s : Str) (n : Int) (h : RS w g TS A) (hA : SOk A) :
    Calls Try.prog 20 #[.pointer (some ⟨g, 0, none⟩), vS s, .int .i64 n] w fun e w' =>
      e = .returned (.tuple #[.int .i64 (countS A s n).1, .int .i64 (countS A s n).2.1]) ∧ ∃ TS', RS w' g TS' (countS A s n).2.2 ∧ Stp TS w w' TS' := by
  obtain ⟨Z, hZ⟩ : ∃ Z, countS A s n = Z := ⟨_, rfl⟩
  rw [hZ]
  have hM := Lib.hid (fun W => r5May W n)
  have H := Lib.hid h; have HA := Lib.hid hA; have HZ := Lib.hid hZ
  have hl64 : (A.length : Int) ≤ 1048576 := by have := hA.len; omega
  have HL := Lib.hid hl64
  clear h hZ hA hl64
  have hFi := Lib.hid (r7Find w g TS A s H.out HA.out.rise (by have := HL.out; omega))
  cases hm : mayI n with
  | false =>
    have hz := Lib.hid (HZ.out.symm.trans (countS_may hm))
    rw [hm] at hM
    clear hm
    go_enter Try.func20, Try.ntmps20
    go_wp2_with (go_at_call 57; refine (hM.out _).mono ?_; rintro e w1 ⟨rfl, rfl⟩)
    go_ret2
    rw [hz.out]
    exact ⟨rfl, TS, H.out, Stp.refl (Fr.refl _ _)⟩
  | true =>
    have hn := mayI_iff.1 hm
    rw [hm] at hM
    cases hg : getS A s with
    | none =>
      have hz := Lib.hid (HZ.out.symm.trans (countS_none hm hg))
      have HG := Lib.hid hg
      clear hm hg
      go_enter Try.func20, Try.ntmps20
      go_wp2_with (first
        | (go_at_call 57; refine (hM.out _).mono ?_; rintro e w1 ⟨rfl, rfl⟩)
        | (go_at_call 58; refine hFi.out.mono ?_; rintro e w1 ⟨i, rfl, hfi, hw1⟩; obtain rfl : w = w1 := hw1.symm; obtain rfl := hfi.no HG.out; clear hfi))
      go_ret2
      rw [hz.out]
      exact ⟨rfl, TS, H.out, Stp.refl (Fr.refl _ _)⟩
    | some r =>
      have HG := Lib.hid hg; have HMM := Lib.hid hm
      have hrA : rowAt A s = r := by unfold rowAt; rw [hg]; rfl
      have hok := HA.out.row _ (getS_memS hg)
      have hRow := Lib.hid (r7Row w g TS A s H.out HA.out.rise (by have := HL.out; omega))
      rw [hrA] at hRow
      obtain ⟨⟨b0, b1, b2, b3, c0, c1, c2, c3, c4, c5⟩, -, -⟩ := id hok
      have hct := hok.counted
      obtain ⟨f0, f1, f2, f3, f4, f5, f6, f7, f8, f9, f10⟩ := r
      dsimp only at b0 b1 hct ⊢
      unfold rowV at hRow
      dsimp only at hRow
      obtain ⟨b0, b0'⟩ := b0; obtain ⟨b1, b1'⟩ := b1; obtain ⟨hct, hct'⟩ := hct; obtain ⟨hn, hn'⟩ := hn
      clear hm hg hok hrA b2 b3 c0 c1 c2 c3 c4 c5
      by_cases hh : n < f1
      · have hz := Lib.hid (HZ.out.symm.trans (countS_held HMM.out HG.out hh))
        go_enter Try.func20, Try.ntmps20
        go_wp2_with (first
          | (go_at_call 57; refine (hM.out _).mono ?_; rintro e w1 ⟨rfl, rfl⟩)
          | (go_at_call 58; refine hFi.out.mono ?_; rintro e w1 ⟨i, rfl, hfi, hw1⟩; obtain rfl : w = w1 := hw1.symm; obtain ⟨k, rfl⟩ := hfi.yes HG.out; clear hfi)
          | (go_at_call 59; refine hRow.out.mono ?_; rintro e w2 ⟨rfl, hf2⟩; have HF2 := Lib.hid hf2; clear hf2))
        go_ret2
        rw [hz.out]
        exact ⟨rfl, TS, H.out.fr (HF2.out.alloc _) (fun _ _ e => e), Stp.refl (HF2.out.alloc _)⟩
      · have hz1 := Lib.hid (HZ.out.symm.trans (countS_some HMM.out HG.out hh))
        obtain ⟨ri, hri⟩ : ∃ b, (SR.mk (n - f1) f1 f2 f3 f4 f5 (f6 + (n - f1 - f0)) f7 f8 f9 f10).right = b := ⟨_, rfl⟩
        have hRi := Lib.hid (fun W => r7Right W s ⟨n - f1, f1, f2, f3, f4, f5, f6 + (n - f1 - f0), f7, f8, f9, f10⟩)
        rw [hri] at hRi hz1
        unfold rowV at hRi
        dsimp only at hRi
        clear hri
        cases ri with
        | false =>
          have hz : Hid (Z = (0, 50, A)) := Lib.hid hz1.out
          go_enter Try.func20, Try.ntmps20
          go_wp2_with (first
            | (go_at_call 57; refine (hM.out _).mono ?_; rintro e w1 ⟨rfl, rfl⟩)
            | (go_at_call 58; refine hFi.out.mono ?_; rintro e w1 ⟨i, rfl, hfi, hw1⟩; obtain rfl : w = w1 := hw1.symm; obtain ⟨k, rfl⟩ := hfi.yes HG.out; clear hfi)
            | (go_at_call 59; refine hRow.out.mono ?_; rintro e w2 ⟨rfl, hf2⟩; have HF2 := Lib.hid hf2; clear hf2)
            | (go_at_call 52; refine (hRi.out _).mono ?_; rintro e w3 ⟨rfl, hf3⟩; have HF3 := Lib.hid hf3; clear hf3))
          go_ret2
          rw [hz.out]
          have hF : Fr (fun _ => False) w w3 := by
            refine Fr.trans ?_ HF3.out
            exact HF2.out.alloc _
          exact ⟨rfl, TS, H.out.fr hF (fun _ _ e => e), Stp.refl hF⟩
        | true =>
          have hz : Hid (Z = (n - f1 - f0, 0, putS ktS.lt A s ⟨n - f1, f1, f2, f3, f4, f5, f6 + (n - f1 - f0), f7, f8, f9, f10⟩)) := Lib.hid hz1.out
          have hSet := Lib.hid (fun W (hR : RS W g TS A) => r7Set W g TS A s ⟨n - f1, f1, f2, f3, f4, f5, f6 + (n - f1 - f0), f7, f8, f9, f10⟩ hR HA.out.rise HL.out)
          unfold rowV at hSet
          dsimp only at hSet
          go_enter Try.func20, Try.ntmps20
          go_wp2_with (first
            | (go_at_call 57; refine (hM.out _).mono ?_; rintro e w1 ⟨rfl, rfl⟩)
            | (go_at_call 58; refine hFi.out.mono ?_; rintro e w1 ⟨i, rfl, hfi, hw1⟩; obtain rfl : w = w1 := hw1.symm; obtain ⟨k, rfl⟩ := hfi.yes HG.out; clear hfi)
            | (go_at_call 59; refine hRow.out.mono ?_; rintro e w2 ⟨rfl, hf2⟩; have HF2 := Lib.hid hf2; clear hf2)
            | (go_at_call 52; refine (hRi.out _).mono ?_; rintro e w3 ⟨rfl, hf3⟩; have HF3 : Hid (Fr (fun _ => False) w w3) := Lib.hid ((HF2.out.alloc _).trans hf3); have xr := hf3.at_ (heap_new _ _) (fun e => e); have x0 := cell_obj xr 0 (vS s) rfl; have x1 := cell_obj xr 1 (.int .i64 (n - f1)) rfl; have x2 := cell_obj xr 2 (.int .i64 f1) rfl; have x3 := cell_obj xr 3 (.int .i64 f2) rfl; have x4 := cell_obj xr 4 (.int .i64 f3) rfl; have x5 := cell_obj xr 5 (.int .i64 f4) rfl; have x6 := cell_obj xr 6 (.int .i64 f5) rfl; have x7 := cell_obj xr 7 (.int .i64 (f6 + (n - f1 - f0))) rfl; have x8 := cell_obj xr 8 (.int .i64 f7) rfl; have x9 := cell_obj xr 9 (.int .i64 f8) rfl; have x10 := cell_obj xr 10 (.int .i64 f9) rfl; have x11 := cell_obj xr 11 (.int .i64 f10) rfl; clear hf3 xr)
            | (go_at_call 60; refine (hSet.out _ (H.out.fr HF3.out (fun _ _ e => e))).mono ?_; rintro e w4 ⟨⟨v, rfl⟩, TS', hR4, hS4⟩; have HR4 := Lib.hid hR4; have HS4 := Lib.hid hS4; clear hR4 hS4))
          go_ret2
          rw [hz.out]
          exact ⟨rfl, TS', HR4.out, (Stp.refl HF3.out).trans HS4.out⟩
/-- Free: where the list may be. -/
theorem offerS_take {A : Stk} {L : Its} {k : Nat} {p : Str × Int} (hp : L[k]? = some p) : offerS A (L.take (k + 1)) = offerS A (L.take k) ++ (if 0 < min p.2 (rowAt A p.1).free then [(p.1, min p.2 (rowAt A p.1).free)] else []) := by
  rw [List.take_add_one, hp, offerS_app]
  congr 1
  unfold offerS
  simp only [Option.toList, List.filterMap_cons, List.filterMap_nil]
  split <;> simp_all
structure FreI (W0 : World) (n0 : Nat) (A : Stk) (L : Its) (k : Nat) (v : Value) (W : World) : Prop where
  own : W.ownsRow n0 66 2 v (offerS A (L.take k)).length (itCs (offerS A (L.take k)))
  fr : Fr (fun b => n0 ≤ b) W0 W
theorem FreI.push {W0 W W' : World} {n0 k : Nat} {A : Stk} {L : Its} {v v' : Value} {gd : Str} {M : Int} {o : Obj} (h : FreI W0 n0 A L k v W) (hst : offerS A (L.take (k + 1)) = offerS A (L.take k) ++ [(gd, M)])
    (hown : W'.ownsRow n0 66 2 v' ((offerS A (L.take k)).length + 1) (itCs (offerS A (L.take k)) ++ [vS gd, .int .i64 M])) (hgrow : (W.alloc o).grownBy W' v.ownBlock) : FreI W0 n0 A L (k + 1) v' W' := by
  refine ⟨?_, (h.fr.alloc o).trans (Fr.grown hgrow (fun b hb _ => (h.own.lt b hb).1))⟩
  rw [hst, itCs_app, List.length_append]
  exact hown
set_option maxRecDepth 100000 in
set_option maxHeartbeats 8000000 in
theorem r7Free (w : World) (g : Nat) (TS : Nat → Prop) (A : Stk) (v : Value) (L : Its) (h : RS w g TS A) (hA : SOk A) (hv : Il w v L) (hm : mayL L = true) :
    Calls Try.prog 26 #[.pointer (some ⟨g, 0, none⟩), v] w fun e w' => ∃ v', e = .returned v' ∧ Il w' v' (offerS A L) ∧ (∀ b, v'.ownBlock = some b → w.heap.size ≤ b ∧ b < w'.heap.size) ∧ Fr (fun _ => False) w w' := by
  obtain ⟨i0, hi', hz0, hz1, hz2⟩ := info_parts infoItem
  obtain ⟨n0, hn0⟩ : ∃ n0, w.heap.size = n0 := ⟨_, rfl⟩
  obtain ⟨a, c, rfl⟩ := hv.sl
  obtain ⟨hm1, hm2⟩ := mayL_iff.1 hm
  have hall := (its_all hm1).2
  obtain ⟨N, hN⟩ : ∃ N, L.length = N := ⟨_, rfl⟩
  have HV := Lib.hid hv; have HALL := Lib.hid hall; have HN := Lib.hid hN; have H := Lib.hid h; have HA := Lib.hid hA; have HS := Lib.hid hn0
  have hN16 : (N : Int) ≤ 16 := by omega
  rw [hN] at HV ⊢
  have HLT := Lib.hid hv.lt
  rw [hN] at HLT
  have hKeep : Hid (∀ W, Fr (fun b => n0 ≤ b) w W → RS W g TS A ∧ Il W (.slice a N c) L) := Lib.hid (fun W hf => ⟨H.out.fr hf (fun b hb e => by have := H.out.lt b hb; omega), HV.out.fr hf (fun b hb => by omega)⟩)
  have hl64 : (A.length : Int) ≤ 1099511627776 := by have := hA.len; omega
  have HL := Lib.hid hl64
  have hfin : Hid (∀ W v', FreI w n0 A L N v' W → Il W v' (offerS A L) ∧ (∀ b, v'.ownBlock = some b → w.heap.size ≤ b ∧ b < W.heap.size) ∧ Fr (fun _ => False) w W) := Lib.hid (fun W v' hI => by
    have ho := hI.own
    rw [List.take_of_length_le (by rw [hN]; exact Nat.le_refl _)] at ho
    have hi := Il.own ho (offerS_ok (fun p hp => by
      have := HALL.out p hp
      have h16 := goodB_len this.1
      exact ⟨by unfold okS maxLen; omega, by omega, this.2.2.1⟩))
    exact ⟨hi.1, fun b hb => by rw [hn0]; exact hi.2 b hb, hI.fr.mono (fun b hb e => by omega)⟩)
  clear h hA hv hm hm1 hm2 hall hN hl64 hn0
  go_enter Try.func26, Try.ntmps26
  go_wp2_with fail
  go_loopw [6, 5] (fun i v wr => ∃ k : Nat, k ≤ N ∧ i = .int .i64 k ∧ FreI w n0 A L k v wr) (fun i _ _ => N - (intOf i).toNat)
  case atStart => exact ⟨0, Nat.zero_le _, rfl, ⟨by simpa [offerS, itCs] using World.ownsRow_nil w n0 66 2, Fr.refl _ _⟩⟩
  case round =>
    obtain ⟨k, hk, rfl, hI⟩ := hrel
    have HI := Lib.hid hI
    clear hI
    by_cases hlt : k < N
    · obtain ⟨p, hp⟩ : ∃ p, L[k]? = some p := ⟨L[k]'(by rw [HN.out]; exact hlt), List.getElem?_eq_getElem _⟩
      obtain ⟨hR0, hV0⟩ := hKeep.out wr HI.out.fr
      have hlI : (k : Int) < N := by omega
      obtain ⟨ad, rfl, ho1, ho2, p0, p1⟩ := hV0.at_ hp
      have hrow := Lib.hid (r7Row wr g TS A p.1 hR0 HA.out.rise HL.out)
      have hst := Lib.hid (offerS_take (A := A) hp)
      have hfb := ((HA.out.at_ p.1).b).a0
      have hpb := HALL.out p (List.mem_of_getElem? hp)
      have hol : Hid ((offerS A (L.take k)).length ≤ k) := Lib.hid (by have := offerS_len A (L.take k); rw [List.length_take] at this; omega)
      have hF0 : Hid (n0 ≤ wr.heap.size) := Lib.hid (by have := HI.out.fr.size; have := HS.out; omega)
      obtain ⟨RW, hRW⟩ : ∃ RW, rowAt A p.1 = RW := ⟨_, rfl⟩
      rw [hRW] at hrow hst hfb
      obtain ⟨gd, m⟩ := p
      obtain ⟨f0, f1, f2, f3, f4, f5, f6, f7, f8, f9, f10⟩ := RW
      dsimp only at ho1 ho2 p0 p1 hrow hst hfb hpb
      unfold rowV at hrow
      dsimp only at hrow
      obtain ⟨hfb0, hfb1⟩ := hfb
      obtain ⟨-, hm0, hm1, -⟩ := hpb
      have hfl1 : ∀ W, (Instr.field 96 (.agg #[vS gd, .int .i64 f0, .int .i64 f1, .int .i64 f2, .int .i64 f3, .int .i64 f4, .int .i64 f5, .int .i64 f6, .int .i64 f7, .int .i64 f8, .int .i64 f9, .int .i64 f10]) 1).run Try.prog W = .ok (.agg #[.int .i64 f0, .int .i64 f1, .int .i64 f2, .int .i64 f3]) W := fun W => by kernel_rfl
      have hfl2 : ∀ W, (Instr.field 42 (.agg #[.int .i64 f0, .int .i64 f1, .int .i64 f2, .int .i64 f3]) 0).run Try.prog W = .ok (.int .i64 f0) W := fun W => by kernel_rfl
      have HO1 := Lib.hid ho1; have HO2 := Lib.hid ho2; have HV0 := Lib.hid hV0
      clear hR0 hV0 hp hRW ho1 ho2
      have hF : Hid (∀ W', Fr (fun _ => False) wr W' → FreI w n0 A L k u5 W') := Lib.hid (fun W' hf => ⟨hf.row HI.out.own (fun _ _ e => e), HI.out.fr.trans' hf (fun _ _ e => e.elim)⟩)
      by_cases hlt2 : m < f0
      · have hst2 : Hid (offerS A (L.take (k + 1)) = offerS A (L.take k) ++ [(gd, m)]) := Lib.hid (by rw [hst.out, if_pos (by omega), Int.min_eq_left (by omega)])
        go_wp2_with (first
          | (go_at_call 59; refine hrow.out.mono ?_; rintro e w2 ⟨rfl, hf2⟩; have HF2 := Lib.hid hf2; have HI2 := Lib.hid (hF.out w2 hf2); have HZ2 : Hid (n0 ≤ w2.heap.size) := Lib.hid (Nat.le_trans hF0.out hf2.size); have p1 := hf2.cell p1 (fun h => h); have p0 := hf2.cell p0 (fun h => h); clear hf2)
          | (at_builtin; refine wpList_append_src rfl _ _ 23 rfl n0 66 i0 (.agg #[.string ⟨#[]⟩, .int .i64 0]) 24 Try.underlying23 hi' hz0 hz1 hz2 rfl (by decide) _ _ (itCs (offerS A (L.take k))) rfl (((Fr.refl (fun _ => False) w2).alloc _).row HI2.out.own (fun _ _ e => e)) 1 rfl (rd_obj (cs := [vS gd, .int .i64 m]) (heap_new _ _) rfl) (by intro u hu; simp only [List.mem_cons, List.not_mem_nil, or_false] at hu; rcases hu with rfl | rfl <;> rfl) (by have := hol.out; unfold maxLen; omega) (by have := hol.out; omega) (by have := HZ2.out; simp; omega) ?_; intro v1 w1 hown1 hgrow1 hloc1; have HP1 := Lib.hid (HI2.out.push hst2.out hown1 hgrow1); clear hown1 hgrow1 hloc1))
        go_roundw
        case rel => exact ⟨k + 1, by omega, by go_num, HP1.out⟩
        case measure => simp [intOf]; omega
      · by_cases hf00 : 0 < f0
        · have hst2 : Hid (offerS A (L.take (k + 1)) = offerS A (L.take k) ++ [(gd, f0)]) := Lib.hid (by rw [hst.out, if_pos (by omega), Int.min_eq_right (by omega)])
          go_wp2_with (first
          | (go_at_call 59; refine hrow.out.mono ?_; rintro e w2 ⟨rfl, hf2⟩; have HF2 := Lib.hid hf2; have HI2 := Lib.hid (hF.out w2 hf2); have HZ2 : Hid (n0 ≤ w2.heap.size) := Lib.hid (Nat.le_trans hF0.out hf2.size); have p1 := hf2.cell p1 (fun h => h); have p0 := hf2.cell p0 (fun h => h); clear hf2)
          | (at_builtin; refine wpList_append_src rfl _ _ 23 rfl n0 66 i0 (.agg #[.string ⟨#[]⟩, .int .i64 0]) 24 Try.underlying23 hi' hz0 hz1 hz2 rfl (by decide) _ _ (itCs (offerS A (L.take k))) rfl (((Fr.refl (fun _ => False) w2).alloc _).row HI2.out.own (fun _ _ e => e)) 1 rfl (rd_obj (cs := [vS gd, .int .i64 f0]) (heap_new _ _) rfl) (by intro u hu; simp only [List.mem_cons, List.not_mem_nil, or_false] at hu; rcases hu with rfl | rfl <;> rfl) (by have := hol.out; unfold maxLen; omega) (by have := hol.out; omega) (by have := HZ2.out; simp; omega) ?_; intro v1 w1 hown1 hgrow1 hloc1; have HP1 := Lib.hid (HI2.out.push hst2.out hown1 hgrow1); clear hown1 hgrow1 hloc1))
          go_roundw
          case rel => exact ⟨k + 1, by omega, by go_num, HP1.out⟩
          case measure => simp [intOf]; omega
        · have hst2 : Hid (offerS A (L.take (k + 1)) = offerS A (L.take k)) := Lib.hid (by rw [hst.out, if_neg (by omega), List.append_nil])
          go_wp2_with (first
          | (go_at_call 59; refine hrow.out.mono ?_; rintro e w2 ⟨rfl, hf2⟩; have HF2 := Lib.hid hf2; have HI2 := Lib.hid (hF.out w2 hf2); have HZ2 : Hid (n0 ≤ w2.heap.size) := Lib.hid (Nat.le_trans hF0.out hf2.size); have p1 := hf2.cell p1 (fun h => h); have p0 := hf2.cell p0 (fun h => h); clear hf2)
          | (at_builtin; refine wpList_append_src rfl _ _ 23 rfl n0 66 i0 (.agg #[.string ⟨#[]⟩, .int .i64 0]) 24 Try.underlying23 hi' hz0 hz1 hz2 rfl (by decide) _ _ (itCs (offerS A (L.take k))) rfl (((Fr.refl (fun _ => False) w2).alloc _).row HI2.out.own (fun _ _ e => e)) 1 rfl (rd_obj (cs := [vS gd, .int .i64 f0]) (heap_new _ _) rfl) (by intro u hu; simp only [List.mem_cons, List.not_mem_nil, or_false] at hu; rcases hu with rfl | rfl <;> rfl) (by have := hol.out; unfold maxLen; omega) (by have := hol.out; omega) (by have := HZ2.out; simp; omega) ?_; intro v1 w1 hown1 hgrow1 hloc1; have HP1 := Lib.hid (HI2.out.push hst2.out hown1 hgrow1); clear hown1 hgrow1 hloc1))
          go_roundw
          case rel => exact ⟨k + 1, by omega, by go_num, ⟨by rw [hst2.out]; exact HI2.out.own, HI2.out.fr⟩⟩
          case measure => simp [intOf]; omega
    · obtain rfl : k = N := by omega
      go_wp2_with fail
      go_ret
      exact ⟨_, rfl, hfin.out _ _ HI.out⟩
end Go.Proofs.Ytclgmnobockfnaa
