/- ask.Order; model.right: the requests that may be. -/
import Derived.Test.YtbeikkkmobbnkaaGreatModSpansM2
namespace Go.Proofs.YtbeikkkmobbnkaaGreat
open Go.RowKit Go.Maps
/-- The order that a request makes. -/
def ordF (a : AV) : Int := if a.k = 1 ∧ a.may = true then 64 * a.n + a.c else 0
theorem wiB_iff {n a b : Int} : wiB n a b = true ↔ a ≤ n ∧ n ≤ b := by simp [wiB]
theorem may_bounds {a : AV} (h : a.may = true) : (0 ≤ a.c ∧ a.c ≤ 63) ∧ 1 ≤ a.n ∧ a.n ≤ 4294967296 := by
  unfold AV.may at h
  simp only [Bool.and_eq_true] at h
  exact ⟨wiB_iff.1 h.1.1.1.1.1.1.1.2, wiB_iff.1 h.1.1.1.1.1.1.2⟩
set_option maxRecDepth 100000 in
set_option maxHeartbeats 2000000 in
theorem kOrder (w : World) (a : AV) (hk : AOk w a) : Calls Tryz.prog 38 #[.agg a.cs] w fun e w' => e = .returned (.int .i64 (ordF a)) ∧ Fr (fun _ => False) w w' := by
  have hF0 : Fr (fun _ => False) w (w.alloc (.cells a.cs 50)) := (Fr.refl _ w).alloc _
  have hM := Lib.hid (kMayA (w.alloc (.cells a.cs 50)) a (hk.l.fr hF0 (fun _ h => h.elim)) hk.g)
  obtain ⟨A, hA⟩ : ∃ A, A = a := ⟨_, rfl⟩
  rw [← hA] at hM hF0
  obtain ⟨c, n, k, o, r, t, m, g, l, its⟩ := a
  have hcs : A.cs = #[.int .i64 c, .int .i64 n, .int .i64 k, .int .i64 o, .int .i64 r, .int .i64 t, .int .i64 m, vS g, l] := by rw [hA]; rfl
  have hl := hk.l.sl
  dsimp only at hl
  obtain ⟨la, lc, rfl⟩ := hl
  rw [hcs] at hM hF0
  have hHF := Lib.hid hF0
  have hb := heap_new w (.cells #[.int .i64 c, .int .i64 n, .int .i64 k, .int .i64 o, .int .i64 r, .int .i64 t, .int .i64 m, vS g, .slice la its.length lc] 50)
  have HB := Lib.hid hb
  rw [← hA, hcs]
  obtain ⟨N, hN⟩ : ∃ N, its.length = N := ⟨_, rfl⟩
  rw [hN] at hM hHF HB ⊢
  by_cases h1 : k = 1
  · cases hm : A.may with
    | false =>
      have ho : Hid (ordF A = 0) := Lib.hid (by unfold ordF; rw [hm]; simp)
      rw [hm] at hM
      have b1 : (k != 1) = false := by simpa using h1
      clear hk hA hF0 hcs hb hm h1 hN
      go_enter Tryz.func38, Tryz.ntmps38
      go_wp2_with (go_at_call 50; refine hM.out.mono ?_; rintro e w1 ⟨rfl, hf1⟩; have HF1 := Lib.hid hf1; clear hf1)
      go_ret
      exact ⟨by rw [ho.out]; rfl, hHF.out.trans HF1.out⟩
    | true =>
      have ho : Hid (ordF A = 64 * n + c) := Lib.hid (by unfold ordF; rw [hm, hA]; simp [h1])
      obtain ⟨⟨x1, x2⟩, x3, x4⟩ := may_bounds hm
      rw [hA] at x1 x2 x3 x4
      dsimp only at x1 x2 x3 x4
      rw [hm] at hM
      have b1 : (k != 1) = false := by simpa using h1
      have HK := Lib.hid h1
      clear hk hA hF0 hcs hb hm h1 hN
      go_enter Tryz.func38, Tryz.ntmps38
      go_wp2_with (go_at_call 50; refine hM.out.mono ?_; rintro e w1 ⟨rfl, hf1⟩; have HF1 := Lib.hid hf1; have q0 := cell_obj (hf1.at_ HB.out (fun h => h)) 0 (.int .i64 c) rfl; have q1 := cell_obj (hf1.at_ HB.out (fun h => h)) 1 (.int .i64 n) rfl; clear hf1)
      go_ret
      exact ⟨by rw [ho.out]; rfl, hHF.out.trans HF1.out⟩
  · have ho : Hid (ordF A = 0) := Lib.hid (by unfold ordF; rw [hA]; simp [h1])
    have b1 : (k != 1) = true := by simpa using h1
    clear hk hA hF0 hcs hb h1 hN
    go_enter Tryz.func38, Tryz.ntmps38
    go_wp2_with fail
    go_ret
    exact ⟨by rw [ho.out]; rfl, hHF.out⟩
theorem kRightF (w : World) (v : Value) (n c : Nat) (a : Option Addr) : Calls Tryz.prog 31 #[.slice a n c] w fun e w' =>
    e = .returned (.func (.func 49) #[] #[.pointer (some ⟨w.heap.size, 0, none⟩)]) ∧ w' = w.alloc (.cells #[.slice a n c] 22) := by
  go_enter Tryz.func31, Tryz.ntmps31
  go_wp2
  go_ret
  exact ⟨rfl, rfl⟩
def encA (a : AV) : Array Value := #[.agg a.cs]
/-- The requests that may be. -/
def rightL (L : List AV) : List AV := L.filter AV.may
theorem rightL_yes {L : List AV} {k : Nat} {a : AV} (h : L[k]? = some a) (hm : a.may = true) : rightL (L.take (k + 1)) = rightL (L.take k) ++ [a] := by
  unfold rightL
  rw [List.take_add_one, h, List.filter_append]
  simp [hm]
theorem rightL_no {L : List AV} {k : Nat} {a : AV} (h : L[k]? = some a) (hm : a.may = false) : rightL (L.take (k + 1)) = rightL (L.take k) := by
  unfold rightL
  rw [List.take_add_one, h, List.filter_append]
  simp [hm]
theorem rightL_at {L : List AV} {k : Nat} {a : AV} (h : L[k]? = some a) (hm : a.may = true) : (rightL L)[(rightL (L.take k)).length]? = some a := by
  have hk := (List.getElem?_eq_some_iff.1 h).1
  have e : L = L.take k ++ a :: L.drop (k + 1) := by
    rw [← (List.getElem?_eq_some_iff.1 h).2, ← List.drop_eq_getElem_cons hk, List.take_append_drop]
  conv => lhs; rw [show rightL L = rightL (L.take k) ++ (a :: rightL (L.drop (k + 1))) by
    conv => lhs; rw [e]
    unfold rightL
    rw [List.filter_append, List.filter_cons_of_pos hm]]
  rw [List.getElem?_append_right (Nat.le_refl _), Nat.sub_self]
  rfl
set_option maxRecDepth 100000 in
set_option maxHeartbeats 4000000 in
theorem kRight2 (S : Nat → Prop) (wl w : World) (Bt : Nat) (v : Value) (L : List AV) (hBt : Boxed w Bt 22 v) (h : Al wl v L) (hwl : Fr (fun b => wl.heap.size ≤ b) wl w) (n1 : ∀ b, b < wl.heap.size → ¬ S b) :
    ItX 49 #[.pointer (some ⟨Bt, 0, none⟩)] encA (rightL L) S w := by
  intro lp S' J Jx W hW hS' hJ hY hJx h0
  have hBW := boxed_below hBt hW hBt.lt
  have s2 : ∀ b, S' b → wl.heap.size ≤ b := fun b e => by
    rcases Nat.lt_or_ge b wl.heap.size with hb | hb
    · exact absurd ((hS' b e).2 (Nat.lt_of_lt_of_le hb hwl.size)) (n1 b hb)
    · exact hb
  have HWL := Lib.hid hwl
  have hcB := hBW.cell
  obtain ⟨a, c, rfl⟩ := h.sl
  obtain ⟨N, hN⟩ : ∃ N, L.length = N := ⟨_, rfl⟩
  have hNb : (N : Int) ≤ 9223372036854775807 := by have := h.len; omega
  have hL0 := h
  have HS := Lib.hid hS'; have HL := Lib.hid hL0; have S2 := Lib.hid s2; have HN := Lib.hid hN; have HW := Lib.hid hW
  rw [hN] at hcB HL
  have hfn : ∀ f, Fence.wide.fn f := fun _ => trivial
  have hdp : Fence.wide.depth.isSome = false := rfl
  clear hBt h n1 hS' hBW s2 hW hN hL0 hwl
  refine (callsIn_wide (n := 0)).1 ?_
  refine callsIn_of_wp Tryz.func49 rfl trivial ?_ rfl
  simp only [Tryz.ntmps49, List.size_toArray, List.length_cons, List.length_nil, Nat.reduceAdd, Nat.reduceSub, Array.replicate_succ, Array.replicate_zero, List.push_toArray, List.append_toArray, List.nil_append, List.cons_append]
  gi_wp2_with fail
  gi_loopw [7] (fun i wr => ∃ (k : Nat) (C : Nat → Prop), k ≤ N ∧ i = .int .i64 k ∧ J (rightL (L.take k)).length C wr ∧ (∀ b, C b → W.heap.size ≤ b ∧ b < wr.heap.size) ∧ Fr (fun b => S' b ∨ C b) W wr) (fun i _ => N - (intOf i).toNat)
  case atStart => exact ⟨0, _, Nat.zero_le _, rfl, h0, fun _ h => False.elim h, Fr.refl _ _⟩
  case round =>
    obtain ⟨k, C, hk, rfl, hJr, hC, hkp⟩ := hrel
    have hCC : Hid (∀ b, S' b ∨ C b → wl.heap.size ≤ b) := Lib.hid (fun b e => e.elim (S2.out b) (fun e => by have := (hC b e).1; have := HW.out.size; have := HWL.out.size; omega))
    by_cases hlt : k < N
    · obtain ⟨p, hp⟩ : ∃ p, L[k]? = some p := ⟨L[k]'(by rw [HN.out]; exact hlt), List.getElem?_eq_getElem _⟩
      have hfr : Fr (fun b => wl.heap.size ≤ b) wl wr := (HWL.out.trans' (Fr.below (S := fun b => wl.heap.size ≤ b) HW.out) (fun _ _ e => e)).trans' hkp (fun b hb e => hCC.out b e)
      have hLr := HL.out.fr aokKeeps hfr (fun b hb => hb)
      obtain ⟨ad, rfl, hok, z0, zs⟩ := hLr.at_ hp
      have hokW := Lib.hid hok
      obtain ⟨c', n, kd, o, r, t, m, g, l, its⟩ := p
      obtain ⟨la, lc, hl⟩ := hok.l.sl
      dsimp only at hl
      subst hl
      have x0 := z0 (.int .i64 c') rfl
      have x1 := zs 0 (.int .i64 n) rfl
      have x2 := zs 1 (.int .i64 kd) rfl
      have x3 := zs 2 (.int .i64 o) rfl
      have x4 := zs 3 (.int .i64 r) rfl
      have x5 := zs 4 (.int .i64 t) rfl
      have x6 := zs 5 (.int .i64 m) rfl
      have x7 := zs 6 (vS g) rfl
      have x8 := zs 7 (.slice la its.length lc) rfl
      dsimp only [Nat.zero_add, Nat.reduceAdd] at x0 x1 x2 x3 x4 x5 x6 x7 x8
      obtain ⟨P, hP⟩ : ∃ P : AV, P = ⟨c', n, kd, o, r, t, m, g, .slice la its.length lc, its⟩ := ⟨_, rfl⟩
      rw [← hP] at hp hokW
      have hcs : P.cs = #[.int .i64 c', .int .i64 n, .int .i64 kd, .int .i64 o, .int .i64 r, .int .i64 t, .int .i64 m, vS g, .slice la its.length lc] := by rw [hP]; rfl
      obtain ⟨M, hM⟩ : ∃ M, its.length = M := ⟨_, rfl⟩
      rw [hM] at x8 hcs
      have hlI : (k : Int) < N := by omega
      have hkM := kMayA (wr.alloc (.cells P.cs 50)) P (hokW.out.l.fr ((Fr.refl (fun _ => False) _).alloc _) (fun _ h => h.elim)) hokW.out.g
      have hJ2 := hJ _ C _ _ hJr (frAlloc (B := W.heap.size) (.cells P.cs 50))
      rw [hcs] at hkM hJ2
      have HKM := Lib.hid hkM; have HP := Lib.hid hp; have HCS := Lib.hid hcs
      have HC := Lib.hid hC; have HK := Lib.hid hkp
      have HJ2 := Lib.hid hJ2
      have hbx := heap_new wr (.cells #[.int .i64 c', .int .i64 n, .int .i64 kd, .int .i64 o, .int .i64 r, .int .i64 t, .int .i64 m, vS g, .slice la M lc] 50)
      have HBX := Lib.hid hbx
      clear hP hM hkM hJ2 hp hcs hC hkp hJr hok z0 zs hLr hfr hbx
      cases hmy : P.may with
      | false =>
        have HMY := Lib.hid hmy
        rw [hmy] at HKM
        clear hmy
        gi_wp2_with (gi_at_call 50; refine (callsIn_wide.2 HKM.out).mono ?_; rintro e W2 ⟨rfl, hf2⟩; have HF2 := Lib.hid hf2; clear hf2)
        go_roundw
        case rel =>
          refine ⟨k + 1, C, by omega, by go_num, ?_, ?_, ?_⟩
          · rw [rightL_no HP.out HMY.out]
            exact hJ _ C _ _ HJ2.out (HF2.out.mono (fun _ _ e => e.elim))
          · intro b e
            have := HC.out b e
            have := HF2.out.size
            simp at this
            omega
          · exact (HK.out.alloc _).trans (HF2.out.mono (fun _ _ e => e.elim))
        case measure => simp [intOf]; omega
      | true =>
        have HMY := Lib.hid hmy
        rw [hmy] at HKM
        have hAt := Lib.hid (rightL_at HP.out hmy)
        clear hmy
        gi_wp2_with (gi_at_call 50; refine (callsIn_wide.2 HKM.out).mono ?_; rintro e W2 ⟨rfl, hf2⟩; have HF2 := Lib.hid hf2; obtain ⟨fn, tmps, assign, body, hy, hR⟩ := hY _ P C W2 hAt.out (hJ _ C _ _ HJ2.out (hf2.mono (fun _ _ e => e.elim))); dsimp only [encA] at hy; rw [HCS.out] at hy; have hb2 := hf2.at_ HBX.out (fun h => h); have y0 := cell_obj hb2 0 (.int .i64 c') rfl; have y1 := cell_obj hb2 1 (.int .i64 n) rfl; have y2 := cell_obj hb2 2 (.int .i64 kd) rfl; have y3 := cell_obj hb2 3 (.int .i64 o) rfl; have y4 := cell_obj hb2 4 (.int .i64 r) rfl; have y5 := cell_obj hb2 5 (.int .i64 t) rfl; have y6 := cell_obj hb2 6 (.int .i64 m) rfl; have y7 := cell_obj hb2 7 (vS g) rfl; have y8 := cell_obj hb2 8 (.slice la M lc) rfl; clear hf2 hb2)
        refine hR.mono ?_
        rintro e W3 (⟨rfl, hJ3, hk3⟩ | ⟨rfl, hJx3, _⟩)
        · gi_wp2
          go_roundw
          case rel =>
            refine ⟨k + 1, CC C W2 W3, by omega, by go_num, ?_, ?_, ?_⟩
            · rw [rightL_yes HP.out HMY.out, List.length_append]
              exact hJ3
            · have hs2 := HF2.out.size
              have hs3 := hk3.size
              simp at hs2
              rintro b (e | e)
              · have := HC.out b e; exact ⟨this.1, by omega⟩
              · have := HK.out.size; exact ⟨by omega, e.2⟩
            · exact (((HK.out.alloc _).trans (HF2.out.mono (fun _ _ e => e.elim))).mono (fun b _ e => e.elim .inl (fun e => .inr (.inl e)))).trans (hk3.mono (fun b _ e => e.elim .inl (fun e => .inr (.inl e))))
          case measure => simp [intOf]; omega
        · gi_wp2
          refine bodyPost_ret (results_none rfl _ _ _) rfl ?_
          refine ⟨⟨_, rfl⟩, .inr ⟨_, _, ?_, hJx3⟩⟩
          have := (List.getElem?_eq_some_iff.1 hAt.out).1
          omega
    · have : k = N := by omega
      subst this
      gi_wp2
      go_end0
      exact ⟨⟨_, rfl⟩, .inl ⟨C, by have := hJr; rw [List.take_of_length_le (by rw [HN.out]; exact Nat.le_refl _)] at this; exact this⟩⟩
theorem kRight1 (S : Nat → Prop) (w : World) (Bt : Nat) (v : Value) (L : List AV) (hBt : Boxed w Bt 22 v) (h : Al w v L) (n1 : ∀ b, b < w.heap.size → ¬ S b) :
    ItX 49 #[.pointer (some ⟨Bt, 0, none⟩)] encA (rightL L) S w := kRight2 S w w Bt v L hBt h (Fr.refl _ _) n1
end Go.Proofs.YtbeikkkmobbnkaaGreat
