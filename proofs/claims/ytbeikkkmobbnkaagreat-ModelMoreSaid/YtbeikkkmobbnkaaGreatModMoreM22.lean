/- entrepotref06.Put, entrepotref10.Body. -/
import Derived.Test.YtbeikkkmobbnkaaGreatModMoreM16
import Derived.Test.YtbeikkkmobbnkaaGreatModMoreM2
import Derived.Test.YtbeikkkmobbnkaaGreatModMoreM21
import Derived.Shelf.SlIter.Collect
namespace Go.Proofs.YtbeikkkmobbnkaaGreat
open Go.RowKit Go.Maps
theorem rNumF {w : World} {g B : Nat} {bs : List Int} (n : Int) (h : RK w g B (bs, false)) (hn : okI n) (hB : B ≤ w.heap.size) (hl : bs.length ≤ 262100) :
    Calls Tryz.prog 55 #[.pointer (some ⟨g, 0, none⟩), .int .i64 n] w fun e w' => (∃ v, e = .returned v) ∧ RK w' g B (bs ++ numB n, false) ∧ Fr (fun b => b = g) w w' := by
  have := rMNum w g B (bs, false) n h hn hB
  rw [mkQ_flat (by have := (numB_len hn).2; omega)] at this
  exact this
theorem rTextF {w : World} {g B : Nat} {bs : List Int} (t : Str) (h : RK w g B (bs, false)) (ht : t.length ≤ 16) (hB : B ≤ w.heap.size) (hl : bs.length ≤ 262100) :
    Calls Tryz.prog 56 #[.pointer (some ⟨g, 0, none⟩), vS t] w fun e w' => (∃ v, e = .returned v) ∧ RK w' g B (bs ++ textB t, false) ∧ Fr (fun b => b = g) w w' := by
  have := rMText w g B (bs, false) t h (by omega) hB
  rw [mkQ_flat (by have := textB_len ht; omega)] at this
  exact this
set_option maxRecDepth 100000 in
set_option maxHeartbeats 4000000 in
theorem rPutI (w : World) (g B : Nat) (bs : List Int) (v : Value) (L : Its) (h : RK w g B (bs, false)) (hi : Il w v L) (hv : L ≠ [] → ∀ b, v.ownBlock = some b → b ≠ g) (hl : bs.length ≤ 2000) (hB : B ≤ w.heap.size) (hn : L.length ≤ 16) (hits : ∀ p ∈ L, p.1.length ≤ 16 ∧ okI p.2) :
    Calls Tryz.prog 57 #[.pointer (some ⟨g, 0, none⟩), v] w fun e w' => (∃ v, e = .returned v) ∧ RK w' g B (bs ++ numB (L.length : Int) ++ itsP L, false) ∧ Fr (fun b => b = g) w w' := by
  obtain ⟨la, lc, rfl⟩ := hi.sl
  obtain ⟨N, hN⟩ : ∃ N : Nat, L.length = N := ⟨_, rfl⟩
  have HN := Lib.hid hN
  rw [hN] at hi hv hn ⊢
  have HIL := Lib.hid hi; have HV := Lib.hid hv; have HL := Lib.hid hl; have HB := Lib.hid hB; have HI := Lib.hid hits
  have HRK := Lib.hid h
  have okN : Hid (okI (N : Int)) := Lib.hid (by unfold okI; omega)
  have hNI : (N : Int) ≤ 16 := by omega
  clear hN hi hv hl hB hits h
  go_enter Tryz.func57, Tryz.ntmps57
  go_wp2_with (go_at_call 55; refine (rNumF _ HRK.out okN.out HB.out (by have := HL.out; omega)).mono ?_; rintro e w1 ⟨⟨v1, rfl⟩, hk1, hf1⟩; have HK1 := Lib.hid hk1; have HF1 := Lib.hid hf1; clear hk1 hf1)
  go_loopw [4] (fun i wr => ∃ j : Nat, j ≤ N ∧ i = .int .i64 j ∧ RK wr g B (bs ++ numB (N : Int) ++ itsP (L.take j), false) ∧ Fr (fun b => b = g) w wr) (fun i _ => N - (intOf i).toNat)
  case atStart => exact ⟨0, Nat.zero_le _, rfl, by simpa [itsP] using HK1.out, HF1.out⟩
  case round =>
    obtain ⟨j, hj, rfl, hkr, hfr⟩ := hrel
    by_cases hlt : j < N
    · obtain ⟨p, hp⟩ : ∃ p, L[j]? = some p := ⟨L[j]'(by rw [HN.out]; exact hlt), List.getElem?_eq_getElem _⟩
      have hne : L ≠ [] := fun e => by rw [e] at hp; simp at hp
      obtain ⟨ad, rfl, -, -, x0, x1⟩ := HIL.out.at_ hp
      obtain ⟨q1, q2⟩ := HI.out p (List.mem_of_getElem? hp)
      have hltI : (j : Int) < N := by omega
      have hadg : ad.block ≠ g := HV.out hne ad.block rfl
      have hlj : (itsP (L.take j)).length ≤ 544 := by
        have h1 := itsP_len (L := L.take j) (fun p hp => HI.out p (List.mem_of_mem_take hp))
        have h2 : (L.take j).length ≤ L.length := by rw [List.length_take]; omega
        have := HN.out
        omega
      have y0 := hfr.cell x0 (by rw [add_block]; exact hadg)
      have y1 := hfr.cell x1 (by rw [add_block]; exact hadg)
      have HT := Lib.hid (itsP_take hp)
      obtain ⟨gx, nx⟩ := p
      dsimp only at q1 q2 y0 y1 HT x0 x1
      have HKR := Lib.hid hkr; have HFR := Lib.hid hfr; have Q1 := Lib.hid q1; have Q2 := Lib.hid q2; have HLJ := Lib.hid hlj; have HAD := Lib.hid hadg; have X1 := Lib.hid x1
      have hby : Hid (B ≤ wr.heap.size) := Lib.hid (by have := hfr.size; have := HB.out; omega)
      clear hkr hfr q1 q2 hlj hadg hp hne x0 x1
      go_wp2_with (first
        | (go_at_call 56; refine (rTextF gx HKR.out Q1.out hby.out (by have := HLJ.out; have := HL.out; have := (numB_len okN.out).2; (try simp only [List.length_append]); omega)).mono ?_; rintro e w2 ⟨⟨v2, rfl⟩, hk2, hf2⟩; have z1 := (HFR.out.trans hf2).cell X1.out (by rw [add_block]; exact HAD.out); have HK2 := Lib.hid hk2; have HF2 := Lib.hid hf2; clear hk2 hf2)
        | (go_at_call 55; refine (rNumF nx HK2.out Q2.out (by have := hby.out; have := HF2.out.size; omega) (by have := HLJ.out; have := HL.out; have := (numB_len okN.out).2; have := textB_len Q1.out; (try simp only [List.length_append]); omega)).mono ?_; rintro e w3 ⟨⟨v3, rfl⟩, hk3, hf3⟩; have HK3 := Lib.hid hk3; have HF3 := Lib.hid hf3; clear hk3 hf3))
      go_roundw
      case rel => exact ⟨j + 1, by omega, by go_num, by rw [HT.out, ← List.append_assoc, ← List.append_assoc]; exact HK3.out, HFR.out.trans (HF2.out.trans HF3.out)⟩
      case measure => simp [intOf]; omega
    · obtain rfl : j = N := by omega
      have hall : L.take j = L := List.take_of_length_le (by rw [HN.out]; exact Nat.le_refl _)
      rw [hall] at hkr
      have HKR := Lib.hid hkr; have HFR := Lib.hid hfr
      clear hkr hfr hall
      go_wp2_with fail
      go_end0
      exact ⟨⟨_, rfl⟩, HKR.out, HFR.out⟩
set_option maxRecDepth 100000 in
set_option maxHeartbeats 4000000 in
theorem r10Body (w : World) (a : AV) (hk : AOk w a) (hb : BdOk a) :
    Calls Tryz.prog 35 #[.agg a.cs] w fun e w' => ∃ v, e = .returned v ∧ w'.ownsRow w.heap.size 5 1 v (bodyF a).length (u8s (bodyF a)) ∧ Fr (fun _ => False) w w' := by
  obtain ⟨n0, hn0⟩ : ∃ n0, w.heap.size = n0 := ⟨_, rfl⟩
  obtain ⟨A, hA⟩ : ∃ A : AV, A = a := ⟨_, rfl⟩
  obtain ⟨c, n, k, o, r, t, m, gd, l, its⟩ := a
  have hi := hk.l
  dsimp only at hi
  obtain ⟨la, lc, rfl⟩ := hi.sl
  obtain ⟨N, hN⟩ : ∃ N : Nat, its.length = N := ⟨_, rfl⟩
  have hits : Hid (∀ p ∈ its, p.1.length ≤ 16 ∧ okI p.2) := Lib.hid hb.its
  have hlen : Hid (its.length ≤ 16) := Lib.hid hb.len
  have okk : Hid (okI k) := Lib.hid hb.k
  have oko : Hid (okI o) := Lib.hid hb.o
  have okr : Hid (okI r) := Lib.hid hb.r
  have okt : Hid (okI t) := Lib.hid hb.t
  have okm : Hid (okI m) := Lib.hid hb.m
  have okg : Hid (gd.length ≤ 16) := Lib.hid hb.g
  have okN : Hid (okI (its.length : Int)) := Lib.hid (by have := hb.len; dsimp only at this; unfold okI; omega)
  have hBF : Hid (bodyF A = numB k ++ numB o ++ numB r ++ numB t ++ numB m ++ textB gd ++ numB (its.length : Int) ++ itsP its) := Lib.hid (by rw [hA]; rfl)
  have hcs : (⟨c, n, k, o, r, t, m, gd, .slice la its.length lc, its⟩ : AV).cs = #[.int .i64 c, .int .i64 n, .int .i64 k, .int .i64 o, .int .i64 r, .int .i64 t, .int .i64 m, vS gd, .slice la N lc] := by rw [← hN]; rfl
  rw [hcs, ← hA]
  obtain ⟨W0, hW0⟩ : ∃ W0, (w.alloc (.cells #[.int .i64 c, .int .i64 n, .int .i64 k, .int .i64 o, .int .i64 r, .int .i64 t, .int .i64 m, vS gd, .slice la N lc] 50)).alloc (.cells #[.slice none 0 0, .bool false] 90) = W0 := ⟨_, rfl⟩
  have hF0 : Fr (fun _ => False) w W0 := by rw [← hW0]; exact ((Fr.refl _ w).alloc _).alloc _
  have hs0 : W0.heap.size = n0 + 2 := by rw [← hW0]; simp; omega
  have hb0 : W0.heap[n0]? = some (.cells #[.int .i64 c, .int .i64 n, .int .i64 k, .int .i64 o, .int .i64 r, .int .i64 t, .int .i64 m, vS gd, .slice la N lc] 50) := by rw [← hW0]; exact heap_keep (heap_at hn0.symm _) _
  have hR0 : RK W0 (n0 + 1) (n0 + 1) ([], false) := by
    rw [← hW0]
    have := RK.new (w.alloc (.cells #[.int .i64 c, .int .i64 n, .int .i64 k, .int .i64 o, .int .i64 r, .int .i64 t, .int .i64 m, vS gd, .slice la N lc] 50))
    have e : (w.alloc (.cells #[.int .i64 c, .int .i64 n, .int .i64 k, .int .i64 o, .int .i64 r, .int .i64 t, .int .i64 m, vS gd, .slice la N lc] 50)).heap.size = n0 + 1 := by simp; omega
    rw [e] at this
    exact this
  have hfacts : Hid (∀ W, Fr (fun b => b = n0 + 1) W0 W → W.cell? ⟨n0, 2, none⟩ = some (.int .i64 k) ∧ W.cell? ⟨n0, 3, none⟩ = some (.int .i64 o) ∧ W.cell? ⟨n0, 4, none⟩ = some (.int .i64 r) ∧ W.cell? ⟨n0, 5, none⟩ = some (.int .i64 t) ∧ W.cell? ⟨n0, 6, none⟩ = some (.int .i64 m) ∧ W.cell? ⟨n0, 7, none⟩ = some (vS gd) ∧ W.cell? ⟨n0, 8, none⟩ = some (.slice la N lc)) := Lib.hid (fun W hf => by
    have hb := hf.at_ hb0 (by omega)
    exact ⟨cell_obj hb 2 _ rfl, cell_obj hb 3 _ rfl, cell_obj hb 4 _ rfl, cell_obj hb 5 _ rfl, cell_obj hb 6 _ rfl, cell_obj hb 7 _ rfl, cell_obj hb 8 _ rfl⟩)
  have hobl : Hid (its ≠ [] → ∀ b, (Value.slice la its.length lc).ownBlock = some b → b < w.heap.size) := Lib.hid hi.lt
  have HILW := Lib.hid (hi.fr hF0 (fun _ h => h.elim))
  have HF0 := Lib.hid hF0; have HS0 := Lib.hid hs0; have HS := Lib.hid hn0
  have hB : Hid (∀ W, Fr (fun b => b = n0 + 1) W0 W → n0 + 1 ≤ W.heap.size) := Lib.hid (fun W hf => by have := hf.size; omega)
  have hFF := Lib.hid (Fr.refl (fun b => b = n0 + 1) W0)
  have hR := Lib.hid hR0
  have HN := Lib.hid hN
  clear hi hk hb hN hA hcs hF0 hb0 hR0 hs0
  obtain ⟨p0, p1, p2, p3, p4, p5, p6⟩ := hfacts.out _ hFF.out
  go_enter Tryz.func35, Tryz.ntmps35
  go_wp2_with (first
    | (go_at_call 55; refine (rNumF _ hR.out (by first | exact okk.out | exact oko.out | exact okr.out | exact okt.out | exact okm.out) (hB.out _ hFF.out) (by first | (simp; done) | (have := (numB_len okk.out).2; have := (numB_len oko.out).2; have := (numB_len okr.out).2; have := (numB_len okt.out).2; have := (numB_len okm.out).2; (try simp only [List.length_append, List.length_nil]); omega))).mono ?_; rintro e w1 ⟨⟨v1, rfl⟩, hk1, hf1⟩; have hFF := Lib.hid (hFF.out.trans hf1); have hR := Lib.hid hk1; clear hk1 hf1; clear p0 p1 p2 p3 p4 p5 p6; obtain ⟨p0, p1, p2, p3, p4, p5, p6⟩ := hfacts.out _ hFF.out)
    | (go_at_call 56; refine (rTextF gd hR.out okg.out (hB.out _ hFF.out) (by first | (simp; done) | (have := (numB_len okk.out).2; have := (numB_len oko.out).2; have := (numB_len okr.out).2; have := (numB_len okt.out).2; have := (numB_len okm.out).2; (try simp only [List.length_append, List.length_nil]); omega))).mono ?_; rintro e w1 ⟨⟨v1, rfl⟩, hk1, hf1⟩; have hFF := Lib.hid (hFF.out.trans hf1); have hR := Lib.hid hk1; clear hk1 hf1; clear p0 p1 p2 p3 p4 p5 p6; obtain ⟨p0, p1, p2, p3, p4, p5, p6⟩ := hfacts.out _ hFF.out)
    | (go_at_call 57; refine (rPutI _ (n0 + 1) (n0 + 1) _ (.slice la N lc) its hR.out (by have h := HILW.out.keep hFF.out (fun hne b hb e => by have := hobl.out hne b hb; have := HS.out; omega); rw [HN.out] at h; exact h) (fun hne b hb e => by have := hobl.out hne b (by rw [HN.out]; exact hb); have := HS.out; omega) (by have := (numB_len okk.out).2; have := (numB_len oko.out).2; have := (numB_len okr.out).2; have := (numB_len okt.out).2; have := (numB_len okm.out).2; have := textB_len okg.out; (try simp only [List.length_append, List.length_nil]); omega) (hB.out _ hFF.out) hlen.out hits.out).mono ?_; rintro e w2 ⟨⟨v2, rfl⟩, hk2, hf2⟩; have hFF := Lib.hid (hFF.out.trans hf2); obtain ⟨⟨rv, h1, h2, h3⟩, -⟩ := hk2; dsimp only at h1 h2; rw [List.nil_append, ← hBF.out] at h2; have HR2 := Lib.hid h2; have pr := cell_obj h1 0 rv rfl; clear h1 h2 h3))
  go_ret
  refine ⟨rv, rfl, ownsRow_base_a HR2.out (by have := HS.out; omega), HF0.out.trans' hFF.out (fun b hb e => by have := HS.out; omega)⟩
end Go.Proofs.YtbeikkkmobbnkaaGreat
