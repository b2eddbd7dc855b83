/- entrepotref09: Ask. -/
import Derived.Test.YtakjiicnbocjeaaIdDoesM16
import Derived.Test.YtakjiicnbocjeaaIdDoesM21
import Derived.Test.YtakjiicnbocjeaaIdDoesM2
import Derived.BigRegion
import Derived.Test.YtakjiicnbocjeaaIdDoesM17
import Derived.Test.YtakjiicnbocjeaaIdDoesM23
import Derived.Test.YtakjiicnbocjeaaIdDoesM27
import Derived.Test.YtakjiicnbocjeaaIdDoesM33
namespace Go.Proofs.Ytakjiicnbocjeaa
open Go.RowKit Go.Maps
theorem ans_fin {w : World} {b : Nat} {x0 x1 x2 x3 : Value} {t : TypeId} (h : w.heap[b]? = some (.cells #[x0, x1, x2, x3] t)) (a : Ans) :
    ∃ W', (((w.setCell ⟨b, 0, none⟩ (.int .i64 a.c)).setCell ⟨b, 1, none⟩ (.int .i64 a.n)).setCell ⟨b, 2, none⟩ (.int .i64 a.code)).setCell ⟨b, 3, none⟩ (.int .i64 a.k) = W' ∧
      W'.cell? ⟨b, 0, none⟩ = some (.int .i64 a.c) ∧ W'.cell? ⟨b, 1, none⟩ = some (.int .i64 a.n) ∧ W'.cell? ⟨b, 2, none⟩ = some (.int .i64 a.code) ∧ W'.cell? ⟨b, 3, none⟩ = some (.int .i64 a.k) ∧ Fr (fun x => x = b) w W' := by
  have h4 := obj_set (obj_set (obj_set (obj_set h 0 (.int .i64 a.c)) 1 (.int .i64 a.n)) 2 (.int .i64 a.code)) 3 (.int .i64 a.k)
  have f1 : Fr (fun x => x = b) w _ := (Fr.refl (fun x => x = b) w).setCell (p := ⟨b, 0, none⟩) (fun _ => rfl) (.int .i64 a.c)
  have f2 : Fr (fun x => x = b) w _ := f1.setCell (p := ⟨b, 1, none⟩) (fun _ => rfl) (.int .i64 a.n)
  have f3 : Fr (fun x => x = b) w _ := f2.setCell (p := ⟨b, 2, none⟩) (fun _ => rfl) (.int .i64 a.code)
  have f4 : Fr (fun x => x = b) w _ := f3.setCell (p := ⟨b, 3, none⟩) (fun _ => rfl) (.int .i64 a.k)
  exact ⟨_, rfl, cell_obj h4 0 _ rfl, cell_obj h4 1 _ rfl, cell_obj h4 2 _ rfl, cell_obj h4 3 _ rfl, f4⟩
/-- Rows are stored, and the answer's cells. -/
theorem ask_put {w wr w3 : World} {g k : Nat} {TS : Nat → Prop} {A : Tbl} {M : Int} {R' : Rows} {v : Value} (hRT : RT wr g TS A) (hTL : ∀ b, TS b → b < w.heap.size) (hf0 : Fr (fun _ => False) w wr) (hsz : w.heap.size + 1 ≤ wr.heap.size)
    (hz : wr.heap[w.heap.size]? = some (.cells #[.int .i64 0, .int .i64 0, .int .i64 0, .int .i64 0] 31)) (hk : k < 64) (hM : (cli A k).1 = M) (hown : w3.ownsRow wr.heap.size 86 7 v R'.length (rowcs R')) (hF3 : Fr (fun b => wr.heap.size ≤ b) wr w3) :
    ∃ W', ((((w3.setCell ⟨g, 64 + k, none⟩ v).setCell ⟨w.heap.size, 0, none⟩ (.int .i64 0)).setCell ⟨w.heap.size, 1, none⟩ (.int .i64 0)).setCell ⟨w.heap.size, 2, none⟩ (.int .i64 0)).setCell ⟨w.heap.size, 3, none⟩ (.int .i64 0) = W' ∧
      W'.cell? ⟨w.heap.size, 0, none⟩ = some (.int .i64 0) ∧ W'.cell? ⟨w.heap.size, 1, none⟩ = some (.int .i64 0) ∧ W'.cell? ⟨w.heap.size, 2, none⟩ = some (.int .i64 0) ∧ W'.cell? ⟨w.heap.size, 3, none⟩ = some (.int .i64 0) ∧
      (w3.setCell ⟨g, 64 + k, none⟩ v).heap[w.heap.size]? = some (.cells #[.int .i64 0, .int .i64 0, .int .i64 0, .int .i64 0] 31) ∧
      ∃ TS', RT W' g TS' (putS ktI.lt A k (M, R')) ∧ Stp TS w W' TS' := by
  have hg := hTL g hRT.own
  have hz3 := hF3.at_ hz (by omega)
  have hFg : Fr (fun b => b = g) w3 (w3.setCell ⟨g, 64 + k, none⟩ v) := (Fr.refl (fun b => b = g) w3).setCell (p := ⟨g, 64 + k, none⟩) (fun _ => rfl) _
  have hz4 := hFg.at_ hz3 (by omega)
  obtain ⟨W', hW', y0, y1, y2, y3, hFW⟩ := ans_fin hz4 ⟨0, 0, 0, 0⟩
  have ek : cli (putS ktI.lt A (k : Int) (M, R')) k = (M, R') := by rw [cli_put, if_pos rfl]
  have h3 := hRT.fr hF3 (fun b hb e => by have := hRT.lt b hb; omega)
  have hRT4 := h3.put (TS' := fun b => TS b ∨ (wr.heap.size ≤ b ∧ b < w3.heap.size)) (A' := putS ktI.lt A (k : Int) (M, R')) hk (v := v) (fun d hd hdk => by rw [cli_put, if_neg (by omega)]) (by rw [ek, hM]) (by rw [ek]; exact own_base hown (Nat.zero_le _)) (fun b hb => .inl hb) (fun b hb => .inr ⟨(hown.lt b hb).1, (hown.lt b hb).2⟩) (fun b hb => by
    have := hF3.size
    rcases hb with hb | hb
    · have := hRT.lt b hb; omega
    · exact hb.2)
  refine ⟨W', hW', y0, y1, y2, y3, hz4, _, hRT4.fr hFW (fun b hb e => ?_), ?_, fun b hb => ?_⟩
  · rcases hb with hb | hb
    · have := hTL b hb; omega
    · omega
  · have e1 : Fr TS w w3 := (hf0.mono (fun _ _ e => e.elim)).trans' hF3 (fun b hb e => by have := hf0.size; omega)
    have e2 : Fr TS w (w3.setCell ⟨g, 64 + k, none⟩ v) := e1.trans' hFg (fun b hb e => by subst e; exact hRT.own)
    exact e2.trans' hFW (fun b hb e => by omega)
  · rcases hb with hb | hb
    · exact .inl hb
    · exact .inr (by have := hf0.size; omega)
set_option maxRecDepth 100000 in
set_option maxHeartbeats 4000000 in
theorem rAsk (w : World) (g : Nat) (TS : Nat → Prop) (A : Tbl) (c n : Int) (v : Value) (bs : List Int) (h : RT w g TS A) (hb : Bs w v bs) (hl : (bs.length : Int) ≤ 140737488351232) (hR : ∀ c, Rise (cli A c).2) (hl8 : ∀ c, (cli A c).2.length ≤ 128) :
    Calls Try.prog 18 #[.pointer (some ⟨g, 0, none⟩), .int .i64 c, .int .i64 n, v] w fun e w' =>
      e = .returned (.tuple #[.int .i64 (askA A c n (mixF 7 bs)).1, (askA A c n (mixF 7 bs)).2.enc]) ∧ ∃ TS', RT w' g TS' (askT A c n (mixF 7 bs)) ∧ Stp TS w w' TS' := by
  have hby : ∀ x ∈ bs, 0 ≤ x ∧ x < 256 := by
    intro x hx
    obtain ⟨i, hi⟩ := List.getElem?_of_mem hx
    obtain ⟨_, _, _, _, hh⟩ := hb
    obtain ⟨b0, b1, _⟩ := hh i x hi
    exact ⟨b0, b1⟩
  have hF0 : Fr (fun _ => False) w (w.alloc (.cells #[.int .i64 0, .int .i64 0, .int .i64 0, .int .i64 0] 31)) := (Fr.refl _ w).alloc _
  have HZ : Hid ((w.alloc (.cells #[.int .i64 0, .int .i64 0, .int .i64 0, .int .i64 0] 31)).heap[w.heap.size]? = some (.cells #[.int .i64 0, .int .i64 0, .int .i64 0, .int .i64 0] 31)) := Lib.hid (heap_new w _)
  have HH := Lib.hid (h.fr hF0 (fun _ _ h => h))
  have HF := Lib.hid hF0
  have HTL : Hid (∀ b, TS b → b < w.heap.size) := Lib.hid h.lt
  obtain ⟨mix, hmix⟩ : ∃ m, mixF 7 bs = m := ⟨_, rfl⟩
  have hM := Lib.hid (fun w => rMay w c n)
  rw [hmix]
  cases hi : (isCl c && isNu n) with
  | false =>
    rw [hi] at hM
    have e1 : askA A c n mix = (0, Ans.zero) := by simp [askA, hi]
    have e2 : askT A c n mix = A := by simp [askT, hi]
    rw [e1, e2]
    clear h hb hF0 e1 e2 hmix hR hl8
    go_enter Try.func18, Try.ntmps18
    go_wp2_with (go_at_call 39; refine (hM.out _).mono ?_; rintro e w' ⟨rfl, rfl⟩)
    refine bodyPost_ret (v := .tuple #[.int .i64 0, Ans.zero.enc]) (by simp [results, Try.results18, go_sem, Ans.zero, Ans.enc]) rfl ?_
    exact ⟨rfl, TS, HH.out, Stp.refl HF.out⟩
  | true =>
    rw [hi] at hM
    obtain ⟨k, rfl, hk⟩ : ∃ k : Nat, c = k ∧ k < 64 := by
      have : isCl c = true := by rw [Bool.and_eq_true] at hi; exact hi.1
      unfold isCl at this; simp at this
      exact ⟨c.toNat, by omega, by omega⟩
    have hMk := Lib.hid (rMark (w.alloc (.cells #[.int .i64 0, .int .i64 0, .int .i64 0, .int .i64 0] 31)) g TS A k HH.out hk)
    obtain ⟨M, hMM⟩ : ∃ M, (cli A k).1 = M := ⟨_, rfl⟩
    rw [hMM] at hMk
    by_cases hlt : n < M
    · have e1 : askA A k n mix = (5, Ans.zero) := by simp [askA, hi, askM, hMM, hlt]
      have e2 : askT A k n mix = A := by simp [askT, hi, askM, hMM, hlt]
      rw [e1, e2]
      clear h hb hF0 e1 e2 hmix hR hl8
      go_enter Try.func18, Try.ntmps18
      go_wp2_with (first | (go_at_call 39; refine (hM.out _).mono ?_; rintro e w' ⟨rfl, rfl⟩) | (go_at_call 40; refine hMk.out.mono ?_; rintro e w' ⟨rfl, rfl⟩))
      refine bodyPost_ret (v := .tuple #[.int .i64 5, Ans.zero.enc]) (by simp [results, Try.results18, go_sem, Ans.zero, Ans.enc]) rfl ?_
      exact ⟨rfl, TS, HH.out, Stp.refl HF.out⟩
    · have hlo : M ≤ n := by omega
      have hMX := Lib.hid (rMix (w.alloc (.cells #[.int .i64 0, .int .i64 0, .int .i64 0, .int .i64 0] 31)) 7 v bs (hb.fr hF0 (fun _ h => h.elim)) hl hby)
      rw [hmix] at hMX
      obtain ⟨R, hRR⟩ : ∃ R, (cli A k).2 = R := ⟨_, rfl⟩
      have hrise := hR k
      have hlen := hl8 k
      rw [hRR] at hrise hlen
      obtain ⟨len, hlen2⟩ : ∃ len, R.length = len := ⟨_, rfl⟩
      rw [hlen2] at hlen
      have hRA : Hid (∀ x, askM (M, R) n mix = x → askA A k n mix = (x.1, x.2.1)) := Lib.hid (by
        intro x hx
        unfold askA
        rw [if_pos hi, show cli A k = (M, R) from by rw [← hMM, ← hRR], hx])
      have hRT : Hid (askT A k n mix = if (askM (M, R) n mix).2.2 = true then putS ktI.lt A k (M, putS ktI.lt R n ⟨mix, false, Ans.zero⟩) else A) := Lib.hid (by
        unfold askT
        rw [show cli A k = (M, R) from by rw [← hMM, ← hRR], hi]
        rfl)
      have HRI := Lib.hid hrise; have HLE := Lib.hid hlen2; have HRR := Lib.hid hRR; have HMM := Lib.hid hMM
      have hlenI : (len : Int) ≤ 128 := by omega
      clear h hb hF0 hmix hR hl8 hrise hlen2 hRR hMM hlt hby hl
      go_enter Try.func18, Try.ntmps18
      go_wp2_with (first | (go_at_call 39; refine (hM.out _).mono ?_; rintro e w' ⟨rfl, rfl⟩) | (go_at_call 40; refine hMk.out.mono ?_; rintro e w' ⟨rfl, rfl⟩))
      refine hMX.out.mono ?_
      rintro e w5 ⟨rfl, hB5⟩
      have hF5 := Fr.below (S := fun _ => False) hB5
      have HH5 := Lib.hid (HH.out.fr hF5 (fun _ _ h => h))
      have HZ5 := Lib.hid (hF5.at_ HZ.out (fun h => h))
      have HF5 := Lib.hid (HF.out.trans hF5)
      obtain ⟨mk, a, cap, -, -, hc2, hrow, hTS⟩ := HH5.out.at_ k hk
      rw [HRR.out, HLE.out] at hc2 hrow hTS
      have HROW := Lib.hid hrow; have HTS := Lib.hid hTS
      clear hB5 hF5 HH HZ HF hMX hMk hM hrow hTS
      have hkI : (k : Int) < 64 := by omega
      go_wp2_with fail
      go_loopw [12] (fun at_ wr => ∃ j : Nat, j ≤ len ∧ at_ = .int .i64 j ∧ (∀ q ∈ R.take j, q.1 < n) ∧ wr = w5) (fun at_ _ => len - (intOf at_).toNat)
      case atStart => exact ⟨0, Nat.zero_le _, rfl, by simp, rfl⟩
      case round =>
        obtain ⟨j, hj, rfl, hbel, rfl⟩ := hrel
        have HBEL := Lib.hid hbel
        clear hbel
        have hzz := HZ5.out
        have z0 := obj_frozen hzz 0
        have z1 := obj_frozen hzz 1
        have z2 := obj_frozen hzz 2
        have z3 := obj_frozen hzz 3
        have p0 := cell_obj hzz 0 (.int .i64 0) rfl
        have p1 := cell_obj hzz 1 (.int .i64 0) rfl
        have p2 := cell_obj hzz 2 (.int .i64 0) rfl
        have p3 := cell_obj hzz 3 (.int .i64 0) rfl
        have hsz : w.heap.size + 1 ≤ wr.heap.size := (Array.getElem?_eq_some_iff.1 hzz).1
        have HSZ := Lib.hid hsz
        have HZZ := Lib.hid hzz
        clear hsz hzz
        by_cases hjl : j < len
        · obtain ⟨q, hq⟩ : ∃ q, R[j]? = some q := ⟨R[j]'(by rw [HLE.out]; exact hjl), List.getElem?_eq_getElem _⟩
          obtain ⟨gp, ea, hcap, hcells⟩ := row_cells HROW.out (by omega)
          obtain ⟨num, ⟨mx, dn, ⟨ac, an, acode, ak⟩⟩⟩ := q
          have d0 := hcells j _ hq 0 _ rfl
          have d1 := hcells j _ hq 1 _ rfl
          have d2 := hcells j _ hq 2 _ rfl
          have d3 := hcells j _ hq 3 _ rfl
          have d4 := hcells j _ hq 4 _ rfl
          have d5 := hcells j _ hq 5 _ rfl
          have d6 := hcells j _ hq 6 _ rfl
          have HQ := Lib.hid hq
          rw [Nat.add_zero] at d0
          dsimp only at d0 d1 d2 d3 d4 d5 d6
          have hjI : (j : Int) < len := by omega
          clear hcells hq
          subst ea
          rcases (by omega : num < n ∨ num = n ∨ n < num) with hqn | hqn | hqn
          · go_wp2_with fail
            go_roundw
            case rel => exact ⟨j + 1, by omega, by go_num, rise_step HBEL.out HQ.out hqn, by trivial⟩
            case measure => simp [intOf]; omega
          · have hqn' := hqn.symm
            subst hqn'
            have hnn : (n == n) = true := by simp
            have hgetS : getS R n = some ⟨mx, dn, ⟨ac, an, acode, ak⟩⟩ := (rise_get HRI.out HBEL.out).1 _ HQ.out
            have HGS := Lib.hid hgetS
            clear hgetS
            by_cases hmm : mx = mix
            · subst hmm
              have hmn : (mx != mx) = false := by simp
              cases dn with
              | true =>
                have haM : askM (M, R) n mx = (3, ⟨ac, an, acode, ak⟩, false) := by
                  simp [askM, show ¬ n < M by omega, HGS.out]
                have ha1 : Hid (askA A k n mx = (3, ⟨ac, an, acode, ak⟩)) := Lib.hid (hRA.out _ haM)
                have ha2 : Hid (askT A k n mx = A) := Lib.hid (by rw [hRT.out, haM]; rfl)
                clear haM
                go_upto_region 14 with (fail)
                go_region
                all_goals
                  go_wp2_with fail
                  obtain ⟨W', hW', y0, y1, y2, y3, hFW⟩ := ans_fin HZZ.out ⟨ac, an, acode, ak⟩
                  dsimp only at hW' y0 y1 y2 y3
                  rw [hW']
                  refine bodyPost_ret (v := .tuple #[.int .i64 3, (⟨ac, an, acode, ak⟩ : Ans).enc]) (by simp [results, Try.results18, go_sem, Ans.enc, y0, y1, y2, y3]) rfl ?_
                  exact ⟨by rw [ha1.out], TS, by rw [ha2.out]; exact HH5.out.fr hFW.drew (fun b hb e => by have := HTL.out b hb; omega), ⟨(HF5.out.mono (fun _ _ e => e.elim)).trans' hFW.drew (fun b hb e => by omega), fun b hb => .inl hb⟩⟩
              | false =>
                have haM : askM (M, R) n mx = (2, Ans.zero, false) := by
                  simp [askM, show ¬ n < M by omega, HGS.out]
                have ha1 : Hid (askA A k n mx = (2, Ans.zero)) := Lib.hid (hRA.out _ haM)
                have ha2 : Hid (askT A k n mx = A) := Lib.hid (by rw [hRT.out, haM]; rfl)
                clear haM
                go_wp2_with fail
                obtain ⟨W', hW', y0, y1, y2, y3, hFW⟩ := ans_fin HZZ.out ⟨0, 0, 0, 0⟩
                dsimp only at hW' y0 y1 y2 y3
                rw [hW']
                refine bodyPost_ret (v := .tuple #[.int .i64 2, Ans.zero.enc]) (by simp [results, Try.results18, go_sem, Ans.zero, Ans.enc, y0, y1, y2, y3]) rfl ?_
                exact ⟨by rw [ha1.out], TS, by rw [ha2.out]; exact HH5.out.fr hFW (fun b hb e => by have := HTL.out b hb; omega), ⟨(HF5.out.mono (fun _ _ e => e.elim)).trans' hFW (fun b hb e => by omega), fun b hb => .inl hb⟩⟩
            · have hmn : (mx != mix) = true := by simpa using hmm
              have haM : askM (M, R) n mix = (4, Ans.zero, false) := by
                simp [askM, show ¬ n < M by omega, HGS.out, hmm]
              have ha1 : Hid (askA A k n mix = (4, Ans.zero)) := Lib.hid (hRA.out _ haM)
              have ha2 : Hid (askT A k n mix = A) := Lib.hid (by rw [hRT.out, haM]; rfl)
              clear haM
              clear hmm
              go_wp2_with fail
              obtain ⟨W', hW', y0, y1, y2, y3, hFW⟩ := ans_fin HZZ.out ⟨0, 0, 0, 0⟩
              dsimp only at hW' y0 y1 y2 y3
              rw [hW']
              refine bodyPost_ret (v := .tuple #[.int .i64 4, Ans.zero.enc]) (by simp [results, Try.results18, go_sem, Ans.zero, Ans.enc, y0, y1, y2, y3]) rfl ?_
              exact ⟨by rw [ha1.out], TS, by rw [ha2.out]; exact HH5.out.fr hFW (fun b hb e => by have := HTL.out b hb; omega), ⟨(HF5.out.mono (fun _ _ e => e.elim)).trans' hFW (fun b hb e => by omega), fun b hb => .inl hb⟩⟩
          · have hnq : (num == n) = false := by simp; omega
            have hge : ¬ num < n := by omega
            have hgn := (rise_get HRI.out HBEL.out).2 (fun p hp => by rw [HQ.out] at hp; cases hp; exact hqn)
            have HGS := Lib.hid hgn.1
            have HPS := Lib.hid hgn.2
            clear hgn hqn
            go_upto_region 16 with (fail)
            clear d0 d1 d2 d3 d4 d5 d6 hnq hge
            by_cases hfull : 128 ≤ len
            · have hfI : (128 : Int) ≤ (len : Int) := by omega
              have haM : askM (M, R) n mix = (6, Ans.zero, false) := by
                have h128 : 128 ≤ R.length := by rw [HLE.out]; exact hfull
                simp [askM, show ¬ n < M by omega, HGS.out, h128]
              have ha1 : Hid (askA A k n mix = (6, Ans.zero)) := Lib.hid (hRA.out _ haM)
              have ha2 : Hid (askT A k n mix = A) := Lib.hid (by rw [hRT.out, haM]; rfl)
              clear haM
              go_wp2_with fail
              obtain ⟨W', hW', y0, y1, y2, y3, hFW⟩ := ans_fin HZZ.out ⟨0, 0, 0, 0⟩
              dsimp only at hW' y0 y1 y2 y3
              rw [hW']
              refine bodyPost_ret (v := .tuple #[.int .i64 6, Ans.zero.enc]) (by simp [results, Try.results18, go_sem, Ans.zero, Ans.enc, y0, y1, y2, y3]) rfl ?_
              exact ⟨by rw [ha1.out], TS, by rw [ha2.out]; exact HH5.out.fr hFW (fun b hb e => by have := HTL.out b hb; omega), ⟨(HF5.out.mono (fun _ _ e => e.elim)).trans' hFW (fun b hb e => by omega), fun b hb => .inl hb⟩⟩
            · have hfI : ¬ (128 : Int) ≤ (len : Int) := by omega
              have haM : askM (M, R) n mix = (1, Ans.zero, true) := by
                have h128 : ¬ 128 ≤ R.length := by rw [HLE.out]; exact hfull
                simp [askM, show ¬ n < M by omega, HGS.out, h128]
              have ha1 : Hid (askA A k n mix = (1, Ans.zero)) := Lib.hid (hRA.out _ haM)
              have ha2 : Hid (askT A k n mix = putS ktI.lt A k (M, R.take j ++ (n, ⟨mix, false, Ans.zero⟩) :: R.drop j)) := Lib.hid (by rw [hRT.out, haM, if_pos rfl, HPS.out])
              have hgw : Hid (∀ b, TS b → b < w.heap.size) := Lib.hid HTL.out
              obtain ⟨iR, hiR, hr0, hr1, hr2⟩ := info_parts infoRow
              obtain ⟨hs1, hd1⟩ := sub_take HROW.out Try.underlying50 hiR hj
              obtain ⟨A2, hs2, hd2, hbk⟩ := sub_drop HROW.out Try.underlying50 hiR hr1 hj
              rw [← rowcs_take] at hd1
              rw [← rowcs_drop] at hd2
              have hold : ∀ ad, some (⟨gp, 0, none⟩ : Addr) = some ad → ad.block < wr.heap.size := fun ad e => HH5.out.lt _ (HTS.out _ (by rw [e]; rfl))
              have HFD : Hid (∀ w', Fr (fun b => wr.heap.size ≤ b) wr w' → Rd w' 7 (some ⟨gp, 0, none⟩) j (rowcs (R.take j))) := Lib.hid (fun w' hf => hd1.fr hf (fun ad e hh => by have := hold ad e; omega))
              have HFE : Hid (∀ w', Fr (fun b => wr.heap.size ≤ b) wr w' → Rd w' 7 A2 (len - j) (rowcs (R.drop j))) := Lib.hid (fun w' hf => hd2.fr hf (fun ad e hh => by obtain ⟨ad', e', hb⟩ := hbk ad e; have := hold ad' e'; omega))
              have HONE : Hid (∀ S : Rows, ∀ u ∈ rowcs S, u.oneCell' = true) := Lib.hid (fun S u hu => rowcs_one hu)
              have hcapI : Hid (len ≤ cap ∧ cap ≤ 9223372036854775807) := Lib.hid (own_len HROW.out)
              have hjn : Hid (j ≤ len ∧ len < 128) := Lib.hid ⟨hj, by omega⟩
              clear hd1 hd2 hbk hold haM hfull hj
              go_wp2_with fail
              go_region_held3 (fun _ => True) (trivial) ((first
                | (refine step_append_src rfl (.tmp 85) (.tmp 88) 50 rfl wr.heap.size 86 iR _ 56 Try.underlying50 hiR hr0 hr1 hr2 rfl (by decide) _ 0 [] (by rfl) (by first | exact own_none (Nat.le_refl _) | exact (own_none (Nat.le_refl _)).alloc _ | exact own_none (by simp) | exact (Fr.refl (fun _ => False) _).drew.row (own_none' (by simp) (by omega)) (fun _ _ h => h)) cap (by rfl) (HFD.out _ (by first | exact ((Fr.refl _ wr).drew).alloc _ | exact (((Fr.refl _ wr).drew).alloc _).alloc _)) (HONE.out _) (by have := hjn.out; unfold maxLen; omega) (by have := hjn.out; omega) (by simp <;> omega) ?_
                   intro v1 w1 hown1 hgrow1 hloc1
                   have hF1 : Fr (fun b => wr.heap.size ≤ b) wr w1 := Fr.trans (by first | exact ((Fr.refl _ wr).drew).alloc _ | exact (((Fr.refl _ wr).drew).alloc _).alloc _) (Fr.grown hgrow1 (by intro r hr _; cases hr; simp))
                   rw [Nat.zero_add, List.nil_append] at hown1
                   obtain ⟨a1, c1, rfl⟩ := row_sl hown1
                   first
                   | have hel : w1.heap[wr.heap.size + 1]? = some (.cells #[.int .i64 n, .int .u64 mix, .bool false, .int .i64 0, .int .i64 0, .int .i64 0, .int .i64 0] 86) := (Fr.grown (S := fun b => b = wr.heap.size) hgrow1 (by intro r hr _; cases hr; rfl)).at_ (heap_at (by simp) _) (by omega)
                   | have hel : w1.heap[wr.heap.size]? = some (.cells #[.int .i64 n, .int .u64 mix, .bool false, .int .i64 0, .int .i64 0, .int .i64 0, .int .i64 0] 86) := (Fr.grown (S := fun b => b = wr.heap.size + 1) hgrow1 (by intro r hr _; cases hr; simp)).at_ (heap_keep (heap_at (by simp) _) _) (by omega)
                   | skip)
                | (refine step_append_src rfl (.tmp 89) (.tmp 93) 50 rfl wr.heap.size 86 iR _ 56 Try.underlying50 hiR hr0 hr1 hr2 rfl (by decide) (.slice a1 j c1) j (rowcs (R.take j)) (by rfl) (by first | exact hown1 | exact hown1.alloc _) 1 (by rfl) (by first | exact rd_obj (cs := [.int .i64 n, .int .u64 mix, .bool false, .int .i64 0, .int .i64 0, .int .i64 0, .int .i64 0]) hel rfl | exact rd_obj (cs := [.int .i64 n, .int .u64 mix, .bool false, .int .i64 0, .int .i64 0, .int .i64 0, .int .i64 0]) (heap_new _ _) rfl) (HONE.out [(n, ⟨mix, false, Ans.zero⟩)]) (by have := hjn.out; unfold maxLen; omega) (by have := hjn.out; omega) (by have := hF1.size; first | exact this | (simp; omega)) ?_
                   intro v2 w2 hown2 hgrow2 hloc2
                   have hF2 : Fr (fun b => wr.heap.size ≤ b) wr w2 := Fr.trans (by first | exact hF1 | exact hF1.alloc _) (Fr.grown hgrow2 (by intro r hr _; exact (hown1.lt r hr).1))
                   obtain ⟨a2, c2, rfl⟩ := row_sl hown2)
                | (refine step_append_src rfl (.tmp 94) (.tmp 97) 50 rfl wr.heap.size 86 iR _ 56 Try.underlying50 hiR hr0 hr1 hr2 rfl (by decide) (.slice a2 (j + 1) c2) (j + 1) (rowcs (R.take j) ++ [.int .i64 n, .int .u64 mix, .bool false, .int .i64 0, .int .i64 0, .int .i64 0, .int .i64 0]) (by rfl) hown2 (cap - j) (by rfl) (HFE.out _ hF2) (HONE.out _) (by have := hjn.out; unfold maxLen; omega) (by have := hjn.out; omega) hF2.size ?_
                   intro v3 w3 hown3 hgrow3 hloc3
                   obtain ⟨a3, c3, rfl⟩ := row_sl hown3
                   have hF3 : Fr (fun b => wr.heap.size ≤ b) wr w3 := Fr.trans hF2 (Fr.grown hgrow3 (by intro r hr _; exact (hown2.lt r hr).1))
                   have hc3 := hF3.cell hc2 (by show ¬ wr.heap.size ≤ g; exact Nat.not_le.2 (HH5.out.lt g HH5.out.own))
                   have hf3 := (HH5.out.fr hF3 (fun b hb e => by have := HH5.out.lt b hb; omega)).frozen (64 + k))
                ))
              all_goals
                have hown4 : w3.ownsRow wr.heap.size 86 7 (.slice a3 (j + 1 + (len - j)) c3) (R.take j ++ (n, ⟨mix, false, Ans.zero⟩) :: R.drop j).length (rowcs (R.take j ++ (n, ⟨mix, false, Ans.zero⟩) :: R.drop j)) := by
                  have e1 : (R.take j ++ (n, ⟨mix, false, Ans.zero⟩) :: R.drop j).length = j + 1 + (len - j) := by
                    have := HLE.out; have := hjn.out
                    simp only [List.length_append, List.length_take, List.length_cons, List.length_drop]; omega
                  have e2 : rowcs (R.take j ++ (n, ⟨mix, false, Ans.zero⟩) :: R.drop j) = rowcs (R.take j) ++ [.int .i64 n, .int .u64 mix, .bool false, .int .i64 0, .int .i64 0, .int .i64 0, .int .i64 0] ++ rowcs (R.drop j) := by
                    rw [rowcs_app]
                    simp [rowcs, rowc, Ans.zero]
                  rw [e1, e2]
                  exact hown3
                obtain ⟨W', hW', y0, y1, y2, y3, y4, hRT'⟩ := ask_put HH5.out HTL.out HF5.out HSZ.out HZZ.out hk HMM.out hown4 hF3
                have x0 := obj_frozen y4 0
                have x1 := obj_frozen y4 1
                have x2 := obj_frozen y4 2
                have x3 := obj_frozen y4 3
                have u0 := cell_obj y4 0 (.int .i64 0) rfl
                have u1 := cell_obj y4 1 (.int .i64 0) rfl
                have u2 := cell_obj y4 2 (.int .i64 0) rfl
                have u3 := cell_obj y4 3 (.int .i64 0) rfl
                have HW' := Lib.hid hW'
                have HRT' := Lib.hid hRT'
                clear hW' hRT' hown4 hown3 hgrow3 hloc3
                go_wp2_with fail
                rw [HW'.out]
                refine bodyPost_ret (v := .tuple #[.int .i64 1, Ans.zero.enc]) (by simp [results, Try.results18, go_sem, Ans.zero, Ans.enc, y0, y1, y2, y3]) rfl ?_
                exact ⟨by rw [ha1.out], by rw [ha2.out]; exact HRT'.out⟩
        · have hgn := (rise_get HRI.out HBEL.out).2 (fun p hp => by
            have := (List.getElem?_eq_some_iff.1 hp).1
            rw [HLE.out] at this; omega)
          have HGS := Lib.hid hgn.1
          have HPS := Lib.hid hgn.2
          obtain ⟨j, hjj⟩ : ∃ j', j' = j := ⟨_, rfl⟩
          subst hjj
          have hjeq : j = len := by omega
          have hjlt : ¬ (j : Int) < (len : Int) := by omega
          have HJEQ := Lib.hid hjeq
          clear hjeq
          clear hgn
          go_upto_region 16 with (fail)
          by_cases hfull : 128 ≤ len
          · have hfI : (128 : Int) ≤ (len : Int) := by omega
            have haM : askM (M, R) n mix = (6, Ans.zero, false) := by
              have h128 : 128 ≤ R.length := by rw [HLE.out]; exact hfull
              simp [askM, show ¬ n < M by omega, HGS.out, h128]
            have ha1 : Hid (askA A k n mix = (6, Ans.zero)) := Lib.hid (hRA.out _ haM)
            have ha2 : Hid (askT A k n mix = A) := Lib.hid (by rw [hRT.out, haM]; rfl)
            clear haM
            go_wp2_with fail
            obtain ⟨W', hW', y0, y1, y2, y3, hFW⟩ := ans_fin HZZ.out ⟨0, 0, 0, 0⟩
            dsimp only at hW' y0 y1 y2 y3
            rw [hW']
            refine bodyPost_ret (v := .tuple #[.int .i64 6, Ans.zero.enc]) (by simp [results, Try.results18, go_sem, Ans.zero, Ans.enc, y0, y1, y2, y3]) rfl ?_
            exact ⟨by rw [ha1.out], TS, by rw [ha2.out]; exact HH5.out.fr hFW (fun b hb e => by have := HTL.out b hb; omega), ⟨(HF5.out.mono (fun _ _ e => e.elim)).trans' hFW (fun b hb e => by omega), fun b hb => .inl hb⟩⟩
          · have hfI : ¬ (128 : Int) ≤ (len : Int) := by omega
            have haM : askM (M, R) n mix = (1, Ans.zero, true) := by
              have h128 : ¬ 128 ≤ R.length := by rw [HLE.out]; exact hfull
              simp [askM, show ¬ n < M by omega, HGS.out, h128]
            have ha1 : Hid (askA A k n mix = (1, Ans.zero)) := Lib.hid (hRA.out _ haM)
            have ha2 : Hid (askT A k n mix = putS ktI.lt A k (M, R.take j ++ (n, ⟨mix, false, Ans.zero⟩) :: R.drop j)) := Lib.hid (by rw [hRT.out, haM, if_pos rfl, HPS.out])
            have hgw : Hid (∀ b, TS b → b < w.heap.size) := Lib.hid HTL.out
            obtain ⟨iR, hiR, hr0, hr1, hr2⟩ := info_parts infoRow
            obtain ⟨hs1, hd1⟩ := sub_take HROW.out Try.underlying50 hiR hj
            obtain ⟨A2, hs2, hd2, hbk⟩ := sub_drop HROW.out Try.underlying50 hiR hr1 hj
            rw [← rowcs_take] at hd1
            rw [← rowcs_drop] at hd2
            have hold : ∀ ad, a = some ad → ad.block < wr.heap.size := fun ad e => HH5.out.lt _ (HTS.out _ (by rw [e]; rfl))
            have HFD : Hid (∀ w', Fr (fun b => wr.heap.size ≤ b) wr w' → Rd w' 7 a j (rowcs (R.take j))) := Lib.hid (fun w' hf => hd1.fr hf (fun ad e hh => by have := hold ad e; omega))
            have HFE : Hid (∀ w', Fr (fun b => wr.heap.size ≤ b) wr w' → Rd w' 7 A2 (len - j) (rowcs (R.drop j))) := Lib.hid (fun w' hf => hd2.fr hf (fun ad e hh => by obtain ⟨ad', e', hb⟩ := hbk ad e; have := hold ad' e'; omega))
            have HONE : Hid (∀ S : Rows, ∀ u ∈ rowcs S, u.oneCell' = true) := Lib.hid (fun S u hu => rowcs_one hu)
            have hcapI : Hid (len ≤ cap ∧ cap ≤ 9223372036854775807) := Lib.hid (own_len HROW.out)
            have hjn : Hid (j ≤ len ∧ len < 128) := Lib.hid ⟨hj, by omega⟩
            clear hd1 hd2 hbk hold haM hfull hj
            go_wp2_with fail
            go_region_held3 (fun _ => True) (trivial) ((first
              | (refine step_append_src rfl (.tmp 85) (.tmp 88) 50 rfl wr.heap.size 86 iR _ 56 Try.underlying50 hiR hr0 hr1 hr2 rfl (by decide) _ 0 [] (by rfl) (by first | exact own_none (Nat.le_refl _) | exact (own_none (Nat.le_refl _)).alloc _ | exact own_none (by simp) | exact (Fr.refl (fun _ => False) _).drew.row (own_none' (by simp) (by omega)) (fun _ _ h => h)) cap (by rfl) (HFD.out _ (by first | exact ((Fr.refl _ wr).drew).alloc _ | exact (((Fr.refl _ wr).drew).alloc _).alloc _)) (HONE.out _) (by have := hjn.out; unfold maxLen; omega) (by have := hjn.out; omega) (by simp <;> omega) ?_
                 intro v1 w1 hown1 hgrow1 hloc1
                 have hF1 : Fr (fun b => wr.heap.size ≤ b) wr w1 := Fr.trans (by first | exact ((Fr.refl _ wr).drew).alloc _ | exact (((Fr.refl _ wr).drew).alloc _).alloc _) (Fr.grown hgrow1 (by intro r hr _; cases hr; simp))
                 rw [Nat.zero_add, List.nil_append] at hown1
                 obtain ⟨a1, c1, rfl⟩ := row_sl hown1
                 first
                 | have hel : w1.heap[wr.heap.size + 1]? = some (.cells #[.int .i64 n, .int .u64 mix, .bool false, .int .i64 0, .int .i64 0, .int .i64 0, .int .i64 0] 86) := (Fr.grown (S := fun b => b = wr.heap.size) hgrow1 (by intro r hr _; cases hr; rfl)).at_ (heap_at (by simp) _) (by omega)
                 | have hel : w1.heap[wr.heap.size]? = some (.cells #[.int .i64 n, .int .u64 mix, .bool false, .int .i64 0, .int .i64 0, .int .i64 0, .int .i64 0] 86) := (Fr.grown (S := fun b => b = wr.heap.size + 1) hgrow1 (by intro r hr _; cases hr; simp)).at_ (heap_keep (heap_at (by simp) _) _) (by omega)
                 | skip)
              | (refine step_append_src rfl (.tmp 89) (.tmp 93) 50 rfl wr.heap.size 86 iR _ 56 Try.underlying50 hiR hr0 hr1 hr2 rfl (by decide) (.slice a1 j c1) j (rowcs (R.take j)) (by rfl) (by first | exact hown1 | exact hown1.alloc _) 1 (by rfl) (by first | exact rd_obj (cs := [.int .i64 n, .int .u64 mix, .bool false, .int .i64 0, .int .i64 0, .int .i64 0, .int .i64 0]) hel rfl | exact rd_obj (cs := [.int .i64 n, .int .u64 mix, .bool false, .int .i64 0, .int .i64 0, .int .i64 0, .int .i64 0]) (heap_new _ _) rfl) (HONE.out [(n, ⟨mix, false, Ans.zero⟩)]) (by have := hjn.out; unfold maxLen; omega) (by have := hjn.out; omega) (by have := hF1.size; first | exact this | (simp; omega)) ?_
                 intro v2 w2 hown2 hgrow2 hloc2
                 have hF2 : Fr (fun b => wr.heap.size ≤ b) wr w2 := Fr.trans (by first | exact hF1 | exact hF1.alloc _) (Fr.grown hgrow2 (by intro r hr _; exact (hown1.lt r hr).1))
                 obtain ⟨a2, c2, rfl⟩ := row_sl hown2)
              | (refine step_append_src rfl (.tmp 94) (.tmp 97) 50 rfl wr.heap.size 86 iR _ 56 Try.underlying50 hiR hr0 hr1 hr2 rfl (by decide) (.slice a2 (j + 1) c2) (j + 1) (rowcs (R.take j) ++ [.int .i64 n, .int .u64 mix, .bool false, .int .i64 0, .int .i64 0, .int .i64 0, .int .i64 0]) (by rfl) hown2 (cap - j) (by rfl) (HFE.out _ hF2) (HONE.out _) (by have := hjn.out; unfold maxLen; omega) (by have := hjn.out; omega) hF2.size ?_
                 intro v3 w3 hown3 hgrow3 hloc3
                 obtain ⟨a3, c3, rfl⟩ := row_sl hown3
                 have hF3 : Fr (fun b => wr.heap.size ≤ b) wr w3 := Fr.trans hF2 (Fr.grown hgrow3 (by intro r hr _; exact (hown2.lt r hr).1))
                 have hc3 := hF3.cell hc2 (by show ¬ wr.heap.size ≤ g; exact Nat.not_le.2 (HH5.out.lt g HH5.out.own))
                 have hf3 := (HH5.out.fr hF3 (fun b hb e => by have := HH5.out.lt b hb; omega)).frozen (64 + k))
              ))
            all_goals
              have hown4 : w3.ownsRow wr.heap.size 86 7 (.slice a3 (j + 1 + (len - j)) c3) (R.take j ++ (n, ⟨mix, false, Ans.zero⟩) :: R.drop j).length (rowcs (R.take j ++ (n, ⟨mix, false, Ans.zero⟩) :: R.drop j)) := by
                have e1 : (R.take j ++ (n, ⟨mix, false, Ans.zero⟩) :: R.drop j).length = j + 1 + (len - j) := by
                  have := HLE.out; have := hjn.out
                  simp only [List.length_append, List.length_take, List.length_cons, List.length_drop]; omega
                have e2 : rowcs (R.take j ++ (n, ⟨mix, false, Ans.zero⟩) :: R.drop j) = rowcs (R.take j) ++ [.int .i64 n, .int .u64 mix, .bool false, .int .i64 0, .int .i64 0, .int .i64 0, .int .i64 0] ++ rowcs (R.drop j) := by
                  rw [rowcs_app]
                  simp [rowcs, rowc, Ans.zero]
                rw [e1, e2]
                exact hown3
              obtain ⟨W', hW', y0, y1, y2, y3, y4, hRT'⟩ := ask_put HH5.out HTL.out HF5.out HSZ.out HZZ.out hk HMM.out hown4 hF3
              have x0 := obj_frozen y4 0
              have x1 := obj_frozen y4 1
              have x2 := obj_frozen y4 2
              have x3 := obj_frozen y4 3
              have u0 := cell_obj y4 0 (.int .i64 0) rfl
              have u1 := cell_obj y4 1 (.int .i64 0) rfl
              have u2 := cell_obj y4 2 (.int .i64 0) rfl
              have u3 := cell_obj y4 3 (.int .i64 0) rfl
              have HW' := Lib.hid hW'
              have HRT' := Lib.hid hRT'
              clear hW' hRT' hown4 hown3 hgrow3 hloc3
              go_wp2_with fail
              rw [HW'.out]
              refine bodyPost_ret (v := .tuple #[.int .i64 1, Ans.zero.enc]) (by simp [results, Try.results18, go_sem, Ans.zero, Ans.enc, y0, y1, y2, y3]) rfl ?_
              exact ⟨by rw [ha1.out], by rw [ha2.out]; exact HRT'.out⟩
end Go.Proofs.Ytakjiicnbocjeaa
