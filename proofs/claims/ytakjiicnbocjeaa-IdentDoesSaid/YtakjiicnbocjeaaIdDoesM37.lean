/- entrepotref09: Low. -/
import Derived.Test.YtakjiicnbocjeaaIdDoesM36
namespace Go.Proofs.Ytakjiicnbocjeaa
open Go.RowKit Go.Maps
def lowF (R : Rows) (mark : Int) : Rows := R.filter fun p => !decide (p.1 < mark)
theorem lowF_yes {R : Rows} {mark : Int} {j : Nat} {q : Int × RowV} (h : R[j]? = some q) (hm : mark ≤ q.1) : lowF (R.take (j + 1)) mark = lowF (R.take j) mark ++ [q] := by
  unfold lowF
  rw [List.take_add_one, h, List.filter_append]
  simp; omega
theorem lowF_no {R : Rows} {mark : Int} {j : Nat} {q : Int × RowV} (h : R[j]? = some q) (hm : q.1 < mark) : lowF (R.take (j + 1)) mark = lowF (R.take j) mark := by
  unfold lowF
  rw [List.take_add_one, h, List.filter_append]
  simp; omega
theorem lowF_len (R : Rows) (mark : Int) (j : Nat) : (lowF (R.take j) mark).length ≤ j := Nat.le_trans (List.length_filter_le _ _) (List.length_take_le _ _)
set_option maxRecDepth 100000 in
set_option maxHeartbeats 4000000 in
theorem rLow (w : World) (g : Nat) (TS : Nat → Prop) (A : Tbl) (c mark : Int) (h : RT w g TS A) (hl8 : ∀ c, (cli A c).2.length ≤ 128) :
    Calls Try.prog 20 #[.pointer (some ⟨g, 0, none⟩), .int .i64 c, .int .i64 mark] w fun e w' => e = .returned (.int .i64 (lowA A c mark)) ∧ ∃ TS', RT w' g TS' (lowT A c mark) ∧ Stp TS w w' TS' := by
  have hno : Hid (lowOk c mark = false → lowA A c mark = 1 ∧ lowT A c mark = A) := Lib.hid (fun h => by constructor <;> simp [lowA, lowT, h])
  have HH := Lib.hid h
  have hokE : Hid (lowOk c mark = (isCl c && decide (1 ≤ mark) && decide (mark ≤ 4294967297))) := Lib.hid rfl
  have hfin : Hid (lowOk c mark = false → Ending.returned (.int .i64 1) = .returned (.int .i64 (lowA A c mark)) ∧ ∃ TS', RT w g TS' (lowT A c mark) ∧ Stp TS w w TS') := Lib.hid (fun hx => by
    obtain ⟨h1, h2⟩ := hno.out hx
    rw [h1, h2]
    exact ⟨rfl, TS, HH.out, Stp.refl (Fr.refl _ _)⟩)
  have HL8 := Lib.hid hl8
  have HTL : Hid (∀ b, TS b → b < w.heap.size) := Lib.hid h.lt
  clear h hl8 hno
  by_cases hc0 : c < 0
  · have hx : Hid (lowOk c mark = false) := Lib.hid (by rw [hokE.out]; simp [isCl]; omega)
    go_enter Try.func20, Try.ntmps20
    go_wp2_with fail
    go_ret
    exact hfin.out hx.out
  by_cases hc1 : 64 ≤ c
  · have hx : Hid (lowOk c mark = false) := Lib.hid (by rw [hokE.out]; simp [isCl]; omega)
    go_enter Try.func20, Try.ntmps20
    go_wp2_with fail
    go_ret
    exact hfin.out hx.out
  by_cases hm0 : mark < 1
  · have hx : Hid (lowOk c mark = false) := Lib.hid (by rw [hokE.out]; simp; omega)
    go_enter Try.func20, Try.ntmps20
    go_wp2_with fail
    go_ret
    exact hfin.out hx.out
  by_cases hm1 : 4294967297 < mark
  · have hx : Hid (lowOk c mark = false) := Lib.hid (by rw [hokE.out]; simp; omega)
    go_enter Try.func20, Try.ntmps20
    go_wp2_with fail
    go_ret
    exact hfin.out hx.out
  have hok : Hid (lowOk c mark = true) := Lib.hid (by rw [hokE.out]; simp [isCl]; omega)
  obtain ⟨k, rfl, hk⟩ : ∃ k : Nat, c = k ∧ k < 64 := ⟨c.toNat, by omega, by omega⟩
  obtain ⟨R, hRR⟩ : ∃ R, (cli A k).2 = R := ⟨_, rfl⟩
  have hlen := HL8.out k
  rw [hRR] at hlen
  obtain ⟨len, hlen2⟩ : ∃ len, R.length = len := ⟨_, rfl⟩
  rw [hlen2] at hlen
  obtain ⟨M, hMM⟩ : ∃ M, (cli A k).1 = M := ⟨_, rfl⟩
  have HRR := Lib.hid hRR; have HLE := Lib.hid hlen2; have HMM := Lib.hid hMM
  have HA : Hid (lowA A k mark = if lowBad R mark = true then 80 else 0) := Lib.hid (by unfold lowA; rw [if_pos hok.out, HRR.out])
  have HTN : Hid ((lowBad R mark = true ∨ ¬ M < mark) → lowT A k mark = A) := Lib.hid (fun hx => by
    unfold lowT
    rw [if_neg]
    rw [HRR.out, HMM.out, hok.out]
    rcases hx with hx | hx
    · simp [hx]
    · simp [hx])
  have HTY : Hid (lowBad R mark = false → M < mark → ∀ d : Nat, cli (lowT A k mark) d = if (k : Int) = d then (mark, lowF R mark) else cli A d) := Lib.hid (fun hx hlt d => by
    rw [cli_low, hok.out, HRR.out, HMM.out, hx]
    simp [hlt, lowF])
  obtain ⟨mk, sa, cap, -, -, hc2, hrow, hTS⟩ := HH.out.at_ k hk
  rw [hRR, hlen2] at hc2 hrow hTS
  have HROW := Lib.hid hrow; have HC2 := Lib.hid hc2
  have hkI : (k : Int) < 64 := by omega
  have hk0 : (0 : Int) ≤ (k : Int) := by omega
  have hgl : Hid (g < w.heap.size) := Lib.hid (HTL.out g HH.out.own)
  have hTSl : Hid (∀ b, (Value.slice sa len cap).ownBlock = some b → b < w.heap.size) := Lib.hid (fun b hb => HTL.out b (hTS b hb))
  have HLN : Hid (len ≤ 128) := Lib.hid hlen
  have hlenI : (len : Int) ≤ 128 := by omega
  obtain ⟨iR, hiR, hr0, hr1, hr2⟩ := info_parts infoRow
  clear hRR hlen hlen2 hMM hrow hTS hc2 hfin hc0 hc1
  go_enter Try.func20, Try.ntmps20
  go_wp2_with fail
  go_loopw [7, 8] (fun v i wr => ∃ (j n : Nat) (a : Option Addr) (c : Nat), j ≤ len ∧ i = .int .i64 j ∧ v = .slice a n c ∧ n = (lowF (R.take j) mark).length ∧ wr.ownsRow w.heap.size 86 7 (.slice a n c) n (rowcs (lowF (R.take j) mark)) ∧
    (∀ q ∈ R.take j, q.1 < mark → q.2.done = true) ∧ Fr (fun b => w.heap.size ≤ b) w wr) (fun _ i _ => len - (intOf i).toNat)
  case atStart => exact ⟨0, 0, _, _, Nat.zero_le _, rfl, rfl, rfl, World.ownsRow_nil _ _ _ _, by simp, Fr.refl _ _⟩
  case round =>
    obtain ⟨j, n, la, lc, hj, rfl, rfl, hn, hown, hbel, hfr⟩ := hrel
    have HBEL := Lib.hid hbel; have HFR := Lib.hid hfr; have HN := Lib.hid hn; have HOWN := Lib.hid hown
    have hnl : (n : Int) ≤ 128 := by have := lowF_len R mark j; omega
    have HNL := Lib.hid hnl
    have hcz := hfr.cell HC2.out (by show ¬ w.heap.size ≤ g; have := hgl.out; omega)
    clear hbel hfr hn hown
    by_cases hjl : j < len
    · obtain ⟨q, hq⟩ : ∃ q, R[j]? = some q := ⟨R[j]'(by rw [HLE.out]; exact hjl), List.getElem?_eq_getElem _⟩
      have hO := HFR.out.row HROW.out (fun b hb e => by have := hTSl.out b hb; omega)
      obtain ⟨gp, rfl, hcap, hcells⟩ := row_cells hO (by omega)
      obtain ⟨num, ⟨mx, dn, ⟨xc, xn, xcode, xk⟩⟩⟩ := q
      have d0 := hcells j _ hq 0 _ rfl
      have d1 := hcells j _ hq 1 _ rfl
      have d2 := hcells j _ hq 2 _ rfl
      have d3 := hcells j _ hq 3 _ rfl
      have d4 := hcells j _ hq 4 _ rfl
      have d5 := hcells j _ hq 5 _ rfl
      have d6 := hcells j _ hq 6 _ rfl
      rw [Nat.add_zero] at d0
      dsimp only at d0 d1 d2 d3 d4 d5 d6
      have HQ := Lib.hid hq
      have hjI : (j : Int) < len := by omega
      clear hcells hq hO
      by_cases hnum : num < mark
      · cases dn with
        | true =>
          have HNUM := Lib.hid hnum
          go_wp2_with fail
          go_roundw
          case rel =>
            refine ⟨j + 1, n, la, lc, by omega, by go_num, rfl, by rw [lowF_no HQ.out HNUM.out]; exact HN.out, ?_, fun q hq hlt => ?_, ?_⟩
            · rw [lowF_no HQ.out HNUM.out]
              exact Fr.row (S := fun _ => False) (by (repeat (first | (with_reducible assumption) | (with_reducible exact Fr.refl _ _) | (with_reducible refine Fr.alloc ?_ _) | (with_reducible refine Fr.drew ?_) | (with_reducible refine Fr.setCell ?_ (fun h => absurd h (Nat.not_lt.2 ?_)) _) | (exact Nat.le_refl _) | (exact Fr.size (by assumption))))) HOWN.out (fun _ _ h => h)
            · rw [List.take_add_one, HQ.out] at hq
              rcases List.mem_append.1 hq with hq | hq
              · exact HBEL.out q hq hlt
              · simp at hq; subst hq; rfl
            · exact HFR.out.trans (by (repeat (first | (with_reducible assumption) | (with_reducible exact Fr.refl _ _) | (with_reducible refine Fr.alloc ?_ _) | (with_reducible refine Fr.drew ?_) | (with_reducible refine Fr.setCell ?_ (fun h => absurd h (Nat.not_lt.2 ?_)) _) | (exact Nat.le_refl _) | (exact Fr.size (by assumption)))))
          case measure => simp [intOf]; omega
        | false =>
          have hbad : Hid (lowBad R mark = true) := Lib.hid (by
            unfold lowBad
            rw [List.any_eq_true]
            exact ⟨_, List.mem_of_getElem? HQ.out, by simp [hnum]⟩)
          go_wp2_with fail
          go_ret
          refine ⟨by rw [HA.out, if_pos hbad.out]; rfl, TS, ?_, ?_⟩
          · rw [HTN.out (.inl hbad.out)]
            exact (HH.out.fr HFR.out (fun b hb e => by have := HTL.out b hb; omega)).fr (S := fun _ => False) (by (repeat (first | (with_reducible assumption) | (with_reducible exact Fr.refl _ _) | (with_reducible refine Fr.alloc ?_ _) | (with_reducible refine Fr.drew ?_) | (with_reducible refine Fr.setCell ?_ (fun h => absurd h (Nat.not_lt.2 ?_)) _) | (exact Nat.le_refl _) | (exact Fr.size (by assumption))))) (fun _ _ h => h)
          · exact ⟨(HFR.out.mono (fun b hb e => by omega)).trans' (S' := fun _ => False) (by (repeat (first | (with_reducible assumption) | (with_reducible exact Fr.refl _ _) | (with_reducible refine Fr.alloc ?_ _) | (with_reducible refine Fr.drew ?_) | (with_reducible refine Fr.setCell ?_ (fun h => absurd h (Nat.not_lt.2 ?_)) _) | (exact Nat.le_refl _) | (exact Fr.size (by assumption))))) (fun _ _ e => e.elim), fun b hb => .inl hb⟩
      · have hge : ¬ num < mark := hnum
        have hgeI : mark ≤ num := by omega
        have HGE := Lib.hid hgeI
        clear hnum
        go_wp2_with (at_builtin; refine wpList_append_src rfl _ _ 50 rfl w.heap.size 86 iR _ 56 Try.underlying50 hiR hr0 hr1 hr2 rfl (by decide) (.slice la n lc) n (rowcs (lowF (R.take j) mark)) rfl (Fr.row (S := fun _ => False) (by (repeat (first | (with_reducible assumption) | (with_reducible exact Fr.refl _ _) | (with_reducible refine Fr.alloc ?_ _) | (with_reducible refine Fr.drew ?_) | (with_reducible refine Fr.setCell ?_ (fun h => absurd h (Nat.not_lt.2 ?_)) _) | (exact Nat.le_refl _) | (exact Fr.size (by assumption))))) HOWN.out (fun _ _ h => h)) 1 rfl (rd_obj (cs := [.int .i64 num, .int .u64 mx, .bool dn, .int .i64 xc, .int .i64 xn, .int .i64 xcode, .int .i64 xk]) (heap_at (by simp) _) rfl) (fun u hu => rowcs_one (R := [(num, ⟨mx, dn, ⟨xc, xn, xcode, xk⟩⟩)]) hu) (by have := HNL.out; unfold maxLen; omega) (by have := HNL.out; omega) (by have := HFR.out.size; simp; omega) ?_; intro v1 w1 hown1 hgrow1 hloc1; obtain ⟨a1, c1, rfl⟩ := row_sl hown1; have hF1 : Hid (Fr (fun b => w.heap.size ≤ b) wr w1) := Lib.hid (Fr.trans (by (repeat (first | (with_reducible assumption) | (with_reducible exact Fr.refl _ _) | (with_reducible refine Fr.alloc ?_ _) | (with_reducible refine Fr.drew ?_) | (with_reducible refine Fr.setCell ?_ (fun h => absurd h (Nat.not_lt.2 ?_)) _) | (exact Nat.le_refl _) | (exact Fr.size (by assumption))))) (Fr.grown hgrow1 (fun r hr _ => (HOWN.out.lt r hr).1))); have HO1 := Lib.hid hown1; clear hown1 hgrow1 hloc1)
        go_roundw
        case rel =>
          refine ⟨j + 1, n + 1, a1, c1, by omega, by go_num, rfl, by rw [lowF_yes HQ.out HGE.out, List.length_append, ← HN.out]; rfl, ?_, fun q hq hlt => ?_, ?_⟩
          · rw [lowF_yes HQ.out HGE.out, rowcs_app]
            exact HO1.out
          · rw [List.take_add_one, HQ.out] at hq
            rcases List.mem_append.1 hq with hq | hq
            · exact HBEL.out q hq hlt
            · simp at hq; subst hq; have := HGE.out; exact absurd hlt (by show ¬ num < mark; omega)
          · exact HFR.out.trans hF1.out
        case measure => simp [intOf]; omega
    · have hjn : j = len := by omega
      have htk : Hid (R.take j = R) := Lib.hid (List.take_of_length_le (by rw [HLE.out]; omega))
      have hnb : Hid (lowBad R mark = false) := Lib.hid (by
        rw [Bool.eq_false_iff]
        intro hb
        unfold lowBad at hb
        rw [List.any_eq_true] at hb
        obtain ⟨q, hq, hq2⟩ := hb
        rw [Bool.and_eq_true, decide_eq_true_eq, Bool.not_eq_true'] at hq2
        have := HBEL.out q (by rw [htk.out]; exact hq) hq2.1
        rw [this] at hq2
        cases hq2.2)
      have hA0 : Hid (lowA A k mark = 0) := Lib.hid (by rw [HA.out, hnb.out]; rfl)
      have hRTr := Lib.hid (HH.out.fr HFR.out (fun b hb e => by have := HTL.out b hb; omega))
      have hMk := Lib.hid (rMark wr g TS A k hRTr.out hk)
      rw [HMM.out] at hMk
      have HJN := Lib.hid hjn
      clear hjn
      by_cases hlt : M < mark
      · obtain ⟨mk9, a9, c9, e9, -, f9, -⟩ := hRTr.out.at_ k hk
        have z1 := hRTr.out.frozen k
        have z2 := hRTr.out.frozen (64 + k)
        have HLT := Lib.hid hlt
        have hTY := Lib.hid (HTY.out hnb.out hlt)
        have HM1 : Hid (1 ≤ mark) := Lib.hid (by omega)
        go_wp2_with (go_at_call 40; refine hMk.out.mono ?_; rintro e w' ⟨rfl, rfl⟩)
        go_region
        all_goals
          go_wp2_with fail
          go_ret
          have ek : cli (putS ktI.lt A (k : Int) (mark, R)) k = (mark, R) := by rw [cli_put, if_pos rfl]
          have hRT1 := hRTr.out.putM (A' := putS ktI.lt A (k : Int) (mark, R)) (mk := mark) hk (fun d hd hdk => by rw [cli_put, if_neg (by omega)]) (by rw [ek, if_neg (by have := HM1.out; omega)]) (by rw [ek, HRR.out])
          have hFg : Fr (fun b => b = g) wr (wr.setCell ⟨g, k, none⟩ (.int .i64 mark)) := (Fr.refl (fun b => b = g) wr).setCell (p := ⟨g, k, none⟩) (fun _ => rfl) _
          have hown := hFg.row HOWN.out (fun b hb e => by have := (HOWN.out.lt b hb).1; have := hgl.out; omega)
          rw [htk.out] at hown
          have hn : n = (lowF R mark).length := by rw [HN.out, htk.out]
          rw [hn] at hown
          obtain ⟨TS', hp1, hp2⟩ := row_put hRT1 HTL.out ((HFR.out.mono (fun b hb e => by omega)).trans' hFg (fun b hb e => by subst e; exact HH.out.own)) (Nat.le_refl w.heap.size) hk hown (A' := lowT A k mark) (fun d hd hdk => by rw [hTY.out, if_neg (by omega), cli_put, if_neg (by omega)]) (by rw [hTY.out, if_pos rfl, ek]) (by rw [hTY.out, if_pos rfl])
          rw [hn]
          exact ⟨by rw [hA0.out]; rfl, TS', hp1.fr (Fr.refl (fun _ => False) _).drew (fun _ _ h => h), ⟨hp2.1.drew, hp2.2⟩⟩
      · have HLT := Lib.hid hlt
        go_wp2_with (go_at_call 40; refine hMk.out.mono ?_; rintro e w' ⟨rfl, rfl⟩)
        go_ret
        exact ⟨by rw [hA0.out]; rfl, TS, by rw [HTN.out (.inr HLT.out)]; exact hRTr.out, ⟨HFR.out.mono (fun b hb e => by omega), fun b hb => .inl hb⟩⟩
end Go.Proofs.Ytakjiicnbocjeaa
