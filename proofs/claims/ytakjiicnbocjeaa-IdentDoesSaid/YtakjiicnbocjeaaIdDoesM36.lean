/- entrepotref09: Tell. -/
import Derived.Test.YtakjiicnbocjeaaIdDoesM34
import Derived.Test.YtakjiicnbocjeaaIdDoesM35
import Derived.Laws.OwnMore
import Derived.Deep.QuietTactic
namespace Go.Proofs.Ytakjiicnbocjeaa
open Go.RowKit Go.Maps
/-- A row's answer is set. -/
theorem rowcs_told {R : Rows} {j : Nat} {n mx : Int} {x : Ans} (a : Ans) (h : R[j]? = some (n, ⟨mx, false, x⟩)) :
    rowcs (R.take j ++ (n, ⟨mx, true, a⟩) :: R.drop (j + 1)) = (((((rowcs R).set (j * 7 + 2) (.bool true)).set (j * 7 + 3) (.int .i64 a.c)).set (j * 7 + 4) (.int .i64 a.n)).set (j * 7 + 5) (.int .i64 a.code)).set (j * 7 + 6) (.int .i64 a.k) := by
  have e := rise_split h
  have hl : (rowcs (R.take j)).length = j * 7 := by rw [rowcs_len, List.length_take]; have := (List.getElem?_eq_some_iff.1 h).1; congr 1; omega
  have h1 : rowcs R = rowcs (R.take j) ++ (rowc (n, ⟨mx, false, x⟩) ++ rowcs (R.drop (j + 1))) := by
    conv => lhs; rw [e]
    rw [rowcs_app]; simp [rowcs]
  have h2 : rowcs (R.take j ++ (n, ⟨mx, true, a⟩) :: R.drop (j + 1)) = rowcs (R.take j) ++ (rowc (n, ⟨mx, true, a⟩) ++ rowcs (R.drop (j + 1))) := by
    rw [rowcs_app]; simp [rowcs]
  rw [h1, h2]
  have hs : ∀ (f : Nat) (u : Value) (L : List Value), (rowcs (R.take j) ++ L).set (j * 7 + f) u = rowcs (R.take j) ++ L.set f u := fun f u L => by
    rw [List.set_append_right _ _ (by omega), hl, show j * 7 + f - j * 7 = f by omega]
  rw [hs, hs, hs, hs, hs]
  simp [rowc]
theorem told_world {w : World} {base gp j len c1 : Nat} {R : Rows} {n mx : Int} {x : Ans} (a : Ans) (N : Nat) (hO : w.ownsRow base 86 7 (.slice (some ⟨gp, 0, none⟩) len c1) len (rowcs R)) (hl : R.length = len) (h : R[j]? = some (n, ⟨mx, false, x⟩)) :
    ∃ W5, ((((((w.drewN N).setCell ⟨gp, j * 7 + 2, none⟩ (.bool true)).setCell ⟨gp, j * 7 + 3, none⟩ (.int .i64 a.c)).setCell ⟨gp, j * 7 + 3 + 1, none⟩ (.int .i64 a.n)).setCell ⟨gp, j * 7 + 3 + 2, none⟩ (.int .i64 a.code)).setCell ⟨gp, j * 7 + 3 + 3, none⟩ (.int .i64 a.k)) = W5 ∧
      W5.ownsRow base 86 7 (.slice (some ⟨gp, 0, none⟩) len c1) (R.take j ++ (n, ⟨mx, true, a⟩) :: R.drop (j + 1)).length (rowcs (R.take j ++ (n, ⟨mx, true, a⟩) :: R.drop (j + 1))) ∧ Fr (fun b => b = gp) w W5 := by
  have hj := (List.getElem?_eq_some_iff.1 h).1
  have h0 := ((Fr.refl (fun _ => False) w).drewN N).row hO (fun _ _ h => h)
  have h1 := (((((h0.stored (j * 7 + 2) (.bool true)).1.stored (j * 7 + 3) (.int .i64 a.c)).1.stored (j * 7 + 4) (.int .i64 a.n)).1.stored (j * 7 + 5) (.int .i64 a.code)).1.stored (j * 7 + 6) (.int .i64 a.k)).1
  have e : (R.take j ++ (n, ⟨mx, true, a⟩) :: R.drop (j + 1)).length = len := by simp only [List.length_append, List.length_take, List.length_cons, List.length_drop]; omega
  rw [e, rowcs_told a h]
  refine ⟨_, rfl, h1, ?_⟩
  refine ((((((Fr.refl _ w).drewN N).setCell ?_ _).setCell ?_ _).setCell ?_ _).setCell ?_ _).setCell ?_ _ <;> exact fun _ => rfl
/-- Rows of the call's own are stored. -/
theorem row_put {w W5 : World} {g k base : Nat} {TS : Nat → Prop} {A A' : Tbl} {R' : Rows} {v : Value} (hRT : RT W5 g TS A) (hTL : ∀ b, TS b → b < w.heap.size) (hf : Fr TS w W5) (hb : w.heap.size ≤ base) (hk : k < 64)
    (hown : W5.ownsRow base 86 7 v R'.length (rowcs R')) (hA : ∀ d : Nat, d < 64 → d ≠ k → cli A' d = cli A d) (hm : (cli A' k).1 = (cli A k).1) (hr : (cli A' k).2 = R') :
    ∃ TS', RT (W5.setCell ⟨g, 64 + k, none⟩ v) g TS' A' ∧ Stp TS w (W5.setCell ⟨g, 64 + k, none⟩ v) TS' := by
  have hFg : Fr (fun b => b = g) W5 (W5.setCell ⟨g, 64 + k, none⟩ v) := (Fr.refl (fun b => b = g) W5).setCell (p := ⟨g, 64 + k, none⟩) (fun _ => rfl) _
  refine ⟨fun b => TS b ∨ (base ≤ b ∧ b < W5.heap.size), hRT.put hk hA hm (by rw [hr]; exact own_base hown (Nat.zero_le _)) (fun b hb => .inl hb) (fun b hb => .inr ⟨(hown.lt b hb).1, (hown.lt b hb).2⟩) (fun b hb => ?_), ?_, fun b hb => ?_⟩
  · rcases hb with hb | hb
    · exact hRT.lt b hb
    · exact hb.2
  · exact hf.trans' hFg (fun b hb e => by subst e; exact hRT.own)
  · rcases hb with hb | hb
    · exact .inl hb
    · exact .inr (by omega)
set_option maxRecDepth 100000 in
set_option maxHeartbeats 4000000 in
theorem rTell (w : World) (g : Nat) (TS : Nat → Prop) (A : Tbl) (a : Ans) (h : RT w g TS A) (hR : ∀ c, Rise (cli A c).2) (hl8 : ∀ c, (cli A c).2.length ≤ 128) :
    Calls Try.prog 19 #[.pointer (some ⟨g, 0, none⟩), a.enc] w fun e w' => e = .returned (.int .i64 (tellA A a)) ∧ ∃ TS', RT w' g TS' (tellT A a) ∧ Stp TS w w' TS' := by
  obtain ⟨aa, haa⟩ : ∃ aa, a = aa := ⟨_, rfl⟩
  rw [haa]
  have HA := Lib.hid haa
  obtain ⟨ac, an, acode, ak⟩ := a
  have hb0 := heap_new w (.cells #[.int .i64 ac, .int .i64 an, .int .i64 acode, .int .i64 ak] 31)
  have hF0 : Fr (fun _ => False) w (w.alloc (.cells #[.int .i64 ac, .int .i64 an, .int .i64 acode, .int .i64 ak] 31)) := (Fr.refl _ w).alloc _
  have HH := Lib.hid (h.fr hF0 (fun _ _ h => h))
  have HF := Lib.hid hF0
  have HB0 := Lib.hid hb0
  have HTL : Hid (∀ b, TS b → b < w.heap.size) := Lib.hid h.lt
  have HR := Lib.hid hR; have HL8 := Lib.hid hl8
  have hM := Lib.hid (fun w => rMay w ac an)
  have ecs : Hid (aa.enc = .agg #[.int .i64 ac, .int .i64 an, .int .i64 acode, .int .i64 ak]) := Lib.hid (by rw [← haa]; rfl)
  rw [ecs.out]
  have hokE : Hid (tellOk aa = (isCl ac && isNu an && decide (0 ≤ acode) && decide (acode ≤ 1000))) := Lib.hid (by rw [← haa]; rfl)
  have hno : Hid (tellOk aa = false → tellA A aa = 1 ∧ tellT A aa = A) := Lib.hid (fun h => by constructor <;> simp [tellA, tellT, h])
  have hfin : Hid (tellOk aa = false → Ending.returned (.int .i64 1) = .returned (.int .i64 (tellA A aa)) ∧ ∃ TS', RT (w.alloc (.cells #[.int .i64 ac, .int .i64 an, .int .i64 acode, .int .i64 ak] 31)) g TS' (tellT A aa) ∧ Stp TS w (w.alloc (.cells #[.int .i64 ac, .int .i64 an, .int .i64 acode, .int .i64 ak] 31)) TS') := Lib.hid (fun h => by
    obtain ⟨h1, h2⟩ := hno.out h
    rw [h1, h2]
    exact ⟨rfl, TS, HH.out, Stp.refl HF.out⟩)
  clear h hF0 hb0 haa hR hl8
  cases hi : (isCl ac && isNu an) with
  | false =>
    rw [hi] at hM
    have hx : Hid (tellOk aa = false) := Lib.hid (by rw [hokE.out, hi]; rfl)
    clear hi
    go_enter Try.func19, Try.ntmps19
    go_wp2_with (go_at_call 39; refine (hM.out _).mono ?_; rintro e w' ⟨rfl, rfl⟩)
    go_ret
    exact hfin.out hx.out
  | true =>
    rw [hi] at hM
    by_cases h0 : acode < 0
    · have hx : Hid (tellOk aa = false) := Lib.hid (by rw [hokE.out, hi]; simp; omega)
      clear hi
      go_enter Try.func19, Try.ntmps19
      go_wp2_with (go_at_call 39; refine (hM.out _).mono ?_; rintro e w' ⟨rfl, rfl⟩)
      go_ret
      exact hfin.out hx.out
    by_cases h1 : 1000 < acode
    · have hx : Hid (tellOk aa = false) := Lib.hid (by rw [hokE.out, hi]; simp; omega)
      clear hi
      go_enter Try.func19, Try.ntmps19
      go_wp2_with (go_at_call 39; refine (hM.out _).mono ?_; rintro e w' ⟨rfl, rfl⟩)
      go_ret
      exact hfin.out hx.out
    have hok : Hid (tellOk aa = true) := Lib.hid (by rw [hokE.out, hi]; simp; omega)
    obtain ⟨k, rfl, hk⟩ : ∃ k : Nat, ac = k ∧ k < 64 := by
      have : isCl ac = true := by rw [Bool.and_eq_true] at hi; exact hi.1
      have := isCl_iff this
      exact ⟨ac.toNat, by omega, by omega⟩
    obtain ⟨R, hRR⟩ : ∃ R, (cli A k).2 = R := ⟨_, rfl⟩
    have hlen := HL8.out k
    have HRI : Hid (Rise R) := Lib.hid (hRR ▸ HR.out k)
    rw [hRR] at hlen
    obtain ⟨len, hlen2⟩ : ∃ len, R.length = len := ⟨_, rfl⟩
    rw [hlen2] at hlen
    have HRR := Lib.hid hRR; have HLE := Lib.hid hlen2
    have HTA : Hid (∀ q, getS R an = q → tellA A aa = (match q with | none => 4 | some r => if r.done then 5 else 0)) := Lib.hid (fun q hq => by
      rw [← HA.out]
      unfold tellA
      rw [HA.out, if_pos hok.out, ← HA.out]
      unfold tellM
      show (match getS (cli A k).2 an with | none => (4 : Int) | some r => if r.done then 5 else 0) = _
      rw [HRR.out, hq])
    have HTM : Hid (tellA A aa = tellM (cli A aa.c) aa.n) := Lib.hid (by unfold tellA; rw [if_pos hok.out])
    have HTN : Hid (tellA A aa ≠ 0 → tellT A aa = A) := Lib.hid (fun hne => by
      unfold tellT
      rw [if_neg]
      rw [Bool.and_eq_true, decide_eq_true_eq, ← HTM.out]
      exact fun e => hne e.2)
    have HTY : Hid (tellA A aa = 0 → ∀ d : Nat, cli (tellT A aa) d = if (k : Int) = d then ((cli A k).1, tellR R aa) else cli A d) := Lib.hid (fun h0 d => by
      have hc : aa.c = k := by rw [← HA.out]
      rw [cli_tell, hok.out, ← HTM.out, h0, hc, HRR.out]
      simp)
    obtain ⟨mk, sa, cap, -, -, hc2, hrow, hTS⟩ := HH.out.at_ k hk
    rw [hRR, hlen2] at hc2 hrow hTS
    have HROW := Lib.hid hrow; have HTS := Lib.hid hTS
    have hkI : (k : Int) < 64 := by omega
    have hk0 : (0 : Int) ≤ (k : Int) := by omega
    have hRD : Hid (∀ w', Fr (fun b => w.heap.size + 1 ≤ b) (w.alloc (.cells #[.int .i64 k, .int .i64 an, .int .i64 acode, .int .i64 ak] 31)) w' → Rd w' 7 sa len (rowcs R)) := Lib.hid (fun w' hf => (Rd.own hrow).fr hf (fun ad e hh => by
      have := HTL.out _ (HTS.out ad.block (by rw [e]; rfl)); omega))
    have q0 := cell_obj HB0.out 0 (.int .i64 k) rfl
    have HLN : Hid (len ≤ 128) := Lib.hid hlen
    obtain ⟨iR, hiR, hr0, hr1, hr2⟩ := info_parts infoRow
    clear hi hRR hlen hlen2 hrow hTS hno hfin
    go_enter Try.func19, Try.ntmps19
    go_upto_region 3 with (go_at_call 39; refine (hM.out _).mono ?_; rintro e w' ⟨rfl, rfl⟩)
    go_region_held3 (fun w' => w'.cell? ⟨w.heap.size, 0, none⟩ = some (.int .i64 k) ∧ w'.cell? ⟨g, 64 + k, none⟩ = some (.slice sa len cap)) (first | exact ⟨q0, hc2⟩ | exact ⟨(Fr.refl (fun _ => False) _).drew.cell q0 (fun h => h), (Fr.refl (fun _ => False) _).drew.cell hc2 (fun h => h)⟩ | exact ⟨((Fr.refl (fun _ => False) _).alloc _).drew.cell q0 (fun h => h), ((Fr.refl (fun _ => False) _).alloc _).drew.cell hc2 (fun h => h)⟩ | exact ⟨hF1.cell q0 (by show ¬ w.heap.size + 1 ≤ w.heap.size; omega), hF1.cell hc2 (by show ¬ w.heap.size + 1 ≤ g; have := HTL.out g HH.out.own; omega)⟩)
      ((refine step_append_src rfl (.tmp 23) (.tmp 30) 50 rfl (w.heap.size + 1) 86 iR _ 56 Try.underlying50 hiR hr0 hr1 hr2 rfl (by decide) _ 0 [] (by rfl) (by first | exact (Fr.refl (fun _ => False) _).drew.row (own_none' (by simp) (by omega)) (fun _ _ h => h) | exact own_none' (by simp) (by omega)) cap (by rfl) (hRD.out _ (by (repeat (first | (with_reducible assumption) | (with_reducible exact Fr.refl _ _) | (with_reducible refine Fr.alloc ?_ _) | (with_reducible refine Fr.drew ?_) | (with_reducible refine Fr.setCell ?_ (fun h => absurd h (Nat.not_lt.2 ?_)) _) | (exact Nat.le_refl _) | (exact Fr.size (by assumption)))))) (fun u hu => rowcs_one hu) (by have := HLN.out; unfold maxLen; omega) (by have := HLN.out; omega) (by simp <;> omega) ?_
        intro v1 w1 hown1 hgrow1 hloc1
        rw [Nat.zero_add, List.nil_append] at hown1
        obtain ⟨a1, c1, rfl⟩ := row_sl hown1
        have hF1 : Fr (fun b => w.heap.size + 1 ≤ b) (w.alloc (.cells #[.int .i64 k, .int .i64 an, .int .i64 acode, .int .i64 ak] 31)) w1 := Fr.trans (by (repeat (first | (with_reducible assumption) | (with_reducible exact Fr.refl _ _) | (with_reducible refine Fr.alloc ?_ _) | (with_reducible refine Fr.drew ?_) | (with_reducible refine Fr.setCell ?_ (fun h => absurd h (Nat.not_lt.2 ?_)) _) | (exact Nat.le_refl _) | (exact Fr.size (by assumption))))) (Fr.grown hgrow1 (by intro r hr _; cases hr; simp))))
    all_goals
      have hG1 : g < w.heap.size := HTL.out g HH.out.own
      have HH1 := Lib.hid (HH.out.fr hF1 (fun b hb e => by have := HTL.out b hb; omega))
      have HB1 := Lib.hid (hF1.at_ HB0.out (by omega))
      have HO1 := Lib.hid hown1
      have HF1 := Lib.hid hF1
      clear hF1 hown1 hgrow1 hloc1 q0 hc2 hRD
      go_wp2_with fail
      go_loopw [6] (fun i wr => ∃ j : Nat, j ≤ len ∧ i = .int .i64 j ∧ (∀ q ∈ R.take j, q.1 ≠ an) ∧ Fr (fun _ => False) w1 wr) (fun i _ => len - (intOf i).toNat)
      case atStart => exact ⟨0, Nat.zero_le _, rfl, by simp, Fr.refl _ _⟩
      case round =>
        obtain ⟨j, hj, rfl, hbel, hfr⟩ := hrel
        have HBEL := Lib.hid hbel; have HFR := Lib.hid hfr
        have hbx := hfr.at_ HB1.out (fun h => h)
        have b0 := cell_obj hbx 0 (.int .i64 k) rfl
        have b1 := cell_obj hbx 1 (.int .i64 an) rfl
        have b2 := cell_obj hbx 2 (.int .i64 acode) rfl
        have b3 := cell_obj hbx 3 (.int .i64 ak) rfl
        have HLNI : (len : Int) ≤ 128 := by have := HLN.out; omega
        clear hbel hfr hbx
        by_cases hjl : j < len
        · obtain ⟨q, hq⟩ : ∃ q, R[j]? = some q := ⟨R[j]'(by rw [HLE.out]; exact hjl), List.getElem?_eq_getElem _⟩
          have hO := HFR.out.row HO1.out (fun _ _ h => h)
          obtain ⟨gp, rfl, hcap, hcells⟩ := row_cells hO (by omega)
          have HO := Lib.hid hO
          obtain ⟨num, ⟨mx, dn, ⟨xc, xn, xcode, xk⟩⟩⟩ := q
          have d0 := hcells j _ hq 0 _ rfl
          have d2 := hcells j _ hq 2 _ rfl
          have d3 := hcells j _ hq 3 _ rfl
          have d4 := hcells j _ hq 4 _ rfl
          have d5 := hcells j _ hq 5 _ rfl
          have d6 := hcells j _ hq 6 _ rfl
          have fz := fun i => hO.frozenAt i
          rw [Nat.add_zero] at d0
          dsimp only at d0 d2 d3 d4 d5 d6
          have HQ := Lib.hid hq
          have hjI : (j : Int) < len := by omega
          have hgp : gp ≠ w.heap.size ∧ gp ≠ g := by
            have := (hO.lt gp rfl).1
            omega
          have HCELLS := Lib.hid hcells
          clear hcells hq hO
          by_cases hnum : num = an
          · obtain rfl := hnum.symm
            have hne : (an != an) = false := by simp
            have hget : getS R an = some ⟨mx, dn, ⟨xc, xn, xcode, xk⟩⟩ := by
              refine getS_of ?_ (List.mem_of_getElem? HQ.out)
              exact HRI.out.imp (fun {p q} e => by have e : p.1 < q.1 := e; omega)
            have HGS := Lib.hid hget
            clear hget
            cases dn with
            | true =>
              have h5 : Hid (tellA A aa = 5) := Lib.hid (by rw [HTA.out _ HGS.out]; rfl)
              go_wp2_with fail
              go_quiet (fail)
              go_wp2_with fail
              go_ret
              exact ⟨by rw [h5.out]; rfl, TS, by rw [HTN.out (by rw [h5.out]; decide)]; exact HH1.out.fr (HFR.out.drewN _) (fun _ _ h => h), ⟨((HF.out.mono (fun _ _ e => e.elim)).trans' HF1.out (fun b hb e => by omega)).trans' (HFR.out.drewN _) (fun _ _ e => e.elim), fun b hb => .inl hb⟩⟩
            | false =>
              have h5 : Hid (tellA A aa = 0) := Lib.hid (by rw [HTA.out _ HGS.out]; rfl)
              go_wp2_with fail
              go_quiet (fail)
              go_wp2_with fail
              go_region
              all_goals
                obtain ⟨W5, hW5, hO5, hF5⟩ := told_world ⟨k, an, acode, ak⟩ (nq + 1) HO.out HLE.out HQ.out
                dsimp only at hW5
                rw [hW5]
                have hFw5 : Fr (fun b => w.heap.size ≤ b) w W5 := by
                  refine Fr.trans' (((HF.out.mono (fun _ _ e => e.elim)).trans' HF1.out (fun b hb e => by omega)).trans' HFR.out (fun _ _ e => e.elim)) hF5 (fun b hb e => ?_)
                  have := (HO.out.lt gp rfl).1
                  omega
                have hRT5 := (HH1.out.fr HFR.out (fun _ _ h => h)).fr hF5 (fun b hb e => by have := HTL.out b hb; have := (HO.out.lt gp rfl).1; omega)
                have hb5 := hF5.at_ (HFR.out.at_ HB1.out (fun h => h)) (fun e => hgp.1 e.symm)
                have e0 := cell_obj hb5 0 (.int .i64 k) rfl
                obtain ⟨mk5, sa5, cap5, -, -, hc5, -⟩ := hRT5.at_ k hk
                have hf5 := hRT5.frozen (64 + k)
                have hR5 : tellR R aa = R.take j ++ (an, ⟨mx, true, ⟨k, an, acode, ak⟩⟩) :: R.drop (j + 1) := by
                  rw [← HA.out]
                  unfold tellR
                  dsimp only
                  rw [HGS.out]
                  exact rise_put_at HRI.out HQ.out
                obtain ⟨TS', hp1, hp2⟩ := row_put hRT5 HTL.out (hFw5.mono (fun b hb e => by omega)) (Nat.le_succ w.heap.size) hk hO5 (A' := tellT A aa) (fun d hd hdk => by rw [HTY.out h5.out, if_neg (by omega)]) (by rw [HTY.out h5.out, if_pos rfl]) (by rw [HTY.out h5.out, if_pos rfl]; exact hR5)
                have HP1 := Lib.hid hp1; have HP2 := Lib.hid hp2
                clear hp1 hp2 hR5 hRT5 hO5 hFw5 hF5 hW5 hb5 fz b0 b1 b2 b3 d0 d2 d3 d4 d5 d6
                go_wp2_with fail
                go_region
                all_goals
                  go_wp2_with fail
                  go_ret
                  exact ⟨by rw [h5.out]; rfl, TS', HP1.out.fr (Fr.refl (fun _ => False) _).drew (fun _ _ h => h), ⟨HP2.out.1.drew, HP2.out.2⟩⟩
          · have hne : (num != an) = true := by simpa using hnum
            have HNE := Lib.hid hnum
            clear hnum
            go_wp2_with fail
            go_quiet (fail)
            go_wp2_with fail
            go_roundw
            case rel =>
              refine ⟨j + 1, by omega, by go_num, fun q hq => ?_, HFR.out.drewN _⟩
              rw [List.take_add_one, HQ.out] at hq
              rcases List.mem_append.1 hq with hq | hq
              · exact HBEL.out q hq
              · simp at hq; subst hq; exact HNE.out
            case measure => simp [intOf]; omega
        · have hall : getS R an = none := getS_none.2 (fun p hp => HBEL.out p (by rw [List.take_of_length_le (by rw [HLE.out]; omega)]; exact hp))
          have h5 : Hid (tellA A aa = 4) := Lib.hid (HTA.out _ hall)
          clear hall
          go_wp2_with fail
          go_ret
          exact ⟨by rw [h5.out]; rfl, TS, by rw [HTN.out (by rw [h5.out]; decide)]; exact HH1.out.fr HFR.out (fun _ _ h => h), ⟨((HF.out.mono (fun _ _ e => e.elim)).trans' HF1.out (fun b hb e => by omega)).trans' HFR.out (fun _ _ e => e.elim), fun b hb => .inl hb⟩⟩
end Go.Proofs.Ytakjiicnbocjeaa
