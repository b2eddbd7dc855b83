/- entrepotref25.Wanted (written by wip/tools/md28.py). -/
import Derived.Test.YtbeikkkmobbnkaaGreatModGroupsM50
namespace Go.Proofs.YtbeikkkmobbnkaaGreat
open Go.RowKit Go.Maps
theorem want_all (o : Int) (L : List AV) : (rightL L).find? (isW o) = L.find? (isW o) := by
  unfold rightL
  induction L with
  | nil => rfl
  | cons a r ih =>
    by_cases hm : a.may = true
    · rw [List.filter_cons_of_pos hm, List.find?_cons, List.find?_cons, ih]
    · rw [List.filter_cons_of_neg hm, ih, List.find?_cons]
      have : isW o a = false := by
        unfold isW ordF
        rw [if_neg (by simp [hm])]
        rfl
      rw [this]
set_option maxRecDepth 100000 in
set_option maxHeartbeats 8000000 in
theorem r25Wanted (w : World) (od : Int) (v : Value) (L : List AV) (h : Al w v L) : Calls Tryz.prog 22 #[.int .i64 od, v] w fun e w' => ∃ v', e = .returned v' ∧ Il w' v' (wantF od L) ∧ Fr (fun _ => False) w w' := by
  have HL := Lib.hid h
  have hNI := h.len
  obtain ⟨va, vc, rfl⟩ := h.sl
  obtain ⟨N, hN⟩ : ∃ N, L.length = N := ⟨_, rfl⟩
  rw [hN] at HL hNI ⊢
  have HN := Lib.hid hN
  have hW : Hid (wantF od L = match L.find? (isW od) with | some a => a.its | none => []) := Lib.hid (by unfold wantF; rw [want_all]; cases L.find? (isW od) <;> rfl)
  obtain ⟨Z, hZ⟩ : ∃ Z, wantF od L = Z := ⟨_, rfl⟩
  rw [hZ] at hW ⊢
  clear h hN hZ
  go_enter Tryz.func22, Tryz.ntmps22
  go_wp2_with fail
  go_loopw [5] (fun i wr => ∃ k : Nat, k ≤ N ∧ i = .int .i64 k ∧ (L.take k).find? (isW od) = none ∧ Fr (fun _ => False) w wr) (fun i _ => N - (intOf i).toNat)
  case atStart => exact ⟨0, Nat.zero_le _, rfl, rfl, Fr.refl _ _⟩
  case round =>
    obtain ⟨k, hk, rfl, hno, hfr⟩ := hrel
    have HFR := Lib.hid hfr; have HNO := Lib.hid hno
    clear hno
    by_cases hlt : k < N
    · obtain ⟨p, hp⟩ : ∃ p, L[k]? = some p := ⟨L[k]'(by rw [HN.out]; exact hlt), List.getElem?_eq_getElem _⟩
      have hlI : (k : Int) < N := by omega
      obtain ⟨ad, rfl, hok, z0, zs⟩ := (HL.out.fr0 aokKeeps hfr).at_ hp
      have HOK := Lib.hid hok
      have hone := avOne hok
      obtain ⟨la, lc, hl⟩ := hok.l.sl
      obtain ⟨P, hP⟩ : ∃ P : AV, P = p := ⟨_, rfl⟩
      rw [← hP] at hp HOK hone
      obtain ⟨c, n, kd, o, r, t, m, g, l, its⟩ := p
      dsimp only at hl
      subst hl
      have x0 := z0 (.int .i64 c) rfl
      have x1 := zs 0 (.int .i64 n) rfl
      have x2 := zs 1 (.int .i64 kd) rfl
      have x3 := zs 2 (.int .i64 o) rfl
      have x4 := zs 3 (.int .i64 r) rfl
      have x5 := zs 4 (.int .i64 t) rfl
      have x6 := zs 5 (.int .i64 m) rfl
      have x7 := zs 6 (vS g) rfl
      have x8 := zs 7 (.slice la its.length lc) rfl
      dsimp only [Nat.zero_add, Nat.reduceAdd] at x0 x1 x2 x3 x4 x5 x6 x7 x8
      have hcs : P.cs = #[.int .i64 c, .int .i64 n, .int .i64 kd, .int .i64 o, .int .i64 r, .int .i64 t, .int .i64 m, vS g, .slice la its.length lc] := by rw [hP]; rfl
      have hPc : P.c = c := by rw [hP]
      have hPn : P.n = n := by rw [hP]
      have hPk : P.k = kd := by rw [hP]
      have hPo : P.o = o := by rw [hP]
      have hPi : P.its = its := by rw [hP]
      have hPg : P.g = g := by rw [hP]
      have hPl : P.l = .slice la its.length lc := by rw [hP]
      obtain ⟨M, hM⟩ : ∃ M, its.length = M := ⟨_, rfl⟩
      rw [hM] at x8 hcs hPl
      rw [hcs] at hone
      have HP := Lib.hid hp
      have HCS := Lib.hid hcs
      have HONE := Lib.hid hone
      have HPC := Lib.hid hPc
      have HPN := Lib.hid hPn
      have HPK := Lib.hid hPk
      have HPO := Lib.hid hPo
      have HPI := Lib.hid hPi
      have HPG := Lib.hid hPg
      have HPL := Lib.hid hPl
      have HM := Lib.hid hM
      clear hp hok hone z0 zs hP hcs hPc hPn hPk hPo hPi hPg hPl hM
      have hOrd : Hid (Calls Tryz.prog 41 #[.agg #[.int .i64 c, .int .i64 n, .int .i64 kd, .int .i64 o, .int .i64 r, .int .i64 t, .int .i64 m, vS g, .slice la M lc]] wr fun e w' => e = .returned (.int .i64 (ordF P)) ∧ Fr (fun _ => False) wr w') := Lib.hid (by
        have := r25Order wr P HOK.out
        rw [HCS.out] at this; exact this)
      have hcE : Hid (∀ W, Fr (fun _ => False) wr W → W.cell? ⟨(ad.add (k * 9)).block, (ad.add (k * 9)).off + 8, none⟩ = some (.slice la M lc)) := Lib.hid (fun W hf => hf.cell x8 (fun h => h))
      have hPl : Hid (∀ W, Fr (fun _ => False) wr W → Il W (.slice la M lc) P.its) := Lib.hid (fun W hf => by have := (aokKeeps HOK.out hf (fun _ h => h.elim)).l; rw [HPL.out] at this; exact this)
      obtain ⟨OP, hOP⟩ : ∃ OP, ordF P = OP := ⟨_, rfl⟩
      rw [hOP] at hOrd
      have hisW : Hid (isW od P = (decide (0 < OP) && decide (OP = od))) := Lib.hid (by unfold isW; rw [hOP])
      clear hfr hOP
      by_cases hpos : 0 < od
      · by_cases heq : OP = od
        · have b1 : (OP == od) = true := by simpa using heq
          have hyes : Hid (Z = P.its) := Lib.hid (by rw [hW.out, find_take_yes HNO.out HP.out (by rw [hisW.out, decide_eq_true heq, decide_eq_true (by omega)]; rfl)])
          clear heq
          go_wp2_with (go_at_call 41; refine hOrd.out.mono ?_; rintro e w3 ⟨rfl, hf3⟩; have HF3 := Lib.hid hf3; have y8 := hcE.out _ hf3; clear hf3)
          go_ret
          exact ⟨_, rfl, by rw [hyes.out]; exact hPl.out _ HF3.out, HFR.out.trans HF3.out⟩
        · have b1 : (OP == od) = false := by simpa using heq
          have hnx : Hid ((L.take (k + 1)).find? (isW od) = none) := Lib.hid (find_take_no HNO.out HP.out (by rw [hisW.out, decide_eq_false heq]; simp))
          clear heq
          go_wp2_with (go_at_call 41; refine hOrd.out.mono ?_; rintro e w3 ⟨rfl, hf3⟩; have HF3 := Lib.hid hf3; clear hf3)
          go_roundw
          case rel => exact ⟨k + 1, by omega, by go_num, hnx.out, HFR.out.trans HF3.out⟩
          case measure => simp [intOf]; omega
      · have b1 : decide (0 < od) = false := by simp; omega
        have hnx : Hid ((L.take (k + 1)).find? (isW od) = none) := Lib.hid (find_take_no HNO.out HP.out (by
          rw [hisW.out]
          by_cases e : OP = od
          · rw [decide_eq_false (by omega)]; rfl
          · rw [decide_eq_false e]; simp))
        clear hpos
        go_wp2_with fail
        go_roundw
        case rel => exact ⟨k + 1, by omega, by go_num, hnx.out, HFR.out⟩
        case measure => simp [intOf]; omega
    · obtain rfl : k = N := by omega
      have hno := HNO.out
      rw [List.take_of_length_le (by rw [HN.out]; exact Nat.le_refl _)] at hno
      have hZ : Hid (Z = []) := Lib.hid (by rw [hW.out, hno])
      have hlI : ¬ (k : Int) < k := by omega
      clear hfr hno
      go_wp2_with fail
      go_ret
      exact ⟨_, rfl, by rw [hZ.out]; exact ⟨by simp, none, 0, rfl, fun i p hp => by simp at hp⟩, HFR.out⟩
end Go.Proofs.YtbeikkkmobbnkaaGreat
