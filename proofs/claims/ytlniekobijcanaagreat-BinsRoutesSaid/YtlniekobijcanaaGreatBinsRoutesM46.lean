/- entrepotref27: apart, Way. -/
import Derived.Test.YtlniekobijcanaaGreatBinsRoutesM45
import Derived.Test.YtlniekobijcanaaGreatBinsRoutesM30
namespace Go.Proofs.YtlniekobijcanaaGreat
open Go.RowKit Go.Maps
theorem rApart (w : World) (a b : Int) (ha : 0 ≤ a ∧ a ≤ 4096) (hb : 0 ≤ b ∧ b ≤ 4096) : Calls Tryz.prog 45 #[.int .i64 a, .int .i64 b] w fun e w' => e = .returned (.int .i64 (apartI a b)) ∧ w = w' := by
  by_cases h : a < b
  · have hr : apartI a b = b - a := by unfold apartI; rw [if_pos h]
    have hw : IntKind.i64.wrap (b - a) = b - a := IntWalk.i64_in _ ⟨by omega, by omega⟩
    have HR := Lib.hid hr
    clear hr
    go_enter Tryz.func45, Tryz.ntmps45
    go_wp2_with fail
    go_ret
    exact ⟨by rw [HR.out]; first | rfl | rw [hw], rfl⟩
  · have hr : apartI a b = a - b := by unfold apartI; rw [if_neg h]
    have hw : IntKind.i64.wrap (a - b) = a - b := IntWalk.i64_in _ ⟨by omega, by omega⟩
    have HR := Lib.hid hr
    clear hr
    go_enter Tryz.func45, Tryz.ntmps45
    go_wp2_with fail
    go_ret
    exact ⟨by rw [HR.out]; first | rfl | rw [hw], rfl⟩
set_option maxRecDepth 100000 in
set_option maxHeartbeats 8000000 in
theorem rWay (w : World) (g : Nat) (v : Value) (L : List BV) (l : List PV) (hF : Rl w g L) (hok : ∀ x ∈ L.map BV.e, BEok x) (h : Pl w v l) (hl : l.length ≤ 100000) :
    Calls Tryz.prog 17 #[.pointer (some ⟨g, 0, none⟩), v] w fun e w' => e = .returned (.int .i64 (wayE (L.map BV.e) l)) ∧ Fr (fun _ => False) w w' := by
  have hrt := Lib.hid (rRoute w g v L l hF (fun b hb => (hok b.e (List.mem_map_of_mem hb)).zo.1) h hl)
  have hop : Hid (∀ x ∈ routeE (L.map BV.e) l, okPv w x) := Lib.hid (fun x hx => h.okm ((List.mem_filter.1 ((stab_perm _ _).mem_iff.1 hx)).1))
  have HF := Lib.hid hF; have HOKL := Lib.hid hok
  have hfd := Lib.hid (fun W n (hf : Fr (fun _ => False) w W) => rFind W g L n (hF.keep hf))
  obtain ⟨va, vl, vc, rfl⟩ : ∃ a n c, v = .slice a n c := by obtain ⟨a, c, e⟩ := h.sl; exact ⟨a, _, c, e⟩
  obtain ⟨R, hR⟩ : ∃ R, routeE (L.map BV.e) l = R := ⟨_, rfl⟩
  have hres : Hid ((wayG (L.map BV.e) R).1 = wayE (L.map BV.e) l) := Lib.hid (by rw [← hR]; rfl)
  have hthere : Hid (∀ p ∈ R, ∃ b, binE (L.map BV.e) p.b = some b) := Lib.hid (fun p hp => by
    rw [← hR] at hp
    exact routeE_in hp)
  have hlen : R.length ≤ 100000 := by
    rw [← hR]
    exact Nat.le_trans (routeE_len _ _) hl
  obtain ⟨N, hN⟩ : ∃ N, R.length = N := ⟨_, rfl⟩
  have HN := Lib.hid hN
  obtain ⟨RES, hRES⟩ : ∃ r, wayE (L.map BV.e) l = r := ⟨_, rfl⟩
  rw [hRES] at hres ⊢
  rw [hR] at hrt hop
  rw [hN] at hlen hrt
  clear hF hok h hl hR hRES hN
  go_enter Tryz.func17, Tryz.ntmps17
  go_wp2_with fail
  refine hrt.out.mono ?_
  rintro e w2 ⟨v2, rfl, ho2, hf2⟩
  have hp2 : Pl w2 v2 R := Sq.own pvSize (by rw [HN.out]; exact ho2) hop.out
  obtain ⟨a2, vc2, rfl⟩ := hp2.sl
  have hN := HN.out
  rw [hN] at hp2 ⊢
  have HP2 := Lib.hid hp2; have HF2 := Lib.hid hf2
  clear hp2 hf2 hN ho2
  go_wp2_with fail
  go_loopw [6, 7, 8, 9] (fun va vz vb vi wr => ∃ (k : Nat) (S : Int × Int × Int), k ≤ N ∧ va = .int .i64 S.1 ∧ vz = .int .i64 S.2.2 ∧ vb = .int .i64 S.2.1 ∧ vi = .int .i64 k ∧ S = wayG (L.map BV.e) (R.take k) ∧ Fr (fun _ => False) w wr ∧ Pl wr (.slice a2 N vc2) R) (fun _ _ _ vi _ => N - (intOf vi).toNat)
  case atStart => exact ⟨0, (0, 0, 0), Nat.zero_le _, rfl, rfl, rfl, rfl, rfl, HF2.out, HP2.out⟩
  case round =>
    obtain ⟨k, S, hk, rfl, rfl, rfl, rfl, hS, hfr, hpl⟩ := hrel
    have HFR := Lib.hid hfr; have HPL := Lib.hid hpl; have HS := Lib.hid hS
    by_cases hlt : k < N
    · obtain ⟨p, hp⟩ : ∃ p, R[k]? = some p := ⟨R[k]'(by rw [HN.out]; exact hlt), List.getElem?_eq_getElem _⟩
      have hkI : (k : Int) < N := by omega
      obtain ⟨ad, rfl, hok, z0, zs⟩ := hpl.at_ hp
      have v0 := z0 (.int .i64 p.b) rfl
      have HP := Lib.hid hp
      obtain ⟨jj, X, hjL, hjF, hjB⟩ : ∃ (j : Nat) (X : BV), L[j]? = some X ∧ findF L p.b = (j : Int) ∧ binE (L.map BV.e) p.b = some X.e := by
        obtain ⟨b, hb⟩ := hthere.out p (List.mem_of_getElem? HP.out)
        rcases idxOf_cases (fun b : BV => decide (b.nu = p.b)) L with ⟨-, k2, -⟩ | ⟨i, A, k1, -, k3, k4⟩
        · have k2 : binF L p.b = none := k2
          rw [binE_e, k2] at hb; cases hb
        · exact ⟨i, A, k1, k3, by rw [binE_e]; show (binF L p.b).map BV.e = _; rw [show binF L p.b = some A from k4]; rfl⟩
      have HT := Lib.hid (wayG_take HP.out hjB)
      have HBO := Lib.hid (HOKL.out X.e (List.mem_map.2 ⟨X, List.mem_of_getElem? hjL, rfl⟩))
      have HIN := Lib.hid (wayG_in HOKL.out (R.take k))
      have HJF := Lib.hid hjF
      obtain ⟨fa, fc, q1, q2⟩ := HF.out.keep HFR.out
      have hjN := (List.getElem?_eq_some_iff.1 hjL).1
      obtain ⟨M, hM⟩ : ∃ M, L.length = M := ⟨_, rfl⟩
      have hMI := q2.len
      rw [hM] at q1 q2 hjN hMI
      have hjI : (jj : Int) < M := by omega
      obtain ⟨fd, rfl, okA, y0, ys⟩ := q2.at_ hjL
      have u0 := cell_obj q1 0 (.slice (some fd) M fc) rfl
      have u1 := y0 (.int .i64 X.nu) rfl
      have u2 := ys 0 (.int .i64 X.zo) rfl
      have u3 := ys 1 (.int .i64 X.ro) rfl
      obtain ⟨fj, hfj⟩ : ∃ x, fd.add (jj * 4) = x := ⟨_, rfl⟩
      rw [hfj] at u1 u2 u3
      clear q1 q2 y0 ys okA hjL hjF hjB hM hpl z0 zs hok hfr hp hS
      go_wp2_with fail
      refine wp_region_box [⟨14, 10, 36, #[.int .i64 0, .int .i64 0, .int .i64 0], 15, 33⟩] (by kernel_rfl) rfl (by kernel_rfl) (by kernel_rfl) (by kernel_rfl) ?al ?_
      case al =>
        intro b hb w
        simp only [List.mem_cons, List.not_mem_nil, or_false] at hb
        rcases hb with rfl
        kernel_rfl
      apply Exists.intro
      refine ⟨?hh, ?st, ?qq⟩
      case hh =>
        intro X
        have q0 := FrW.cell (X.fr.cell u0 (fun e => e)); have q1 := FrW.cell (X.fr.cell u1 (fun e => e)); have q2 := FrW.cell (X.fr.cell u2 (fun e => e)); have q3 := FrW.cell (X.fr.cell u3 (fun e => e)); have r0 := FrW.cell (X.fr.cell v0 (fun e => e))
        simp (config := { decide := true }) only [boxedF, bxIdx, List.flatMap_cons, List.flatMap_nil, List.cons_append, List.nil_append, idleU, if_true, if_false, ite_true, ite_false]
        repeat (go_big_quiet_step ((go_at_call 42; rename_i Y; refine (hfd.out Y.val _ (HFR.out.trans (X.fr.trans Y.fr))).mono ?_; rw [HJF.out]; rintro e w2 ⟨rfl, hF⟩; exact ⟨rfl, ⟨w2, Y.fr.trans hF⟩, rfl⟩)))
        exact wpQuiet_nil rfl
      case st =>
        intro b hb w n hw
        simp only [List.mem_cons, List.not_mem_nil, or_false] at hb
        rcases hb with rfl
        exact box_store (cs := #[.int .i64 X.nu, .int .i64 X.zo, .int .i64 X.ro]) hw rfl (by kernel_rfl) (by intro u hu; simp only [List.mem_cons, List.not_mem_nil, or_false] at hu; rcases hu with rfl | rfl | rfl <;> rfl)
      case qq =>
        intro m wz hfz hbx hdiff
        have hb9 : wz.heap[m 14]? = some (.cells #[.int .i64 X.nu, .int .i64 X.zo, .int .i64 X.ro] 36) := (hbx _ (List.mem_cons_self)).2
        obtain ⟨b9, hb9e⟩ : ∃ b, m 14 = b := ⟨_, rfl⟩
        rw [hb9e] at hb9
        have HFZ := Lib.hid (HFR.out.trans hfz)
        have HB9 := Lib.hid hb9
        have HPLZ := Lib.hid (HPL.out.fr0 okPvKeeps hfz)
        have y1 := cell_obj hb9 0 (.int .i64 X.nu) rfl
        have y2 := cell_obj hb9 1 (.int .i64 X.zo) rfl
        simp only [bPuts, List.foldl_cons, List.foldl_nil, Act.put, bPtr, hb9e]
        clear hbx hdiff hfz hb9 u0 u1 u2 u3 v0
        simp only [List.setIfInBounds_toArray, List.set_cons_succ, List.set_cons_zero]
        have HS' := HS.out
        rw [← HS'] at HT HIN
        obtain ⟨⟨N', hN', i1, i2⟩, i3, i4⟩ := HIN.out
        have hNN : N' ≤ 100000000 := by rw [hN', List.length_take]; omega
        have b1 := HBO.out.nu; have b2 := HBO.out.zo
        have a1 := apartI_in (a := X.zo) (b := S.2.2) (by show 0 ≤ X.e.zo ∧ X.e.zo ≤ 4096; omega) (by omega)
        have a2 := apartI_in (a := X.nu) (b := S.2.1) (by show 0 ≤ X.e.nu ∧ X.e.nu ≤ 4096; omega) (by omega)
        have hkZ := Lib.hid (fun W => rApart W X.zo S.2.2 (by show 0 ≤ X.e.zo ∧ X.e.zo ≤ 4096; omega) (by omega))
        have hkN := Lib.hid (fun W => rApart W X.nu S.2.1 (by show 0 ≤ X.e.nu ∧ X.e.nu ≤ 4096; omega) (by omega))
        obtain ⟨AZ, hAZ⟩ : ∃ x, apartI X.zo S.2.2 = x := ⟨_, rfl⟩
        obtain ⟨AN, hAN⟩ : ∃ x, apartI X.nu S.2.1 = x := ⟨_, rfl⟩
        have hwS : wayS X.e S = (S.1 + (100 * AZ + AN), X.nu, X.zo) := by unfold wayS; rw [← hAZ, ← hAN]; rfl
        rw [hwS] at HT
        rw [hAZ] at a1 hkZ; rw [hAN] at a2 hkN
        obtain ⟨S1, S2, S3⟩ := S
        dsimp only at *
        clear hAZ hAN hwS HS' hN' b1 b2
        have y1 := FrW.cell y1; have y2 := FrW.cell y2
        go_wp2_with fail
        refine wp_region_fr (by kernel_rfl) (by kernel_rfl) ?_
        repeat (go_big_quiet_step ((go_at_call 45; rename_i X; (first | (with_reducible refine (hkZ.out X.val).mono ?_) | (with_reducible refine (hkN.out X.val).mono ?_)); rintro e w2 ⟨rfl, rfl⟩; exact ⟨rfl, ⟨_, X.fr⟩, rfl⟩)))
        refine wpQuiet_nil ?_
        rintro V ⟨⟨_, hV⟩, rfl⟩
        have hbV := hV.at_ HB9.out (fun e => e)
        clear y1 y2
        have HFV := Lib.hid (HFZ.out.trans hV)
        have HPLV := Lib.hid (HPLZ.out.fr0 okPvKeeps hV)
        have y1 := cell_obj hbV 0 (.int .i64 X.nu) rfl
        have y2 := cell_obj hbV 1 (.int .i64 X.zo) rfl
        have y1 := FrW.cell y1; have y2 := FrW.cell y2
        clear hbV hV
        go_wp2_with fail
        refine wp_region_fr (by kernel_rfl) (by kernel_rfl) ?_
        repeat (go_big_quiet_step (fail))
        refine wpQuiet_nil ?_
        rintro V2 ⟨⟨_, hV2⟩, rfl⟩
        have HFV2 := Lib.hid (HFV.out.trans hV2)
        have HPLV2 := Lib.hid (HPLV.out.fr0 okPvKeeps hV2)
        clear y1 y2 hV2
        go_wp2_with fail
        go_roundw
        case rel => exact ⟨k + 1, (S1 + (100 * AZ + AN), X.nu, X.zo), by omega, by first | rfl | (rw [← Int.add_assoc]), rfl, rfl, by go_num, HT.out.symm, HFV2.out, HPLV2.out⟩
        case measure => simp [intOf]; omega
    · obtain rfl : k = N := by omega
      have hkI : ¬ (k : Int) < k := by omega
      have hr2 : Hid (S.1 = RES) := Lib.hid (by rw [HS.out, List.take_of_length_le (by rw [HN.out]; exact Nat.le_refl _)]; exact hres.out)
      clear hfr hS hpl
      go_wp2_with fail
      go_ret
      exact ⟨by rw [hr2.out]; rfl, HFR.out⟩
end Go.Proofs.YtlniekobijcanaaGreat
