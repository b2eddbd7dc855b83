/- entrepotref25.moves (written by wip/tools/md24.py). -/
import Derived.Test.YtbeikkkmobbnkaaGreatModMoreM3
namespace Go.Proofs.YtbeikkkmobbnkaaGreat
open Go.RowKit Go.Maps
theorem may_ship {a : AV} (h : a.may = true) (hk : a.k = 4) : 0 < a.o := by
  unfold AV.may at h
  simp only [Bool.and_eq_true] at h
  have h2 := h.1.1.1.1.1.2
  unfold AV.ro rightB at h2
  rw [hk, if_pos (by decide)] at h2
  have := (wiB_iff.1 h2).1
  omega
set_option maxRecDepth 100000 in
set_option maxHeartbeats 8000000 in
theorem r25moves (w : World) (a : AV) (kind : Int) (gd : Str) (v : Value) (L : List AV) (hk : AOk w a) (hmy : a.may = true) (h : Al w v L) : Calls Tryz.prog 28 #[.agg a.cs, .int .i64 kind, vS gd, v] w fun e w' => e = .returned (.int .i64 (movF a kind gd L)) ∧ Fr (fun _ => False) w w' := by
  obtain ⟨n0, hn0⟩ : ∃ n0, w.heap.size = n0 := ⟨_, rfl⟩
  have HS := Lib.hid hn0
  have HL := Lib.hid h
  obtain ⟨va, vc, rfl⟩ := h.sl
  obtain ⟨N, hN⟩ : ∃ N, L.length = N := ⟨_, rfl⟩
  have hNI := h.len
  rw [hN] at HL hNI ⊢
  have HN := Lib.hid hN
  obtain ⟨A, hA⟩ : ∃ A : AV, A = a := ⟨_, rfl⟩
  have hAK : Hid (AOk w A) := Lib.hid (by rw [hA]; exact hk)
  have hAo0 : Hid (A.k = 4 → 0 < A.o) := Lib.hid (by rw [hA]; exact may_ship hmy)
  obtain ⟨ac, an, ak, ao, ar, at_, am, ag, al, aits⟩ := a
  obtain ⟨ala, alc, hl⟩ := hk.l.sl
  dsimp only at hl
  subst hl
  obtain ⟨aM, hM⟩ : ∃ M, aits.length = M := ⟨_, rfl⟩
  have hcs : A.cs = #[.int .i64 ac, .int .i64 an, .int .i64 ak, .int .i64 ao, .int .i64 ar, .int .i64 at_, .int .i64 am, vS ag, .slice ala aM alc] := by rw [hA, ← hM]; rfl
  have hAk : A.k = ak := by rw [hA]
  have hAo : Hid (A.o = ao) := Lib.hid (by rw [hA])
  have hAi : Hid (∀ W, Fr (fun _ => False) w W → Il W (.slice ala aM alc) A.its) := Lib.hid (fun W hf => by have := hAK.out.l.fr hf (fun _ h => h.elim); rw [hA] at this ⊢; rw [← hM]; exact this)
  rw [← hA, hcs]
  obtain ⟨R, hR⟩ : ∃ R, movF A kind gd L = R := ⟨_, rfl⟩
  rw [hR]
  have HR := Lib.hid hR
  have HCS := Lib.hid hcs
  have HAK := Lib.hid hAk
  clear h hN hk hA hcs hR hM hAk hmy
  obtain ⟨W0, hW0⟩ : ∃ W0, w.alloc (.cells #[.int .i64 ac, .int .i64 an, .int .i64 ak, .int .i64 ao, .int .i64 ar, .int .i64 at_, .int .i64 am, vS ag, .slice ala aM alc] 50) = W0 := ⟨_, rfl⟩
  have hF0 : Fr (fun _ => False) w W0 := by rw [← hW0]; exact (Fr.refl _ w).alloc _
  have hb0 : W0.heap[n0]? = some (.cells #[.int .i64 ac, .int .i64 an, .int .i64 ak, .int .i64 ao, .int .i64 ar, .int .i64 at_, .int .i64 am, vS ag, .slice ala aM alc] 50) := by rw [← hW0]; exact heap_at hn0.symm _
  have y2 := cell_obj hb0 2 (.int .i64 ak) rfl
  have y8 := cell_obj hb0 8 (.slice ala aM alc) rfl
  have HF0 := Lib.hid hF0; have HB0 := Lib.hid hb0
  have hOf := Lib.hid (r6Of W0 _ A.its gd (hAi.out W0 hF0))
  clear hF0 hb0
  by_cases hkk : ak = kind
  · have hb : (ak != kind) = false := by simpa using hkk
    cases hm : isM kind with
    | true =>
      have hres : Hid (R = ofF A.its gd) := Lib.hid (by rw [← HR.out]; unfold movF; rw [if_pos (HAK.out.trans hkk), if_pos hm])
      have hk5 : kind = 6 ∨ kind = 5 ∨ kind = 8 ∨ kind = 9 ∨ kind = 10 := by simpa [isM, or_assoc] using hm
      clear hm hkk HR HAK
      rcases hk5 with rfl | rfl | rfl | rfl | rfl
      all_goals
        go_enter Tryz.func28, Tryz.ntmps28
        go_wp2_with (go_at_call 48; refine hOf.out.mono ?_; rintro e w1 ⟨rfl, rfl⟩)
        go_ret
        exact ⟨by rw [hres.out]; rfl, HF0.out⟩
    | false =>
      obtain ⟨e1, e2, e3, e4, e5⟩ : (kind == 6) = false ∧ (kind == 5) = false ∧ (kind == 8) = false ∧ (kind == 9) = false ∧ (kind == 10) = false := by
        simp [isM] at hm
        simp [hm]
      by_cases h4 : kind = 4
      · have hao : 0 < ao := by have := hAo0.out (HAK.out.trans (hkk.trans h4)); rw [hAo.out] at this; exact this
        have hres : Hid (R = mostF ao gd L) := Lib.hid (by rw [← HR.out]; unfold movF; rw [if_pos (HAK.out.trans hkk), if_neg (by simp [hm]), if_pos h4, hAo.out]; exact mostF_right hao gd L)
        clear hm hkk HR HAK e1 e2 e3 e4 e5 hOf
        subst h4
        go_enter Tryz.func28, Tryz.ntmps28
        go_wp2_with fail
        go_loopw [9, 10] (fun mo i wr => ∃ k : Nat, k ≤ N ∧ i = .int .i64 k ∧ mo = .int .i64 (mostF ao gd (L.take k)) ∧ Fr (fun _ => False) W0 wr) (fun _ i _ => N - (intOf i).toNat)
        case atStart => exact ⟨0, Nat.zero_le _, rfl, rfl, Fr.refl _ _⟩
        case round =>
          obtain ⟨k, hk, rfl, rfl, hfr⟩ := hrel
          have HFR := Lib.hid hfr
          by_cases hlt : k < N
          · obtain ⟨p, hp⟩ : ∃ p, L[k]? = some p := ⟨L[k]'(by rw [HN.out]; exact hlt), List.getElem?_eq_getElem _⟩
            have hlI : (k : Int) < N := by omega
            have HT := Lib.hid (mostF_take ao gd hp)
            obtain ⟨T, hT⟩ : ∃ T, mostF ao gd (L.take k) = T := ⟨_, rfl⟩
            rw [hT] at HT ⊢
            clear hT
            obtain ⟨ad, rfl, hok, z0, zs⟩ := (HL.out.fr0 aokKeeps (HF0.out.trans hfr)).at_ hp
            have HOK := Lib.hid hok
            have hone := avOne hok
            obtain ⟨la, lc, hl⟩ := hok.l.sl
            obtain ⟨P, hP⟩ : ∃ P : AV, P = p := ⟨_, rfl⟩
            rw [← hP] at hp HOK hone HT
            obtain ⟨c, n, kd, o, r, t, m, g, l, its⟩ := p
            dsimp only at hl
            subst hl
            have x0 := z0 (.int .i64 c) rfl
            have x1 := zs 0 (.int .i64 n) rfl
            have x2 := zs 1 (.int .i64 kd) rfl
            have x3 := zs 2 (.int .i64 o) rfl
            have x4 := zs 3 (.int .i64 r) rfl
            have x5 := zs 4 (.int .i64 t) rfl
            have x6 := zs 5 (.int .i64 m) rfl
            have x7 := zs 6 (vS g) rfl
            have x8 := zs 7 (.slice la its.length lc) rfl
            dsimp only [Nat.zero_add, Nat.reduceAdd] at x0 x1 x2 x3 x4 x5 x6 x7 x8
            have hcs : P.cs = #[.int .i64 c, .int .i64 n, .int .i64 kd, .int .i64 o, .int .i64 r, .int .i64 t, .int .i64 m, vS g, .slice la its.length lc] := by rw [hP]; rfl
            have hPc : P.c = c := by rw [hP]
            have hPn : P.n = n := by rw [hP]
            have hPk : P.k = kd := by rw [hP]
            have hPo : P.o = o := by rw [hP]
            have hPi : P.its = its := by rw [hP]
            have hPg : P.g = g := by rw [hP]
            have hPl : P.l = .slice la its.length lc := by rw [hP]
            obtain ⟨M, hM⟩ : ∃ M, its.length = M := ⟨_, rfl⟩
            rw [hM] at x8 hcs hPl
            rw [hcs] at hone
            have HP := Lib.hid hp
            have HCS := Lib.hid hcs
            have HONE := Lib.hid hone
            have HPC := Lib.hid hPc
            have HPN := Lib.hid hPn
            have HPK := Lib.hid hPk
            have HPO := Lib.hid hPo
            have HPI := Lib.hid hPi
            have HPG := Lib.hid hPg
            have HPL := Lib.hid hPl
            have HM := Lib.hid hM
            clear hp hok hone z0 zs hP hcs hPc hPn hPk hPo hPi hPg hPl hM
            have hOrd : Hid (∀ W, Fr (fun _ => False) wr W → Calls Tryz.prog 41 #[.agg #[.int .i64 c, .int .i64 n, .int .i64 kd, .int .i64 o, .int .i64 r, .int .i64 t, .int .i64 m, vS g, .slice la M lc]] W fun e w' => e = .returned (.int .i64 (ordF P)) ∧ Fr (fun _ => False) W w') := Lib.hid (fun W hf => by
              have := r25Order W P (aokKeeps HOK.out hf (fun b hb => hb.elim))
              rw [HCS.out] at this; exact this)
            have hOf2 : Hid (Calls Tryz.prog 48 #[.slice la M lc, vS gd] wr fun e w' => e = .returned (.int .i64 (ofF P.its gd)) ∧ wr = w') := Lib.hid (r6Of wr _ P.its gd (by have := HOK.out.l; rw [HPL.out] at this; exact this))
            have m0 := hfr.at_ HB0.out (fun h => h)
            have q3 := FrW.cell (cell_obj m0 3 (.int .i64 ao) rfl)
            have r3 := cell_obj m0 3 (.int .i64 ao) rfl
            have z0 := FrW.cell x0; have z1 := FrW.cell x1; have z2 := FrW.cell x2; have z3 := FrW.cell x3; have z4 := FrW.cell x4; have z5 := FrW.cell x5; have z6 := FrW.cell x6; have z7 := FrW.cell x7; have z8 := FrW.cell x8
            obtain ⟨OP, hOP⟩ : ∃ OP, ordF P = OP := ⟨_, rfl⟩
            rw [hOP] at hOrd
            have HOP := Lib.hid hOP
            obtain ⟨NF, hNF⟩ : ∃ NF, ofF P.its gd = NF := ⟨_, rfl⟩
            rw [hNF] at hOf2
            have HNF := Lib.hid hNF
            clear hfr m0 hOP hNF
            by_cases ho : OP = ao
            · have b1 : (OP == ao) = true := by simpa using ho
              by_cases hgt : T < NF
              · have hnx : Hid (mostF ao gd (L.take (k + 1)) = NF) := Lib.hid (by rw [HT.out]; unfold mstep; rw [if_pos (by rw [HOP.out]; exact ho), HNF.out]; omega)
                clear ho
                go_wp2_with (go_at_call 48; refine hOf2.out.mono ?_; rintro e w1 ⟨rfl, rfl⟩)
                refine wp_region_fr (by kernel_rfl) (by kernel_rfl) ?_
                repeat (go_big_quiet_step ((go_at_call 41; rename_i X; refine (hOrd.out X.val X.fr).mono ?_; rintro e w2 ⟨rfl, hF⟩; exact ⟨rfl, ⟨w2, X.fr.trans hF⟩, rfl⟩)))
                refine wpQuiet_nil ?_
                rintro _ ⟨⟨V, hV⟩, rfl⟩
                go_wp2_with fail
                go_roundw
                case rel => exact ⟨k + 1, by omega, by go_num, by rw [hnx.out], HFR.out.trans hV⟩
                case measure => simp [intOf]; omega
              · have hnx : Hid (mostF ao gd (L.take (k + 1)) = T) := Lib.hid (by rw [HT.out]; unfold mstep; rw [if_pos (by rw [HOP.out]; exact ho), HNF.out]; omega)
                have b2 : decide (T < NF) = false := by simp; omega
                clear ho hgt
                go_wp2_with (go_at_call 48; refine hOf2.out.mono ?_; rintro e w1 ⟨rfl, rfl⟩)
                refine wp_region_fr (by kernel_rfl) (by kernel_rfl) ?_
                repeat (go_big_quiet_step ((go_at_call 41; rename_i X; refine (hOrd.out X.val X.fr).mono ?_; rintro e w2 ⟨rfl, hF⟩; exact ⟨rfl, ⟨w2, X.fr.trans hF⟩, rfl⟩)))
                refine wpQuiet_nil ?_
                rintro _ ⟨⟨V, hV⟩, rfl⟩
                go_wp2_with fail
                go_roundw
                case rel => exact ⟨k + 1, by omega, by go_num, by rw [hnx.out], HFR.out.trans hV⟩
                case measure => simp [intOf]; omega
            · have b1 : (OP == ao) = false := by simpa using ho
              have hnx : Hid (mostF ao gd (L.take (k + 1)) = T) := Lib.hid (by rw [HT.out]; unfold mstep; rw [if_neg (by rw [HOP.out]; exact ho)])
              clear ho
              go_wp2_with (go_at_call 48; refine hOf2.out.mono ?_; rintro e w1 ⟨rfl, rfl⟩)
              refine wp_region_fr (by kernel_rfl) (by kernel_rfl) ?_
              repeat (go_big_quiet_step ((go_at_call 41; rename_i X; refine (hOrd.out X.val X.fr).mono ?_; rintro e w2 ⟨rfl, hF⟩; exact ⟨rfl, ⟨w2, X.fr.trans hF⟩, rfl⟩)))
              refine wpQuiet_nil ?_
              rintro _ ⟨⟨V, hV⟩, rfl⟩
              go_wp2_with fail
              go_roundw
              case rel => exact ⟨k + 1, by omega, by go_num, by rw [hnx.out], HFR.out.trans hV⟩
              case measure => simp [intOf]; omega
          · obtain rfl : k = N := by omega
            have hall : L.take k = L := List.take_of_length_le (by rw [HN.out]; exact Nat.le_refl _)
            rw [hall]
            have hlI : ¬ (k : Int) < k := by omega
            clear hfr hall
            go_wp2_with fail
            go_ret
            exact ⟨by rw [hres.out]; rfl, HF0.out.trans HFR.out⟩
      · have hres : Hid (R = 0) := Lib.hid (by rw [← HR.out]; unfold movF; rw [if_pos (HAK.out.trans hkk), if_neg (by simp [hm]), if_neg h4])
        have e6 : (kind == 4) = false := by simpa using h4
        clear hm hkk h4 HR HAK
        go_enter Tryz.func28, Tryz.ntmps28
        go_wp2_with fail
        go_ret
        exact ⟨by rw [hres.out]; rfl, HF0.out⟩
  · have hb : (ak != kind) = true := by simpa using hkk
    have hres : Hid (R = 0) := Lib.hid (by rw [← HR.out]; unfold movF; rw [if_neg (by rw [HAK.out]; exact hkk)])
    clear hkk HR HAK
    go_enter Tryz.func28, Tryz.ntmps28
    go_wp2_with fail
    go_ret
    exact ⟨by rw [hres.out]; rfl, HF0.out⟩
end Go.Proofs.YtbeikkkmobbnkaaGreat
