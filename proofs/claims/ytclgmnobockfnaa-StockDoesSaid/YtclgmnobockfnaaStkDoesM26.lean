/- entrepotref06: May. -/
import Derived.Test.YtclgmnobockfnaaStkDoesM23
namespace Go.Proofs.Ytclgmnobockfnaa
open Go.RowKit Go.Maps
theorem calls_q {P : Program} {f : FuncId} {args : Array Value} {w : World} {n : Nat} {v : Value} (h : Calls P f args (w.drewN n) fun e w' => e = .returned v ∧ w.drewN n = w') :
    Calls P f args (w.drewN n) fun e w'' => e = .returned v ∧ ∃ m, w'' = w.drewN m := h.mono fun _ _ ⟨he, hm⟩ => ⟨he, n, hm.symm⟩
/-- The good ahead of place k; nothing ahead of the first. -/
def lastOf (L : Its) : Nat → Str
  | 0 => []
  | k + 1 => (L[k]?.map (·.1)).getD []
theorem itsOk_at {L : Its} {k : Nat} {p : Str × Int} (last : Str) (hp : L[k]? = some p) : itsOk last (L.drop k) = (goodB p.1 && decide (1 ≤ p.2) && mayI p.2 && decide (last < p.1) && itsOk p.1 (L.drop (k + 1))) := by
  have : L.drop k = p :: L.drop (k + 1) := by
    rw [List.drop_eq_getElem_cons (List.getElem?_eq_some_iff.1 hp).1]
    rw [(List.getElem?_eq_some_iff.1 hp).2]
  rw [this]; rfl
set_option maxRecDepth 100000 in
set_option maxHeartbeats 8000000 in
theorem r6May (w : World) (v : Value) (L : Its) (hL : Il w v L) : Calls Try.prog 24 #[v] w fun e w' => e = .returned (.bool (mayL L)) ∧ ∃ n, w' = w.drewN n := by
  obtain ⟨G, hG⟩ : ∃ G, mayL L = G := ⟨_, rfl⟩
  rw [hG]
  have HG := Lib.hid hG
  clear hG
  obtain ⟨a, c, rfl⟩ := hL.sl
  obtain ⟨n, hn⟩ : ∃ n, L.length = n := ⟨_, rfl⟩
  have hnI : (n : Int) ≤ 9223372036854775807 := by have := hL.1; omega
  have HL := Lib.hid hL; have HN := Lib.hid hn
  rw [hn] at HL ⊢
  clear hL hn
  go_enter Try.func24, Try.ntmps24
  go_wp2_with fail
  go_loopw [3] (fun i wr => ∃ k e : Nat, k ≤ n ∧ i = .int .i64 k ∧ wr = w.drewN e ∧ itsOk [] L = itsOk (lastOf L k) (L.drop k)) (fun i _ => n - (intOf i).toNat)
  case atStart => exact ⟨0, 0, Nat.zero_le _, rfl, rfl, rfl⟩
  case round =>
    obtain ⟨k, e, hk, rfl, hwr, hall⟩ := hrel
    have HW := Lib.hid hwr; have HALL := Lib.hid hall
    have hLr : Il wr (.slice a n c) L := by rw [hwr]; exact HL.out.fr ((Fr.refl (fun _ => False) w).drewN e) (fun _ h => h.elim)
    clear hwr hall
    by_cases hlt : k < n
    · obtain ⟨p, hp⟩ : ∃ p, L[k]? = some p := ⟨L[k]'(by rw [HN.out]; exact hlt), List.getElem?_eq_getElem _⟩
      obtain ⟨ad, rfl, ok1, ok2, p0, p1⟩ := hLr.at_ hp
      have hstep := itsOk_at (lastOf L k) hp
      have hnext : lastOf L (k + 1) = p.1 := by show (L[k]?.map (·.1)).getD [] = _; rw [hp]; rfl
      have hltI : (k : Int) < n := by omega
      have hbad : ∀ b, (goodB p.1 && decide (1 ≤ p.2) && mayI p.2 && decide (lastOf L k < p.1)) = b → b = false → G = false := fun b hb h => by
        rw [← HG.out]
        unfold mayL
        rw [HALL.out, hstep, hb, h]; rfl
      have hgo : (goodB p.1 && decide (1 ≤ p.2) && mayI p.2 && decide (lastOf L k < p.1)) = true → itsOk [] L = itsOk (lastOf L (k + 1)) (L.drop (k + 1)) := fun hb => by
        rw [HALL.out, hstep, hb, hnext]; rfl
      have HBAD := Lib.hid hbad; have HGO := Lib.hid hgo
      clear hbad hgo hstep hnext
      obtain ⟨g, x⟩ := p
      dsimp only at p0 p1 ok1 ok2 HBAD HGO
      have hGd := r6Good
      have HGd := Lib.hid (fun W => r6Good W g ok1)
      have HMy := Lib.hid (fun W => r5May W x)
      clear hGd
      cases h1 : goodB g with
      | false =>
        rw [h1] at HGd HBAD
        have hg := Lib.hid (HBAD.out _ rfl rfl)
        clear h1
        go_wp2_with fail
        go_big_quiet ((go_at_call 51; exact calls_q (HGd.out _)))
        go_wp2_with fail
        go_ret
        exact ⟨by rw [hg.out]; rfl, _, by rw [HW.out, World.drewN_drewN]⟩
      | true =>
        rw [h1] at HGd HBAD HGO
        have hpos := good_pos h1
        have HPOS := Lib.hid hpos
        clear h1 hpos
        by_cases h2 : x < 1
        · have hd2 : decide (x < 1) = true := decide_eq_true h2
          have hg := Lib.hid (HBAD.out _ rfl (by simp; omega))
          go_wp2_with fail
          go_big_quiet ((go_at_call 51; exact calls_q (HGd.out _)))
          go_wp2_with fail
          go_ret
          exact ⟨by rw [hg.out]; rfl, _, by rw [HW.out, World.drewN_drewN]⟩
        · have hd2 : decide (x < 1) = false := decide_eq_false h2
          cases h3 : mayI x with
          | false =>
            rw [h3] at HMy HBAD
            have hg := Lib.hid (HBAD.out _ rfl (by simp))
            clear h3
            go_wp2_with fail
            go_big_quiet (first | (go_at_call 51; exact calls_q (HGd.out _)) | (go_at_call 57; exact calls_q (HMy.out _)))
            go_wp2_with fail
            go_ret
            exact ⟨by rw [hg.out]; rfl, _, by rw [HW.out, World.drewN_drewN]⟩
          | true =>
            rw [h3] at HMy HBAD HGO
            clear h3
            have hx1 : (decide (1 ≤ x)) = true := by simp; omega
            rw [hx1] at HBAD HGO
            clear hx1
            rcases Nat.eq_zero_or_pos k with h0 | h0
            · have H0 := Lib.hid h0
              have hd3 : decide (0 < k) = false := decide_eq_false (by omega)
              rw [h0] at HGO
              clear h0
              have hy := Lib.hid (HGO.out (by show (true && true && true && decide (([] : Str) < g)) = true; rw [decide_eq_true HPOS.out]; rfl))
              go_wp2_with fail
              go_big_quiet (first | (go_at_call 51; exact calls_q (HGd.out _)) | (go_at_call 57; exact calls_q (HMy.out _)))
              go_wp2_with fail
              go_roundw
              case rel => exact ⟨k + 1, _, by omega, by go_num, (by rw [HW.out, World.drewN_drewN]), by rw [H0.out]; exact hy.out⟩
              case measure => simp [intOf]; omega
            · obtain ⟨j, hj⟩ : ∃ j, k = j + 1 := ⟨k - 1, by omega⟩
              obtain ⟨⟨g', x'⟩, hp'⟩ : ∃ p, L[j]? = some p := ⟨L[j]'(by rw [HN.out]; omega), List.getElem?_eq_getElem _⟩
              obtain ⟨ad', had, -, -, r0, -⟩ := hLr.at_ hp'
              obtain rfl := Option.some.inj had
              have hlast : lastOf L k = g' := by rw [hj]; show (L[j]?.map (·.1)).getD [] = _; rw [hp']; rfl
              rw [hlast] at HBAD HGO
              dsimp only at r0
              clear hp' had hlast hLr
              have hd3 : decide (0 < k) = true := decide_eq_true (by omega)
              have hsub : (k : Int) - 1 = (j : Int) := by omega
              have HJ := Lib.hid hj
              have hjn : (j : Int) < n := by omega
              clear hj h0
              by_cases hlg : g' < g
              · have hy := Lib.hid (HGO.out (by simp [hlg]))
                have q1 : Op.bytesLess g' g = true := by rw [bytesLess_eq]; simpa using hlg
                clear hlg
                go_wp2_with fail
                go_big_quiet (first | (go_at_call 51; exact calls_q (HGd.out _)) | (go_at_call 57; exact calls_q (HMy.out _)))
                go_wp2_with fail
                go_roundw
                case rel => exact ⟨k + 1, _, by omega, by go_num, (by rw [HW.out, World.drewN_drewN]), hy.out⟩
                case measure => simp [intOf]; omega
              · have hg := Lib.hid (HBAD.out _ rfl (by simp [hlg]))
                have q1 : Op.bytesLess g' g = false := by rw [bytesLess_eq]; simpa using hlg
                clear hlg
                go_wp2_with fail
                go_big_quiet (first | (go_at_call 51; exact calls_q (HGd.out _)) | (go_at_call 57; exact calls_q (HMy.out _)))
                go_wp2_with fail
                go_ret
                exact ⟨by rw [hg.out]; rfl, _, by rw [HW.out, World.drewN_drewN]⟩
    · obtain rfl : k = n := by omega
      have hg : Hid (G = decide (k ≤ 16)) := Lib.hid (by
        rw [← HG.out]
        unfold mayL
        rw [HALL.out, List.drop_eq_nil_of_le (by rw [HN.out]; exact Nat.le_refl _), HN.out]; rfl)
      by_cases h : k ≤ 16
      · have hI : (k : Int) ≤ 16 := by omega
        go_wp2_with fail
        go_ret
        exact ⟨by rw [hg.out, decide_eq_true h]; rfl, _, HW.out⟩
      · have hI : ¬ (k : Int) ≤ 16 := by omega
        go_wp2_with fail
        go_ret
        exact ⟨by rw [hg.out, decide_eq_false h]; rfl, _, HW.out⟩
end Go.Proofs.Ytclgmnobockfnaa
