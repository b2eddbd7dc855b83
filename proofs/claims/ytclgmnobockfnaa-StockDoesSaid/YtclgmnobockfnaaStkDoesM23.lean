/- entrepotref06: May, Same. -/
import Derived.Test.YtclgmnobockfnaaStkDoesM16
namespace Go.Proofs.Ytclgmnobockfnaa
open Go.RowKit Go.Maps
theorem neq_item (w : World) (p q : Str × Int) : (binOp .neq 66 (.agg #[vS p.1, .int .i64 p.2]) (.agg #[vS q.1, .int .i64 q.2])).run Try.prog w = .ok (.bool (!decide (p = q))) w := by
  obtain ⟨a, m⟩ := p
  obtain ⟨b, n⟩ := q
  simp only [Prod.mk.injEq]
  by_cases h1 : a = b <;> by_cases h2 : m = n <;> simp [go_sem, h1, h2]
/-- An item's cells, at its place. -/
theorem Il.at_ {w : World} {a : Option Addr} {n c k : Nat} {L : Its} {p : Str × Int} (h : Il w (.slice a n c) L) (hp : L[k]? = some p) : ∃ ad, a = some ad ∧ okS p.1 ∧ okI p.2 ∧ w.cell? (ad.add (k * 2)) = some (vS p.1) ∧ w.cell? ⟨(ad.add (k * 2)).block, (ad.add (k * 2)).off + 1, none⟩ = some (.int .i64 p.2) := by
  obtain ⟨_, a', c', e, h1⟩ := h
  injection e with e1 _ _
  obtain ⟨x1, x2, ad, x3, x4, x5⟩ := h1 k p hp
  exact ⟨ad, e1.trans x3, x1, x2, x4, x5⟩
set_option maxRecDepth 100000 in
set_option maxHeartbeats 4000000 in
theorem r6Same (w : World) (u v : Value) (A B : Its) (hA : Il w u A) (hB : Il w v B) : Calls Try.prog 25 #[u, v] w fun e w' => e = .returned (.bool (decide (A = B))) ∧ ∃ n, w' = w.drewN n := by
  obtain ⟨G, hG⟩ : ∃ G, decide (A = B) = G := ⟨_, rfl⟩
  rw [hG]
  have HG := Lib.hid hG
  clear hG
  obtain ⟨a, c, rfl⟩ := hA.sl
  obtain ⟨b, d, rfl⟩ := hB.sl
  obtain ⟨n, hn⟩ : ∃ n, A.length = n := ⟨_, rfl⟩
  obtain ⟨m, hm⟩ : ∃ m, B.length = m := ⟨_, rfl⟩
  have hnI : (n : Int) ≤ 9223372036854775807 := by have := hA.1; omega
  have hmI : (m : Int) ≤ 9223372036854775807 := by have := hB.1; omega
  have HA := Lib.hid hA; have HB := Lib.hid hB; have HN := Lib.hid hn; have HM := Lib.hid hm
  rw [hn] at HA ⊢
  rw [hm] at HB ⊢
  clear hA hB hn hm
  by_cases hnm : n = m
  · subst hnm
    go_enter Try.func25, Try.ntmps25
    go_wp2_with fail
    go_loopw [5] (fun i wr => ∃ k e : Nat, k ≤ n ∧ i = .int .i64 k ∧ wr = w.drewN e ∧ ∀ j, j < k → A[j]? = B[j]?) (fun i _ => n - (intOf i).toNat)
    case atStart => exact ⟨0, 0, Nat.zero_le _, rfl, rfl, fun j hj => by omega⟩
    case round =>
      obtain ⟨k, e, hk, rfl, hwr, hall⟩ := hrel
      have HW := Lib.hid hwr; have HALL := Lib.hid hall
      have hAr : Il wr (.slice a n c) A := by rw [hwr]; exact HA.out.fr ((Fr.refl (fun _ => False) w).drewN e) (fun _ h => h.elim)
      have hBr : Il wr (.slice b n d) B := by rw [hwr]; exact HB.out.fr ((Fr.refl (fun _ => False) w).drewN e) (fun _ h => h.elim)
      clear hwr hall
      by_cases hlt : k < n
      · obtain ⟨p, hp⟩ : ∃ p, A[k]? = some p := ⟨A[k]'(by rw [HN.out]; exact hlt), List.getElem?_eq_getElem _⟩
        obtain ⟨q, hq⟩ : ∃ q, B[k]? = some q := ⟨B[k]'(by rw [HM.out]; exact hlt), List.getElem?_eq_getElem _⟩
        obtain ⟨aa, rfl, -, -, p0, p1⟩ := hAr.at_ hp
        obtain ⟨ba, rfl, -, -, q0, q1⟩ := hBr.at_ hq
        have hneq := fun W => neq_item W p q
        have HP := Lib.hid hp; have HQ := Lib.hid hq
        have hltI : (k : Int) < n := by omega
        clear hp hq hAr hBr
        by_cases hpq : p = q
        · rw [decide_eq_true hpq] at hneq
          have HPQ := Lib.hid hpq
          clear hpq
          go_wp2_with fail
          go_quiet (fail)
          go_wp2_with fail
          go_roundw
          case rel => exact ⟨k + 1, _, by omega, by go_num, (by rw [HW.out, World.drewN_drewN]), fun j hj => by
            by_cases e : j = k
            · rw [e, HP.out, HQ.out, HPQ.out]
            · exact HALL.out j (by omega)⟩
          case measure => simp [intOf]; omega
        · rw [decide_eq_false hpq] at hneq
          have hg : Hid (G = false) := Lib.hid (by
            rw [← HG.out]
            refine decide_eq_false (fun e => hpq ?_)
            have := HP.out
            rw [e, HQ.out] at this
            exact (Option.some.inj this).symm)
          clear hpq
          go_wp2_with fail
          go_quiet (fail)
          go_wp2_with fail
          go_ret
          exact ⟨by rw [hg.out]; rfl, _, by rw [HW.out, World.drewN_drewN]⟩
      · obtain rfl : k = n := by omega
        have hg : Hid (G = true) := Lib.hid (by
          rw [← HG.out]
          refine decide_eq_true (List.ext_getElem? (fun j => ?_))
          by_cases h : j < k
          · exact HALL.out j h
          · rw [List.getElem?_eq_none (by rw [HN.out]; omega), List.getElem?_eq_none (by rw [HM.out]; omega)])
        go_wp2_with fail
        go_ret
        exact ⟨by rw [hg.out]; rfl, _, HW.out⟩
  · have hg : Hid (G = false) := Lib.hid (by
      rw [← HG.out]
      refine decide_eq_false (fun e => hnm ?_)
      rw [← HN.out, ← HM.out, e])
    have hne : ((n : Int) != m) = true := by simp; omega
    go_enter Try.func25, Try.ntmps25
    go_wp2_with fail
    go_ret
    exact ⟨by rw [hg.out]; rfl, 0, rfl⟩
end Go.Proofs.Ytclgmnobockfnaa
