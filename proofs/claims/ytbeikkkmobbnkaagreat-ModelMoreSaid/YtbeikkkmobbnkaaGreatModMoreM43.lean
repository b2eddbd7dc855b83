/- entrepotlaw25.small (written by wip/tools/md30.py). -/
import Derived.Test.YtbeikkkmobbnkaaGreatModMoreM26
import Derived.Test.YtbeikkkmobbnkaaGreatModMoreM2
namespace Go.Proofs.YtbeikkkmobbnkaaGreat
open Go.RowKit Go.Maps
def smallF (L : List AV) (K : Nat) : Bool := decide (L.length ≤ 40) && decide (K ≤ 200) && L.all fun a => decide (a.its.length ≤ 50)
set_option maxRecDepth 100000 in
set_option maxHeartbeats 4000000 in
theorem lwSmall (w : World) (v : Value) (L : List AV) (ya : Option Addr) (K yc : Nat) (h : Al w v L) (hK : (K : Int) ≤ 9223372036854775807) : Calls Tryz.prog 7 #[v, .slice ya K yc] w fun e w' => e = .returned (.bool (smallF L K)) ∧ Fr (fun _ => False) w w' := by
  have HL := Lib.hid h
  have hNI := h.len
  obtain ⟨va, vc, rfl⟩ := h.sl
  obtain ⟨N, hN⟩ : ∃ N, L.length = N := ⟨_, rfl⟩
  rw [hN] at HL hNI ⊢
  have HN := Lib.hid hN
  obtain ⟨R, hR⟩ : ∃ R, smallF L K = R := ⟨_, rfl⟩
  have HR : Hid (R = (decide (N ≤ 40) && decide (K ≤ 200) && L.all fun a => decide (a.its.length ≤ 50))) := Lib.hid (by rw [← hR, ← hN]; rfl)
  rw [hR]
  clear h hN hR
  by_cases h1 : N ≤ 40
  · by_cases h2 : K ≤ 200
    · have h1I : (N : Int) ≤ 40 := by omega
      have h2I : (K : Int) ≤ 200 := by omega
      have HR2 : Hid (R = L.all fun a => decide (a.its.length ≤ 50)) := Lib.hid (by rw [HR.out, decide_eq_true h1, decide_eq_true h2]; rfl)
      clear h1 h2 HR
      go_enter Tryz.func7, Tryz.ntmps7
      go_wp2_with fail
      go_loopw [5] (fun i wr => ∃ k : Nat, k ≤ N ∧ i = .int .i64 k ∧ ((L.take k).all fun a => decide (a.its.length ≤ 50)) = true ∧ wr = w) (fun i _ => N - (intOf i).toNat)
      case atStart => exact ⟨0, Nat.zero_le _, rfl, rfl, rfl⟩
      case round =>
        obtain ⟨k, hk, rfl, hal, hwr⟩ := hrel
        have HAL := Lib.hid hal
        have hLr : Hid (Al wr (.slice va N vc) L) := Lib.hid (by rw [hwr]; exact HL.out)
        have HWR := Lib.hid hwr
        clear hal hwr
        by_cases hlt : k < N
        · obtain ⟨p, hp⟩ : ∃ p, L[k]? = some p := ⟨L[k]'(by rw [HN.out]; exact hlt), List.getElem?_eq_getElem _⟩
          have hlI : (k : Int) < N := by omega
          obtain ⟨ad, rfl, hok, z0, zs⟩ := (hLr.out).at_ hp
          have HOK := Lib.hid hok
          have hone := avOne hok
          obtain ⟨la, lc, hl⟩ := hok.l.sl
          obtain ⟨P, hP⟩ : ∃ P : AV, P = p := ⟨_, rfl⟩
          rw [← hP] at hp HOK hone
          obtain ⟨c, n, kd, o, r, t, m, g, l, its⟩ := p
          dsimp only at hl
          subst hl
          have x0 := z0 (.int .i64 c) rfl
          have x1 := zs 0 (.int .i64 n) rfl
          have x2 := zs 1 (.int .i64 kd) rfl
          have x3 := zs 2 (.int .i64 o) rfl
          have x4 := zs 3 (.int .i64 r) rfl
          have x5 := zs 4 (.int .i64 t) rfl
          have x6 := zs 5 (.int .i64 m) rfl
          have x7 := zs 6 (vS g) rfl
          have x8 := zs 7 (.slice la its.length lc) rfl
          dsimp only [Nat.zero_add, Nat.reduceAdd] at x0 x1 x2 x3 x4 x5 x6 x7 x8
          have hcs : P.cs = #[.int .i64 c, .int .i64 n, .int .i64 kd, .int .i64 o, .int .i64 r, .int .i64 t, .int .i64 m, vS g, .slice la its.length lc] := by rw [hP]; rfl
          have hPc : P.c = c := by rw [hP]
          have hPn : P.n = n := by rw [hP]
          have hPk : P.k = kd := by rw [hP]
          have hPo : P.o = o := by rw [hP]
          have hPi : P.its = its := by rw [hP]
          have hPg : P.g = g := by rw [hP]
          have hPl : P.l = .slice la its.length lc := by rw [hP]
          obtain ⟨M, hM⟩ : ∃ M, its.length = M := ⟨_, rfl⟩
          rw [hM] at x8 hcs hPl
          rw [hcs] at hone
          have HP := Lib.hid hp
          have HCS := Lib.hid hcs
          have HONE := Lib.hid hone
          have HPC := Lib.hid hPc
          have HPN := Lib.hid hPn
          have HPK := Lib.hid hPk
          have HPO := Lib.hid hPo
          have HPI := Lib.hid hPi
          have HPG := Lib.hid hPg
          have HPL := Lib.hid hPl
          have HM := Lib.hid hM
          clear hp hok hone z0 zs hP hcs hPc hPn hPk hPo hPi hPg hPl hM
          have hMM := Lib.hid (show P.its.length = M by rw [HPI.out, HM.out])
          have hMI : (M : Int) ≤ 9223372036854775807 := by have := HOK.out.l.1; rw [hMM.out] at this; omega
          by_cases h5 : 50 < M
          · have h5I : (50 : Int) < (M : Int) := by omega
            have hres : Hid (R = false) := Lib.hid (by
              rw [HR2.out, List.all_eq_false]
              refine ⟨P, List.mem_of_getElem? HP.out, ?_⟩
              rw [hMM.out]
              simp; omega)
            clear h5
            go_wp2_with fail
            go_ret
            exact ⟨by rw [hres.out]; rfl, by rw [HWR.out]; exact Fr.refl _ _⟩
          · have h5I : ¬ (50 : Int) < (M : Int) := by omega
            have hnx : Hid (((L.take (k + 1)).all fun a => decide (a.its.length ≤ 50)) = true) := Lib.hid (by
              rw [List.take_add_one, HP.out, List.all_append, HAL.out]
              simp [hMM.out]; omega)
            clear h5
            go_wp2_with fail
            go_roundw
            case rel => exact ⟨k + 1, by omega, by go_num, hnx.out, HWR.out⟩
            case measure => simp [intOf]; omega
        · obtain rfl : k = N := by omega
          have hal := HAL.out
          rw [List.take_of_length_le (by rw [HN.out]; exact Nat.le_refl _)] at hal
          have hres : Hid (R = true) := Lib.hid (by rw [HR2.out]; exact hal)
          have hlI : ¬ (k : Int) < k := by omega
          clear hal
          go_wp2_with fail
          go_ret
          exact ⟨by rw [hres.out]; rfl, by rw [HWR.out]; exact Fr.refl _ _⟩
    · have h1I : ¬ (40 : Int) < (N : Int) := by omega
      have h2I : (200 : Int) < (K : Int) := by omega
      have hres : Hid (R = false) := Lib.hid (by rw [HR.out, decide_eq_false h2]; simp)
      clear h1 h2 HR
      go_enter Tryz.func7, Tryz.ntmps7
      go_wp2_with fail
      go_ret
      exact ⟨by rw [hres.out]; rfl, Fr.refl _ _⟩
  · have h1I : (40 : Int) < (N : Int) := by omega
    have hres : Hid (R = false) := Lib.hid (by rw [HR.out, decide_eq_false h1]; simp)
    clear h1 HR
    go_enter Tryz.func7, Tryz.ntmps7
    go_wp2_with fail
    go_ret
    exact ⟨by rw [hres.out]; rfl, Fr.refl _ _⟩
end Go.Proofs.YtbeikkkmobbnkaaGreat
