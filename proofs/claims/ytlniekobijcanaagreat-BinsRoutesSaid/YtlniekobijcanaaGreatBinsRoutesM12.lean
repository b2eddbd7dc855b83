/- bins: mayBin, apart, may. -/
import Derived.Test.YtlniekobijcanaaGreatBinsRoutesM3
import Derived.Test.YtlniekobijcanaaGreatBinsRoutesM2
namespace Go.Proofs.YtlniekobijcanaaGreat
open Go.RowKit Go.Maps
/-- A bin that may be. -/
def mayBinF (nu zo ro : Int) : Bool := decide (1 ≤ nu) && decide (nu ≤ 4096) && decide (0 ≤ zo) && decide (zo ≤ 15) && decide (1 ≤ ro) && decide (ro ≤ 1099511627776)
set_option maxRecDepth 100000 in
set_option maxHeartbeats 4000000 in
theorem bMayBin (w : World) (nu zo ro : Int) : Calls Tryz.prog 79 #[.agg #[.int .i64 nu, .int .i64 zo, .int .i64 ro]] w fun e w' => e = .returned (.bool (mayBinF nu zo ro)) ∧ Fr (fun _ => False) w w' := by
  unfold mayBinF
  by_cases h1 : 1 ≤ nu
  case neg =>
    simp only [h1, decide_true, decide_false, Bool.and_true, Bool.and_false, Bool.false_and, Bool.true_and]
    go_enter Tryz.func79, Tryz.ntmps79
    go_wp2
    go_ret
    exact ⟨rfl, (Fr.refl _ w).alloc _⟩
  by_cases h2 : nu ≤ 4096
  case neg =>
    simp only [h1, h2, decide_true, decide_false, Bool.and_true, Bool.and_false, Bool.false_and, Bool.true_and]
    go_enter Tryz.func79, Tryz.ntmps79
    go_wp2
    go_ret
    exact ⟨rfl, (Fr.refl _ w).alloc _⟩
  by_cases h3 : 0 ≤ zo
  case neg =>
    simp only [h1, h2, h3, decide_true, decide_false, Bool.and_true, Bool.and_false, Bool.false_and, Bool.true_and]
    go_enter Tryz.func79, Tryz.ntmps79
    go_wp2
    go_ret
    exact ⟨rfl, (Fr.refl _ w).alloc _⟩
  by_cases h4 : zo ≤ 15
  case neg =>
    simp only [h1, h2, h3, h4, decide_true, decide_false, Bool.and_true, Bool.and_false, Bool.false_and, Bool.true_and]
    go_enter Tryz.func79, Tryz.ntmps79
    go_wp2
    go_ret
    exact ⟨rfl, (Fr.refl _ w).alloc _⟩
  by_cases h5 : 1 ≤ ro
  case neg =>
    simp only [h1, h2, h3, h4, h5, decide_true, decide_false, Bool.and_true, Bool.and_false, Bool.false_and, Bool.true_and]
    go_enter Tryz.func79, Tryz.ntmps79
    go_wp2
    go_ret
    exact ⟨rfl, (Fr.refl _ w).alloc _⟩
  by_cases h6 : ro ≤ 1099511627776
  all_goals
    simp only [h1, h2, h3, h4, h5, h6, decide_true, decide_false, Bool.and_true, Bool.and_false, Bool.false_and, Bool.true_and]
    go_enter Tryz.func79, Tryz.ntmps79
    go_wp2
    go_ret
    exact ⟨rfl, (Fr.refl _ w).alloc _⟩
/-- What is wrong with so many of a good (at a floor that was made). -/
def mayF (s : Str) (n : Int) : Int := if goodB s = true ∧ 1 ≤ n ∧ mayI n = true then 0 else 60
set_option maxRecDepth 100000 in
set_option maxHeartbeats 4000000 in
theorem bMay (w : World) (g : Nat) (L : List BV) (s : Str) (n : Int) (h : Fl w g L) (hL : 0 < L.length) (hs : okS s) : Calls Tryz.prog 46 #[.pointer (some ⟨g, 0, none⟩), vS s, .int .i64 n] w fun e w' => e = .returned (.int .i64 (mayF s n)) ∧ Fr (fun _ => False) w w' := by
  have hm := Lib.hid (bMade w g L h hL)
  have hg := Lib.hid (iGood w s hs)
  have hM := Lib.hid (fun W => kMay W n)
  clear h hL hs
  unfold mayF
  cases e1 : goodB s with
  | false =>
    simp only [e1, Bool.false_eq_true, false_and, if_false] at hg ⊢
    clear e1
    go_enter Tryz.func46, Tryz.ntmps46
    go_wp2_with (first
      | (go_at_call 57; refine hm.out.mono ?_; rintro e w1 ⟨rfl, rfl⟩)
      | (go_at_call 84; refine hg.out.mono ?_; rintro e w2 ⟨rfl, hf2⟩; have HF2 := Lib.hid hf2; clear hf2))
    go_ret
    exact ⟨rfl, HF2.out⟩
  | true =>
    rw [e1] at hg
    by_cases h1 : 1 ≤ n
    · cases e2 : mayI n with
      | false =>
        simp only [e2, Bool.false_eq_true, and_false, if_false] at hM ⊢
        clear e1 e2
        go_enter Tryz.func46, Tryz.ntmps46
        go_wp2_with (first
          | (go_at_call 57; refine hm.out.mono ?_; rintro e w1 ⟨rfl, rfl⟩)
          | (go_at_call 84; refine hg.out.mono ?_; rintro e w2 ⟨rfl, hf2⟩; have HF2 := Lib.hid hf2; clear hf2)
          | (go_at_call 85; refine (hM.out _).mono ?_; rintro e w3 ⟨rfl, rfl⟩))
        go_ret
        exact ⟨rfl, HF2.out⟩
      | true =>
        rw [e2] at hM
        rw [if_pos ⟨rfl, h1, rfl⟩]
        clear e1 e2
        go_enter Tryz.func46, Tryz.ntmps46
        go_wp2_with (first
          | (go_at_call 57; refine hm.out.mono ?_; rintro e w1 ⟨rfl, rfl⟩)
          | (go_at_call 84; refine hg.out.mono ?_; rintro e w2 ⟨rfl, hf2⟩; have HF2 := Lib.hid hf2; clear hf2)
          | (go_at_call 85; refine (hM.out _).mono ?_; rintro e w3 ⟨rfl, rfl⟩))
        go_ret
        exact ⟨rfl, HF2.out⟩
    · rw [if_neg (fun q => h1 q.2.1)]
      clear e1
      go_enter Tryz.func46, Tryz.ntmps46
      go_wp2_with (first
        | (go_at_call 57; refine hm.out.mono ?_; rintro e w1 ⟨rfl, rfl⟩)
        | (go_at_call 84; refine hg.out.mono ?_; rintro e w2 ⟨rfl, hf2⟩; have HF2 := Lib.hid hf2; clear hf2))
      go_ret
      exact ⟨rfl, HF2.out⟩
end Go.Proofs.YtlniekobijcanaaGreat
