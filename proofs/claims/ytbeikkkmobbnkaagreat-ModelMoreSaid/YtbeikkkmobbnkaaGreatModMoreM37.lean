/- model.Plain, Within; slices.Clone on items. -/
import Derived.Test.YtbeikkkmobbnkaaGreatModMoreM33
import Derived.Test.YtbeikkkmobbnkaaGreatModMoreM32
import Derived.Test.YtbeikkkmobbnkaaGreatModMoreM36
namespace Go.Proofs.YtbeikkkmobbnkaaGreat
open Go.RowKit Go.Maps
theorem lookGr {w0 W : World} {n0 nb bm : Nat} {L : List AV} {l : List (PK × Value)} {C : Nat → Prop} (h : GrI w0 W n0 nb bm L l C) (x : PK) :
    (Instr.lookup 53 (.map (some bm)) (ktP.enc x) false).run Tryz.prog W = .ok (slotOf l x) W := by
  have hz : (zeroValue 22).run Tryz.prog W = .ok (.slice none 0 0) W := by kernel_rfl
  have := h.mp.look whoK Tryz.underlying53 hz (x := x) trivial
  rw [this]
  unfold slotOf
  cases getS l x <;> rfl
set_option maxRecDepth 100000 in
set_option maxHeartbeats 4000000 in
theorem kPlainT (w : World) (c n : Int) (v : Value) (L : List AV) (hc : okI c) (hn : okI n) (h : Al w v L) (hl : L.length ≤ 1000) : Calls Tryz.prog 14 #[.int .i64 c, .int .i64 n, v] w fun e w' => e = .returned (.bool (plainL (grpL c n L))) ∧ Fr (fun _ => False) w w' := by
  have hGr := Lib.hid (kGroups w v L h hl)
  have hokR : Hid (∀ p ∈ rightL L, AOk w p) := Lib.hid (fun p hp => h.okm (List.mem_filter.1 hp).1)
  obtain ⟨va, vc, rfl⟩ := h.sl
  obtain ⟨N, hN⟩ : ∃ N, L.length = N := ⟨_, rfl⟩
  rw [hN] at hGr ⊢
  obtain ⟨x, hx⟩ : ∃ x : PK, x = ⟨(c, n), hc, hn⟩ := ⟨_, rfl⟩
  have hk : Hid ((rightL L).filter (isK x) = grpL c n L) := Lib.hid (by subst hx; rfl)
  have hen : Hid (ktP.enc x = .agg #[.int .i64 c, .int .i64 n]) := Lib.hid (by subst hx; rfl)
  obtain ⟨R, hR⟩ : ∃ R, plainL (grpL c n L) = R := ⟨_, rfl⟩
  rw [hR]
  have HR := Lib.hid hR
  clear h hl hN hR hc hn hx
  go_enter Tryz.func14, Tryz.ntmps14
  go_wp2_with (first
    | (go_at_call 23; refine hGr.out.mono ?_; rintro e w2 ⟨n2, l, C, rfl, hn2, hG, hf2⟩; have hlk := lookGr hG x; have hrow := hG.slot x; rw [hk.out] at hrow; obtain ⟨sv, hsv⟩ : ∃ sv, slotOf l x = sv := ⟨_, rfl⟩; rw [hsv] at hrow hlk; rw [hen.out] at hlk; have HROW := Lib.hid hrow; have HF2 := Lib.hid hf2; clear hrow hsv hG hf2 hn2)
    | (go_at_call 25; refine (kPlain _ sv (grpL c n L) (Al.own HROW.out (fun p hp => aokKeeps (hokR.out p (List.mem_filter.1 hp).1) HF2.out (fun _ h => h.elim))) (fun p hp => (grp_may hp).1)).mono ?_; rintro e w3 ⟨rfl, hf3⟩; have HF3 := Lib.hid hf3; clear hf3))
  go_ret
  exact ⟨by rw [HR.out]; rfl, HF2.out.trans HF3.out⟩
theorem mWithin (w : World) (m a b : Int) : Calls Tryz.prog 11 #[.int .i64 m, .agg #[.int .i64 a, .int .i64 b]] w fun e w' => e = .returned (.bool (decide (a ≤ m) && decide (m ≤ b))) ∧ Fr (fun _ => False) w w' := by
  by_cases h1 : a ≤ m <;> by_cases h2 : m ≤ b
  all_goals
    simp only [h1, h2, decide_true, decide_false, Bool.and_true, Bool.and_false]
    go_enter Tryz.func11, Tryz.ntmps11
    go_wp2
    go_ret
    exact ⟨rfl, (Fr.refl _ _).alloc _⟩
end Go.Proofs.YtbeikkkmobbnkaaGreat
