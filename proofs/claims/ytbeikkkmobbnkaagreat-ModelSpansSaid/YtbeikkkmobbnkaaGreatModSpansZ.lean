/- model: for every input ModelSpans returns true and leaves its input as it was; no condition. -/
import Derived.Test.YtbeikkkmobbnkaaGreatRows
import Derived.Test.YtbeikkkmobbnkaaGreatModSpansM46
import Derived.Test.YtbeikkkmobbnkaaGreatModSpansM47
import Derived.Test.YtbeikkkmobbnkaaGreatModSpansM48
import Derived.Test.YtbeikkkmobbnkaaGreatModSpansM49
import Derived.Test.YtbeikkkmobbnkaaGreatModSpansM50
import Derived.Test.YtbeikkkmobbnkaaGreatModSpansM2
import Derived.Test.YtbeikkkmobbnkaaGreatModSpansM1
import Derived.Deep.QuietTactic
import Derived.BigQuiet
namespace Go.Proofs.YtbeikkkmobbnkaaGreat.modelSpans
open Go.ChangeShapes Go.WideShapes Go.ChangeAt Go.RowKit Go.Maps
attribute [local go_sem] Oper.semAt_some
theorem small_len {L : List AV} {K : Nat} (h : smallF L K = true) : L.length ≤ 40 := by
  unfold smallF at h
  simp only [Bool.and_eq_true, decide_eq_true_eq] at h
  exact h.1.1
set_option maxRecDepth 100000 in
set_option maxHeartbeats 8000000 in
theorem walk (kind : Int) (gd : Str) (v vy : Value) (L : List AV) (Y : List YV) (n : Int) (w : World) (hL : Al w v L) (hY : Yl w vy Y) : Calls Tryz.prog 3 #[.int .i64 kind, vS gd, v, vy, .int .i64 n] w fun e w' => e = .returned (.bool true) ∧ Below w.heap.size w w' := by
  have HL := Lib.hid hL; have HY := Lib.hid hY
  have hNI := hL.len; have hKI := hY.len
  obtain ⟨va, vc, rfl⟩ := hL.sl
  obtain ⟨ya, yc, rfl⟩ := hY.sl
  obtain ⟨N, hN⟩ : ∃ N, L.length = N := ⟨_, rfl⟩
  obtain ⟨K, hK⟩ : ∃ K, Y.length = K := ⟨_, rfl⟩
  rw [hN] at HL hNI ⊢
  rw [hK] at HY hKI ⊢
  have HN := Lib.hid hN
  have hsm := lwSmall w (.slice va N vc) L ya K yc HL.out hKI
  obtain ⟨s, hs⟩ : ∃ s, smallF L K = s := ⟨_, rfl⟩
  rw [hs] at hsm
  have HSM := Lib.hid hsm; have HSF := Lib.hid hs
  clear hL hY hN hK hs hsm
  cases s
  · go_enter Tryz.func3, Tryz.ntmps3
    go_wp2_with (first
      | (go_at_call 7; refine HSM.out.mono ?_; rintro e w1 ⟨rfl, hf1⟩; have HF1 := Lib.hid hf1; clear hf1)
      | (go_at_call 8; refine (mdLives _).mono ?_; rintro e w2 ⟨rfl, hf2⟩; have HF2 := Lib.hid hf2; clear hf2))
    go_ret
    exact ⟨rfl, (HF1.out.trans HF2.out).toBelow (fun b h => h.elim) (Nat.le_refl _)⟩
  · have hlen : Hid (L.length ≤ 1000) := Lib.hid (by have := small_len HSF.out; omega)
    obtain ⟨lo, hlo⟩ : ∃ lo, loF kind gd L Y = lo := ⟨_, rfl⟩
    obtain ⟨hi, hhi⟩ : ∃ hi, hiF kind gd L Y = hi := ⟨_, rfl⟩
    have hA : Hid (∀ W, Fr (fun _ => False) w W → Calls Tryz.prog 9 #[.int .i64 kind, vS gd, .slice va N vc, .slice ya K yc] W fun e w' => e = .returned (.agg #[.int .i64 lo, .int .i64 hi]) ∧ Fr (fun _ => False) W w') := Lib.hid (fun W hf => by
      have := kSpan W kind gd (.slice va N vc) (.slice ya K yc) L Y (HL.out.fr0 aokKeeps hf) hlen.out (HY.out.fr0 yokKeeps hf)
      rw [← hlo, ← hhi]; exact this)
    have hB : Hid (∀ W, Fr (fun _ => False) w W → Calls Tryz.prog 10 #[.int .i64 kind, vS gd, .slice va N vc, .slice ya K yc] W fun e w' => e = .returned (.agg #[.int .i64 lo, .int .i64 hi]) ∧ Fr (fun _ => False) W w') := Lib.hid (fun W hf => by
      have := r25Span W kind gd (.slice va N vc) (.slice ya K yc) L Y (HL.out.fr0 aokKeeps hf) hlen.out (HY.out.fr0 yokKeeps hf)
      rw [← hlo, ← hhi]; exact this)
    clear hlo hhi
    have hWn := Lib.hid (fun W => mWithin W n lo hi)
    obtain ⟨R, hR⟩ : ∃ R, (decide (lo ≤ n) && decide (n ≤ hi)) = R := ⟨_, rfl⟩
    rw [hR] at hWn
    have HR := Lib.hid hR
    clear hR
    go_enter Tryz.func3, Tryz.ntmps3
    go_wp2_with (first
      | (go_at_call 7; refine HSM.out.mono ?_; rintro e w1 ⟨rfl, hf1⟩; have HF1 := Lib.hid hf1; clear hf1)
      | (go_at_call 9; refine (hA.out _ HF1.out).mono ?_; rintro e w2 ⟨rfl, hf2⟩; have HF2 := Lib.hid (HF1.out.trans hf2); clear hf2)
      | (go_at_call 10; refine (hB.out _ HF2.out).mono ?_; rintro e w3 ⟨rfl, hf3⟩; have HF3 := Lib.hid (HF2.out.trans hf3); clear hf3))
    obtain ⟨b1, hb1⟩ : ∃ b, w3.heap.size = b := ⟨_, rfl⟩
    have hR1 : ((w3.alloc (.cells #[.int .i64 lo, .int .i64 hi] 27)).alloc (.cells #[.int .i64 lo, .int .i64 hi] 27)).heap[b1]? = some (.cells #[.int .i64 lo, .int .i64 hi] 27) := heap_keep (heap_at hb1.symm _) _
    have hR2 : ((w3.alloc (.cells #[.int .i64 lo, .int .i64 hi] 27)).alloc (.cells #[.int .i64 lo, .int .i64 hi] 27)).heap[b1 + 1]? = some (.cells #[.int .i64 lo, .int .i64 hi] 27) := heap_at (by simp; omega) _
    have hFw : Fr (fun _ => False) w ((w3.alloc (.cells #[.int .i64 lo, .int .i64 hi] 27)).alloc (.cells #[.int .i64 lo, .int .i64 hi] 27)) := (HF3.out.alloc _).alloc _
    rw [hb1]
    obtain ⟨W, hW⟩ : ∃ W, (w3.alloc (.cells #[.int .i64 lo, .int .i64 hi] 27)).alloc (.cells #[.int .i64 lo, .int .i64 hi] 27) = W := ⟨_, rfl⟩
    rw [hW] at hR1 hR2 hFw ⊢
    have HR1 := Lib.hid hR1; have HR2 := Lib.hid hR2; have HFw := Lib.hid hFw
    clear hR1 hR2 hFw hW hb1
    have p0 := FrW.cell (cell_obj HR1.out 0 (.int .i64 lo) rfl)
    have p1 := FrW.cell (cell_obj HR1.out 1 (.int .i64 hi) rfl)
    have q0 := FrW.cell (cell_obj HR2.out 0 (.int .i64 lo) rfl)
    have q1 := FrW.cell (cell_obj HR2.out 1 (.int .i64 hi) rfl)
    by_cases h1 : lo ≤ n
    · by_cases h2 : n ≤ hi
      · have hRt : R = true := by rw [← HR.out, decide_eq_true h1, decide_eq_true h2]; rfl
        subst hRt
        refine wp_region_fr (by kernel_rfl) (by kernel_rfl) ?_
        repeat (go_big_quiet_step (first | (go_at_call 8; rename_i X; refine (mdLives _).mono ?_; rintro e w2 ⟨rfl, hF⟩; exact ⟨rfl, ⟨w2, X.fr.trans hF⟩, rfl⟩) | (go_at_call 11; rename_i X; refine (hWn.out _).mono ?_; rintro e w2 ⟨rfl, hF⟩; exact ⟨rfl, ⟨w2, X.fr.trans hF⟩, rfl⟩)))
        refine wpQuiet_nil ?_
        rintro _ ⟨⟨V, hV⟩, rfl⟩
        go_wp2_with fail
        go_ret
        exact ⟨rfl, (HFw.out.trans hV).toBelow (fun b hb => hb.elim) (Nat.le_refl _)⟩
      · have hRt : R = false := by rw [← HR.out, decide_eq_true h1, decide_eq_false h2]; rfl
        have d2 : decide (n ≤ hi) = false := decide_eq_false h2
        subst hRt
        clear h2
        refine wp_region_fr (by kernel_rfl) (by kernel_rfl) ?_
        repeat (go_big_quiet_step (first | (go_at_call 8; rename_i X; refine (mdLives _).mono ?_; rintro e w2 ⟨rfl, hF⟩; exact ⟨rfl, ⟨w2, X.fr.trans hF⟩, rfl⟩) | (go_at_call 11; rename_i X; refine (hWn.out _).mono ?_; rintro e w2 ⟨rfl, hF⟩; exact ⟨rfl, ⟨w2, X.fr.trans hF⟩, rfl⟩)))
        refine wpQuiet_nil ?_
        rintro _ ⟨⟨V, hV⟩, rfl⟩
        go_wp2_with fail
        go_ret
        exact ⟨rfl, (HFw.out.trans hV).toBelow (fun b hb => hb.elim) (Nat.le_refl _)⟩
    · · have hRt : R = false := by rw [← HR.out, decide_eq_false h1]; rfl
        have d1 : decide (lo ≤ n) = false := decide_eq_false h1
        subst hRt
        clear h1
        refine wp_region_fr (by kernel_rfl) (by kernel_rfl) ?_
        repeat (go_big_quiet_step (first | (go_at_call 8; rename_i X; refine (mdLives _).mono ?_; rintro e w2 ⟨rfl, hF⟩; exact ⟨rfl, ⟨w2, X.fr.trans hF⟩, rfl⟩) | (go_at_call 11; rename_i X; refine (hWn.out _).mono ?_; rintro e w2 ⟨rfl, hF⟩; exact ⟨rfl, ⟨w2, X.fr.trans hF⟩, rfl⟩)))
        refine wpQuiet_nil ?_
        rintro _ ⟨⟨V, hV⟩, rfl⟩
        go_wp2_with fail
        go_ret
        exact ⟨rfl, (HFw.out.trans hV).toBelow (fun b hb => hb.elim) (Nat.le_refl _)⟩
set_option maxRecDepth 100000 in
theorem lifted (os : Os) (started : os.Started) (H : Type) (enc : TypeId × Value → H) :
    ReturnsInHanded {} Tryz.checked os 3 .any (Rows.modelSpansSpec.pre6 enc Tryz.prog Tryz.f3 Rows.modelSpansRow.domain false) (Rows.modelSpansSpec.post enc Tryz.prog Tryz.f3 false true false false) := by
  refine returnsInHanded_of_change (C := Tryz.checked) own started (by kernel_rfl) Tryz.func3
    (ChangeSpec.witness6 (enc := enc) (C := Tryz.checked) false ⟨#[], #[.int .i64 0, .string ⟨#[]⟩, .slice none 0 0, .slice none 0 0, .int .i64 0], []⟩ 8 (by kernel_rfl) (by kernel_rfl) (by kernel_rfl) (by kernel_rfl)) ?_
  intro W base args ds gs before hval0 hW hcnd _
  have hval : ∀ (j : Nat) t v, Tryz.f3.params[j]? = some t → args[j]? = some v → Value.okWide Tryz.prog W .any base t v := hval0
  have hW' := hW
  obtain ⟨p, q, hA0, hV, rfl, hfz, hnd⟩ := hW
  have hA : DataW.TrodAll enc Tryz.prog W 0 (fun _ => true) true Tryz.f3.params.toList args.toList ds p := hA0
  rw [Tryz.params3] at hA hval
  obtain ⟨v0, vs0, d0, ds0, p0, q0, hargs, rfl, rfl, h0, r0⟩ := trodAll_cons hA
  obtain ⟨v1, vs1, d1, ds1, p1, q1, rfl, rfl, rfl, h1, r1⟩ := trodAll_cons r0
  obtain ⟨v2, vs2, d2, ds2, p2, q2, rfl, rfl, rfl, h2, r2⟩ := trodAll_cons r1
  obtain ⟨v3, vs3, d3, ds3, p3, q3, rfl, rfl, rfl, h3, r3⟩ := trodAll_cons r2
  obtain ⟨v4, vs4, d4, ds4, p4, q4, rfl, rfl, rfl, h4, r4⟩ := trodAll_cons r3
  obtain ⟨rfl, rfl, rfl⟩ := trodAll_nil r4
  obtain rfl : args = #[v0, v1, v2, v3, v4] := by cases args; simp_all
  obtain ⟨rfl, rfl⟩ := trodVars_none hV
  obtain ⟨a0, rfl, rfl, rfl, w0⟩ := open_int Tryz.underlying3 (hval 0 3 v0 rfl rfl) h0
  obtain ⟨s1, rfl, ws1⟩ := open_strV Tryz.underlying9 (hval 1 9 v1 rfl rfl) h1
  obtain ⟨L2, hL2⟩ := open_asks (hval 2 22 v2 rfl rfl) h2
  obtain ⟨L3, hL3⟩ := open_answers (hval 3 23 v3 rfl rfl) h3
  obtain ⟨a4, rfl, rfl, rfl, w4⟩ := open_int Tryz.underlying3 (hval 4 3 v4 rfl rfl) h4
  clear hA0 hval0
  simp only [List.append_nil] at hW'
  refine (walk a0 s1 v2 v3 L2 L3 a4 W hL2 hL3).mono fun e W' ⟨he, hg⟩ => ?_
  subst he
  exact ⟨_, rfl, law_post laidOut (by kernel_rfl) rfl Tryz.underlying4 hW' rfl rfl hg⟩
theorem over : Rows.modelSpansRow.holds Tryz.pinned (OpenSpec.ofChange Rows.modelSpansSpec) :=
  OpenClaim.holds_of_wide 3 Tryz.f3 rfl rfl rfl rfl rfl rfl rfl ⟨rfl, rfl, rfl, rfl, rfl⟩ rfl rfl rfl rfl rfl (by kernel_rfl) Tryz.func3 (by kernel_rfl)
    (of_decide_eq_true (by kernel_rfl)) (by unfold Func.isWrapper; first | (rw [if_pos (by decide +kernel)]; kernel_rfl) | (rw [if_neg (by decide +kernel)]; exact ⟨rfl, rfl⟩))
    (fun os started H enc _ => lifted os started H enc)
theorem proved : Rows.ModelSpansSaid :=
  over
#print axioms proved
end Go.Proofs.YtbeikkkmobbnkaaGreat.modelSpans
