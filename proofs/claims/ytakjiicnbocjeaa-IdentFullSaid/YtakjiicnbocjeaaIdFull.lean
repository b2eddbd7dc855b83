/- ident: for every input IdentFull returns true and leaves its input as it was; no condition. -/
import Derived.Test.YtakjiicnbocjeaaRows
import Derived.Test.YtakjiicnbocjeaaIdL
import Derived.Test.YtakjiicnbocjeaaLawKit
namespace Go.Proofs.Ytakjiicnbocjeaa.identFull
open Go.ChangeShapes Go.WideShapes Go.ChangeAt Go.RowKit
theorem askS {W : World} {g : Nat} {TS : Nat → Prop} {A : Tbl} {c n M : Int} (hM : mixF 7 [] = M) (h : TA W g TS A) :
    Calls Try.prog 11 #[.pointer (some ⟨g, 0, none⟩), .int .i64 c, .int .i64 n, .slice none 0 0] W fun e w' =>
      e = .returned (.tuple #[.int .i64 (askA A c n M).1, (askA A c n M).2.enc]) ∧ ∃ TS', TA w' g TS' (askT A c n M) ∧ Stp TS W w' TS' := hM ▸ xAsk W g TS A c n _ [] h (Bs.nil W)
set_option maxRecDepth 100000 in
set_option maxHeartbeats 2000000 in
theorem walk (c f : Int) (w : World) (hc : okI c) (hf : okI f) : Calls Try.prog 4 #[.int .i64 c, .int .i64 f] w fun e w' => e = .returned (.bool true) ∧ Below w.heap.size w w' := by
  have HC := Lib.hid hc
  by_cases hgo : c < 0 ∨ 63 < c ∨ f < 1 ∨ 1073741824 < f
  · have hgo2 : (c < 0) ∨ (0 ≤ c ∧ 63 < c) ∨ (0 ≤ c ∧ c ≤ 63 ∧ f < 1) ∨ (0 ≤ c ∧ c ≤ 63 ∧ 1 ≤ f ∧ 1073741824 < f) := by omega
    clear hgo hc hf
    rcases hgo2 with h1 | ⟨h1, h2⟩ | ⟨h1, h2, h3⟩ | ⟨h1, h2, h3, h4⟩
    all_goals
      go_enter Try.func4, Try.ntmps4
      go_wp2_with (go_at_call 9; refine (xNew _).mono ?_; rintro e w1 ⟨rfl, -, hf1, -⟩)
      refine (iLives _).mono ?_
      rintro e w2 ⟨rfl, hb2⟩
      have hF2 := hf1.trans ((Fr.below hb2).mono (S' := fun _ => False) (fun _ _ h => h))
      clear hf1 hb2
      go_wp2_with fail
      refine (iLives _).mono ?_
      rintro e w3 ⟨rfl, hb3⟩
      go_wp2_with fail
      go_ret
      exact ⟨rfl, (hF2.trans (Fr.below hb3)).toBelow (fun b h => h.elim) (Nat.le_refl _)⟩
  · have h0 : 0 ≤ c ∧ c ≤ 63 ∧ 1 ≤ f ∧ f ≤ 1073741824 := by omega
    clear hgo hc hf
    obtain ⟨h1, h2, h3, h4⟩ := h0
    have HI : Hid (isCl c = true) := Lib.hid (by unfold isCl; simp; omega)
    obtain ⟨M, hM⟩ : ∃ M, mixF 7 [] = M := ⟨_, rfl⟩
    have HM := Lib.hid hM
    obtain ⟨n0, hn0⟩ : ∃ n0, w.heap.size = n0 := ⟨_, rfl⟩
    have HS := Lib.hid hn0
    have H3 := Lib.hid h3; have H4 := Lib.hid h4
    clear hM
    go_enter Try.func4, Try.ntmps4
    go_wp2_with (go_at_call 9; refine (xNew _).mono ?_; rintro e w1 ⟨rfl, hT1, hf1, hs1⟩; rw [hn0] at hs1 hT1)
    refine (iLives _).mono ?_
    rintro e w2 ⟨rfl, hb2⟩
    have hT2 := hT1.fr (Fr.below hb2) (fun _ _ h => h)
    have hF2 : Fr (fun b => n0 ≤ b) w w2 := (hf1.mono (fun _ _ h => h.elim)).trans (Fr.below hb2)
    clear hf1 hb2 hT1 hs1
    go_wp2_with fail
    go_loopw [6] (fun i wr => ∃ (k : Nat) (A : Tbl) (TS : Nat → Prop), (k : Int) ≤ 128 ∧ i = .int .i64 k ∧ TA wr (n0 + 1) TS A ∧ cli A c = (1, fR f M k) ∧ Fr (fun b => n0 ≤ b) w wr ∧ ∀ b, TS b → n0 ≤ b) (fun i _ => 128 - (intOf i).toNat)
    case atStart => exact ⟨0, [], _, by omega, rfl, hT2, rfl, hF2, fun b h => by omega⟩
    case round =>
      obtain ⟨k, A, TS, hk, rfl, hTr, hA, hFr, hLr⟩ := hrel
      have HA := Lib.hid hA; have HT := Lib.hid hTr; have HF := Lib.hid hFr; have HL := Lib.hid hLr
      clear hA hTr hFr hLr
      by_cases hk2 : (k : Int) < 128
      · go_wp2_with fail
        refine (askS HM.out HT.out).mono ?_
        rintro e w3 ⟨he, TS3, hT, hs⟩
        have hx := full_new (A := A) (c := c) (M := M) (mk := 1) (b := f) (k := k) HI.out (by omega) H3.out (by have := H4.out; omega) (by omega) HA.out
        rw [hx.1] at he
        subst he
        have HA3 := Lib.hid hx.2
        have HF3 := Lib.hid (hs.fr HF.out HL.out)
        have HL3 := Lib.hid (hs.low HL.out (by have := HF.out.size; have := HS.out; omega))
        have HT3 := Lib.hid hT
        clear hT hs hx
        unfold Ans.zero Ans.enc
        dsimp only
        go_wp2_with fail
        go_roundw
        case rel => exact ⟨k + 1, _, TS3, by omega, by go_num, HT3.out.fr ((Fr.refl (fun _ => False) _).alloc _) (fun _ _ h => h), HA3.out, HF3.out.alloc _, HL3.out⟩
        case measure => simp [intOf]; omega
      · have hk3 : k = 128 := by omega
        subst hk3
        clear hk hk2
        go_wp2_with fail
        have hx := full_full HI.out H3.out H4.out HA.out
        refine (askS (hM := HM.out) (HT.out)).mono ?_
        rintro e w3 ⟨he, TS3, hT, hs⟩
        rw [hx.1] at he
        subst he
        have HA3 := Lib.hid hx.2
        have HF3 := Lib.hid (hs.fr (HF.out) HL.out)
        have HL3 := Lib.hid (hs.low HL.out (by have := HF.out.size; have := HS.out; (try simp); omega))
        have HT3 := Lib.hid hT
        clear hT hs hx
        try unfold Ans.zero Ans.enc
        dsimp only
        go_wp2_with fail
        have hx := full_open HI.out H3.out H4.out HA3.out
        refine (askS (hM := HM.out) (HT3.out.fr ((Fr.refl (fun _ => False) _).alloc _) (fun _ _ h => h))).mono ?_
        rintro e w4 ⟨he, TS4, hT, hs⟩
        rw [hx.1] at he
        subst he
        have HA4 := Lib.hid hx.2
        have HF4 := Lib.hid (hs.fr ((HF3.out).alloc _) HL3.out)
        have HL4 := Lib.hid (hs.low HL3.out (by have := HF3.out.size; have := HS.out; (try simp); omega))
        have HT4 := Lib.hid hT
        clear hT hs hx
        try unfold Ans.zero Ans.enc
        dsimp only
        go_wp2_with fail
        have hx := full_low HI.out H3.out H4.out HA4.out
        refine (xLow _ _ _ _ _ _ (HT4.out.fr ((Fr.refl (fun _ => False) _).alloc _) (fun _ _ h => h))).mono ?_
        rintro e w5 ⟨he, TS5, hT, hs⟩
        rw [hx.1] at he
        subst he
        have HA5 := Lib.hid hx.2
        have HF5 := Lib.hid (hs.fr ((HF4.out).alloc _) HL4.out)
        have HL5 := Lib.hid (hs.low HL4.out (by have := HF4.out.size; have := HS.out; (try simp); omega))
        have HT5 := Lib.hid hT
        clear hT hs hx
        try unfold Ans.zero Ans.enc
        dsimp only
        go_wp2_with fail
        have hx := full_tell HI.out H3.out H4.out HA5.out
        refine (xTell _ _ _ _ ⟨c, f, 0, 0⟩ (HT5.out)).mono ?_
        rintro e w6 ⟨he, TS6, hT, hs⟩
        rw [hx.1] at he
        subst he
        have HA6 := Lib.hid hx.2
        have HF6 := Lib.hid (hs.fr (HF5.out) HL5.out)
        have HL6 := Lib.hid (hs.low HL5.out (by have := HF5.out.size; have := HS.out; (try simp); omega))
        have HT6 := Lib.hid hT
        clear hT hs hx
        try unfold Ans.zero Ans.enc
        dsimp only
        go_wp2_with fail
        have hx := full_low2 HI.out H3.out H4.out HA6.out
        refine (xLow _ _ _ _ _ _ (HT6.out)).mono ?_
        rintro e w7 ⟨he, TS7, hT, hs⟩
        rw [hx.1] at he
        subst he
        have HA7 := Lib.hid hx.2
        have HF7 := Lib.hid (hs.fr (HF6.out) HL6.out)
        have HL7 := Lib.hid (hs.low HL6.out (by have := HF6.out.size; have := HS.out; (try simp); omega))
        have HT7 := Lib.hid hT
        clear hT hs hx
        try unfold Ans.zero Ans.enc
        dsimp only
        go_wp2_with fail
        have hx := full_last HI.out H3.out H4.out HA7.out
        refine (askS (hM := HM.out) (HT7.out)).mono ?_
        rintro e w8 ⟨he, TS8, hT, hs⟩
        rw [hx.1] at he
        subst he
        have HA8 := Lib.hid hx.2
        have HF8 := Lib.hid (hs.fr (HF7.out) HL7.out)
        have HL8 := Lib.hid (hs.low HL7.out (by have := HF7.out.size; have := HS.out; (try simp); omega))
        have HT8 := Lib.hid hT
        clear hT hs hx
        try unfold Ans.zero Ans.enc
        dsimp only
        go_wp2_with fail
        refine (xLen _ _ _ _ _ (HT8.out.fr ((Fr.refl (fun _ => False) _).alloc _) (fun _ _ h => h)) HC.out).mono ?_
        rw [HA8.out]
        rintro e w9 ⟨rfl, rfl⟩
        go_wp2_with fail
        go_ret
        exact ⟨rfl, (HF8.out.alloc _).toBelow (fun b h => by have := HS.out; omega) (Nat.le_refl _)⟩
set_option maxRecDepth 100000 in
theorem lifted (os : Os) (started : os.Started) (H : Type) (enc : TypeId × Value → H) :
    ReturnsInHanded {} Try.checked os 4 .any (Rows.identFullSpec.pre6 enc Try.prog Try.f4 Rows.identFullRow.domain false) (Rows.identFullSpec.post enc Try.prog Try.f4 false true false false) := by
  refine returnsInHanded_of_change (C := Try.checked) own started (by kernel_rfl) Try.func4
    (ChangeSpec.witness6 (enc := enc) (C := Try.checked) false ⟨#[], #[.int .i64 0, .int .i64 0], []⟩ 8 (by kernel_rfl) (by kernel_rfl) (by kernel_rfl) (by kernel_rfl)) ?_
  intro W base args ds gs before hval0 hW hcnd _
  have hval : ∀ (j : Nat) t v, Try.f4.params[j]? = some t → args[j]? = some v → Value.okWide Try.prog W .any base t v := hval0
  have hW' := hW
  obtain ⟨p, q, hA0, hV, rfl, hfz, hnd⟩ := hW
  have hA : DataW.TrodAll enc Try.prog W 0 (fun _ => true) true Try.f4.params.toList args.toList ds p := hA0
  rw [Try.params4] at hA hval
  obtain ⟨v0, vs0, d0, ds0, p0, q0, hargs, rfl, rfl, h0, r0⟩ := trodAll_cons hA
  obtain ⟨v1, vs1, d1, ds1, p1, q1, rfl, rfl, rfl, h1, r1⟩ := trodAll_cons r0
  obtain ⟨rfl, rfl, rfl⟩ := trodAll_nil r1
  obtain rfl : args = #[v0, v1] := by cases args; simp_all
  obtain ⟨rfl, rfl⟩ := trodVars_none hV
  obtain ⟨a0, rfl, rfl, rfl, w0⟩ := open_int Try.underlying3 (hval 0 3 v0 rfl rfl) h0
  obtain ⟨a1, rfl, rfl, rfl, w1⟩ := open_int Try.underlying3 (hval 1 3 v1 rfl rfl) h1
  clear hA0 hval0
  simp only [List.append_nil] at hW'
  refine (walk a0 a1 W (wf_okI.1 w0) (wf_okI.1 w1)).mono fun e W' ⟨he, hg⟩ => ?_
  subst he
  exact ⟨_, rfl, law_post laidOut (by kernel_rfl) rfl Try.underlying4 hW' rfl rfl hg⟩
theorem over : Rows.identFullRow.holds Try.pinned (OpenSpec.ofChange Rows.identFullSpec) :=
  OpenClaim.holds_of_wide 4 Try.f4 rfl rfl rfl rfl rfl rfl rfl ⟨rfl, rfl, rfl, rfl, rfl⟩ rfl rfl rfl rfl rfl (by kernel_rfl) Try.func4 (by kernel_rfl)
    (of_decide_eq_true (by kernel_rfl)) (by unfold Func.isWrapper; first | (rw [if_pos (by decide +kernel)]; kernel_rfl) | (rw [if_neg (by decide +kernel)]; exact ⟨rfl, rfl⟩))
    (fun os started H enc _ => lifted os started H enc)
theorem proved : Rows.IdentFullSaid :=
  over
#print axioms proved
end Go.Proofs.Ytakjiicnbocjeaa.identFull
