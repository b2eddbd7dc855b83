/- ident: for every input IdentMarks returns true and leaves its input as it was; no condition. -/
import Derived.Test.YtakjiicnbocjeaaRows
import Derived.Test.YtakjiicnbocjeaaIdM
import Derived.Deep.RegionWith
import Derived.Deep.QuietTactic
import Derived.BigQuiet
namespace Go.Proofs.Ytakjiicnbocjeaa.identMarks
open Go.ChangeShapes Go.WideShapes Go.ChangeAt Go.RowKit
set_option maxRecDepth 100000 in
set_option maxHeartbeats 4000000 in
theorem walk (v : Value) (L : List OpV) (w : World) (hL : Ops w v L) : Calls Try.prog 5 #[v] w fun e w' => e = .returned (.bool true) ∧ Below w.heap.size w w' := by
  obtain ⟨hlm0, a0, c0, rfl, -⟩ := id hL
  have hlm : L.length ≤ 9223372036854775807 := hlm0
  clear hlm0
  obtain ⟨n0, hn0⟩ : ∃ n0, w.heap.size = n0 := ⟨_, rfl⟩
  have HS := Lib.hid hn0
  have HL := Lib.hid hL
  clear hL
  go_enter Try.func5, Try.ntmps5
  go_wp2_with (go_at_call 9; refine (xNew _).mono ?_; rintro e w1 ⟨rfl, hT1, hf1, hs1⟩; rw [hn0] at hs1 hT1)
  refine (iLives _).mono ?_
  rintro e w2 ⟨rfl, hb2⟩
  have hT2 := hT1.fr (Fr.below hb2) (fun _ _ h => h)
  have hF2 : Fr (fun b => n0 ≤ b) w w2 := (hf1.mono (fun _ _ h => h.elim)).trans (Fr.below hb2)
  clear hf1 hb2 hT1 hs1
  go_wp2_with fail
  go_loopw [4] (fun i wr => ∃ (k : Nat) (A : Tbl) (TS : Nat → Prop), k ≤ L.length ∧ (k : Int) ≤ 200 ∧ i = .int .i64 k ∧ TA wr (n0 + 1) TS A ∧ MkOk A ∧ Fr (fun b => n0 ≤ b) w wr ∧ ∀ b, TS b → n0 ≤ b) (fun i _ => 200 - (intOf i).toNat)
  case atStart => exact ⟨0, [], _, by omega, by omega, rfl, hT2, MkOk.nil, hF2, fun b h => by omega⟩
  case round =>
    obtain ⟨k, A, TS, hk, hk2, rfl, hTr, hM, hFr, hLr⟩ := hrel
    have HO := Lib.hid (HL.out.fr hFr (fun b h => by have := HS.out; omega))
    have HT := Lib.hid hTr; have HF := Lib.hid hFr; have HW := Lib.hid hLr; have HM := Lib.hid hM
    clear hTr hFr hLr hM
    by_cases hkl : k < L.length
    · by_cases hk3 : (k : Int) < 200
      · obtain ⟨r, hr⟩ : ∃ r, L[k]? = some r := ⟨L[k], List.getElem?_eq_getElem hkl⟩
        obtain ⟨a, rfl, hok, q0, q1, q2, q3, q4, q5, q6, q7⟩ := HO.out.at_ hr
        obtain ⟨kd, c, n, body, bs, ⟨ac, an, acode, ak⟩⟩ := r
        dsimp only at q0 q1 q2 q3 q4 q5 q6 q7
        obtain ⟨-, ba, bc, hbe, -⟩ := id hok.bs
        obtain ⟨bn, hbn⟩ : ∃ bn, bs.length = bn := ⟨_, rfl⟩
        dsimp only at hbe
        rw [hbn] at hbe
        subst hbe
        have HK := Lib.hid hok
        clear hok hr hbn
        obtain ⟨mk, hmk⟩ : ∃ mk, markM A c = mk := ⟨_, rfl⟩
        have HMK := Lib.hid hmk
        clear hmk
        go_wp2_with fail
        have hfo := (Fr.refl (fun _ => False) wr).alloc (.cells #[.int .i64 kd, .int .i64 c, .int .i64 n, .slice ba bn bc, .int .i64 ac, .int .i64 an, .int .i64 acode, .int .i64 ak] 33)
        refine (xMark _ _ _ _ c (HT.out.fr hfo (fun _ _ h => h)) HK.out.c).mono ?_
        rw [HMK.out]
        rintro e w3 ⟨rfl, hf3⟩
        have hB3 := hf3.at_ (heap_new wr _) (fun h => h)
        have HT3 := Lib.hid ((HT.out.fr hfo (fun _ _ h => h)).fr hf3 (fun _ _ h => h))
        have HF3 := Lib.hid ((HF.out.alloc _).trans (hf3.mono (S' := fun b => n0 ≤ b) (fun _ _ h => h.elim)))
        have HK3 := Lib.hid ((HK.out.fr hfo (fun _ h => h.elim)).fr hf3 (fun _ h => h.elim))
        have HN3 : Hid (¬ TS wr.heap.size) := Lib.hid (fun e => by have := HT.out.lt _ e; omega)
        have HB3 := Lib.hid hB3
        clear hfo hf3 q0 q1 q2 q3 q4 q5 q6 q7 hB3
        have p0 := cell_obj HB3.out 0 (.int .i64 kd) rfl
        have p1 := cell_obj HB3.out 1 (.int .i64 c) rfl
        have p2 := cell_obj HB3.out 2 (.int .i64 n) rfl
        have p3 := cell_obj HB3.out 3 (.slice ba bn bc) rfl
        have p4 := cell_obj HB3.out 4 (.int .i64 ac) rfl
        have p5 := cell_obj HB3.out 5 (.int .i64 an) rfl
        have p6 := cell_obj HB3.out 6 (.int .i64 acode) rfl
        have p7 := cell_obj HB3.out 7 (.int .i64 ak) rfl
        rcases (by omega : kd = 1 ∨ kd = 2 ∨ kd = 3 ∨ (kd ≠ 1 ∧ kd ≠ 2 ∧ kd ≠ 3)) with rfl | rfl | rfl | ⟨z1, z2, z3⟩
        · -- Ask
          go_wp2_with fail
          obtain ⟨M, hM⟩ : ∃ M, mixF 7 bs = M := ⟨_, rfl⟩
          have hst := ask_stale HM.out c n M
          rw [HMK.out] at hst
          have hA := xAsk _ _ _ _ c n _ bs HT3.out HK3.out.bs
          rw [hM] at hA
          obtain ⟨V, hV⟩ : ∃ V, (askA A c n M).1 = V := ⟨_, rfl⟩
          obtain ⟨⟨rc, rn, rcode, rk⟩, hR⟩ : ∃ R, (askA A c n M).2 = R := ⟨_, rfl⟩
          rw [hV] at hA hst
          rw [hR] at hA
          refine hA.mono ?_
          clear hA hV hR hM
          rintro e w4 ⟨rfl, TS4, hT, hs⟩
          have HST := Lib.hid hst
          clear hst
          unfold Ans.enc
          dsimp only
          have hB := hs.1.at_ HB3.out HN3.out
          have HT4 := Lib.hid hT
          have HF4 := Lib.hid (hs.fr HF3.out HW.out)
          have HW4 := Lib.hid (hs.low HW.out (by have := HF3.out.size; have := HS.out; omega))
          have HN4 : Hid (¬ TS4 wr.heap.size) := Lib.hid (fun e => by
            rcases hs.2 _ e with h | h
            · exact HN3.out h
            · have := (Array.getElem?_eq_some_iff.1 HB3.out).1; omega)
          have HB4 := Lib.hid hB
          clear hs hT hB p0 p1 p2 p3 p4 p5 p6 p7
          have HT5 := Lib.hid (HT4.out.fr ((Fr.refl (fun _ => False) _).alloc (.cells #[.int .i64 rc, .int .i64 rn, .int .i64 rcode, .int .i64 rk] 31)) (fun _ _ h => h))
          have HF5 := Lib.hid (HF4.out.alloc (.cells #[.int .i64 rc, .int .i64 rn, .int .i64 rcode, .int .i64 rk] 31))
          have HB5 := Lib.hid (heap_keep HB4.out (.cells #[.int .i64 rc, .int .i64 rn, .int .i64 rcode, .int .i64 rk] 31))
          have HW5 := HW4
          have p1 := cell_obj HB5.out 1 (.int .i64 c) rfl
          have p2 := cell_obj HB5.out 2 (.int .i64 n) rfl
          have hcase : (V = 5 ∧ 0 < mk ∧ 1 ≤ n ∧ n < mk) ∨ (V ≠ 5 ∧ mk ≤ 0) ∨ (V ≠ 5 ∧ 0 < mk ∧ n < 1) ∨ (V ≠ 5 ∧ 0 < mk ∧ 1 ≤ n ∧ mk ≤ n) := by
            have := HST.out
            by_cases h5 : V = 5
            · exact .inl ⟨h5, this.2 h5⟩
            · have h6 : ¬ (0 < mk ∧ 1 ≤ n ∧ n < mk) := fun h => h5 (this.1 h.1 h.2.1 h.2.2)
              omega
          rcases hcase with ⟨rfl, h1, h2, h3⟩ | ⟨h5, h1⟩ | ⟨h5, h1, h2⟩ | ⟨h5, h1, h2, h3⟩
          all_goals
            go_wp2_with fail
            refine (xMark _ _ _ _ c HT5.out HK.out.c).mono ?_
            obtain ⟨m2, hm2⟩ : ∃ m2, markM (askT A c n M) c = m2 := ⟨_, rfl⟩
            rw [hm2]
            rintro e w9 ⟨rfl, hf9⟩
            have hle : mk ≤ m2 := by rw [← hm2, ← HMK.out]; exact Int.le_of_eq (mark_ask A c n M c).symm
            have HT9 := Lib.hid (HT5.out.fr hf9 (fun _ _ h => h))
            have HF9 := Lib.hid (HF5.out.trans (hf9.mono (S' := fun b => n0 ≤ b) (fun _ _ h => h.elim)))
            clear hf9 hm2
            go_wp2_with fail
            go_roundw
            case rel => exact ⟨k + 1, _, _, by omega, by omega, by go_num, HT9.out, HM.out.ask c n M, HF9.out, HW5.out⟩
            case measure => simp [intOf]; omega
        · -- Tell
          go_wp2_with fail
          refine (xTell _ _ _ _ ⟨ac, an, acode, ak⟩ HT3.out).mono ?_
          rintro e w4 ⟨rfl, TS4, hT, hs⟩
          have hB := hs.1.at_ HB3.out HN3.out
          have HT4 := Lib.hid hT
          have HF4 := Lib.hid (hs.fr HF3.out HW.out)
          have HW4 := Lib.hid (hs.low HW.out (by have := HF3.out.size; have := HS.out; omega))
          have HN4 : Hid (¬ TS4 wr.heap.size) := Lib.hid (fun e => by
            rcases hs.2 _ e with h | h
            · exact HN3.out h
            · have := (Array.getElem?_eq_some_iff.1 HB3.out).1; omega)
          have HB4 := Lib.hid hB
          clear hs hT hB p0 p1 p2 p3 p4 p5 p6 p7
          have p1 := cell_obj HB4.out 1 (.int .i64 c) rfl
          go_wp2_with fail
          refine (xMark _ _ _ _ c HT4.out HK.out.c).mono ?_
          obtain ⟨m2, hm2⟩ : ∃ m2, markM (tellT A ⟨ac, an, acode, ak⟩) c = m2 := ⟨_, rfl⟩
          rw [hm2]
          rintro e w9 ⟨rfl, hf9⟩
          have hle : mk ≤ m2 := by rw [← hm2, ← HMK.out]; exact Int.le_of_eq (mark_tell A _ c).symm
          have HT9 := Lib.hid (HT4.out.fr hf9 (fun _ _ h => h))
          have HF9 := Lib.hid (HF4.out.trans (hf9.mono (S' := fun b => n0 ≤ b) (fun _ _ h => h.elim)))
          clear hf9 hm2
          go_wp2_with fail
          go_roundw
          case rel => exact ⟨k + 1, _, _, by omega, by omega, by go_num, HT9.out, HM.out.tell _, HF9.out, HW4.out⟩
          case measure => simp [intOf]; omega
        · -- Low
          go_wp2_with fail
          refine (xLow _ _ _ _ c n HT3.out).mono ?_
          obtain ⟨V, hV⟩ : ∃ V, lowA A c n = V := ⟨_, rfl⟩
          rw [hV]
          have HV := Lib.hid hV
          clear hV
          rintro e w4 ⟨rfl, TS4, hT, hs⟩
          have hB := hs.1.at_ HB3.out HN3.out
          have HT4 := Lib.hid hT
          have HF4 := Lib.hid (hs.fr HF3.out HW.out)
          have HW4 := Lib.hid (hs.low HW.out (by have := HF3.out.size; have := HS.out; omega))
          have HN4 : Hid (¬ TS4 wr.heap.size) := Lib.hid (fun e => by
            rcases hs.2 _ e with h | h
            · exact HN3.out h
            · have := (Array.getElem?_eq_some_iff.1 HB3.out).1; omega)
          have HB4 := Lib.hid hB
          clear hs hT hB p0 p1 p2 p3 p4 p5 p6 p7
          have p1 := cell_obj HB4.out 1 (.int .i64 c) rfl
          have p2 := cell_obj HB4.out 2 (.int .i64 n) rfl
          by_cases h0 : V = 0
          · subst h0
            go_wp2_with fail
            obtain ⟨m3, hm3⟩ : ∃ m3, markM (lowT A c n) c = m3 := ⟨_, rfl⟩
            have hle3 : n ≤ m3 := by rw [← hm3]; exact mark_low_ok HV.out
            have hMk := xMark w4.drew _ _ _ c (HT4.out.fr (Fr.refl (fun _ => False) _).drew (fun _ _ h => h)) HK.out.c
            rw [hm3] at hMk
            have HMk := Lib.hid hMk
            have HM3 := Lib.hid hm3
            clear hMk hm3
            go_region_with (go_at_call 15; refine HMk.out.mono ?_; rintro e w5 ⟨rfl, hf5⟩; have p1 := hf5.cell p1 (fun h => h); have p2 := hf5.cell p2 (fun h => h); have HT5 := Lib.hid ((HT4.out.fr (Fr.refl (fun _ => False) _).drew (fun _ _ h => h)).fr hf5 (fun _ _ h => h)); have HF5 := Lib.hid (HF4.out.drew.trans (hf5.mono (S' := fun b => n0 ≤ b) (fun _ _ h => h.elim))); clear hf5)
            all_goals
              have HW5 := HW4
              go_wp2_with fail
              refine (xMark _ _ _ _ c HT5.out HK.out.c).mono ?_
              obtain ⟨m2, hm2⟩ : ∃ m2, markM (lowT A c n) c = m2 := ⟨_, rfl⟩
              rw [hm2]
              rintro e w9 ⟨rfl, hf9⟩
              have hle : mk ≤ m2 := by rw [← hm2, ← HMK.out]; exact mark_low A c n c
              have HT9 := Lib.hid (HT5.out.fr hf9 (fun _ _ h => h))
              have HF9 := Lib.hid (HF5.out.trans (hf9.mono (S' := fun b => n0 ≤ b) (fun _ _ h => h.elim)))
              clear hf9 hm2
              go_wp2_with fail
              go_roundw
              case rel => exact ⟨k + 1, _, _, by omega, by omega, by go_num, HT9.out, HM.out.low c n, HF9.out, HW5.out⟩
              case measure => simp [intOf]; omega
          · have hd0 : decide (V = 0) = false := by simpa using h0
            have hd1 : (V == 0) = false := by simpa using h0
            go_wp2_with fail
            go_quiet (fail)
            go_wp2_with fail
            refine (xMark _ _ _ _ c (HT4.out.fr ((Fr.refl (fun _ => False) _).drewN _) (fun _ _ h => h)) HK.out.c).mono ?_
            obtain ⟨m2, hm2⟩ : ∃ m2, markM (lowT A c n) c = m2 := ⟨_, rfl⟩
            rw [hm2]
            rintro e w9 ⟨rfl, hf9⟩
            have hle : mk ≤ m2 := by rw [← hm2, ← HMK.out]; exact mark_low A c n c
            have HT9 := Lib.hid ((HT4.out.fr ((Fr.refl (fun _ => False) _).drewN _) (fun _ _ h => h)).fr hf9 (fun _ _ h => h))
            have HF9 := Lib.hid ((HF4.out.drewN _).trans (hf9.mono (S' := fun b => n0 ≤ b) (fun _ _ h => h.elim)))
            clear hf9 hm2
            go_wp2_with fail
            go_roundw
            case rel => exact ⟨k + 1, _, _, by omega, by omega, by go_num, HT9.out, HM.out.low c n, HF9.out, HW4.out⟩
            case measure => simp [intOf]; omega
        · -- nothing
          have HW3 := HW
          go_wp2_with fail
          refine (xMark _ _ _ _ c HT3.out HK.out.c).mono ?_
          obtain ⟨m2, hm2⟩ : ∃ m2, markM (A) c = m2 := ⟨_, rfl⟩
          rw [hm2]
          rintro e w9 ⟨rfl, hf9⟩
          have hle : mk ≤ m2 := by rw [← hm2, ← HMK.out]; exact Int.le_refl _
          have HT9 := Lib.hid (HT3.out.fr hf9 (fun _ _ h => h))
          have HF9 := Lib.hid (HF3.out.trans (hf9.mono (S' := fun b => n0 ≤ b) (fun _ _ h => h.elim)))
          clear hf9 hm2
          go_wp2_with fail
          go_roundw
          case rel => exact ⟨k + 1, _, _, by omega, by omega, by go_num, HT9.out, HM.out, HF9.out, HW3.out⟩
          case measure => simp [intOf]; omega
      · go_wp2_with fail
        go_ret
        exact ⟨rfl, HF.out.toBelow (fun b h => by have := HS.out; omega) (by have := HS.out; omega)⟩
    · go_wp2_with fail
      go_ret
      exact ⟨rfl, HF.out.toBelow (fun b h => by have := HS.out; omega) (by have := HS.out; omega)⟩
set_option maxRecDepth 100000 in
theorem lifted (os : Os) (started : os.Started) (H : Type) (enc : TypeId × Value → H) :
    ReturnsInHanded {} Try.checked os 5 .any (Rows.identMarksSpec.pre6 enc Try.prog Try.f5 Rows.identMarksRow.domain false) (Rows.identMarksSpec.post enc Try.prog Try.f5 false true false false) := by
  refine returnsInHanded_of_change (C := Try.checked) own started (by kernel_rfl) Try.func5
    (ChangeSpec.witness6 (enc := enc) (C := Try.checked) false ⟨#[], #[.slice none 0 0], []⟩ 8 (by kernel_rfl) (by kernel_rfl) (by kernel_rfl) (by kernel_rfl)) ?_
  intro W base args ds gs before hval0 hW hcnd _
  have hval : ∀ (j : Nat) t v, Try.f5.params[j]? = some t → args[j]? = some v → Value.okWide Try.prog W .any base t v := hval0
  have hW' := hW
  obtain ⟨p, q, hA0, hV, rfl, hfz, hnd⟩ := hW
  have hA : DataW.TrodAll enc Try.prog W 0 (fun _ => true) true Try.f5.params.toList args.toList ds p := hA0
  rw [Try.params5] at hA hval
  obtain ⟨v0, vs0, d0, ds0, p0, q0, hargs, rfl, rfl, h0, r0⟩ := trodAll_cons hA
  obtain ⟨rfl, rfl, rfl⟩ := trodAll_nil r0
  obtain rfl : args = #[v0] := by cases args; simp_all
  obtain ⟨rfl, rfl⟩ := trodVars_none hV
  obtain ⟨L0, hL0⟩ := open_ops (hval 0 22 v0 rfl rfl) h0
  clear hA0 hval0
  simp only [List.append_nil] at hW'
  refine (walk v0 L0 W hL0).mono fun e W' ⟨he, hg⟩ => ?_
  subst he
  exact ⟨_, rfl, law_post laidOut (by kernel_rfl) rfl Try.underlying4 hW' rfl rfl hg⟩
theorem over : Rows.identMarksRow.holds Try.pinned (OpenSpec.ofChange Rows.identMarksSpec) :=
  OpenClaim.holds_of_wide 5 Try.f5 rfl rfl rfl rfl rfl rfl rfl ⟨rfl, rfl, rfl, rfl, rfl⟩ rfl rfl rfl rfl rfl (by kernel_rfl) Try.func5 (by kernel_rfl)
    (of_decide_eq_true (by kernel_rfl)) (by unfold Func.isWrapper; first | (rw [if_pos (by decide +kernel)]; kernel_rfl) | (rw [if_neg (by decide +kernel)]; exact ⟨rfl, rfl⟩))
    (fun os started H enc _ => lifted os started H enc)
theorem proved : Rows.IdentMarksSaid :=
  over
#print axioms proved
end Go.Proofs.Ytakjiicnbocjeaa.identMarks
