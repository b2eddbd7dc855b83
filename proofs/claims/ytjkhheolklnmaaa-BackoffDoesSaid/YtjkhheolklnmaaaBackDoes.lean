/- backoff: for every input BackoffDoes returns true and leaves its input as it was; no condition. -/
import Derived.Test.YtjkhheolklnmaaaRows
import Derived.Test.YtjkhheolklnmaaaBackN
import Derived.BigQuiet
import Derived.Deep.LoopGhost
import Derived.Deep.DeepCutAuto
import Derived.Deep.CutBlock
namespace Go.Proofs.Ytjkhheolklnmaaa.backoffDoes
open Go.ChangeShapes Go.WideShapes Go.ChangeAt Go.RowKit
set_option maxRecDepth 100000 in
set_option maxHeartbeats 4000000 in
theorem walk (v : Value) (L : List (List Int)) (now : Int) (w : World) (hL : SlI w v 3 L) (hnow : okI now) :
    Calls Try.prog 6 #[v, .int .i64 now] w fun e w' => e = .returned (.bool true) ∧ Below w.heap.size w w' := by
  obtain ⟨hlm0, a0, c0, rfl⟩ := hL.len
  have hlm : L.length ≤ 9223372036854775807 := hlm0
  clear hlm0
  obtain ⟨n, hn⟩ : ∃ n : Nat, L.length = n := ⟨_, rfl⟩
  rw [hn] at hlm ⊢
  have HN := Lib.hid hn; have HL := Lib.hid hL
  clear hn hL
  by_cases h200 : (200 : Int) < n
  · go_enter Try.func6, Try.ntmps6
    go_wp2_with (go_at_call 12; refine (xNew _).mono ?_; rintro e w1 ⟨rfl, hT1, hf1, hs1⟩)
    refine (bLives _).mono ?_
    rintro e w2 ⟨rfl, hb2⟩
    have HB := Lib.hid ((hf1.toBelow (B := w.heap.size) (fun _ h => h.elim) (Nat.le_refl _)).trans (hb2.mono (by omega)))
    have hs2 := hb2.size
    clear hb2 hf1 hT1
    go_wp2_with fail
    refine (bLives _).mono ?_
    rintro e w3 ⟨rfl, hb3⟩
    have HB3 := Lib.hid (HB.out.trans (hb3.mono (by omega)))
    clear hb3
    go_wp2_with fail
    go_ret
    exact ⟨rfl, HB3.out⟩
  have hn200 : (n : Int) ≤ 200 := by omega
  clear hlm
  go_enter Try.func6, Try.ntmps6
  go_wp2_with (first
    | (go_at_call 12; refine (xNew _).mono ?_; rintro e w1 ⟨rfl, hT1, hf1, hs1⟩)
    | (go_at_call 9; refine (bLives _).mono ?_; rintro e w2 ⟨rfl, hb2⟩))
  have HT2 := Lib.hid (hT1.below hb2 (by omega) (by omega))
  have HF2 : Hid (Fr (fun b => w.heap.size ≤ b) w w2) := Lib.hid ((hf1.mono (fun _ _ h => h.elim)).trans (Fr.below hb2))
  clear hf1 hs1 hb2 hT1
  generalize w.heap.size + 1 = g at *
  generalize hm : w.heap.size = m at *
  have HM := Lib.hid hm
  clear hm
  go_loopg [6, 7] n (fun q x i wr => ∃ (k : Nat) (X : List KV), (k : Int) + q = n ∧ i = .int .i64 k ∧ (X.length : Int) ≤ k ∧ TX wr g m X ∧ TSl wr (m + 1) x X ∧ Fr (fun b => m ≤ b) w wr)
  case atStart => exact ⟨0, [], by omega, rfl, by simp, HT2.out, TSl.nil _ _, HF2.out⟩
  case round =>
    obtain ⟨k, X, hk, rfl, hXk, hTX, hTS, hFr⟩ := hrel
    clear HT2 HF2
    by_cases hkn : (k : Int) < n
    · obtain ⟨r, hr⟩ : ∃ r, L[k]? = some r := ⟨L[k]'(by have := HN.out; omega), List.getElem?_eq_getElem _⟩
      have hS := HL.out.below (by omega) (hFr.toBelow (B := w.heap.size) (fun _ h => by have := HM.out; omega) (Nat.le_refl _))
      rw [HN.out] at hS
      obtain ⟨a, rfl⟩ := hS.some hr
      obtain ⟨g1, g2, g3, g4⟩ := hS.row hr
      match r, g1 with
      | [kd, ky, ta], _ =>
      have c0 : wr.cell? (a.add (k * 3)) = some (.int .i64 kd) := g3 kd rfl
      have c1 : wr.cell? ⟨(a.add (k * 3)).block, (a.add (k * 3)).off + 1, none⟩ = some (.int .i64 ky) := g4 0 ky rfl
      have c2 : wr.cell? ⟨(a.add (k * 3)).block, (a.add (k * 3)).off + 2, none⟩ = some (.int .i64 ta) := g4 1 ta rfl
      have hky : okI ky := g2 ky (by simp)
      have HKY := Lib.hid hky
      clear g2 g3 g4 hS hr hky
      have hf := ((Fr.refl (fun _ => False) wr).alloc (.cells #[.int .i64 kd, .int .i64 ky, .int .i64 ta] 32))
      have HST : Hid (St w (wr.alloc (.cells #[.int .i64 kd, .int .i64 ky, .int .i64 ta] 32)) g m wr.heap.size kd ky ta u6 X) :=
        Lib.hid ⟨hTX.fr hf (fun h => h) (fun h => h), hTS.fr hf (fun _ _ h => h), hFr.trans' hf (fun _ _ e => e.elim), heap_new _ _, hTX.lt.2⟩
      have hso := heap_new wr (.cells #[.int .i64 kd, .int .i64 ky, .int .i64 ta] 32)
      clear hf hTX hTS hFr hso
      obtain ⟨a6, c6, rfl, hxc, hxm⟩ := HST.out.sl.form
      obtain ⟨xn, hxn⟩ : ∃ xn : Nat, X.length = xn := ⟨_, rfl⟩
      rw [hxn] at hXk hxc ⊢
      have HXN := Lib.hid hxn
      clear hxn
      go_wp2_with fail
      obtain ⟨ob, hob⟩ : ∃ ob : Nat, wr.heap.size = ob := ⟨_, rfl⟩
      obtain ⟨wo, hwo⟩ : ∃ wo : World, wr.alloc (.cells #[.int .i64 kd, .int .i64 ky, .int .i64 ta] 32) = wo := ⟨_, rfl⟩
      rw [hwo, hob] at HST
      rw [hwo, hob]
      rw [HXN.out] at HST
      clear hwo hob
      have HND := Lib.hid HST.out.tx.nd
      go_loopw [9, 10, 11] (fun was is j wr' => ∃ jn : Nat, (jn : Int) ≤ xn ∧ j = .int .i64 jn ∧ was = .int .i64 ((getS (X.take jn) ky).getD 0) ∧ is = .bool (getS (X.take jn) ky).isSome ∧ St w wr' g m ob kd ky ta (.slice a6 xn c6) X) (fun _ _ j _ => xn - (intOf j).toNat)
      case atStart => exact ⟨0, by omega, rfl, rfl, rfl, HST.out⟩
      case round =>
        obtain ⟨jn, hj, rfl, rfl, rfl, hst⟩ := hrel
        by_cases hjx : (jn : Int) < xn
        · obtain ⟨p, hp⟩ : ∃ p, X[jn]? = some p := ⟨X[jn]'(by have := HXN.out; omega), List.getElem?_eq_getElem _⟩
          obtain ⟨a', rfl, d1, d2⟩ := hst.sl.at hp
          obtain ⟨q0, q1, q2⟩ := hst.cells
          have hsn := getS_snoc (key := ky) hp HND.out
          have HS2 := Lib.hid hst
          obtain ⟨p1, p2⟩ := p
          dsimp only at d1 d2 hsn
          have HSN := Lib.hid hsn
          clear hst hsn hp
          generalize getS (X.take jn) ky = gs at *
          by_cases hpk : p1 = ky
          · subst hpk
            go_wp2_with fail
            go_quiet (fail)
            go_wp2_with fail
            go_roundw
            case rel =>
              refine ⟨jn + 1, by omega, by go_num, ?_, ?_, HS2.out.drewN _⟩
              · rw [HSN.out]; simp
              · rw [HSN.out]; simp
            case measure => simp [intOf]; omega
          · go_wp2_with fail
            go_quiet (fail)
            go_wp2_with fail
            go_roundw
            case rel =>
              refine ⟨jn + 1, by omega, by go_num, ?_, ?_, HS2.out.drewN _⟩
              · rw [HSN.out, if_neg hpk]
              · rw [HSN.out, if_neg hpk]
            case measure => simp [intOf]; omega
        · have hjj : jn = xn := by omega
          subst hjj
          rw [List.take_of_length_le (by have := HXN.out; omega)]
          have hat := xAt wr g m X ky hst.tx HKY.out
          have HDR := Lib.hid (fun W => xDrop W g m X ky)
          obtain ⟨gs, hgs⟩ : ∃ gs, getS X ky = gs := ⟨_, rfl⟩
          rw [hgs] at HDR hat ⊢
          have HGS := Lib.hid hgs; have HS2 := Lib.hid hst; have HAT := Lib.hid hat
          clear hgs hst hat HST
          obtain ⟨q0, q1, q2⟩ := HS2.out.cells
          go_wp2_with fail
          refine HAT.out.mono ?_
          rintro e w4 ⟨rfl, rfl⟩
          clear HAT
          have hjn : (jn : Int) ≤ 200 := by omega
          clear hxc hxm
          go_upto_block 4 with (fail)
          refine doesA HS2 HKY HXN HGS hjn (Lib.hid ?_)
          intro X' hlt hst
          dsimp only
          obtain ⟨at', ct, rfl, -, -⟩ := hst.sl.form
          obtain ⟨xt, hxt⟩ : ∃ xt : Nat, X'.length = xt := ⟨_, rfl⟩
          rw [hxt] at hst hlt ⊢
          have HXT := Lib.hid hxt; have HSt := Lib.hid hst
          have hxt2 : (xt : Int) ≤ k + 1 := by omega
          have hxt3 : (xt : Int) ≤ 1000 := by omega
          clear hxt hst HS2 HGS HND HDR
          go_wp2_with fail
          refine (xDue _ g m X' now HSt.out.tx (by have := HXT.out; omega)).mono ?_
          rintro e w8 ⟨vd, rfl, hown, hf8⟩
          have HS8 := Lib.hid (HSt.out.still hf8)
          obtain ⟨ad', cd, rfl, hrow⟩ := RowD.of hown
          have hd1 := @due_at X' now
          have hd2 := @due_stop X' now
          have hd3 := due_len X' now
          generalize dueL X' now = D at *
          obtain ⟨dn, hdn⟩ : ∃ dn : Nat, D.length = dn := ⟨_, rfl⟩
          rw [hdn] at hd2 hd3 ⊢
          have HD1 : Hid (∀ (j : Nat) (p : KV), D[j]? = some p → X'[j]? = some p ∧ p.2 ≤ now) := Lib.hid (fun j p h => hd1 h)
          have HD2 : Hid (∀ p : KV, X'[dn]? = some p → now < p.2) := Lib.hid (fun p h => by have := hd2 h; omega)
          have hd4 : (dn : Int) ≤ xt := by have := HXT.out; omega
          have HDN := Lib.hid hdn; have HR := Lib.hid hrow
          clear hown hf8 hd1 hd2 hd3 hdn hrow HSt
          go_upto_block 5 with (fail)
          refine doesL HS8 HR hxt3 hd4 HXT HDN HD1 HD2 (Lib.hid ?_)
          intro hst2
          dsimp only
          have HFI := Lib.hid (xFirst _ g m X' hst2.tx (by have := HXT.out; omega))
          have HS9 := Lib.hid hst2
          clear hst2 HS8 HR HD1 HD2 HDN
          go_wp2_with fail
          refine HFI.out.mono ?_
          rintro e w9 ⟨rfl, hf9⟩
          have HS10 := Lib.hid (HS9.out.still hf9)
          clear hf9 HS9 HFI
          rcases X' with _ | ⟨⟨y1, y2⟩, rr⟩
          · have H0 := Lib.hid (show xt = 0 by have := HXT.out; simpa using this.symm)
            have e1 : firstAt ([] : List KV) = 0 := rfl
            have e2 : decide (0 < ([] : List KV).length) = false := rfl
            rw [e1, e2]
            clear e1 e2
            go_upto_region 41 with (fail)
            refine doesR0 HS10 hxt3 HXT H0.out (Lib.hid ?_)
            intro hst3
            dsimp only
            have HS3 := Lib.hid hst3
            clear hst3
            go_wp2_with fail
            go_roundg (gk - 1)
            case rel => exact ⟨k + 1, _, by omega, by go_num, by have := HXT.out; omega, HS3.out.tx, HS3.out.sl, HS3.out.fr⟩
            case measure => omega
          · have hx0 : (0 : Int) < xt := by have := HXT.out; simp at this; omega
            have e1 : firstAt ((y1, y2) :: rr) = y2 := rfl
            have e2 : decide (0 < ((y1, y2) :: rr).length) = true := by simp
            rw [e1, e2]
            clear e1 e2
            obtain ⟨ax, eax, d1, d2⟩ := HS10.out.sl.at0
            have HY := Lib.hid (show ∃ ax y1, at' = some ax ∧ w9.cell? ax = some (.int .i64 y1) ∧ w9.cell? ⟨ax.block, ax.off + 1, none⟩ = some (.int .i64 y2) from ⟨ax, y1, eax, d1, d2⟩)
            clear eax d1 d2
            go_upto_region 41 with (fail)
            refine doesR1 HS10 hxt3 HXT hx0 HY.out (Lib.hid ?_)
            intro hst3
            dsimp only
            have HS3 := Lib.hid hst3
            clear hst3
            go_wp2_with fail
            go_roundg (gk - 1)
            case rel => exact ⟨k + 1, _, by omega, by go_num, by have := HXT.out; omega, HS3.out.tx, HS3.out.sl, HS3.out.fr⟩
            case measure => omega
    · go_wp2_with fail
      go_ret
      exact ⟨rfl, hFr.toBelow (fun b h => by have := HM.out; omega) (Nat.le_refl _)⟩
set_option maxRecDepth 100000 in
theorem lifted (os : Os) (started : os.Started) (H : Type) (enc : TypeId × Value → H) :
    ReturnsInHanded {} Try.checked os 6 .any (Rows.backoffDoesSpec.pre6 enc Try.prog Try.f6 Rows.backoffDoesRow.domain false) (Rows.backoffDoesSpec.post enc Try.prog Try.f6 false true false false) := by
  refine returnsInHanded_of_change (C := Try.checked) own started (by kernel_rfl) Try.func6
    (ChangeSpec.witness6 (enc := enc) (C := Try.checked) false ⟨#[], #[.slice none 0 0, .int .i64 0], []⟩ 8 (by kernel_rfl) (by kernel_rfl) (by kernel_rfl) (by kernel_rfl)) ?_
  intro W base args ds gs before hval0 hW hcnd _
  have hval : ∀ (j : Nat) t v, Try.f6.params[j]? = some t → args[j]? = some v → Value.okWide Try.prog W .any base t v := hval0
  have hW' := hW
  obtain ⟨p, q, hA0, hV, rfl, hfz, hnd⟩ := hW
  have hA : DataW.TrodAll enc Try.prog W 0 (fun _ => true) true Try.f6.params.toList args.toList ds p := hA0
  rw [Try.params6] at hA hval
  obtain ⟨v0, vs0, d0, ds0, p0, q0, hargs, rfl, rfl, h0, r0⟩ := trodAll_cons hA
  obtain ⟨v1, vs1, d1, ds1, p1, q1, rfl, rfl, rfl, h1, r1⟩ := trodAll_cons r0
  obtain ⟨rfl, rfl, rfl⟩ := trodAll_nil r1
  obtain rfl : args = #[v0, v1] := by cases args; simp_all
  obtain ⟨rfl, rfl⟩ := trodVars_none hV
  obtain ⟨L0, hL0⟩ := open_slI Try.underlying27 Try.underlying32 Try.underlying3 (by kernel_rfl) (by kernel_rfl) (by kernel_rfl) (hval 0 27 v0 rfl rfl) h0
  obtain ⟨a1, rfl, rfl, rfl, w1⟩ := open_int Try.underlying3 (hval 1 3 v1 rfl rfl) h1
  clear hA0 hval0
  simp only [List.append_nil] at hW'
  refine (walk v0 L0 a1 W hL0 (wf_okI.1 w1)).mono fun e W' ⟨he, hg⟩ => ?_
  subst he
  exact ⟨_, rfl, law_post laidOut (by kernel_rfl) rfl Try.underlying4 hW' rfl rfl hg⟩
theorem over : Rows.backoffDoesRow.holds Try.pinned (OpenSpec.ofChange Rows.backoffDoesSpec) :=
  OpenClaim.holds_of_wide 6 Try.f6 rfl rfl rfl rfl rfl rfl rfl ⟨rfl, rfl, rfl, rfl, rfl⟩ rfl rfl rfl rfl rfl (by kernel_rfl) Try.func6 (by kernel_rfl)
    (of_decide_eq_true (by kernel_rfl)) (by unfold Func.isWrapper; first | (rw [if_pos (by decide +kernel)]; kernel_rfl) | (rw [if_neg (by decide +kernel)]; exact ⟨rfl, rfl⟩))
    (fun os started H enc _ => lifted os started H enc)
theorem proved : Rows.BackoffDoesSaid :=
  over
#print axioms proved
end Go.Proofs.Ytjkhheolklnmaaa.backoffDoes
