/- ident.Table: Low. -/
import Derived.Test.YtakjiicnbocjeaaIdF
namespace Go.Proofs.Ytakjiicnbocjeaa
open Go.RowKit Go.Maps
def lowOk (c mark : Int) : Bool := isCl c && decide (1 ≤ mark) && decide (mark ≤ 4294967297)
theorem iLow_no (w : World) (c mark : Int) : Calls Try.prog 13 #[.pointer none, .int .i64 c, .int .i64 mark] w fun e w' => e = .returned (.int .i64 6) ∧ Fr (fun _ => False) w w' := by
  go_enter Try.func13, Try.ntmps13
  go_wp2_with (go_at_call 24; refine (imade_no _).mono ?_; rintro e w' ⟨rfl, rfl⟩)
  go_ret
  exact ⟨rfl, (Fr.refl _ _).alloc _⟩
set_option maxRecDepth 100000 in
theorem iLow_arg (w : World) (g m : Nat) (l : List (Int × Cl)) (c mark : Int) (h : Tab w g m l) (ha : lowOk c mark = false) :
    Calls Try.prog 13 #[.pointer (some ⟨g, 0, none⟩), .int .i64 c, .int .i64 mark] w fun e w' => e = .returned (.int .i64 1) ∧ Fr (fun _ => False) w w' := by
  have hcell := (h.fr ((Fr.refl (fun _ => False) w).alloc (.cells #[.int .i64 mark] 3)) (fun h => h) (fun h => h) (fun _ _ h => h)).cell
  have HC := Lib.hid (fun w => iClient? w c)
  unfold lowOk at ha
  clear h
  have hcase : isCl c = false ∨ isCl c = true ∧ mark < 1 ∨ isCl c = true ∧ 1 ≤ mark ∧ 4294967297 < mark := by
    cases h1 : isCl c <;> simp [h1] at ha ⊢
    omega
  clear ha
  rcases hcase with h1 | ⟨h1, h3⟩ | ⟨h1, h3, h4⟩
  all_goals
    rw [h1] at HC
    clear h1
    go_enter Try.func13, Try.ntmps13
    go_wp2_with (first
      | (go_at_call 24; refine (imade _ g m hcell).mono ?_; rintro e w' ⟨rfl, rfl⟩)
      | (go_at_call 25; refine (HC.out _).mono ?_; rintro e w' ⟨rfl, rfl⟩))
    go_ret
    exact ⟨rfl, (Fr.refl _ _).alloc _⟩
def lowBad (rows : Rows) (mark : Int) : Bool := rows.any fun p => decide (p.1 < mark) && !p.2.done
theorem mp_nd {w : World} {b : Nat} {ν : Type} {enc : ν → Value} {l : List (Int × ν)} (h : Mp Try.prog w 3 ktI enc b l) : KeysND l :=
  (h.ok idK).2.imp (fun {p q} e e2 => by
    have e : ktI.lt p.1 q.1 = true := e
    have : decide (p.1 < q.1) = true := e
    rw [e2] at this; simp at this)
set_option maxRecDepth 100000 in
set_option maxHeartbeats 8000000 in
theorem iLow (w : World) (g m : Nat) (l : List (Int × Cl)) (c mark : Int) (h : Tab w g m l) (ha : lowOk c mark = true) (hl : l.length < 9223372036854775807) :
    Calls Try.prog 13 #[.pointer (some ⟨g, 0, none⟩), .int .i64 c, .int .i64 mark] w fun e w' => ∃ x w1, Got w w1 l c x ∧
      ((lowBad x.rows mark = true ∧ e = .returned (.int .i64 80) ∧ Fr (fun _ => False) w w') ∨
       (lowBad x.rows mark = false ∧ e = .returned (.int .i64 0) ∧ ¬ x.mark < mark ∧ Fr (fun _ => False) w w') ∨
       (lowBad x.rows mark = false ∧ e = .returned (.int .i64 0) ∧ x.mark < mark ∧ Tab w' g m (putS ktI.lt l c ⟨mark, x.b, x.rows.filter fun p => !decide (p.1 < mark)⟩) ∧ Fr (fun b => b = m ∨ b = x.b) w w' ∧ (x.b < w.heap.size → getS l c = some x) ∧ x.b < w'.heap.size)) := by
  have hh : isCl c = true ∧ 1 ≤ mark ∧ mark ≤ 4294967297 := by unfold lowOk at ha; simpa [and_assoc] using ha
  obtain ⟨hi, h1, h2⟩ := hh
  have hco : okI c := by unfold isCl at hi; simp at hi; unfold okI; omega
  have hf1 := (Fr.refl (fun _ => False) w).alloc (.cells #[.int .i64 mark] 3)
  have hT1 := h.fr hf1 (fun h => h) (fun h => h) (fun _ _ h => h)
  have hcell := hT1.cell
  have HX := Lib.hid (iclient _ g m l c hT1 hco)
  have HC := Lib.hid (fun w => iClient? w c)
  rw [hi] at HC
  have HT := Lib.hid h; have HO1 := Lib.hid (heap_new w (.cells #[.int .i64 mark] 3))
  clear hi hf1 hT1 h ha
  go_enter Try.func13, Try.ntmps13
  go_wp2_with (first
    | (go_at_call 24; refine (imade _ g m hcell).mono ?_; rintro e w' ⟨rfl, rfl⟩)
    | (go_at_call 25; refine (HC.out _).mono ?_; rintro e w' ⟨rfl, rfl⟩))
  refine HX.out.mono ?_
  rintro e w3 ⟨⟨mk, xb, rows⟩, rfl, hr3, hf3, hg2⟩
  unfold Cl.enc
  dsimp only at hr3 ⊢
  have hro3 := hf3.at_ HO1.out (fun h => h)
  have hF3 : Fr (fun _ => False) w w3 := ((Fr.refl _ w).alloc _).trans hf3
  have hG3 : Got w w3 l c ⟨mk, xb, rows⟩ := by
    rcases hg2 with h | ⟨h1, h2, h3, h4, h5⟩
    · exact .inl h
    · exact .inr ⟨h1, h2, h3, by simp at h4 ⊢; omega, h5⟩
  have hros : w.heap.size < w3.heap.size := (Array.getElem?_eq_some_iff.1 hro3).1
  have HG := Lib.hid hG3; have HF := Lib.hid hF3; have HR := Lib.hid hr3; have HO := Lib.hid hro3
  clear hg2 hf3 hG3 hF3 hr3 hro3 HX HC hcell HO1
  obtain ⟨n, hown⟩ := HR.out.alloc (.cells #[.int .i64 mk, .map (some xb)] 68)
  have K : Keyed Try.prog 3 := idK.keyed
  go_wp2_with (at_range; refine wpList_range_own _ rfl _ 66 rfl 3 73 K Try.underlying66 heldR xb n _ rfl hown ?_; intro w0 hrg0 hg0 hs0)
  go_frame
  obtain ⟨R, hR⟩ : ∃ R : Nat, (w3.alloc (.cells #[.int .i64 mk, .map (some xb)] 68)).heap.size = R := ⟨_, rfl⟩
  have hR2 : R = w3.heap.size + 1 := by rw [← hR]; simp
  rw [hR] at hrg0 ⊢
  subst hR2
  have hF0 : Fr (fun _ => False) w w0 := (HF.out.alloc _).trans (Fr.grown hg0 (fun _ e => by cases e))
  have hM0 : w0.heap[w.heap.size]? = some (.cells #[.int .i64 mark] 3) := (hg0.block _ (by simp; omega) (by simp)).trans (heap_keep HO.out _)
  have hT0 : w0.heap[w3.heap.size]? = some (.cells #[.int .i64 mk, .map (some xb)] 68) := (hg0.block _ (by simp) (by simp)).trans (heap_new _ _)
  have HN := Lib.hid (mp_nd HR.out)
  have HF0 := Lib.hid hF0; have HM0 := Lib.hid hM0; have HT0 := Lib.hid hT0; have HRG0 := Lib.hid hrg0
  clear hR hg0 hs0 hF0 hM0 hT0 hown hrg0
  go_loopw [] (fun wr => ∃ (left : Lit → Bool) (cnt : Nat), wr.ranges Try.prog 3 heldR xb (w3.heap.size + 1) n (ktI.dat RowV.enc rows) left cnt ∧ Fr (fun _ => False) w wr ∧ wr.heap[w.heap.size]? = some (.cells #[.int .i64 mark] 3) ∧ wr.heap[w3.heap.size]? = some (.cells #[.int .i64 mk, .map (some xb)] 68) ∧ (∀ p ∈ rows, left (.int .i64 p.1) = false → ¬ (p.1 < mark ∧ p.2.done = false)))
    (fun wr => wr.rangeLeft xb (w3.heap.size + 1))
  case atStart =>
    refine ⟨_, _, HRG0.out, HF0.out, HM0.out, HT0.out, fun p hp hl0 => ?_⟩
    have : Maps.has (ktI.dat RowV.enc rows) (.int .i64 p.1) = true := by
      have := dat_has idK RowV.enc p.1 rows
      rw [show (ktI.lit p.1) = .int .i64 p.1 from rfl] at this
      rw [this, getS_of HN.out hp]; rfl
    rw [this] at hl0; cases hl0
  case round =>
    obtain ⟨left, cnt, hrg, hF, hM, hT7, hseen⟩ := hrel
    have HF1 := Lib.hid hF; have HM1 := Lib.hid hM; have HT1 := Lib.hid hT7; have HS := Lib.hid hseen; have HRG := Lib.hid hrg
    clear hF hM hT7 hseen HF0 HM0 HT0 HRG0
    go_wp2_with (at_next; refine wpList_next_ranges _ rfl _ rfl 3 K heldR id id (fun key _ _ => ⟨key, rfl⟩) (fun v _ _ => ⟨v, rfl⟩) xb (w3.heap.size + 1) n _ _ _ rfl hrg ?_ ?_)
    · intro _ hl0
      have HA := Lib.hid (show lowBad rows mark = false by
        unfold lowBad
        rw [List.any_eq_false]
        intro p hp
        have := HS.out p hp (hl0 _)
        cases hd : p.2.done <;> simp [hd] at this ⊢
        omega)
      have u0 := cell_obj HM1.out 0 (.int .i64 mark) rfl
      have u1 := cell_obj HT1.out 0 (.int .i64 mk) rfl
      have u2 := cell_obj HT1.out 1 (.map (some xb)) rfl
      by_cases hmm : mk < mark
      · go_wp2_with fail
        refine (mDelete wr xb w.heap.size rows mark ⟨n, hrg.owns⟩ HM1.out).mono ?_
        rintro e w6 ⟨rfl, hr6, F6⟩
        have nm : m ≠ xb := fun e => (HT.out.other_m HG.out) e.symm
        have ng : g ≠ xb := fun e => (HT.out.other_g HG.out) e.symm
        have ng2 : g ≠ m := map_ne_cells HT.out.map HT.out.box
        have no : w.heap.size ≠ xb := map_ne_cells HR.out HO.out
        have n7 : w3.heap.size ≠ xb := fun e => by have := HR.out.lt; omega
        have hTr := HT.out.fr HF1.out (fun h => h) (fun h => h) (fun _ _ h => h)
        have hg6 := F6.at_ hTr.box ng
        have hm6 := F6.mp hTr.map nm
        have hM6 := F6.at_ HM1.out no
        have hT6 := F6.at_ HT1.out n7
        obtain ⟨w7, hst7, hm7, ht7⟩ := hm6.drew.store idK Try.underlying61 hl hco ⟨mark, xb, rows.filter fun p => !decide (p.1 < mark)⟩
        have hst7' : (Instr.mapUpdate 61 (.map (some m)) (.int .i64 c) (.agg #[.int .i64 mark, .map (some xb)])).run Try.prog w6.drew = .ok () w7 := hst7
        have F67 : Fr (fun b => b = m) w6 w7 := ((Fr.refl _ w6).drew).trans (Fr.turned ht7 rfl)
        have HR7 := Lib.hid (F67.mp hr6 (fun e => nm e.symm))
        have HF7 : Hid (Fr (fun b => b = m ∨ b = xb) w w7) := Lib.hid ((((HF1.out.mono (fun _ _ h => h.elim)).trans' F6 (fun b _ e => .inr e))).trans' F67 (fun b _ e => .inl e))
        have HM7 := Lib.hid hm7
        clear hst7 hm6 hm7 F67 F6 hr6 hTr hrg u0 u1 u2
        go_wp2_with fail
        refine wp_region_still_tail 9 (by kernel_rfl) (by kernel_rfl) ?_
        simp only [List.take_succ_cons, List.take_zero, List.drop_succ_cons, List.drop_zero]
        change wpStill _ _ w6.drew (fun a' => wpList _ _ _ _ a' w6.drew) _ _
        have hg6' : w6.drew.heap[g]? = _ := hg6
        have hM6' : w6.drew.heap[w.heap.size]? = _ := hM6
        have hT6' : w6.drew.heap[w3.heap.size]? = _ := hT6
        generalize w6.drew = V at *
        have u0 := cell_obj hg6' 0 (.map (some m)) rfl
        have u1 := cell_obj hM6' 0 (.int .i64 mark) rfl
        have u2 := cell_obj hT6' 1 (.map (some xb)) rfl
        clear hg6 hM6 hT6 hg6' hM6' hT6' ht7
        repeat still_step
        refine wpStill_nil ?_
        go_wp2_with fail
        go_ret
        refine ⟨⟨mk, xb, rows⟩, ⟨w3, HG.out⟩, .inr (.inr ⟨HA.out, rfl, hmm, ?_, HF7.out, ?_, HR7.out.lt⟩)⟩
        · exact HT.out.put HF7.out (fun e => e.elim ng2 ng) (fun b e => e) HM7.out HR7.out (fun e => nm e.symm) (fun p hp => HT.out.others HG.out hp)
        · intro hx
          rcases HG.out with h | ⟨_, _, _, h4, _⟩
          · exact h
          · have : w.heap.size ≤ xb := h4
            have : xb < w.heap.size := hx
            omega
      · go_wp2_with fail
        go_ret
        exact ⟨⟨mk, xb, rows⟩, ⟨w3, HG.out⟩, .inr (.inl ⟨HA.out, rfl, hmm, HF1.out⟩)⟩
    · intro x c' kl yd yp w1 cnt1 hkey hlx hv hat hrg1 hlt hg1 hs1 hen
      obtain ⟨xi, hok, hx, hkl⟩ := idK.back hkey
      have hx' : x = .int .i64 xi := hx
      have hkl' : kl = .int .i64 xi := hkl
      clear hkl
      subst hx' hkl'
      have hy : yd = .held c' := by simp only [heldR, id] at hv; injection hv with hv; injection hv with hv _; exact hv.symm
      subst hy
      obtain ⟨r, hgr, rfl⟩ := came idK hat
      have hen' : (Instr.entry (.pointer (some ⟨w3.heap.size + 1, 0, none⟩))).run Try.prog w1 = .ok (.tuple #[.int .i64 xi, .agg #[.int .u64 r.mix, .bool r.done, .int .i64 r.a.c, .int .i64 r.a.n, .int .i64 r.a.code, .int .i64 r.a.k]]) w1 := hen
      have hR3 : w.heap.size ≠ w3.heap.size + 1 ∧ w3.heap.size ≠ w3.heap.size + 1 := by omega
      have hM1 := (hg1.block w.heap.size (Array.getElem?_eq_some_iff.1 HM1.out).1 (by intro e; injection e with e; omega)).trans HM1.out
      have hT1 := (hg1.block w3.heap.size (Array.getElem?_eq_some_iff.1 HT1.out).1 (by intro e; injection e with e; omega)).trans HT1.out
      have hF1 : Fr (fun _ => False) w w1 := HF1.out.trans' (Fr.grown (S := fun z => z = w3.heap.size + 1) hg1 (fun _ e _ => by injection e with e; exact e.symm)) (fun b hb e => by omega)
      have hlo : w.heap.size < w1.heap.size := (Array.getElem?_eq_some_iff.1 hM1).1
      have u0 := cell_obj hM1 0 (.int .i64 mark) rfl
      have HGR := Lib.hid hgr; have HM2 := Lib.hid hM1; have HT2 := Lib.hid hT1; have HF2 := Lib.hid hF1; have HRG2 := Lib.hid hrg1
      have HLE := Lib.hid HRG.out.left_eq
      clear hat hlx hg1 hrg1 hen hv hs1 hkey hx hgr hM1 hT1 hF1 hrg HRG
      obtain ⟨rm, rd, ⟨ac, an, acode, ak⟩⟩ := r
      dsimp only at hen'
      by_cases hbl : xi < mark
      · cases rd with
        | false =>
          go_wp2_with fail
          go_ret
          exact ⟨⟨mk, xb, rows⟩, ⟨w3, HG.out⟩, .inl ⟨List.any_eq_true.2 ⟨_, getS_mem HGR.out, by simp [hbl]⟩, rfl, HF2.out.alloc _⟩⟩
        | true =>
          go_wp2_with fail
          go_roundw
          case rel =>
            refine ⟨_, cnt1, HRG2.out.alloc _, HF2.out.alloc _, heap_keep HM2.out _, heap_keep HT2.out _, fun p hp hlf => ?_⟩
            by_cases hpx : p.1 = xi
            · have hgp := getS_of HN.out hp
              rw [hpx, HGR.out] at hgp
              injection hgp with hgp
              rintro ⟨e1, e2⟩
              rw [← hgp] at e2
              first | (cases e2; done) | omega
            · refine HS.out p hp ?_
              have hlf' : (left (.int .i64 p.1) && !(Lit.int .i64 p.1).sameKey (.int .i64 xi)) = false := hlf
              have : (Lit.int .i64 p.1).sameKey (.int .i64 xi) = false := by simp [Lit.sameKey, hpx]
              rw [this] at hlf'
              simpa using hlf'
          case measure => rw [(HRG2.out.alloc _).left_eq, HLE.out]; exact hlt
      · go_wp2_with fail
        go_roundw
        case rel =>
          refine ⟨_, cnt1, HRG2.out.alloc _, HF2.out.alloc _, heap_keep HM2.out _, heap_keep HT2.out _, fun p hp hlf => ?_⟩
          by_cases hpx : p.1 = xi
          · have hgp := getS_of HN.out hp
            rw [hpx, HGR.out] at hgp
            injection hgp with hgp
            rintro ⟨e1, e2⟩
            rw [← hgp] at e2
            first | (cases e2; done) | omega
          · refine HS.out p hp ?_
            have hlf' : (left (.int .i64 p.1) && !(Lit.int .i64 p.1).sameKey (.int .i64 xi)) = false := hlf
            have : (Lit.int .i64 p.1).sameKey (.int .i64 xi) = false := by simp [Lit.sameKey, hpx]
            rw [this] at hlf'
            simpa using hlf'
        case measure => rw [(HRG2.out.alloc _).left_eq, HLE.out]; exact hlt
end Go.Proofs.Ytakjiicnbocjeaa
