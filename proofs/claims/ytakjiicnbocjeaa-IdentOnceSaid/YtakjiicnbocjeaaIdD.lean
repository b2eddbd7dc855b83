/- ident.Table: Ask, of numbers that may be. -/
import Derived.Test.YtakjiicnbocjeaaIdC
namespace Go.Proofs.Ytakjiicnbocjeaa
open Go.RowKit Go.Maps
theorem genW {Q : World → Prop} {W : World} (P : World → Prop) (h : P W) (k : ∀ W', P W' → Q W') : Q W := k W h
/-- The table behind an Ask. -/
def askL (l : List (Int × Cl)) (c : Int) (x : Cl) (n mix : Int) : List (Int × Cl) := putS ktI.lt l c ⟨x.mark, x.b, putS ktI.lt x.rows n ⟨mix, false, Ans.zero⟩⟩
set_option maxRecDepth 100000 in
set_option maxHeartbeats 12000000 in
theorem iAsk (w : World) (g m : Nat) (l : List (Int × Cl)) (c n : Int) (v : Value) (bs : List Int) (h : Tab w g m l) (hi : isCl c = true) (hj : isNu n = true) (hb : Bs w v bs) (hl : l.length < 9223372036854775807) :
    Calls Try.prog 11 #[.pointer (some ⟨g, 0, none⟩), .int .i64 c, .int .i64 n, v] w fun e w' =>
      ∃ x w1, Got w w1 l c x ∧ e = .returned (.tuple #[.int .i64 (askM (x.mark, x.rows) n (mixF 7 bs)).1, (askM (x.mark, x.rows) n (mixF 7 bs)).2.1.enc]) ∧
        (((askM (x.mark, x.rows) n (mixF 7 bs)).2.2 = false ∧ Fr (fun _ => False) w w') ∨ ((askM (x.mark, x.rows) n (mixF 7 bs)).2.2 = true ∧ Tab w' g m (askL l c x n (mixF 7 bs)) ∧ Fr (fun b => b = m ∨ b = x.b) w w' ∧ (x.b < w.heap.size → getS l c = some x) ∧ x.b < w'.heap.size)) := by
  have hco : okI c := by unfold isCl at hi; simp at hi; unfold okI; omega
  have hno : okI n := by unfold isNu at hj; simp at hj; unfold okI; omega
  have hf1 := (Fr.refl (fun _ => False) w).alloc (.cells #[.int .i64 0, .int .i64 0, .int .i64 0, .int .i64 0] 31)
  have hT1 := h.fr hf1 (fun h => h) (fun h => h) (fun _ _ h => h)
  have hB1 := hb.fr hf1 (fun _ h => h.elim)
  have hcell := hT1.cell
  have HX := Lib.hid (iclient _ g m l c hT1 hco)
  have HC := Lib.hid (fun w => iClient? w c)
  have HN := Lib.hid (fun w => iNumber? w n)
  have ho := heap_new w (.cells #[.int .i64 0, .int .i64 0, .int .i64 0, .int .i64 0] 31)
  rw [hi] at HC
  rw [hj] at HN
  have HT := Lib.hid h; have HB := Lib.hid hb
  clear hi hj hf1 hT1 hB1 h hb ho
  generalize hmx : mixF 7 bs = mx
  have HMX : Hid (∀ W, Bs W v bs → Calls Try.prog 28 #[.int .u64 7, v] W fun e w' => e = .returned (.int .u64 mx) ∧ Below W.heap.size W w') := Lib.hid (fun W hW => hmx ▸ cMix W 7 v bs hW)
  clear hmx
  go_enter Try.func11, Try.ntmps11
  go_wp2_with (first
    | (go_at_call 24; refine (imade _ g m hcell).mono ?_; rintro e w' ⟨rfl, rfl⟩)
    | (go_at_call 25; refine (HC.out _).mono ?_; rintro e w' ⟨rfl, rfl⟩)
    | (go_at_call 26; refine (HN.out _).mono ?_; rintro e w' ⟨rfl, rfl⟩))
  refine HX.out.mono ?_
  rintro e w2 ⟨⟨mk, xb, rows⟩, rfl, hr2, hf2, hg2⟩
  unfold Cl.enc
  dsimp only at hr2 ⊢
  clear HX HC HN hcell
  have hro : (w.alloc (.cells #[.int .i64 0, .int .i64 0, .int .i64 0, .int .i64 0] 31)).heap[w.heap.size]? = _ := heap_new w _
  have hro2 := hf2.at_ hro (fun h => h)
  have hF2 : Fr (fun _ => False) w w2 := ((Fr.refl _ w).alloc _).trans hf2
  have hG2 : Got w w2 l c ⟨mk, xb, rows⟩ := by
    rcases hg2 with h | ⟨h1, h2, h3, h4, h5⟩
    · exact .inl h
    · exact .inr ⟨h1, h2, h3, by simp at h4 ⊢; omega, h5⟩
  have hxl := hr2.lt
  clear hg2 hf2 hro
  go_wp2_with fail
  refine (HMX.out w2 (HB.out.fr hF2 (fun _ h => h.elim))).mono ?_
  rintro e w3 ⟨rfl, hb3⟩
  have hr3 := hr2.below hb3 hxl
  have hro3 := (hb3.block _ (by have := hF2.size; have := (Array.getElem?_eq_some_iff.1 hro2).1; omega)).trans hro2
  have hF3 : Fr (fun _ => False) w w3 := hF2.trans (Fr.below hb3)
  have hG3 : Got w w3 l c ⟨mk, xb, rows⟩ := by
    rcases hG2 with h | ⟨h1, h2, h3, h4, h5⟩
    · exact .inl h
    · exact .inr ⟨h1, h2, h3, h4, Nat.lt_of_lt_of_le h5 hb3.size⟩
  have hT3 := HT.out.fr hF3 (fun h => h) (fun h => h) (fun _ _ h => h)
  have hxl3 := hr3.lt
  clear hr2 hro2 hF2 hG2 hxl hb3 HMX HB
  have HG := Lib.hid hG3; have HF := Lib.hid hF3; have HR := Lib.hid hr3; have HT3 := Lib.hid hT3; have HO := Lib.hid hro3
  have hlk := (hr3.alloc (.cells #[.int .i64 mk, .map (some xb)] 68)).look_ok idK Try.underlying66 (zeroRow _) hno
  clear hG3 hF3 hr3 hT3 hro3
  have hros : w.heap.size < w3.heap.size := (Array.getElem?_eq_some_iff.1 HO.out).1
  have z0 := cell_obj HO.out 0 (.int .i64 0) rfl
  have z1 := cell_obj HO.out 1 (.int .i64 0) rfl
  have z2 := cell_obj HO.out 2 (.int .i64 0) rfl
  have z3 := cell_obj HO.out 3 (.int .i64 0) rfl
  have y0 := obj_frozen HO.out 0
  have y1 := obj_frozen HO.out 1
  have y2 := obj_frozen HO.out 2
  have y3 := obj_frozen HO.out 3
  cases hg : getS rows n with
  | none =>
    rw [hg] at hlk
    have hl2 : (Instr.lookup 66 (.map (some xb)) (.int .i64 n) true).run Try.prog (w3.alloc (.cells #[.int .i64 mk, .map (some xb)] 68)) = .ok (.tuple #[.agg #[.int .u64 0, .bool false, .int .i64 0, .int .i64 0, .int .i64 0, .int .i64 0], .bool false]) _ := hlk
    clear hlk
    have hln := ((HR.out.alloc (.cells #[.int .i64 mk, .map (some xb)] 68)).alloc (.cells #[.int .u64 0, .bool false, .int .i64 0, .int .i64 0, .int .i64 0, .int .i64 0] 73)).len Try.underlying66 3
    by_cases hmk : n < mk
    · have HA := Lib.hid (show askM (mk, rows) n mx = (5, Ans.zero, false) by simp [askM, hmk])
      clear hg hln
      go_wp2_with fail
      refine genW (Q := fun W => bodyPost Try.prog Try.f11 _ Exit.ret _ W) (fun W => W.heap[w.heap.size]? = some (.cells #[.int .i64 0, .int .i64 0, .int .i64 0, .int .i64 0] 31) ∧ Fr (fun _ => False) w W) ⟨heap_keep (heap_keep (obj_set (obj_set (obj_set (obj_set HO.out 0 (.int .i64 0)) 1 (.int .i64 0)) 2 (.int .i64 0)) 3 (.int .i64 0)) _) _, (by repeat (first | exact HF.out | apply Fr.alloc | refine Fr.setCell ?_ (fun h => (Nat.lt_irrefl _ h).elim) _))⟩ ?_
      rintro WF ⟨hWF, hFF⟩
      have k0 := cell_obj hWF 0 (.int .i64 0) rfl
      have k1 := cell_obj hWF 1 (.int .i64 0) rfl
      have k2 := cell_obj hWF 2 (.int .i64 0) rfl
      have k3 := cell_obj hWF 3 (.int .i64 0) rfl
      refine bodyPost_ret (by simp [results, Try.results11, go_sem, k0, k1, k2, k3]; rfl) rfl ?_
      exact ⟨⟨mk, xb, rows⟩, w3, HG.out, by rw [HA.out]; rfl, .inl ⟨by rw [HA.out], hFF⟩⟩
    · obtain ⟨rn, hrn⟩ : ∃ rn : Nat, rows.length = rn := ⟨_, rfl⟩
      rw [hrn] at hln
      by_cases h128 : (128 : Int) ≤ rn
      · have HA := Lib.hid (show askM (mk, rows) n mx = (6, Ans.zero, false) by simp only [askM, hmk, hg, if_false]; rw [if_pos (by omega)])
        clear hg hrn
        go_wp2_with fail
        refine genW (Q := fun W => bodyPost Try.prog Try.f11 _ Exit.ret _ W) (fun W => W.heap[w.heap.size]? = some (.cells #[.int .i64 0, .int .i64 0, .int .i64 0, .int .i64 0] 31) ∧ Fr (fun _ => False) w W) ⟨heap_keep (heap_keep (obj_set (obj_set (obj_set (obj_set HO.out 0 (.int .i64 0)) 1 (.int .i64 0)) 2 (.int .i64 0)) 3 (.int .i64 0)) _) _, (by repeat (first | exact HF.out | apply Fr.alloc | refine Fr.setCell ?_ (fun h => (Nat.lt_irrefl _ h).elim) _))⟩ ?_
        rintro WF ⟨hWF, hFF⟩
        have k0 := cell_obj hWF 0 (.int .i64 0) rfl
        have k1 := cell_obj hWF 1 (.int .i64 0) rfl
        have k2 := cell_obj hWF 2 (.int .i64 0) rfl
        have k3 := cell_obj hWF 3 (.int .i64 0) rfl
        refine bodyPost_ret (by simp [results, Try.results11, go_sem, k0, k1, k2, k3]; rfl) rfl ?_
        exact ⟨⟨mk, xb, rows⟩, w3, HG.out, by rw [HA.out]; rfl, .inl ⟨by rw [HA.out], hFF⟩⟩
      · have HA := Lib.hid (show askM (mk, rows) n mx = (1, Ans.zero, true) by simp only [askM, hmk, hg, if_false]; rw [if_neg (by omega)])
        have hr5 := ((HR.out.alloc (.cells #[.int .i64 mk, .map (some xb)] 68)).alloc (.cells #[.int .u64 0, .bool false, .int .i64 0, .int .i64 0, .int .i64 0, .int .i64 0] 73))
        obtain ⟨w6, hst, hr6, ht6⟩ := hr5.store idK Try.underlying66 (by omega) hno ⟨mx, false, Ans.zero⟩
        have hst' : (Instr.mapUpdate 66 (.map (some xb)) (.int .i64 n) (.agg #[.int .u64 mx, .bool false, .int .i64 0, .int .i64 0, .int .i64 0, .int .i64 0])).run Try.prog ((w3.alloc (.cells #[.int .i64 mk, .map (some xb)] 68)).alloc (.cells #[.int .u64 0, .bool false, .int .i64 0, .int .i64 0, .int .i64 0, .int .i64 0] 73)) = .ok () w6 := hst
        clear hst hg hrn
        go_wp2_with fail
        have nm : m ≠ xb := fun e => (HT.out.other_m HG.out) e.symm
        have ng : g ≠ xb := fun e => (HT.out.other_g HG.out) e.symm
        have no : w.heap.size ≠ xb := map_ne_cells HR.out HO.out
        have no2 : w.heap.size ≠ m := map_ne_cells HT3.out.map HO.out
        have ng2 : g ≠ m := map_ne_cells HT.out.map HT.out.box
        have F6 : Fr (fun b => b = m ∨ b = xb) w w6 := ((((HF.out.mono (fun _ _ h => h.elim)).alloc _).alloc _)).trans' (Fr.turned (S := fun b => b = xb) ht6 rfl) (fun b _ e => .inr e)
        have F36 : Fr (fun b => b = xb) w3 w6 := (((Fr.refl _ w3).alloc _).alloc _).trans (Fr.turned ht6 rfl)
        have hg6 := F36.at_ HT3.out.box ng
        have hm6 := F36.mp HT3.out.map nm
        have ho6 := F36.at_ HO.out no
        have ht10 : w6.heap[w3.heap.size]? = some (.cells #[.int .i64 mk, .map (some xb)] 68) := (Fr.turned (S := fun b => b = xb) ht6 rfl).at_ (heap_keep (heap_new _ _) _) (fun e => by have := HR.out.lt; omega)
        obtain ⟨w7, hst7, hm7, ht7⟩ := hm6.drew.store idK Try.underlying61 hl hco ⟨mk, xb, putS ktI.lt rows n ⟨mx, false, Ans.zero⟩⟩
        have hst7' : (Instr.mapUpdate 61 (.map (some m)) (.int .i64 c) (.agg #[.int .i64 mk, .map (some xb)])).run Try.prog w6.drew = .ok () w7 := hst7
        have F67 : Fr (fun b => b = m) w6 w7 := ((Fr.refl _ w6).drew).trans (Fr.turned ht7 rfl)
        have ho7 := F67.at_ ho6 no2
        have hr7 := F67.mp hr6 (fun e => nm e.symm)
        have F7 := F6.trans' F67 (fun b _ e => .inl e)
        have HM7 := Lib.hid hm7; have HR7 := Lib.hid hr7; have HF7 := Lib.hid F7; have HO7 := Lib.hid ho7
        clear hst7 hst' hl2 F6 F36 hm6 ho6 hm7 hr7 F7 ht6 hr6 F67
        refine wp_region_still_tail 6 (by kernel_rfl) (by kernel_rfl) ?_
        simp only [List.take_succ_cons, List.take_zero, List.drop_succ_cons, List.drop_zero]
        change wpStill _ _ w6.drew (fun a' => wpList _ _ _ _ a' w6.drew) _ _
        have hg6' : w6.drew.heap[g]? = _ := hg6
        have ht10' : w6.drew.heap[w3.heap.size]? = _ := ht10
        generalize w6.drew = V at *
        have u0 := cell_obj hg6' 0 (.map (some m)) rfl
        have u1 := cell_obj ht10' 0 (.int .i64 mk) rfl
        have u2 := cell_obj ht10' 1 (.map (some xb)) rfl
        clear hg6 hg6' ht10 ht10' ht7
        repeat still_step
        refine wpStill_nil ?_
        have z0 := cell_obj ho7 0 (.int .i64 0) rfl
        have z1 := cell_obj ho7 1 (.int .i64 0) rfl
        have z2 := cell_obj ho7 2 (.int .i64 0) rfl
        have z3 := cell_obj ho7 3 (.int .i64 0) rfl
        have y0 := obj_frozen ho7 0
        have y1 := obj_frozen ho7 1
        have y2 := obj_frozen ho7 2
        have y3 := obj_frozen ho7 3
        clear ho7
        go_wp2_with fail
        refine genW (Q := fun W => bodyPost Try.prog Try.f11 _ Exit.ret _ W) (fun W => W.heap[w.heap.size]? = some (.cells #[.int .i64 0, .int .i64 0, .int .i64 0, .int .i64 0] 31) ∧ Fr (fun b => b = m ∨ b = xb) w W ∧ Mp Try.prog W 3 ktI Cl.enc m (putS ktI.lt l c ⟨mk, xb, putS ktI.lt rows n ⟨mx, false, Ans.zero⟩⟩) ∧ Mp Try.prog W 3 ktI RowV.enc xb (putS ktI.lt rows n ⟨mx, false, Ans.zero⟩))
          ⟨obj_set (obj_set (obj_set (obj_set HO7.out 0 (.int .i64 0)) 1 (.int .i64 0)) 2 (.int .i64 0)) 3 (.int .i64 0), (by repeat (first | exact HF7.out | refine Fr.setCell ?_ (fun h => (Nat.lt_irrefl _ h).elim) _)), (by repeat (first | exact HM7.out | refine Mp.setCell ?_ (fun e => no2 e.symm) _)), (by repeat (first | exact HR7.out | refine Mp.setCell ?_ (fun e => no e.symm) _))⟩ ?_
        rintro WF ⟨hWF, hFF, hMM, hRR⟩
        have k0 := cell_obj hWF 0 (.int .i64 0) rfl
        have k1 := cell_obj hWF 1 (.int .i64 0) rfl
        have k2 := cell_obj hWF 2 (.int .i64 0) rfl
        have k3 := cell_obj hWF 3 (.int .i64 0) rfl
        refine bodyPost_ret (by simp [results, Try.results11, go_sem, k0, k1, k2, k3]; rfl) rfl ?_
        refine ⟨⟨mk, xb, rows⟩, w3, HG.out, by rw [HA.out]; rfl, .inr ⟨by rw [HA.out], ?_, hFF, ?_, hRR.lt⟩⟩
        · exact HT.out.put hFF (fun e => e.elim ng2 ng) (fun b e => e) hMM hRR (fun e => nm e.symm) (fun p hp => HT.out.others HG.out hp)
        · intro hx
          rcases HG.out with h | ⟨_, _, _, h4, _⟩
          · exact h
          · have : w.heap.size ≤ xb := h4
            have : xb < w.heap.size := hx
            omega
  | some r =>
    rw [hg] at hlk
    have hl2 : (Instr.lookup 66 (.map (some xb)) (.int .i64 n) true).run Try.prog (w3.alloc (.cells #[.int .i64 mk, .map (some xb)] 68)) = .ok (.tuple #[.agg #[.int .u64 r.mix, .bool r.done, .int .i64 r.a.c, .int .i64 r.a.n, .int .i64 r.a.code, .int .i64 r.a.k], .bool true]) _ := hlk
    clear hlk
    obtain ⟨rm, rd, ⟨ac, an, acode, ak⟩⟩ := r
    dsimp only at hl2
    by_cases hmk : n < mk
    · have HA := Lib.hid (show askM (mk, rows) n mx = (5, Ans.zero, false) by simp [askM, hmk])
      clear hg
      go_wp2_with fail
      refine genW (Q := fun W => bodyPost Try.prog Try.f11 _ Exit.ret _ W) (fun W => W.heap[w.heap.size]? = some (.cells #[.int .i64 0, .int .i64 0, .int .i64 0, .int .i64 0] 31) ∧ Fr (fun _ => False) w W) ⟨heap_keep (heap_keep (obj_set (obj_set (obj_set (obj_set HO.out 0 (.int .i64 0)) 1 (.int .i64 0)) 2 (.int .i64 0)) 3 (.int .i64 0)) _) _, (by repeat (first | exact HF.out | apply Fr.alloc | refine Fr.setCell ?_ (fun h => (Nat.lt_irrefl _ h).elim) _))⟩ ?_
      rintro WF ⟨hWF, hFF⟩
      have k0 := cell_obj hWF 0 (.int .i64 0) rfl
      have k1 := cell_obj hWF 1 (.int .i64 0) rfl
      have k2 := cell_obj hWF 2 (.int .i64 0) rfl
      have k3 := cell_obj hWF 3 (.int .i64 0) rfl
      refine bodyPost_ret (by simp [results, Try.results11, go_sem, k0, k1, k2, k3]; rfl) rfl ?_
      exact ⟨⟨mk, xb, rows⟩, w3, HG.out, by rw [HA.out]; rfl, .inl ⟨by rw [HA.out], hFF⟩⟩
    · by_cases hmix : rm = mx
      · subst hmix
        cases rd with
        | true =>
          have HA := Lib.hid (show askM (mk, rows) n rm = (3, ⟨ac, an, acode, ak⟩, false) by simp [askM, hmk, hg])
          clear hg
          go_wp2_with fail
          refine wp_region_still_tail 3 (by kernel_rfl) (by kernel_rfl) ?_
          simp only [List.take_succ_cons, List.take_zero, List.drop_succ_cons, List.drop_zero]
          change wpStill _ _ ((w3.alloc (.cells #[.int .i64 mk, .map (some xb)] 68)).alloc (.cells #[.int .u64 rm, .bool true, .int .i64 ac, .int .i64 an, .int .i64 acode, .int .i64 ak] 73)).drew (fun a' => wpList _ _ _ _ a' ((w3.alloc (.cells #[.int .i64 mk, .map (some xb)] 68)).alloc (.cells #[.int .u64 rm, .bool true, .int .i64 ac, .int .i64 an, .int .i64 acode, .int .i64 ak] 73)).drew) _ _
          have hb : ((w3.alloc (.cells #[.int .i64 mk, .map (some xb)] 68)).alloc (.cells #[.int .u64 rm, .bool true, .int .i64 ac, .int .i64 an, .int .i64 acode, .int .i64 ak] 73)).drew.heap[w3.heap.size + 1]? = some (.cells #[.int .u64 rm, .bool true, .int .i64 ac, .int .i64 an, .int .i64 acode, .int .i64 ak] 73) := heap_at (by simp) _
          have ho : ((w3.alloc (.cells #[.int .i64 mk, .map (some xb)] 68)).alloc (.cells #[.int .u64 rm, .bool true, .int .i64 ac, .int .i64 an, .int .i64 acode, .int .i64 ak] 73)).drew.heap[w.heap.size]? = some (.cells #[.int .i64 0, .int .i64 0, .int .i64 0, .int .i64 0] 31) := heap_keep (heap_keep HO.out _) _
          have hf : Fr (fun _ => False) w ((w3.alloc (.cells #[.int .i64 mk, .map (some xb)] 68)).alloc (.cells #[.int .u64 rm, .bool true, .int .i64 ac, .int .i64 an, .int .i64 acode, .int .i64 ak] 73)).drew := ((HF.out.alloc _).alloc _).drew
          generalize ((w3.alloc (.cells #[.int .i64 mk, .map (some xb)] 68)).alloc (.cells #[.int .u64 rm, .bool true, .int .i64 ac, .int .i64 an, .int .i64 acode, .int .i64 ak] 73)).drew = V at *
          have b2 := cell_obj hb 2 (.int .i64 ac) rfl
          have b3 := cell_obj hb 3 (.int .i64 an) rfl
          have b4 := cell_obj hb 4 (.int .i64 acode) rfl
          have b5 := cell_obj hb 5 (.int .i64 ak) rfl
          have z0 := cell_obj ho 0 (.int .i64 0) rfl
          have z1 := cell_obj ho 1 (.int .i64 0) rfl
          have z2 := cell_obj ho 2 (.int .i64 0) rfl
          have z3 := cell_obj ho 3 (.int .i64 0) rfl
          have y0 := obj_frozen ho 0
          have y1 := obj_frozen ho 1
          have y2 := obj_frozen ho 2
          have y3 := obj_frozen ho 3
          have HOV := Lib.hid ho; have HFV := Lib.hid hf
          clear ho hf hb hl2
          repeat still_step
          refine wpStill_nil ?_
          go_wp2_with fail
          refine genW (Q := fun W => bodyPost Try.prog Try.f11 _ Exit.ret _ W) (fun W => W.heap[w.heap.size]? = some (.cells #[.int .i64 ac, .int .i64 an, .int .i64 acode, .int .i64 ak] 31) ∧ Fr (fun _ => False) w W) ⟨obj_set (obj_set (obj_set (obj_set HOV.out 0 (.int .i64 ac)) 1 (.int .i64 an)) 2 (.int .i64 acode)) 3 (.int .i64 ak), (by repeat (first | exact HFV.out | refine Fr.setCell ?_ (fun h => (Nat.lt_irrefl _ h).elim) _))⟩ ?_
          rintro WF ⟨hWF, hFF⟩
          have k0 := cell_obj hWF 0 (.int .i64 ac) rfl
          have k1 := cell_obj hWF 1 (.int .i64 an) rfl
          have k2 := cell_obj hWF 2 (.int .i64 acode) rfl
          have k3 := cell_obj hWF 3 (.int .i64 ak) rfl
          refine bodyPost_ret (by simp [results, Try.results11, go_sem, k0, k1, k2, k3]; rfl) rfl ?_
          exact ⟨⟨mk, xb, rows⟩, w3, HG.out, by rw [HA.out]; rfl, .inl ⟨by rw [HA.out], hFF⟩⟩
        | false =>
          have HA := Lib.hid (show askM (mk, rows) n rm = (2, Ans.zero, false) by simp [askM, hmk, hg])
          clear hg
          go_wp2_with fail
          refine genW (Q := fun W => bodyPost Try.prog Try.f11 _ Exit.ret _ W) (fun W => W.heap[w.heap.size]? = some (.cells #[.int .i64 0, .int .i64 0, .int .i64 0, .int .i64 0] 31) ∧ Fr (fun _ => False) w W) ⟨heap_keep (heap_keep (obj_set (obj_set (obj_set (obj_set HO.out 0 (.int .i64 0)) 1 (.int .i64 0)) 2 (.int .i64 0)) 3 (.int .i64 0)) _) _, (by repeat (first | exact HF.out | apply Fr.alloc | refine Fr.setCell ?_ (fun h => (Nat.lt_irrefl _ h).elim) _))⟩ ?_
          rintro WF ⟨hWF, hFF⟩
          have k0 := cell_obj hWF 0 (.int .i64 0) rfl
          have k1 := cell_obj hWF 1 (.int .i64 0) rfl
          have k2 := cell_obj hWF 2 (.int .i64 0) rfl
          have k3 := cell_obj hWF 3 (.int .i64 0) rfl
          refine bodyPost_ret (by simp [results, Try.results11, go_sem, k0, k1, k2, k3]; rfl) rfl ?_
          exact ⟨⟨mk, xb, rows⟩, w3, HG.out, by rw [HA.out]; rfl, .inl ⟨by rw [HA.out], hFF⟩⟩
      · have HA := Lib.hid (show askM (mk, rows) n mx = (4, Ans.zero, false) by simp [askM, hmk, hg, hmix])
        clear hg
        go_wp2_with fail
        refine genW (Q := fun W => bodyPost Try.prog Try.f11 _ Exit.ret _ W) (fun W => W.heap[w.heap.size]? = some (.cells #[.int .i64 0, .int .i64 0, .int .i64 0, .int .i64 0] 31) ∧ Fr (fun _ => False) w W) ⟨heap_keep (heap_keep (obj_set (obj_set (obj_set (obj_set HO.out 0 (.int .i64 0)) 1 (.int .i64 0)) 2 (.int .i64 0)) 3 (.int .i64 0)) _) _, (by repeat (first | exact HF.out | apply Fr.alloc | refine Fr.setCell ?_ (fun h => (Nat.lt_irrefl _ h).elim) _))⟩ ?_
        rintro WF ⟨hWF, hFF⟩
        have k0 := cell_obj hWF 0 (.int .i64 0) rfl
        have k1 := cell_obj hWF 1 (.int .i64 0) rfl
        have k2 := cell_obj hWF 2 (.int .i64 0) rfl
        have k3 := cell_obj hWF 3 (.int .i64 0) rfl
        refine bodyPost_ret (by simp [results, Try.results11, go_sem, k0, k1, k2, k3]; rfl) rfl ?_
        exact ⟨⟨mk, xb, rows⟩, w3, HG.out, by rw [HA.out]; rfl, .inl ⟨by rw [HA.out], hFF⟩⟩
end Go.Proofs.Ytakjiicnbocjeaa
