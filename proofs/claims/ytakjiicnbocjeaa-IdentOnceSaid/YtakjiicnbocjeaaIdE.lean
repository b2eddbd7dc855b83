/- ident.Table: Tell. -/
import Derived.Test.YtakjiicnbocjeaaIdC
namespace Go.Proofs.Ytakjiicnbocjeaa
open Go.RowKit Go.Maps
theorem genW2 {Q : World → Prop} {W : World} (P : World → Prop) (h : P W) (k : ∀ W', P W' → Q W') : Q W := k W h
/-- What Tell says, of a client's rows: the error, and whether the row is turned. -/
def tellM (x : Int × Rows) (n : Int) : Int :=
  match getS x.2 n with
  | none => 4
  | some r => if r.done then 5 else 0
def tellOk (a : Ans) : Bool := isCl a.c && isNu a.n && decide (0 ≤ a.code) && decide (a.code ≤ 1000)
theorem iTell_arg (w : World) (g m : Nat) (l : List (Int × Cl)) (a : Ans) (h : Tab w g m l) (ha : tellOk a = false) :
    Calls Try.prog 12 #[.pointer (some ⟨g, 0, none⟩), a.enc] w fun e w' => e = .returned (.int .i64 1) ∧ Fr (fun _ => False) w w' := by
  have hcell := (h.fr ((Fr.refl (fun _ => False) w).alloc (.cells #[.int .i64 a.c, .int .i64 a.n, .int .i64 a.code, .int .i64 a.k] 31)) (fun h => h) (fun h => h) (fun _ _ h => h)).cell
  have HC := Lib.hid (fun w => iClient? w a.c)
  have HN := Lib.hid (fun w => iNumber? w a.n)
  obtain ⟨c, n, code, k⟩ := a
  unfold tellOk at ha
  unfold Ans.enc
  dsimp only at *
  clear h
  have hcase : isCl c = false ∨ isCl c = true ∧ isNu n = false ∨ isCl c = true ∧ isNu n = true ∧ code < 0 ∨ isCl c = true ∧ isNu n = true ∧ 0 ≤ code ∧ 1000 < code := by
    cases h1 : isCl c <;> cases h2 : isNu n <;> simp [h1, h2] at ha ⊢
    omega
  clear ha
  rcases hcase with h1 | ⟨h1, h2⟩ | ⟨h1, h2, h3⟩ | ⟨h1, h2, h3, h4⟩
  all_goals
    try rw [h1] at HC
    try rw [h2] at HN
    try clear h1
    try clear h2
    go_enter Try.func12, Try.ntmps12
    go_wp2_with (first
      | (go_at_call 24; refine (imade _ g m hcell).mono ?_; rintro e w' ⟨rfl, rfl⟩)
      | (go_at_call 25; refine (HC.out _).mono ?_; rintro e w' ⟨rfl, rfl⟩)
      | (go_at_call 26; refine (HN.out _).mono ?_; rintro e w' ⟨rfl, rfl⟩))
    go_ret
    exact ⟨rfl, (Fr.refl _ _).alloc _⟩
theorem iTell_no (w : World) (a : Ans) : Calls Try.prog 12 #[.pointer none, a.enc] w fun e w' => e = .returned (.int .i64 6) ∧ Fr (fun _ => False) w w' := by
  unfold Ans.enc
  go_enter Try.func12, Try.ntmps12
  go_wp2_with (go_at_call 24; refine (imade_no _).mono ?_; rintro e w' ⟨rfl, rfl⟩)
  go_ret
  exact ⟨rfl, (Fr.refl _ _).alloc _⟩
/-- The rows behind a Tell. -/
def tellR (rows : Rows) (a : Ans) : Rows := match getS rows a.n with
  | some r => putS ktI.lt rows a.n ⟨r.mix, true, a⟩
  | none => rows
set_option maxRecDepth 100000 in
set_option maxHeartbeats 2000000 in
theorem iTell (w : World) (g m : Nat) (l : List (Int × Cl)) (a : Ans) (h : Tab w g m l) (ha : tellOk a = true) (hlen : ∀ p ∈ l, p.2.rows.length < 9223372036854775807) :
    Calls Try.prog 12 #[.pointer (some ⟨g, 0, none⟩), a.enc] w fun e w' => ∃ x w1, Got w w1 l a.c x ∧ e = .returned (.int .i64 (tellM (x.mark, x.rows) a.n)) ∧
      ((tellM (x.mark, x.rows) a.n ≠ 0 ∧ Fr (fun _ => False) w w') ∨ (tellM (x.mark, x.rows) a.n = 0 ∧ getS l a.c = some x ∧ Mp Try.prog w' 3 ktI RowV.enc x.b (tellR x.rows a) ∧ Fr (fun b => b = x.b) w w')) := by
  have hh : isCl a.c = true ∧ isNu a.n = true ∧ 0 ≤ a.code ∧ a.code ≤ 1000 := by
    unfold tellOk at ha; simpa [and_assoc] using ha
  obtain ⟨c, n, code, k⟩ := a
  dsimp only at *
  obtain ⟨hi, hj, h0, h1⟩ := hh
  have hco : okI c := by unfold isCl at hi; simp at hi; unfold okI; omega
  have hno : okI n := by unfold isNu at hj; simp at hj; unfold okI; omega
  have hf1 := (Fr.refl (fun _ => False) w).alloc (.cells #[.int .i64 c, .int .i64 n, .int .i64 code, .int .i64 k] 31)
  have hT1 := h.fr hf1 (fun h => h) (fun h => h) (fun _ _ h => h)
  have hcell := hT1.cell
  have HX := Lib.hid (iclient _ g m l c hT1 hco)
  have HC := Lib.hid (fun w => iClient? w c)
  have HN := Lib.hid (fun w => iNumber? w n)
  have ho := heap_new w (.cells #[.int .i64 c, .int .i64 n, .int .i64 code, .int .i64 k] 31)
  rw [hi] at HC
  rw [hj] at HN
  have HT := Lib.hid h; have HO1 := Lib.hid ho
  have HL : Hid (∀ x w3, Got w w3 l c x → x.rows.length < 9223372036854775807) := Lib.hid (fun x w3 hg => by
    rcases hg with hg | ⟨_, _, h3, _⟩
    · exact hlen _ (getS_mem hg)
    · rw [h3]; simp)
  clear hlen
  clear hi hj hf1 hT1 h ho ha
  unfold Ans.enc
  dsimp only
  go_enter Try.func12, Try.ntmps12
  go_wp2_with (first
    | (go_at_call 24; refine (imade _ g m hcell).mono ?_; rintro e w' ⟨rfl, rfl⟩)
    | (go_at_call 25; refine (HC.out _).mono ?_; rintro e w' ⟨rfl, rfl⟩)
    | (go_at_call 26; refine (HN.out _).mono ?_; rintro e w' ⟨rfl, rfl⟩))
  refine HX.out.mono ?_
  rintro e w3 ⟨⟨mk, xb, rows⟩, rfl, hr3, hf3, hg2⟩
  unfold Cl.enc
  dsimp only at hr3 ⊢
  have hro3 := hf3.at_ HO1.out (fun h => h)
  have hF3 : Fr (fun _ => False) w w3 := ((Fr.refl _ w).alloc _).trans hf3
  have hG3 : Got w w3 l c ⟨mk, xb, rows⟩ := by
    rcases hg2 with h | ⟨h1, h2, h3, h4, h5⟩
    · exact .inl h
    · exact .inr ⟨h1, h2, h3, by simp at h4 ⊢; omega, h5⟩
  have hlk := (hr3.alloc (.cells #[.int .i64 mk, .map (some xb)] 68)).look_ok idK Try.underlying66 (zeroRow _) hno
  have hros : w.heap.size < w3.heap.size := (Array.getElem?_eq_some_iff.1 hro3).1
  have z0 := cell_obj hro3 0 (.int .i64 c) rfl
  have z1 := cell_obj hro3 1 (.int .i64 n) rfl
  have z2 := cell_obj hro3 2 (.int .i64 code) rfl
  have z3 := cell_obj hro3 3 (.int .i64 k) rfl
  have HG := Lib.hid hG3; have HF := Lib.hid hF3; have HR := Lib.hid hr3; have HO := Lib.hid hro3
  clear hg2 hf3 hG3 hF3 hr3 hro3 HX HC HN hcell HO1
  cases hg : getS rows n with
  | none =>
    rw [hg] at hlk
    have hl2 : (Instr.lookup 66 (.map (some xb)) (.int .i64 n) true).run Try.prog (w3.alloc (.cells #[.int .i64 mk, .map (some xb)] 68)) = .ok (.tuple #[.agg #[.int .u64 0, .bool false, .int .i64 0, .int .i64 0, .int .i64 0, .int .i64 0], .bool false]) _ := hlk
    have HA := Lib.hid (show tellM (mk, rows) n = 4 by simp [tellM, hg])
    clear hlk hg
    go_wp2_with fail
    go_ret
    exact ⟨⟨mk, xb, rows⟩, w3, HG.out, ret_int (by rw [HA.out]), .inl ⟨by rw [HA.out]; decide, (HF.out.alloc _).alloc _⟩⟩
  | some r =>
    rw [hg] at hlk
    obtain ⟨rm, rd, ⟨ac, an, acode, ak⟩⟩ := r
    have hl2 : (Instr.lookup 66 (.map (some xb)) (.int .i64 n) true).run Try.prog (w3.alloc (.cells #[.int .i64 mk, .map (some xb)] 68)) = .ok (.tuple #[.agg #[.int .u64 rm, .bool rd, .int .i64 ac, .int .i64 an, .int .i64 acode, .int .i64 ak], .bool true]) _ := hlk
    clear hlk
    cases rd with
    | true =>
      have HA := Lib.hid (show tellM (mk, rows) n = 5 by simp [tellM, hg])
      clear hg
      go_wp2_with fail
      go_ret
      exact ⟨⟨mk, xb, rows⟩, w3, HG.out, ret_int (by rw [HA.out]), .inl ⟨by rw [HA.out]; decide, (HF.out.alloc _).alloc _⟩⟩
    | false =>
      have HA := Lib.hid (show tellM (mk, rows) n = 0 by simp [tellM, hg])
      have HGS : Hid (∀ w3, Got w w3 l c ⟨mk, xb, rows⟩ → getS l c = some ⟨mk, xb, rows⟩) := Lib.hid (fun w3 h => by
        rcases h with h | ⟨_, _, h3, _⟩
        · exact h
        · have : rows = [] := h3
          rw [this] at hg; cases hg)
      have HA2 := Lib.hid (show tellR rows ⟨c, n, code, k⟩ = putS ktI.lt rows n ⟨rm, true, ⟨c, n, code, k⟩⟩ by simp [tellR, hg])
      clear hg
      go_wp2_with fail
      go_region
      obtain ⟨w6, hst, hr6, ht6⟩ := ((HR.out.alloc (.cells #[.int .i64 mk, .map (some xb)] 68)).alloc (.cells #[.int .u64 rm, .bool true, .int .i64 c, .int .i64 n, .int .i64 code, .int .i64 k] 73)).drew.store idK Try.underlying66 (by have := HL.out _ w3 HG.out; exact this) hno ⟨rm, true, ⟨c, n, code, k⟩⟩
      have hst' : (Instr.mapUpdate 66 (.map (some xb)) (.int .i64 n) (.agg #[.int .u64 rm, .bool true, .int .i64 c, .int .i64 n, .int .i64 code, .int .i64 k])).run Try.prog ((w3.alloc (.cells #[.int .i64 mk, .map (some xb)] 68)).alloc (.cells #[.int .u64 rm, .bool true, .int .i64 c, .int .i64 n, .int .i64 code, .int .i64 k] 73)).drew = .ok () w6 := hst
      have F6 : Fr (fun b => b = xb) w w6 := ((((HF.out.mono (fun _ _ h => h.elim)).alloc _).alloc _).drew).trans' (Fr.turned (S := fun b => b = xb) ht6 rfl) (fun b _ e => e)
      have HF6 := Lib.hid F6; have HR6 := Lib.hid hr6
      clear hst hl2 F6 hr6 ht6
      go_wp2_with fail
      go_ret
      refine ⟨⟨mk, xb, rows⟩, w3, HG.out, ret_int (by rw [HA.out]), .inr ⟨by rw [HA.out], HGS.out w3 HG.out, ?_, HF6.out⟩⟩
      rw [HA2.out]; exact HR6.out
end Go.Proofs.Ytakjiicnbocjeaa
