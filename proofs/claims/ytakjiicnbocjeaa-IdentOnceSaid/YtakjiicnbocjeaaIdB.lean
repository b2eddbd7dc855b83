/- ident.Table: Mark, Len, Ask. -/
import Derived.Test.YtakjiicnbocjeaaIdA
import Derived.Test.YtakjiicnbocjeaaCrcB
import Derived.Test.YtakjiicnbocjeaaPlainB
namespace Go.Proofs.Ytakjiicnbocjeaa
open Go.RowKit Go.Maps
abbrev Rows := List (Int × RowV)
/-- What a table says: of each client its mark and rows. -/
abbrev Tbl := List (Int × (Int × Rows))
def absl (l : List (Int × Cl)) : Tbl := l.map fun p => (p.1, (p.2.mark, p.2.rows))
theorem absl_get (l : List (Int × Cl)) (c : Int) : getS (absl l) c = (getS l c).map fun x => (x.mark, x.rows) := by
  induction l with
  | nil => rfl
  | cons p r ih =>
    simp only [absl, List.map_cons, getS] at ih ⊢
    by_cases e : p.1 = c
    · simp [e]
    · simp only [e, if_false]; exact ih
theorem absl_del (l : List (Int × Cl)) (c : Int) : absl (delS l c) = delS (absl l) c := by
  simp only [absl, delS, List.filter_map]; rfl
theorem absl_ins (lt : Int → Int → Bool) (p : Int × Cl) (l : List (Int × Cl)) : absl (insS lt p l) = insS lt (p.1, (p.2.mark, p.2.rows)) (absl l) := by
  induction l with
  | nil => rfl
  | cons q r ih =>
    simp only [insS, absl, List.map_cons] at ih ⊢
    split
    · rfl
    · simp only [List.map_cons, ih]
theorem absl_put (lt : Int → Int → Bool) (l : List (Int × Cl)) (c : Int) (x : Cl) : absl (putS lt l c x) = putS lt (absl l) c (x.mark, x.rows) := by
  unfold putS; rw [absl_ins, absl_del]
/-- A client as it is. -/
def cli (A : Tbl) (c : Int) : Int × Rows := (getS A c).getD (1, [])
theorem Got.cli {w w' : World} {l : List (Int × Cl)} {c : Int} {x : Cl} (h : Got w w' l c x) : cli (absl l) c = (x.mark, x.rows) := by
  unfold Go.Proofs.Ytakjiicnbocjeaa.cli
  rw [absl_get]
  rcases h with h | ⟨h, h1, h2, _⟩
  · rw [h]; rfl
  · rw [h, h1, h2]; rfl
theorem clField0 (w : World) (a b : Value) : (Instr.field 68 (.agg #[a, b]) 0).run Try.prog w = .ok a w := by kernel_rfl
theorem clField1 (w : World) (a b : Value) : (Instr.field 68 (.agg #[a, b]) 1).run Try.prog w = .ok b w := by kernel_rfl
theorem iMark_no (w : World) (c : Int) : Calls Try.prog 15 #[.pointer none, .int .i64 c] w fun e w' => e = .returned (.int .i64 0) ∧ w = w' := by
  go_enter Try.func15, Try.ntmps15
  go_wp2_with (go_at_call 24; refine (imade_no _).mono ?_; rintro e w' ⟨rfl, rfl⟩)
  go_ret
  exact ⟨rfl, rfl⟩
def markM (A : Tbl) (c : Int) : Int := if isCl c then (cli A c).1 else 0
set_option maxRecDepth 100000 in
theorem iMark (w : World) (g m : Nat) (l : List (Int × Cl)) (c : Int) (h : Tab w g m l) (hc : okI c) :
    Calls Try.prog 15 #[.pointer (some ⟨g, 0, none⟩), .int .i64 c] w fun e w' => e = .returned (.int .i64 (markM (absl l) c)) ∧ Fr (fun _ => False) w w' := by
  have hcell := h.cell
  have HC := Lib.hid (iClient? w c)
  have HX := Lib.hid (iclient w g m l c h hc)
  unfold markM
  have hf0 := clField0
  clear h
  cases hi : isCl c with
  | false =>
    rw [hi] at HC
    go_enter Try.func15, Try.ntmps15
    go_wp2_with (first
      | (go_at_call 24; refine (imade _ g m hcell).mono ?_; rintro e w' ⟨rfl, rfl⟩)
      | (go_at_call 25; refine HC.out.mono ?_; rintro e w' ⟨rfl, rfl⟩))
    go_ret
    exact ⟨rfl, Fr.refl _ _⟩
  | true =>
    rw [hi] at HC
    go_enter Try.func15, Try.ntmps15
    go_wp2_with (first
      | (go_at_call 24; refine (imade _ g m hcell).mono ?_; rintro e w' ⟨rfl, rfl⟩)
      | (go_at_call 25; refine HC.out.mono ?_; rintro e w' ⟨rfl, rfl⟩)
      | (go_at_call 27; refine HX.out.mono ?_; rintro e w1 ⟨⟨mk, b, rows⟩, rfl, -, hf, hgot⟩; have HGO := Lib.hid hgot.cli; clear hgot; unfold Cl.enc))
    go_ret
    exact ⟨ret_int (by rw [HGO.out]), hf⟩
theorem iLen_no (w : World) (c : Int) : Calls Try.prog 14 #[.pointer none, .int .i64 c] w fun e w' => e = .returned (.int .i64 0) ∧ w = w' := by
  go_enter Try.func14, Try.ntmps14
  go_wp2_with (go_at_call 24; refine (imade_no _).mono ?_; rintro e w' ⟨rfl, rfl⟩)
  go_ret
  exact ⟨rfl, rfl⟩
def lenM (A : Tbl) (c : Int) : Int := ((getS A c).map fun x => (x.2.length : Int)).getD 0
theorem iLen (w : World) (g m : Nat) (l : List (Int × Cl)) (c : Int) (h : Tab w g m l) (hc : okI c) :
    Calls Try.prog 14 #[.pointer (some ⟨g, 0, none⟩), .int .i64 c] w fun e w' => e = .returned (.int .i64 (lenM (absl l) c)) ∧ w = w' := by
  have hcell := h.cell
  have hlk := h.map.look idK Try.underlying61 (zeroCl w) hc
  have hf1 := clField1
  unfold lenM
  rw [absl_get]
  cases hg : getS l c with
  | none =>
    rw [hg] at hlk
    have hl2 : (Instr.lookup 61 (.map (some m)) (.int .i64 c) false).run Try.prog w = .ok (.agg #[.int .i64 0, .map none]) w := hlk
    clear hlk hg
    go_enter Try.func14, Try.ntmps14
    go_wp2_with (go_at_call 24; refine (imade _ g m hcell).mono ?_; rintro e w' ⟨rfl, rfl⟩)
    go_ret
    exact ⟨rfl, rfl⟩
  | some x =>
    rw [hg] at hlk
    have hl2 : (Instr.lookup 61 (.map (some m)) (.int .i64 c) false).run Try.prog w = .ok (.agg #[.int .i64 x.mark, .map (some x.b)]) w := hlk
    have hln := (h.rows _ (getS_mem hg)).len Try.underlying66 3
    clear hlk hg
    go_enter Try.func14, Try.ntmps14
    go_wp2_with (go_at_call 24; refine (imade _ g m hcell).mono ?_; rintro e w' ⟨rfl, rfl⟩)
    go_ret
    exact ⟨rfl, rfl⟩
end Go.Proofs.Ytakjiicnbocjeaa
