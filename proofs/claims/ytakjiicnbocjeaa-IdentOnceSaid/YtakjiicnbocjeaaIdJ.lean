/- ident's law: lives. -/
import Derived.Test.YtakjiicnbocjeaaIdI
import Derived.Lib.SlBytesConst
namespace Go.Proofs.Ytakjiicnbocjeaa
open Go.RowKit Go.Maps
theorem Stp.low {TS TS' : Nat → Prop} {w w' : World} {n : Nat} (hs : Stp TS w w' TS') (hT : ∀ b, TS b → n ≤ b) (hn : n ≤ w.heap.size) : ∀ b, TS' b → n ≤ b := fun b hb => by
  rcases hs.2 b hb with h | h
  · exact hT b h
  · omega
theorem Stp.fr {TS TS' : Nat → Prop} {w0 w w' : World} {n : Nat} (hs : Stp TS w w' TS') (hf : Fr (fun b => n ≤ b) w0 w) (hT : ∀ b, TS b → n ≤ b) : Fr (fun b => n ≤ b) w0 w' := hf.trans' hs.1 (fun b _ e => hT b e)
theorem mixXY : mixF 7 [120] ≠ mixF 7 [121] := by decide +kernel
theorem cvBytes (w : World) (b : Nat) (C : Array Value) (n c : Nat) (hb : b = w.heap.size) :
    (convert 28 28 (.slice (some ⟨b, 0, none⟩) n c)).run Try.prog (w.alloc (.cells C 5)) = .ok (.slice (some ⟨b, 0, none⟩) n c) (w.alloc (.cells C 5 (C.size, C.size + 1))) := by
  subst hb
  exact Lib.run_convert_bytes_const w _ _ C n c Try.underlying28 Try.underlying5
theorem Bs.one (w : World) (b : Nat) (x : Int) (t : TypeId) (fz : Nat × Nat) (hb : b = w.heap.size) (h0 : 0 ≤ x) (h1 : x < 256) : Bs (w.alloc (.cells #[.int .u8 x] t fz)) (.slice (some ⟨b, 0, none⟩) 1 1) [x] := by
  subst hb
  refine ⟨by simp, _, _, rfl, fun i y hy => ?_⟩
  match i, hy with
  | 0, hy =>
    cases hy
    exact ⟨h0, h1, _, rfl, by show (w.alloc _).cell? ⟨w.heap.size, 0, none⟩ = _; unfold World.cell?; rw [heap_new]; rfl⟩
def A1 : Tbl := [(3, (1, [(1, ⟨mixF 7 [120], false, Ans.zero⟩)]))]
def a5 : Ans := ⟨3, 1, 0, 5⟩
def A2 : Tbl := [(3, (1, [(1, ⟨mixF 7 [120], true, a5⟩)]))]
def A3 : Tbl := [(3, (2, []))]
theorem live1 : askA [] 3 1 (mixF 7 [120]) = (1, Ans.zero) ∧ askT [] 3 1 (mixF 7 [120]) = A1 := ⟨rfl, rfl⟩
theorem live2 : askA A1 3 1 (mixF 7 [121]) = (4, Ans.zero) ∧ askT A1 3 1 (mixF 7 [121]) = A1 := by
  have h := mixXY
  unfold A1
  generalize mixF 7 [120] = X at *
  generalize mixF 7 [121] = Y at *
  constructor <;> simp [askA, askT, askM, isCl, isNu, cli, getS, h]
theorem live3 : tellA A1 a5 = 0 ∧ tellT A1 a5 = A2 := ⟨rfl, rfl⟩
theorem live4 : askA A2 3 1 (mixF 7 [120]) = (3, a5) ∧ askT A2 3 1 (mixF 7 [120]) = A2 := by
  unfold A2
  generalize mixF 7 [120] = X
  constructor <;> simp [askA, askT, askM, isCl, isNu, cli, getS]
theorem live5 : lowA A2 3 2 = 0 ∧ lowT A2 3 2 = A3 := ⟨rfl, rfl⟩
theorem live6 : askA A3 3 1 (mixF 7 [120]) = (5, Ans.zero) ∧ askT A3 3 1 (mixF 7 [120]) = A3 := ⟨rfl, rfl⟩
theorem live7 : markM A3 3 = 2 ∧ lenM A3 3 = 0 := ⟨rfl, rfl⟩
theorem lv1 (W : World) (g : Nat) (TS : Nat → Prop) (v : Value) (h : TA W g TS []) (hb : Bs W v [120]) : Calls Try.prog 11 #[.pointer (some ⟨g, 0, none⟩), .int .i64 3, .int .i64 1, v] W fun e w' =>
    e = .returned (.tuple #[.int .i64 1, .agg #[.int .i64 0, .int .i64 0, .int .i64 0, .int .i64 0]]) ∧ ∃ TS', TA w' g TS' A1 ∧ Stp TS W w' TS' := by
  refine (xAsk W g TS _ 3 1 v [120] h hb).mono ?_
  rintro e w' ⟨he, TS', hT, hs⟩
  rw [live1.1] at he; rw [live1.2] at hT
  exact ⟨he, TS', hT, hs⟩
theorem lv2 (W : World) (g : Nat) (TS : Nat → Prop) (v : Value) (h : TA W g TS A1) (hb : Bs W v [121]) : Calls Try.prog 11 #[.pointer (some ⟨g, 0, none⟩), .int .i64 3, .int .i64 1, v] W fun e w' =>
    e = .returned (.tuple #[.int .i64 4, .agg #[.int .i64 0, .int .i64 0, .int .i64 0, .int .i64 0]]) ∧ ∃ TS', TA w' g TS' A1 ∧ Stp TS W w' TS' := by
  refine (xAsk W g TS _ 3 1 v [121] h hb).mono ?_
  rintro e w' ⟨he, TS', hT, hs⟩
  rw [live2.1] at he; rw [live2.2] at hT
  exact ⟨he, TS', hT, hs⟩
theorem lv3 (W : World) (g : Nat) (TS : Nat → Prop) (h : TA W g TS A1) : Calls Try.prog 12 #[.pointer (some ⟨g, 0, none⟩), .agg #[.int .i64 3, .int .i64 1, .int .i64 0, .int .i64 5]] W fun e w' =>
    e = .returned (.int .i64 0) ∧ ∃ TS', TA w' g TS' A2 ∧ Stp TS W w' TS' := by
  refine (xTell W g TS _ a5 h).mono ?_
  rintro e w' ⟨he, TS', hT, hs⟩
  rw [live3.1] at he; rw [live3.2] at hT
  exact ⟨he, TS', hT, hs⟩
theorem lv4 (W : World) (g : Nat) (TS : Nat → Prop) (v : Value) (h : TA W g TS A2) (hb : Bs W v [120]) : Calls Try.prog 11 #[.pointer (some ⟨g, 0, none⟩), .int .i64 3, .int .i64 1, v] W fun e w' =>
    e = .returned (.tuple #[.int .i64 3, .agg #[.int .i64 3, .int .i64 1, .int .i64 0, .int .i64 5]]) ∧ ∃ TS', TA w' g TS' A2 ∧ Stp TS W w' TS' := by
  refine (xAsk W g TS _ 3 1 v [120] h hb).mono ?_
  rintro e w' ⟨he, TS', hT, hs⟩
  rw [live4.1] at he; rw [live4.2] at hT
  exact ⟨he, TS', hT, hs⟩
theorem lv5 (W : World) (g : Nat) (TS : Nat → Prop) (h : TA W g TS A2) : Calls Try.prog 13 #[.pointer (some ⟨g, 0, none⟩), .int .i64 3, .int .i64 2] W fun e w' =>
    e = .returned (.int .i64 0) ∧ ∃ TS', TA w' g TS' A3 ∧ Stp TS W w' TS' := by
  refine (xLow W g TS _ 3 2 h).mono ?_
  rintro e w' ⟨he, TS', hT, hs⟩
  rw [live5.1] at he; rw [live5.2] at hT
  exact ⟨he, TS', hT, hs⟩
theorem lv6 (W : World) (g : Nat) (TS : Nat → Prop) (v : Value) (h : TA W g TS A3) (hb : Bs W v [120]) : Calls Try.prog 11 #[.pointer (some ⟨g, 0, none⟩), .int .i64 3, .int .i64 1, v] W fun e w' =>
    e = .returned (.tuple #[.int .i64 5, .agg #[.int .i64 0, .int .i64 0, .int .i64 0, .int .i64 0]]) ∧ ∃ TS', TA w' g TS' A3 ∧ Stp TS W w' TS' := by
  refine (xAsk W g TS _ 3 1 v [120] h hb).mono ?_
  rintro e w' ⟨he, TS', hT, hs⟩
  rw [live6.1] at he; rw [live6.2] at hT
  exact ⟨he, TS', hT, hs⟩
theorem lv7 (W : World) (g : Nat) (TS : Nat → Prop) (h : TA W g TS A3) : Calls Try.prog 15 #[.pointer (some ⟨g, 0, none⟩), .int .i64 3] W fun e w' =>
    e = .returned (.int .i64 2) ∧ Fr (fun _ => False) W w' := by
  refine (xMark W g TS _ 3 h ⟨by decide, by decide⟩).mono ?_
  rintro e w' ⟨he, hf⟩
  rw [live7.1] at he
  exact ⟨he, hf⟩
theorem lv8 (W : World) (g : Nat) (TS : Nat → Prop) (h : TA W g TS A3) : Calls Try.prog 14 #[.pointer (some ⟨g, 0, none⟩), .int .i64 3] W fun e w' =>
    e = .returned (.int .i64 0) ∧ W = w' := by
  refine (xLen W g TS _ 3 h ⟨by decide, by decide⟩).mono ?_
  rintro e w' ⟨he, hf⟩
  rw [live7.2] at he
  exact ⟨he, hf⟩
set_option maxRecDepth 100000 in
set_option maxHeartbeats 4000000 in
theorem iLives (w : World) : Calls Try.prog 10 #[] w fun e w' => e = .returned (.bool true) ∧ Below w.heap.size w w' := by
  have hcv := cvBytes
  have hfn := fun (w : World) (f : Fn) (x y : Array Value) => run_eql_func_nil (P := Try.prog) w 44 _ _ _ f x y Try.underlying44
  obtain ⟨n0, hn0⟩ : ∃ n0, w.heap.size = n0 := ⟨_, rfl⟩
  have HS := Lib.hid hn0
  go_enter Try.func10, Try.ntmps10
  go_wp2_with (first
    | (go_at_call 9; refine (xNew _).mono ?_; rintro e w1 ⟨rfl, hT1, hf1, hs1⟩; rw [hn0] at hs1 hT1)
    | (go_at_call 16; refine (iOpen _ _).mono ?_; rintro e w2 ⟨rfl, rfl⟩))
  have hL1 : ∀ b, (fun b => b = n0 ∨ b = n0 + 1) b → n0 ≤ b := fun b h => by omega
  have HT0 := Lib.hid hT1
  have HF0 := Lib.hid (hf1.mono (S' := fun b => n0 ≤ b) (fun _ _ h => h.elim))
  have HL0 := Lib.hid hL1
  clear hT1 hf1 hL1
  refine (lv1 _ _ _ _ (HT0.out.fr (((Fr.refl (fun _ => False) _).alloc _).alloc _) (fun _ _ h => h)) (Bs.one _ _ _ _ _ (by simp [hs1]) (by decide) (by decide))).mono ?_
  rintro e w2 ⟨rfl, TS2, hT, hs⟩
  have HF2 := Lib.hid (hs.fr (((HF0.out).alloc _).alloc _) HL0.out)
  have HL2 := Lib.hid (hs.low HL0.out (by simp; omega))
  have HT2 := Lib.hid hT
  clear hT hs
  go_wp2_with fail
  refine (lv2 _ _ _ _ (HT2.out.fr (((Fr.refl (fun _ => False) _).alloc _).alloc _) (fun _ _ h => h)) (Bs.one _ _ _ _ _ (by simp) (by decide) (by decide))).mono ?_
  rintro e w3 ⟨rfl, TS3, hT, hs⟩
  have HF3 := Lib.hid (hs.fr (((HF2.out).alloc _).alloc _) HL2.out)
  have HL3 := Lib.hid (hs.low HL2.out (by have := HF2.out.size; have := HS.out; simp; omega))
  have HT3 := Lib.hid hT
  clear hT hs
  go_wp2_with fail
  refine (lv3 _ _ _ (HT3.out.fr ((Fr.refl (fun _ => False) _).alloc _) (fun _ _ h => h))).mono ?_
  rintro e w4 ⟨rfl, TS4, hT, hs⟩
  have HF4 := Lib.hid (hs.fr ((HF3.out).alloc _) HL3.out)
  have HL4 := Lib.hid (hs.low HL3.out (by have := HF3.out.size; have := HS.out; simp; omega))
  have HT4 := Lib.hid hT
  clear hT hs
  go_wp2_with fail
  refine (lv4 _ _ _ _ (HT4.out.fr ((Fr.refl (fun _ => False) _).alloc _) (fun _ _ h => h)) (Bs.one _ _ _ _ _ (by simp) (by decide) (by decide))).mono ?_
  rintro e w5 ⟨rfl, TS5, hT, hs⟩
  have HF5 := Lib.hid (hs.fr ((HF4.out).alloc _) HL4.out)
  have HL5 := Lib.hid (hs.low HL4.out (by have := HF4.out.size; have := HS.out; simp; omega))
  have HT5 := Lib.hid hT
  clear hT hs
  go_wp2_with fail
  refine (lv5 _ _ _ (HT5.out.fr ((Fr.refl (fun _ => False) _).alloc _) (fun _ _ h => h))).mono ?_
  rintro e w6 ⟨rfl, TS6, hT, hs⟩
  have hy := hs.1.at_ (heap_new w5 _) (fun e => by have := HT5.out.lt _ e; omega)
  have hn : ¬ TS6 w5.heap.size := fun e => by
    rcases hs.2 _ e with h | h
    · have := HT5.out.lt _ h; omega
    · simp at h; omega
  have HY6 := Lib.hid hy; have HN6 := Lib.hid hn
  clear hy hn
  have HF6 := Lib.hid (hs.fr ((HF5.out).alloc _) HL5.out)
  have HL6 := Lib.hid (hs.low HL5.out (by have := HF5.out.size; have := HS.out; simp; omega))
  have HT6 := Lib.hid hT
  clear hT hs
  go_wp2_with fail
  refine (lv6 _ _ _ _ (HT6.out.fr ((Fr.refl (fun _ => False) _).alloc _) (fun _ _ h => h)) (Bs.one _ _ _ _ _ (by simp) (by decide) (by decide))).mono ?_
  rintro e w7 ⟨rfl, TS7, hT, hs⟩
  have hy := hs.1.at_ (heap_keep HY6.out _) HN6.out
  have hn : ¬ TS7 w5.heap.size := fun e => by
    rcases hs.2 _ e with h | h
    · exact HN6.out h
    · have := (Array.getElem?_eq_some_iff.1 HY6.out).1; simp at h; omega
  have HY7 := Lib.hid hy; have HN7 := Lib.hid hn
  clear hy hn
  have hyc := cell_obj (heap_keep HY7.out (.cells #[.int .i64 0, .int .i64 0, .int .i64 0, .int .i64 0] 31)) 3 (.int .i64 5) rfl
  have HF7 := Lib.hid (hs.fr ((HF6.out).alloc _) HL6.out)
  have HL7 := Lib.hid (hs.low HL6.out (by have := HF6.out.size; have := HS.out; simp; omega))
  have HT7 := Lib.hid hT
  clear hT hs
  go_wp2_with fail
  refine (lv7 _ _ _ (HT7.out.fr ((Fr.refl (fun _ => False) _).alloc _) (fun _ _ h => h))).mono ?_
  rintro e w8 ⟨rfl, hf8⟩
  have HT8 := Lib.hid ((HT7.out.fr ((Fr.refl (fun _ => False) _).alloc _) (fun _ _ h => h)).fr hf8 (fun _ _ h => h))
  have HF8 := Lib.hid ((HF7.out.alloc _).trans (hf8.mono (fun _ _ h => h.elim)))
  clear hf8 hyc
  go_wp2_with fail
  refine (lv8 _ _ _ HT8.out).mono ?_
  rintro e w9 ⟨rfl, rfl⟩
  go_wp2_with fail
  go_ret
  exact ⟨rfl, HF8.out.toBelow (fun b h => by have := HS.out; omega) (Nat.le_refl _)⟩
end Go.Proofs.Ytakjiicnbocjeaa
