/- stock's laws: lives, walked. -/
import Derived.Test.YtclgmnobockfnaaStkDoesM8
import Derived.Deep.RegionWith
import Derived.Deep.RegionHeld3
namespace Go.Proofs.Ytclgmnobockfnaa
open Go.RowKit Go.Maps
theorem sgNew (w : World) : Calls Try.prog 10 #[] w fun e w' => ∃ g TS, e = .returned (.pointer (some ⟨g, 0, none⟩)) ∧ SA w' g TS [] ∧ (∀ b, TS b → w.heap.size ≤ b) ∧ Fr (fun _ => False) w w' := by
  refine (sNew w).mono ?_
  rintro e w' ⟨rfl, h1, h2, h3⟩
  exact ⟨_, _, rfl, h1, fun b hb => by omega, h2⟩
/-- On the way of lives: the stock, and the list that is kept. -/
structure LvS (w : World) (n0 lb : Nat) (W : World) (g : Nat) (TS : Nat → Prop) (A : Stk) : Prop where
  st : SA W g TS A
  fr : Fr (fun b => n0 ≤ b) w W
  low : ∀ b, TS b → n0 ≤ b
  lst : W.heap[lb]? = some (.cells #[.string ⟨#[97]⟩, .int .i64 5] 66)
  nl : ¬ TS lb
theorem LvS.keep {w W W' : World} {n0 lb g : Nat} {TS : Nat → Prop} {A : Stk} (h : LvS w n0 lb W g TS A) (hf : Fr (fun _ => False) W W') : LvS w n0 lb W' g TS A :=
  ⟨h.st.fr hf (fun _ _ e => e), h.fr.trans' hf (fun _ _ e => e.elim), h.low, hf.at_ h.lst (fun e => e), h.nl⟩
theorem LvS.step {w W W' : World} {n0 lb g : Nat} {TS TS' : Nat → Prop} {A A' : Stk} (h : LvS w n0 lb W g TS A) (hA : SA W' g TS' A') (hs : Stp TS W W' TS') (hn : n0 ≤ W.heap.size) : LvS w n0 lb W' g TS' A' :=
  have hl := (Array.getElem?_eq_some_iff.1 h.lst).1
  ⟨hA, hs.fr h.fr h.low, hs.low h.low hn, hs.1.at_ h.lst h.nl, fun e => (hs.2 _ e).elim h.nl (fun e => by omega)⟩
theorem ilAt {W : World} {b : Nat} {n : Int} (h : W.heap[b]? = some (.cells #[.string ⟨#[97]⟩, .int .i64 n] 66)) (hn : okI n) : Il W (.slice (some ⟨b, 0, none⟩) 1 1) [(gA, n)] := by
  refine ⟨by simp, some ⟨b, 0, none⟩, 1, rfl, fun i p hp => ?_⟩
  match i, hp with
  | 0, hp =>
    cases hp
    exact ⟨by simp [okS, gA, maxLen], hn, _, rfl, cell_obj h 0 _ rfl, cell_obj h 1 _ rfl⟩
theorem lvDo {w W : World} {n0 lb g b : Nat} {TS : Nat → Prop} {A A' : Stk} {k n c : Int} (h : LvS w n0 lb W g TS A) (hn : n0 ≤ W.heap.size) (hA : SOk A) (hb : W.heap[b]? = some (.cells #[.string ⟨#[97]⟩, .int .i64 n] 66)) (hk : okI n) (e : doS A k [(gA, n)] = (c, A')) :
    Calls Try.prog 12 #[.pointer (some ⟨g, 0, none⟩), .int .i64 k, .slice (some ⟨b, 0, none⟩) 1 1] W fun e w' => e = .returned (.int .i64 c) ∧ ∃ TS', LvS w n0 lb w' g TS' A' ∧ Stp TS W w' TS' := by
  refine (sDo W g TS A k _ _ h.st hA (ilAt hb hk)).mono ?_
  rintro e2 w' ⟨rfl, TS', h1, h2⟩
  rw [e] at h1 ⊢
  exact ⟨rfl, TS', h.step h1 h2 hn, h2⟩
theorem lvCount {w W : World} {n0 lb g : Nat} {TS : Nat → Prop} {A A' : Stk} {n m c : Int} (h : LvS w n0 lb W g TS A) (hA : SOk A) (e : countS A gA n = (m, c, A')) :
    Calls Try.prog 19 #[.pointer (some ⟨g, 0, none⟩), .string ⟨#[97]⟩, .int .i64 n] W fun e w' => e = .returned (.tuple #[.int .i64 m, .int .i64 c]) ∧ LvS w n0 lb w' g TS A' := by
  refine (sCount W g TS A gA n h.st (by simp [okS, gA, maxLen]) hA).mono ?_
  rintro e2 w' ⟨rfl, h1, h2⟩
  rw [e] at h1 ⊢
  exact ⟨rfl, h1, h.fr.trans' h2 (fun b _ e => h.low b e), h.low, h2.at_ h.lst h.nl, h.nl⟩
theorem lvUnp {W : World} {base : Nat} {v : Value} (h : W.ownsRow base 5 1 v (packS B3).length (u8s (packS B3))) :
    Calls Try.prog 14 #[v] W fun e w' => ∃ g TS, e = .returned (.tuple #[.pointer (some ⟨g, 0, none⟩), .int .i64 0]) ∧ SA w' g TS B3 ∧ (∀ b, TS b → W.heap.size ≤ b) ∧ Fr (fun _ => False) W w' := by
  have hb := Bs.own h (packS_byt ok3)
  refine (sUnpack W v (packS B3) hb.1 (by have := packS_len ok3; omega) (packS_byt ok3) (fun b e => (h.lt b e).2)).mono ?_
  rintro e w' ⟨h1, h2⟩
  rw [unpS_pack ok3] at h2
  obtain ⟨g, TS, rfl, h3, h4⟩ := h2
  exact ⟨g, TS, rfl, h3, h4, h1⟩
abbrev lv3 : Value := .agg #[.int .i64 1, .int .i64 3, .int .i64 0, .int .i64 0]
abbrev fl3 : Value := .agg #[.int .i64 5, .int .i64 0, .int .i64 (-1), .int .i64 0, .int .i64 0, .int .i64 0, .int .i64 0]
theorem lvLevel {w W : World} {n0 lb g : Nat} {TS : Nat → Prop} (h : LvS w n0 lb W g TS B3) : Calls Try.prog 29 #[.pointer (some ⟨g, 0, none⟩), .string ⟨#[97]⟩] W fun e w' => e = .returned (.agg #[.int .i64 1, .int .i64 3, .int .i64 0, .int .i64 0]) ∧ LvS w n0 lb w' g TS B3 := by
  refine (sLevel W g TS B3 gA h.st (by simp [okS, gA, maxLen])).mono ?_
  rintro e w' ⟨rfl, h2⟩
  exact ⟨rfl, h.keep h2⟩
theorem lvFlow {w W : World} {n0 lb g : Nat} {TS : Nat → Prop} (h : LvS w n0 lb W g TS B3) : Calls Try.prog 30 #[.pointer (some ⟨g, 0, none⟩), .string ⟨#[97]⟩] W fun e w' => e = .returned (.agg #[.int .i64 5, .int .i64 0, .int .i64 (-1), .int .i64 0, .int .i64 0, .int .i64 0, .int .i64 0]) ∧ LvS w n0 lb w' g TS B3 := by
  refine (sFlow W g TS B3 gA h.st (by simp [okS, gA, maxLen])).mono ?_
  rintro e w' ⟨rfl, h2⟩
  exact ⟨rfl, h.keep h2⟩
theorem lvBal (W : World) : Calls Try.prog 17 #[.agg #[.int .i64 1, .int .i64 3, .int .i64 0, .int .i64 0], .agg #[.int .i64 5, .int .i64 0, .int .i64 (-1), .int .i64 0, .int .i64 0, .int .i64 0, .int .i64 0]] W fun e w' => e = .returned (.bool true) ∧ Fr (fun _ => False) W w' :=
  sBalanced W ⟨1, 3, 0, 0, 5, 0, -1, 0, 0, 0, 0⟩
theorem lvOffer {w W : World} {n0 lb g : Nat} {TS : Nat → Prop} (h : LvS w n0 lb W g TS B3) : Calls Try.prog 23 #[.pointer (some ⟨g, 0, none⟩), .slice (some ⟨lb, 0, none⟩) 1 1] W fun e w' => ∃ a c, e = .returned (.slice a 1 c) ∧ LvS w n0 lb w' g TS B3 := by
  refine (sOffer W g TS B3 _ L5 h.st ok3 (ilAt h.lst (by simp [okI]))).mono ?_
  rintro e w' ⟨v', rfl, h1, h2, h3⟩
  rw [if_pos sl6.2, sl6.1] at h1
  obtain ⟨a, c, rfl⟩ := h1.sl
  exact ⟨a, c, rfl, h.keep h3⟩
set_option maxRecDepth 100000 in
set_option maxHeartbeats 8000000 in
theorem stkLives (w : World) : Calls Try.prog 11 #[] w fun e w' => e = .returned (.bool true) ∧ Fr (fun _ => False) w w' := by
  obtain ⟨n0, hn0⟩ : ∃ n0, w.heap.size = n0 := ⟨_, rfl⟩
  have HS := Lib.hid hn0
  have hnf := fun (w : World) (f : Fn) (x y : Array Value) => run_eql_func_nil (P := Try.prog) w 57 _ _ _ f x y Try.underlying57
  go_enter Try.func11, Try.ntmps11
  go_wp2_with (first
    | (go_at_call 29; refine (lvLevel HV8.out).mono ?_; rintro e w9 ⟨rfl, hV9⟩; have HV8 := Lib.hid hV9; clear hV9)
    | (go_at_call 30; refine (lvFlow HV8.out).mono ?_; rintro e w10 ⟨rfl, hV9⟩; have HV8 := Lib.hid hV9; clear hV9)
    | (go_at_call 17; refine (lvBal _).mono ?_; rintro e w11 ⟨rfl, hf9⟩; have HV8 := Lib.hid (HV8.out.keep hf9); clear hf9)
    | (go_at_call 23; refine (lvOffer HV8.out).mono ?_; rintro e w12 ⟨oa, oc, rfl, hV9⟩; have HV8 := Lib.hid hV9; clear hV9)
    | (go_at_call 12; refine (lvDo (A := B3) (k := 2) (n := 5) HV8.out (by have := HV8.out.fr.size; have := HS.out; omega) ok3 HV8.out.lst (by simp [okI]) sl5).mono ?_; rintro e w13 ⟨rfl, TS9, hV9, hS9⟩; have HV8 := Lib.hid hV9; clear hV9 hS9)
    | (go_at_call 14; refine (lvUnp HO7.out).mono ?_; rintro e w8 ⟨gx, TX, rfl, hx8, hl8, hf8⟩; have HX8 := Lib.hid hx8; have HL8 := Lib.hid hl8; have HV8 := Lib.hid (HV7.out.keep hf8); clear hx8 hl8 hf8)
    | (go_at_call 13; refine (sPack _ _ _ B3 HV6.out.st ok3).mono ?_; rintro e w7 ⟨v7, rfl, ho7, hf7⟩; have HO7 := Lib.hid ho7; have HV7 := Lib.hid (HV6.out.keep hf7); clear ho7 hf7)
    | (go_at_call 19; refine (lvCount (n := 4) HV5.out ok2 sl4).mono ?_; rintro e w6 ⟨rfl, hV6⟩; have HV6 := Lib.hid hV6; clear hV6)
    | (go_at_call 19; refine (lvCount (n := 2) HV4.out ok2 sl3).mono ?_; rintro e w5 ⟨rfl, hV5⟩; have HV5 := Lib.hid hV5; clear hV5)
    | (go_at_call 12; refine (lvDo (A := B1) (k := 2) (n := 3) (HV3.out.keep ((Fr.refl _ w3).alloc _)) (by have := hz3.out; simp; omega) ok1 (heap_new _ _) (by simp [okI]) sl2).mono ?_; rintro e w4 ⟨rfl, TS4, hV4, hS4⟩; have HV4 := Lib.hid hV4; have hz4 : Hid (n0 ≤ w4.heap.size) := Lib.hid (by have := hz3.out; have := hS4.1.size; simp at this; omega); clear hV4 hS4)
    | (go_at_call 12; refine (lvDo (w := w) (n0 := n0) (lb := w1.heap.size + 1) (A := []) (k := 1) (n := 5) ⟨HA1.out.fr (((Fr.refl (fun _ => False) w1).alloc _).alloc _) (fun _ _ e => e), ((HF1.out.mono (fun _ _ e => e.elim)).alloc _).alloc _, fun b hb => by have := HT1.out b hb; have := HS.out; omega, heap_at (by simp) _, fun e => by have := HA1.out.lt _ e; omega⟩ (by have := HF1.out.size; have := HS.out; simp; omega) ok0 (heap_at (by simp) _) (by simp [okI]) sl1).mono ?_; rintro e w3 ⟨rfl, TS3, hV3, hS3⟩; have HV3 := Lib.hid hV3; have hz3 : Hid (n0 ≤ w3.heap.size) := Lib.hid (by have := HF1.out.size; have := HS.out; have := hS3.1.size; simp at this; omega); clear hV3 hS3)
    | (go_at_call 28; refine (sGoods _ _).mono ?_; rintro e w2 ⟨rfl, rfl⟩)
    | (go_at_call 10; refine (sgNew _).mono ?_; rintro e w1 ⟨g, TS, rfl, hA1, hT1, hF1⟩; have HA1 := Lib.hid hA1; have HT1 := Lib.hid hT1; have HF1 := Lib.hid hF1; clear hA1 hT1 hF1))
  go_ret
  exact ⟨rfl, HV8.out.fr.mono (fun b hb e => by have := HS.out; omega)⟩
end Go.Proofs.Ytclgmnobockfnaa
