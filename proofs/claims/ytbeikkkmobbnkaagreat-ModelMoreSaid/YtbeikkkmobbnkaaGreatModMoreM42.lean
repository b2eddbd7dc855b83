/- model's laws: lives. -/
import Derived.Test.YtbeikkkmobbnkaaGreatModMoreM34
import Derived.Test.YtbeikkkmobbnkaaGreatModMoreM37
import Derived.Test.YtbeikkkmobbnkaaGreatModMoreM39
import Derived.Test.YtbeikkkmobbnkaaGreatModMoreM41
namespace Go.Proofs.YtbeikkkmobbnkaaGreat
open Go.RowKit Go.Maps
/-- 'f != nil', f a function that is there. -/
theorem run_neq_func_nil {P : Program} (w : World) (t : TypeId) (ps rs : Array TypeId) (b : Bool) (f : Fn) (x y : Array Value) (h : P.underlying t = some (.func ps rs b)) :
    (binOp .neq t (.func f x y) .nilFunc).run P w = .ok (.bool true) w := by
  simp only [binOp]
  simp [Op.equal, Op.maxDepth, run_equalIn_func_nil w 9999 t ps rs b f x y h]
def lgA : Str := [97]
def lvA1 (v : Value) : AV := ⟨0, 1, 6, 0, 0, 0, 0, [], v, [(lgA, 5)]⟩
def lvA2 (v : Value) : AV := ⟨0, 2, 6, 0, 0, 0, 0, [], v, [(lgA, 3)]⟩
def lvY : List YV := [⟨0, 1, 0, 0⟩]
theorem lvMay1 (v : Value) : (lvA1 v).may = true := by kernel_rfl
theorem lvMay2 (v : Value) : (lvA2 v).may = true := by kernel_rfl
theorem lvRight (v u : Value) : rightL [lvA1 v, lvA2 u] = [lvA1 v, lvA2 u] := by
  unfold rightL
  rw [List.filter_cons_of_pos (lvMay1 v), List.filter_cons_of_pos (lvMay2 u)]
  rfl
theorem lvG1 (v u : Value) : grpL 0 1 [lvA1 v, lvA2 u] = [lvA1 v] := by
  unfold grpL
  rw [lvRight, List.filter_cons_of_pos (by rfl), List.filter_cons_of_neg (by simp [isG, lvA2])]
  rfl
theorem lvG2 (v u : Value) : grpL 0 2 [lvA1 v, lvA2 u] = [lvA2 u] := by
  unfold grpL
  rw [lvRight, List.filter_cons_of_neg (by simp [isG, lvA1]), List.filter_cons_of_pos (by rfl)]
  rfl
theorem plain_one (a : AV) : plainL [a] = true := by simp [plainL]
theorem lvMov1 (v u : Value) : movF (lvA1 v) 6 lgA [lvA1 v, lvA2 u] = 5 := by kernel_rfl
theorem lvMov2 (v u : Value) : movF (lvA2 u) 6 lgA [lvA1 v, lvA2 u] = 3 := by kernel_rfl
theorem lvSt1 : stF 0 1 lvY = 1 := by kernel_rfl
theorem lvSt2 : stF 0 2 lvY = 3 := by kernel_rfl
theorem lvLo (v u : Value) : wrap64 (spanT (leastG 6 lgA [lvA1 v, lvA2 u] lvY) (rightL [lvA1 v, lvA2 u]) (rightL [lvA1 v, lvA2 u]).length) = 5 := by
  have h1 : leastG 6 lgA [lvA1 v, lvA2 u] lvY 0 1 = 5 := by unfold leastG; rw [lvG1, if_pos ⟨lvSt1, plain_one _⟩]; exact lvMov1 v u
  have h2 : leastG 6 lgA [lvA1 v, lvA2 u] lvY 0 2 = 0 := by unfold leastG; rw [if_neg]; rintro ⟨h, -⟩; rw [lvSt2] at h; cases h
  rw [lvRight]
  show wrap64 (spanT _ _ 2) = 5
  rw [spanT_yes (a := lvA2 u) rfl rfl, spanT_yes (a := lvA1 v) rfl rfl]
  show wrap64 (0 + leastG 6 lgA [lvA1 v, lvA2 u] lvY 0 1 + leastG 6 lgA [lvA1 v, lvA2 u] lvY 0 2) = 5
  rw [h1, h2]
  unfold wrap64
  omega
theorem lvHi (v u : Value) : wrap64 (spanT (mostG 6 lgA [lvA1 v, lvA2 u] lvY) (rightL [lvA1 v, lvA2 u]) (rightL [lvA1 v, lvA2 u]).length) = 8 := by
  have h1 : mostG 6 lgA [lvA1 v, lvA2 u] lvY 0 1 = 5 := by
    unfold mostG; rw [lvG1, lvSt1, if_neg (by decide)]
    show max 0 (movF (lvA1 v) 6 lgA [lvA1 v, lvA2 u]) = 5
    rw [lvMov1]; rfl
  have h2 : mostG 6 lgA [lvA1 v, lvA2 u] lvY 0 2 = 3 := by
    unfold mostG; rw [lvG2, lvSt2, if_neg (by decide)]
    show max 0 (movF (lvA2 u) 6 lgA [lvA1 v, lvA2 u]) = 3
    rw [lvMov2]; rfl
  rw [lvRight]
  show wrap64 (spanT _ _ 2) = 8
  rw [spanT_yes (a := lvA2 u) rfl rfl, spanT_yes (a := lvA1 v) rfl rfl]
  show wrap64 (0 + mostG 6 lgA [lvA1 v, lvA2 u] lvY 0 1 + mostG 6 lgA [lvA1 v, lvA2 u] lvY 0 2) = 8
  rw [h1, h2]
  unfold wrap64
  omega
theorem lvPl (v u : Value) : plainL (grpL 0 1 [lvA1 v, lvA2 u]) = true := by rw [lvG1]; exact plain_one _
theorem lvOrd (v u : Value) : ordL (rightL [lvA1 v, lvA2 u]) = [] := by rw [lvRight]; rfl
/-- What lies in memory all along. -/
structure LvM (w : World) (n0 : Nat) (W : World) : Prop where
  i1 : W.heap[n0]? = some (.cells #[.string ⟨#[97]⟩, .int .i64 5] 52)
  i2 : W.heap[n0 + 1]? = some (.cells #[.string ⟨#[97]⟩, .int .i64 3] 52)
  la : W.heap[n0 + 1 + 1]? = some (.cells #[.int .i64 0, .int .i64 1, .int .i64 6, .int .i64 0, .int .i64 0, .int .i64 0, .int .i64 0, .string ⟨#[]⟩, .slice (some ⟨n0, 0, none⟩) 1 1, .int .i64 0, .int .i64 2, .int .i64 6, .int .i64 0, .int .i64 0, .int .i64 0, .int .i64 0, .string ⟨#[]⟩, .slice (some ⟨n0 + 1, 0, none⟩) 1 1] 50)
  ly : W.heap[n0 + 1 + 1 + 1]? = some (.cells #[.int .i64 0, .int .i64 1, .int .i64 0, .int .i64 0] 39)
  fr : Fr (fun _ => False) w W
theorem LvM.keep {w W W' : World} {n0 : Nat} (h : LvM w n0 W) (hf : Fr (fun _ => False) W W') : LvM w n0 W' :=
  ⟨hf.at_ h.i1 (fun e => e), hf.at_ h.i2 (fun e => e), hf.at_ h.la (fun e => e), hf.at_ h.ly (fun e => e), h.fr.trans hf⟩
theorem mdItem {W : World} {b : Nat} {n : Int} (h : W.heap[b]? = some (.cells #[.string ⟨#[97]⟩, .int .i64 n] 52)) (hn : okI n) : Il W (.slice (some ⟨b, 0, none⟩) 1 1) [(lgA, n)] := by
  refine ⟨by simp, some ⟨b, 0, none⟩, 1, rfl, fun i p hp => ?_⟩
  match i, hp with
  | 0, hp =>
    cases hp
    exact ⟨by simp [okS, lgA, maxLen], hn, _, rfl, cell_obj h 0 _ rfl, cell_obj h 1 _ rfl⟩
theorem obj_add {W : World} {b : Nat} {cs : Array Value} {t : TypeId} (h : W.heap[b]? = some (.cells cs t)) (j : Nat) (u : Value) (hu : cs[j]? = some u) : W.cell? ((⟨b, 0, none⟩ : Addr).add j) = some u := by
  have e0 : (⟨b, 0, none⟩ : Addr).add j = ⟨b, j, none⟩ := by unfold Addr.add; split <;> simp_all
  rw [e0]; exact cell_obj h j u hu
theorem LvM.al {w W : World} {n0 : Nat} (h : LvM w n0 W) : Al W (.slice (some ⟨n0 + 1 + 1, 0, none⟩) 2 2) [lvA1 (.slice (some ⟨n0, 0, none⟩) 1 1), lvA2 (.slice (some ⟨n0 + 1, 0, none⟩) 1 1)] := by
  have o0 : okI 0 := by unfold okI; omega
  have o1 : okI 1 := by unfold okI; omega
  have o2 : okI 2 := by unfold okI; omega
  have o3 : okI 3 := by unfold okI; omega
  have o5 : okI 5 := by unfold okI; omega
  have o6 : okI 6 := by unfold okI; omega
  refine ⟨by simp [maxLen], some ⟨n0 + 1 + 1, 0, none⟩, 2, rfl, fun i p hp => ?_⟩
  match i, hp with
  | 0, hp =>
    cases hp
    refine ⟨⟨o0, o1, o6, o0, o0, o0, o0, by simp [okS, lvA1, maxLen], mdItem h.i1 o5⟩, _, rfl, fun j u hu => ?_⟩
    refine obj_add h.la _ u ?_
    match j, hu with
    | 0, hu => exact hu
    | 1, hu => exact hu
    | 2, hu => exact hu
    | 3, hu => exact hu
    | 4, hu => exact hu
    | 5, hu => exact hu
    | 6, hu => exact hu
    | 7, hu => exact hu
    | 8, hu => exact hu
    | j + 9, hu => simp [AV.cs] at hu
  | 1, hp =>
    cases hp
    refine ⟨⟨o0, o2, o6, o0, o0, o0, o0, by simp [okS, lvA2, maxLen], mdItem h.i2 o3⟩, _, rfl, fun j u hu => ?_⟩
    refine obj_add h.la _ u ?_
    match j, hu with
    | 0, hu => exact hu
    | 1, hu => exact hu
    | 2, hu => exact hu
    | 3, hu => exact hu
    | 4, hu => exact hu
    | 5, hu => exact hu
    | 6, hu => exact hu
    | 7, hu => exact hu
    | 8, hu => exact hu
    | j + 9, hu => simp [AV.cs] at hu
theorem LvM.yl {w W : World} {n0 : Nat} (h : LvM w n0 W) : Yl W (.slice (some ⟨n0 + 1 + 1 + 1, 0, none⟩) 1 1) lvY := by
  have o0 : okI 0 := by unfold okI; omega
  have o1 : okI 1 := by unfold okI; omega
  have o2 : okI 2 := by unfold okI; omega
  have o3 : okI 3 := by unfold okI; omega
  have o5 : okI 5 := by unfold okI; omega
  have o6 : okI 6 := by unfold okI; omega
  refine ⟨by simp [maxLen, lvY], some ⟨n0 + 1 + 1 + 1, 0, none⟩, 1, rfl, fun i p hp => ?_⟩
  match i, hp with
  | 0, hp =>
    cases hp
    refine ⟨⟨o0, o1, o0, o0⟩, _, rfl, fun j u hu => ?_⟩
    refine obj_add h.ly _ u ?_
    match j, hu with
    | 0, hu => exact hu
    | 1, hu => exact hu
    | 2, hu => exact hu
    | 3, hu => exact hu
    | j + 4, hu => simp [YV.cs] at hu
theorem lvSpan {w W : World} {n0 : Nat} (h : LvM w n0 W) : Calls Tryz.prog 9 #[.int .i64 6, .string ⟨#[97]⟩, .slice (some ⟨n0 + 1 + 1, 0, none⟩) 2 2, .slice (some ⟨n0 + 1 + 1 + 1, 0, none⟩) 1 1] W fun e w' => e = .returned (.agg #[.int .i64 5, .int .i64 8]) ∧ LvM w n0 w' := by
  refine (kSpan W 6 lgA _ _ _ _ h.al (by simp) h.yl).mono ?_
  rintro e w' ⟨rfl, hf⟩
  rw [lvLo, lvHi]
  exact ⟨rfl, h.keep hf⟩
theorem lvState1 {w W : World} {n0 : Nat} (h : LvM w n0 W) : Calls Tryz.prog 16 #[.int .i64 0, .int .i64 1, .slice (some ⟨n0 + 1 + 1 + 1, 0, none⟩) 1 1] W fun e w' => e = .returned (.int .i64 1) ∧ LvM w n0 w' := by
  refine (kState W 0 1 _ _ h.yl).mono ?_
  rintro e w' ⟨rfl, hf⟩
  exact ⟨rfl, h.keep hf⟩
theorem lvState2 {w W : World} {n0 : Nat} (h : LvM w n0 W) : Calls Tryz.prog 16 #[.int .i64 0, .int .i64 2, .slice (some ⟨n0 + 1 + 1 + 1, 0, none⟩) 1 1] W fun e w' => e = .returned (.int .i64 3) ∧ LvM w n0 w' := by
  refine (kState W 0 2 _ _ h.yl).mono ?_
  rintro e w' ⟨rfl, hf⟩
  exact ⟨rfl, h.keep hf⟩
theorem lvPlain {w W : World} {n0 : Nat} (h : LvM w n0 W) : Calls Tryz.prog 14 #[.int .i64 0, .int .i64 1, .slice (some ⟨n0 + 1 + 1, 0, none⟩) 2 2] W fun e w' => e = .returned (.bool true) ∧ LvM w n0 w' := by
  refine (kPlainT W 0 1 _ _ (by simp [okI]) (by simp [okI]) h.al (by simp)).mono ?_
  rintro e w' ⟨rfl, hf⟩
  rw [lvPl]
  exact ⟨rfl, h.keep hf⟩
theorem lvWith1 {w W : World} {n0 : Nat} (h : LvM w n0 W) : Calls Tryz.prog 11 #[.int .i64 5, .agg #[.int .i64 5, .int .i64 8]] W fun e w' => e = .returned (.bool true) ∧ LvM w n0 w' := by
  refine (mWithin W 5 5 8).mono ?_
  rintro e w' ⟨rfl, hf⟩
  exact ⟨rfl, h.keep hf⟩
theorem lvWith2 {w W : World} {n0 : Nat} (h : LvM w n0 W) : Calls Tryz.prog 11 #[.int .i64 9, .agg #[.int .i64 5, .int .i64 8]] W fun e w' => e = .returned (.bool false) ∧ LvM w n0 w' := by
  refine (mWithin W 9 5 8).mono ?_
  rintro e w' ⟨rfl, hf⟩
  exact ⟨rfl, h.keep hf⟩
theorem lvGoods {w W : World} {n0 : Nat} (h : LvM w n0 W) : Calls Tryz.prog 13 #[.slice (some ⟨n0 + 1 + 1, 0, none⟩) 2 2] W fun e w' => (∃ b, e = .returned (.func (.func 30) #[] #[.pointer (some ⟨b, 0, none⟩)])) ∧ LvM w n0 w' := by
  refine (kGoods _ 2 2 W).mono ?_
  rintro e w' ⟨rfl, rfl⟩
  exact ⟨⟨_, rfl⟩, h.keep ((Fr.refl _ W).alloc _)⟩
theorem lvOrders {w W : World} {n0 : Nat} (h : LvM w n0 W) : Calls Tryz.prog 18 #[.slice (some ⟨n0 + 1 + 1, 0, none⟩) 2 2] W fun e w' => (∃ a c, e = .returned (.slice a 0 c)) ∧ LvM w n0 w' := by
  refine (kOrders W _ _ h.al (by simp)).mono ?_
  rintro e w' ⟨v', rfl, ho, hf⟩
  rw [lvOrd] at ho
  obtain ⟨a, c, rfl⟩ := row_sl ho
  exact ⟨⟨a, c, rfl⟩, h.keep hf⟩
set_option maxRecDepth 100000 in
set_option maxHeartbeats 8000000 in
theorem mdLives (w : World) : Calls Tryz.prog 8 #[] w fun e w' => e = .returned (.bool true) ∧ Fr (fun _ => False) w w' := by
  have hnf := fun (w : World) (f : Fn) (x y : Array Value) => run_neq_func_nil (P := Tryz.prog) w 34 _ _ _ f x y Tryz.underlying34
  obtain ⟨n0, hn0⟩ : ∃ n0, w.heap.size = n0 := ⟨_, rfl⟩
  have HS := Lib.hid hn0
  go_enter Tryz.func8, Tryz.ntmps8
  go_wp2_with fail
  refine (lvSpan (w := w) ⟨heap_keep (heap_keep (heap_keep (heap_at HS.out.symm _) _) _) _, heap_keep (heap_keep (heap_at (by simp; exact HS.out.symm) _) _) _, heap_keep (heap_at (by simp; exact HS.out.symm) _) _, heap_at (by simp; exact HS.out.symm) _, ((((Fr.refl _ w).alloc _).alloc _).alloc _).alloc _⟩).mono ?_
  rintro e w1 ⟨rfl, h⟩
  have HM := Lib.hid h
  clear h hn0
  go_wp2_with (first
    | (go_at_call 16; ((with_reducible refine (lvState1 HM.out).mono ?_); rintro e w2 ⟨rfl, h⟩; have HM := Lib.hid h; clear h))
    | (go_at_call 16; ((with_reducible refine (lvState2 HM.out).mono ?_); rintro e w2 ⟨rfl, h⟩; have HM := Lib.hid h; clear h))
    | (go_at_call 14; ((with_reducible refine (lvPlain HM.out).mono ?_); rintro e w2 ⟨rfl, h⟩; have HM := Lib.hid h; clear h))
    | (go_at_call 11; ((with_reducible refine (lvWith1 HM.out).mono ?_); rintro e w2 ⟨rfl, h⟩; have HM := Lib.hid h; clear h))
    | (go_at_call 11; ((with_reducible refine (lvWith2 HM.out).mono ?_); rintro e w2 ⟨rfl, h⟩; have HM := Lib.hid h; clear h))
    | (go_at_call 13; ((with_reducible refine (lvGoods HM.out).mono ?_); rintro e w2 ⟨⟨b, rfl⟩, h⟩; have HM := Lib.hid h; clear h))
    | (go_at_call 18; ((with_reducible refine (lvOrders HM.out).mono ?_); rintro e w2 ⟨⟨oa, oc, rfl⟩, h⟩; have HM := Lib.hid h; clear h)))
  go_ret
  exact ⟨rfl, HM.out.fr⟩
end Go.Proofs.YtbeikkkmobbnkaaGreat
