/- Texts of this claim, joined: hold: New, made, may, hold, set; no shelf; hold: set; hold, plainly: what is kept for each order; hold: all holds together: plainly; stock: the keys in order, Goods, Fork; A region that draws its order, whose operations only read, and whose calls may lay blocks, but give what does not hang on the world: one walk in the text's order serves (the library's theorem on quiet regions, at the class of all worlds that hold what was there); stock: right, Balanced; stock: Level, Flow, Fork, Count; stock: Count; stock: may; stock: Do; stock: Do: the walk; stock: Goods, the iterator; Offer; Goods' lengths, plainly; cells.Maker, as long as it is not too long; stock: Pack: what it packs, plainly; stock: Unpack: what any bytes are, plainly; stock: what is packed is unpacked, and the other way round: plainly; stock: what is unpacked was packed so: plainly; hold: Unpack, plainly; hold: put. -/
import Derived.Test.YtogphlnakdnchaaGreatHoldNobodyM2
import Derived.Handy
import Derived.Test.YtogphlnakdnchaaGreatShelfC
import Derived.Test.YtogphlnakdnchaaGreatHoldNobodyM1
import Derived.Shelf.Abstract
import Derived.BigQuiet
namespace Go.Proofs.YtogphlnakdnchaaGreat
open Go.RowKit Go.Maps
theorem kHI : KO Tryz.prog 3 ktI := koI Tryz.underlying3
/-- An order's hold, as it stands. -/
def holdOf (l : List (Int × HV)) (o : Int) : HV := (getS l o).getD ⟨o, .slice none 0 0, .slice none 0 0, .slice none 0 0, [], [], []⟩
def mayO (o : Int) : Int := if 1 ≤ o ∧ o ≤ 1099511627776 then 0 else 1
section
variable {W : World} {g gs m : Nat} {T0 TB : Nat → Prop} {A : Stk} {l : List (Int × HV)}
theorem SB.cells (h : SB W g gs m T0 TB A l) : W.cell? ⟨g, 0, none⟩ = some (.pointer (some ⟨gs, 0, none⟩)) ∧ W.cell? ⟨g, 1, none⟩ = some (.map (some m)) := ⟨cell_obj h.obj 0 _ rfl, cell_obj h.obj 1 _ rfl⟩
end
theorem hNew (w : World) : Calls Tryz.prog 6 #[] w fun e w' => ∃ g TS, e = .returned (.pointer (some ⟨g, 0, none⟩)) ∧ SH w' g TS [] [] ∧ (∀ b, TS b → w.heap.size ≤ b) ∧ Fr (fun _ => False) w w' := by
  have hmm := @run_makeMap Tryz.prog
  go_enter Tryz.func6, Tryz.ntmps6
  go_wp2_with (go_at_call 24; refine (sNew _).mono ?_; rintro e w1 ⟨rfl, hs, hf, hz⟩; have HS := Lib.hid hs; have HF := Lib.hid hf; have HZ := Lib.hid hz; clear hs hf hz)
  go_ret
  have hz := HZ.out
  refine ⟨_, _, rfl, ⟨w.heap.size + 1, w1.heap.size, (fun b => b = w.heap.size ∨ b = w.heap.size + 1), (fun _ => False), ⟨heap_at (by simp) _, (HS.out.fr ((Fr.refl (fun _ => False) w1).alloc _) (fun _ _ e => e)).fr ((Fr.refl (fun _ => False) _).alloc _) (fun _ _ e => e), (Mp.made Tryz.prog w1 3 ktI HV.enc).alloc _, fun p hp => (by cases hp), ⟨by simp; omega, fun e => e, by simp⟩, ⟨by simp; omega, fun e => e⟩, fun b e => e.elim, fun b e => e.elim⟩, fun b => Iff.rfl⟩, fun b hb => by rcases hb with rfl | rfl | hb | hb <;> first | omega | (exact hb.elim) | (simp at *; omega), (HF.out.alloc _).alloc _⟩
theorem hmade_no (w : World) : Calls Tryz.prog 39 #[.pointer none] w fun e w' => e = .returned (.bool false) ∧ w = w' := by
  go_enter Tryz.func39, Tryz.ntmps39
  go_wp2
  go_ret
  exact ⟨rfl, rfl⟩
theorem hmade (w : World) (g m : Nat) (hc : w.cell? ⟨g, 1, none⟩ = some (.map (some m))) : Calls Tryz.prog 39 #[.pointer (some ⟨g, 0, none⟩)] w fun e w' => e = .returned (.bool true) ∧ w = w' := by
  have hn := fun (w : World) (r : Option Nat) => run_neq_map_nil (P := Tryz.prog) w 61 _ _ r Tryz.underlying61
  go_enter Tryz.func39, Tryz.ntmps39
  go_wp2
  go_ret
  exact ⟨rfl, rfl⟩
theorem hmay_no (w : World) (o : Int) : Calls Tryz.prog 26 #[.pointer none, .int .i64 o] w fun e w' => e = .returned (.int .i64 6) ∧ w = w' := by
  go_enter Tryz.func26, Tryz.ntmps26
  go_wp2_with (go_at_call 39; refine (hmade_no _).mono ?_; rintro e w' ⟨rfl, rfl⟩)
  go_ret
  exact ⟨rfl, rfl⟩
theorem hmay (w : World) (g m : Nat) (o : Int) (hc : w.cell? ⟨g, 1, none⟩ = some (.map (some m))) : Calls Tryz.prog 26 #[.pointer (some ⟨g, 0, none⟩), .int .i64 o] w fun e w' => e = .returned (.int .i64 (mayO o)) ∧ w = w' := by
  unfold mayO
  rcases (by omega : o < 1 ∨ 1099511627776 < o ∨ (¬ o < 1 ∧ ¬ 1099511627776 < o)) with h1 | h1 | ⟨h1, h2⟩
  · rw [if_neg (by omega)]
    go_enter Tryz.func26, Tryz.ntmps26
    go_wp2_with (go_at_call 39; refine (hmade _ g m hc).mono ?_; rintro e w' ⟨rfl, rfl⟩)
    go_ret
    exact ⟨rfl, rfl⟩
  · rw [if_neg (by omega)]
    have h2 : ¬ o < 1 := by omega
    go_enter Tryz.func26, Tryz.ntmps26
    go_wp2_with (go_at_call 39; refine (hmade _ g m hc).mono ?_; rintro e w' ⟨rfl, rfl⟩)
    go_ret
    exact ⟨rfl, rfl⟩
  · rw [if_pos (by omega)]
    go_enter Tryz.func26, Tryz.ntmps26
    go_wp2_with (go_at_call 39; refine (hmade _ g m hc).mono ?_; rintro e w' ⟨rfl, rfl⟩)
    go_ret
    exact ⟨rfl, rfl⟩
/-- The list of an order's hold: its members lie where the shelf's do. -/
theorem SB.hold {W : World} {g gs m : Nat} {T0 TB : Nat → Prop} {A : Stk} {l : List (Int × HV)} (h : SB W g gs m T0 TB A l) {o : Int} (ho : okI o) : HOk W TB (holdOf l o) ∧ (holdOf l o).o = o := by
  unfold holdOf
  cases hg : getS l o with
  | none =>
    have hn : Lb W TB (.slice none 0 0) [] := ⟨⟨Nat.zero_le _, none, 0, rfl, fun i p hp => by simp at hp⟩, fun e => absurd rfl e⟩
    exact ⟨⟨ho, hn, hn, hn⟩, rfl⟩
  | some x =>
    obtain ⟨e, hk⟩ := h.rows _ (getS_mem hg)
    exact ⟨hk, e.symm⟩
set_option maxRecDepth 100000 in
set_option maxHeartbeats 2000000 in
theorem hhold (w : World) (g gs m : Nat) (T0 TB : Nat → Prop) (A : Stk) (l : List (Int × HV)) (o : Int) (h : SB w g gs m T0 TB A l) (ho : okI o) :
    Calls Tryz.prog 27 #[.pointer (some ⟨g, 0, none⟩), .int .i64 o] w fun e w' => e = .returned (holdOf l o).enc ∧ Fr (fun _ => False) w w' := by
  have h1 := h.keep ((Fr.refl (fun _ => False) w).alloc (.cells #[.int .i64 0, .slice none 0 0, .slice none 0 0, .slice none 0 0] 37)) (fun _ _ e => e)
  obtain ⟨c0, c1⟩ := h1.cells
  have hlk := h1.mp.look_ok (t := 61) kHI Tryz.underlying61 (z := .agg #[.int .i64 0, .slice none 0 0, .slice none 0 0, .slice none 0 0]) (by kernel_rfl) ho
  unfold holdOf
  cases hg : getS l o with
  | none =>
    rw [hg] at hlk
    dsimp only [Option.isSome, Option.getD, HV.enc] at hlk ⊢
    have hlk2 : (Instr.lookup 61 (.map (some m)) (.int .i64 o) true).run Tryz.prog _ = _ := hlk
    clear h h1 hg hlk
    go_enter Tryz.func27, Tryz.ntmps27
    go_wp2
    go_returns
    exact ⟨rfl, ((Fr.refl _ _).alloc _).alloc _⟩
  | some x =>
    rw [hg] at hlk
    obtain ⟨-, hk⟩ := h.rows _ (getS_mem hg)
    obtain ⟨a1, c1', e1⟩ := hk.lh.1.sl
    obtain ⟨a2, c2', e2⟩ := hk.lp.1.sl
    obtain ⟨a3, c3', e3⟩ := hk.ls.1.sl
    obtain ⟨xo, xh, xp, xs, a, b, c⟩ := x
    dsimp only at e1 e2 e3
    subst e1; subst e2; subst e3
    clear hk
    dsimp only [Option.isSome, Option.getD, HV.enc] at hlk ⊢
    have hlk2 : (Instr.lookup 61 (.map (some m)) (.int .i64 o) true).run Tryz.prog _ = _ := hlk
    clear h h1 hg hlk
    go_enter Tryz.func27, Tryz.ntmps27
    go_wp2
    go_returns
    exact ⟨rfl, ((Fr.refl _ _).alloc _).alloc _⟩
end Go.Proofs.YtogphlnakdnchaaGreat

namespace Go.Proofs.YtogphlnakdnchaaGreat
open Go.RowKit Go.Maps
def HV.num (x : HV) : Nat := x.he.length + x.pi.length + x.sh.length
def setH (l : List (Int × HV)) (x : HV) : List (Int × HV) := if x.num = 0 then delS l x.o else putS ktI.lt l x.o x
section
variable {W W' : World} {g gs m : Nat} {T0 TB TB' : Nat → Prop} {A : Stk} {l : List (Int × HV)}
theorem SB.more (h : SB W g gs m T0 TB A l) (hT : ∀ b, TB b → TB' b) (hB : ∀ b, TB' b → b < W.heap.size ∧ ¬ T0 b ∧ b ≠ g ∧ b ≠ m) : SB W g gs m T0 TB' A l := by
  obtain ⟨h1, h2, h3, h4, h5, h6, h7, h8⟩ := h
  exact ⟨h1, h2, h3, fun p hp => ⟨(h4 p hp).1, (h4 p hp).2.mono hT⟩, ⟨h5.1, fun e => (hB g e).2.2.1 rfl, h5.2.2⟩, ⟨h6.1, fun e => (hB m e).2.2.2 rfl⟩, fun b hb => (hB b hb).2.1, fun b hb => (hB b hb).1⟩
end
set_option maxRecDepth 100000 in
set_option maxHeartbeats 4000000 in
theorem hset (w : World) (g gs m : Nat) (T0 TB TB' : Nat → Prop) (A : Stk) (l : List (Int × HV)) (x : HV) (h : SB w g gs m T0 TB A l) (hT : ∀ b, TB b → TB' b) (hk : HOk w TB' x) (hB : ∀ b, TB' b → b < w.heap.size ∧ ¬ T0 b ∧ b ≠ g ∧ b ≠ m) (hl : l.length ≤ 1000000) (hx : x.he.length ≤ 1000 ∧ x.pi.length ≤ 1000 ∧ x.sh.length ≤ 1000) :
    Calls Tryz.prog 32 #[.pointer (some ⟨g, 0, none⟩), x.enc] w fun e w' => e = .returned (.tuple #[]) ∧ SB w' g gs m T0 TB' A (setH l x) ∧ Fr (fun b => b = m) w w' := by
  have HH := Lib.hid h; have HK := Lib.hid hk; have HT := Lib.hid hT; have HB := Lib.hid hB
  obtain ⟨a1, c1, e1⟩ := hk.lh.1.sl
  obtain ⟨a2, c2, e2⟩ := hk.lp.1.sl
  obtain ⟨a3, c3, e3⟩ := hk.ls.1.sl
  have ho := hk.o
  have hmn := h.ng.2.2
  unfold setH HV.num
  obtain ⟨o, xh, xp, xs, he, pi, sh⟩ := x
  dsimp only at e1 e2 e3 hx ho
  subst e1; subst e2; subst e3
  obtain ⟨n1, hn1⟩ : ∃ n, he.length = n := ⟨_, rfl⟩
  obtain ⟨n2, hn2⟩ : ∃ n, pi.length = n := ⟨_, rfl⟩
  obtain ⟨n3, hn3⟩ : ∃ n, sh.length = n := ⟨_, rfl⟩
  dsimp only [HV.enc]
  rw [hn1, hn2, hn3] at HK hx ⊢
  have hst : ∀ W, Fr (fun _ => False) w W → ∃ w', (Instr.mapUpdate 61 (.map (some m)) (.int .i64 o) (.agg #[.int .i64 o, .slice a1 n1 c1, .slice a2 n2 c2, .slice a3 n3 c3])).run Tryz.prog W = .ok () w' ∧ Mp Tryz.prog w' 3 ktI HV.enc m (putS ktI.lt l o ⟨o, .slice a1 n1 c1, .slice a2 n2 c2, .slice a3 n3 c3, he, pi, sh⟩) ∧ W.mapTurned w' m := fun W hW =>
    (hW.mp HH.out.mp (fun h => h)).store kHI Tryz.underlying61 (by omega) ho (⟨o, .slice a1 n1 c1, .slice a2 n2 c2, .slice a3 n3 c3, he, pi, sh⟩ : HV)
  have hdl : ∀ W ty, Fr (fun _ => False) w W → ∃ w', (Builtin.delete_ #[61, 3] ty #[.map (some m), .int .i64 o]).run Tryz.prog W = .ok (.tuple #[]) w' ∧ Mp Tryz.prog w' 3 ktI HV.enc m (delS l o) ∧ W.mapTurned w' m := fun W ty hW =>
    (hW.mp HH.out.mp (fun h => h)).drop kHI Tryz.underlying61 ho ty
  have HST := Lib.hid hst; have HDL := Lib.hid hdl
  obtain ⟨n0, hn0⟩ : ∃ n0, w.heap.size = n0 := ⟨_, rfl⟩
  have HN0 := Lib.hid hn0
  have hbx : (w.alloc (.cells #[.int .i64 o, .slice a1 n1 c1, .slice a2 n2 c2, .slice a3 n3 c3] 37)).heap[n0]? = some (.cells #[.int .i64 o, .slice a1 n1 c1, .slice a2 n2 c2, .slice a3 n3 c3] 37) := heap_at hn0.symm _
  have HBX := Lib.hid hbx
  have hw1 : IntKind.i64.wrap ((n1 : Int) + n2) = (n1 : Int) + n2 := IntWalk.i64_in _ ⟨by omega, by omega⟩
  have hw2 : IntKind.i64.wrap ((n1 : Int) + n2 + n3) = (n1 : Int) + n2 + n3 := IntWalk.i64_in _ ⟨by omega, by omega⟩
  clear h hk hT hB hst hdl hbx hn1 hn2 hn3
  by_cases hz : n1 + n2 + n3 = 0
  · rw [if_pos hz]
    obtain ⟨rfl, rfl, rfl⟩ : n1 = 0 ∧ n2 = 0 ∧ n3 = 0 := by omega
    clear hw1 hw2 hz hx
    go_enter Tryz.func32, Tryz.ntmps32
    go_wp2_with fail
    refine wp_region_still_tail 6 (by kernel_rfl) (by kernel_rfl) ?_
    simp only [List.take_succ_cons, List.take_zero, List.drop_succ_cons, List.drop_zero]
    subst hn0
    obtain ⟨W1, hW1⟩ : ∃ W1, w.alloc (.cells #[.int .i64 o, .slice a1 0 c1, .slice a2 0 c2, .slice a3 0 c3] 37) = W1 := ⟨_, rfl⟩
    have hF0 : Fr (fun _ => False) w W1 := by rw [← hW1]; exact (Fr.refl _ w).alloc _
    rw [hW1] at HBX ⊢
    have hF : Fr (fun _ => False) w W1.drew := hF0.drew
    have hB3 : W1.drew.heap[w.heap.size]? = some (.cells #[.int .i64 o, .slice a1 0 c1, .slice a2 0 c2, .slice a3 0 c3] 37) := HBX.out
    change wpStill _ _ W1.drew (fun a' => wpList _ _ _ _ a' W1.drew) _ _
    generalize W1.drew = V at hF hB3 ⊢
    obtain ⟨w5, hst5, hm5, ht5⟩ := HDL.out V 0 hF
    have hSV := HH.out.keep hF (fun _ _ e => e)
    obtain ⟨cg0, cg1⟩ := hSV.cells
    have d0 := cell_obj hB3 0 (.int .i64 o) rfl
    have HSV := Lib.hid hSV; have HF := Lib.hid hF; have HM5 := Lib.hid hm5; have HT5 := Lib.hid ht5
    clear hSV hF hB3 hm5 ht5 hF0 hW1
    repeat still_step
    refine wpStill_nil ?_
    go_wp2_with fail
    have hF5 : Fr (fun b => b = m) w w5 := (HF.out.mono (fun _ _ h => h.elim)).trans' (Fr.turned (S := fun b => b = m) HT5.out rfl) (fun b _ e => e)
    have hz2 := hF5.size
    refine bodyPost_ret (v := .tuple #[]) (by simp [results, Tryz.results32, go_sem]) rfl ?_
    exact ⟨rfl, (HSV.out.del HM5.out HT5.out).more HT.out (fun b hb => ⟨by have := (HB.out b hb).1; omega, (HB.out b hb).2⟩), hF5⟩
  · rw [if_neg hz]
    have hzI : ((n1 : Int) + n2 + n3 == 0) = false := by simp; omega
    clear hz
    go_enter Tryz.func32, Tryz.ntmps32
    go_wp2_with fail
    refine wp_region_still_tail 7 (by kernel_rfl) (by kernel_rfl) ?_
    simp only [List.take_succ_cons, List.take_zero, List.drop_succ_cons, List.drop_zero]
    subst hn0
    obtain ⟨W1, hW1⟩ : ∃ W1, w.alloc (.cells #[.int .i64 o, .slice a1 n1 c1, .slice a2 n2 c2, .slice a3 n3 c3] 37) = W1 := ⟨_, rfl⟩
    have hF0 : Fr (fun _ => False) w W1 := by rw [← hW1]; exact (Fr.refl _ w).alloc _
    rw [hW1] at HBX ⊢
    have hF : Fr (fun _ => False) w W1.drew := hF0.drew
    have hB3 : W1.drew.heap[w.heap.size]? = some (.cells #[.int .i64 o, .slice a1 n1 c1, .slice a2 n2 c2, .slice a3 n3 c3] 37) := HBX.out
    change wpStill _ _ W1.drew (fun a' => wpList _ _ _ _ a' W1.drew) _ _
    generalize W1.drew = V at hF hB3 ⊢
    obtain ⟨w5, hst5, hm5, ht5⟩ := HST.out V hF
    have hSV := HH.out.keep hF (fun _ _ e => e)
    obtain ⟨cg0, cg1⟩ := hSV.cells
    have d0 := cell_obj hB3 0 (.int .i64 o) rfl
    have d1 := cell_obj hB3 1 (.slice a1 n1 c1) rfl
    have d2 := cell_obj hB3 2 (.slice a2 n2 c2) rfl
    have d3 := cell_obj hB3 3 (.slice a3 n3 c3) rfl
    have HSV := Lib.hid hSV; have HF := Lib.hid hF; have HM5 := Lib.hid hm5; have HT5 := Lib.hid ht5
    clear hSV hF hB3 hm5 ht5 hF0 hW1
    repeat still_step
    refine wpStill_nil ?_
    go_wp2_with fail
    go_end0
    have hF5 : Fr (fun b => b = m) w w5 := (HF.out.mono (fun _ _ h => h.elim)).trans' (Fr.turned (S := fun b => b = m) HT5.out rfl) (fun b _ e => e)
    exact ⟨rfl, HSV.out.put (h' := ⟨o, .slice a1 n1 c1, .slice a2 n2 c2, .slice a3 n3 c3, he, pi, sh⟩) HM5.out HT5.out HT.out (HK.out.keep HF.out (fun _ _ e => e)) (fun b hb => ⟨by have := (HB.out b hb).1; have := HF.out.size; omega, (HB.out b hb).2⟩), hF5⟩
end Go.Proofs.YtogphlnakdnchaaGreat

namespace Go.Proofs.YtogphlnakdnchaaGreat
open Go.RowKit Go.Maps
abbrev Hes := List (Int × HE)
def HE.num (x : HE) : Nat := x.he.length + x.pi.length + x.sh.length
def heOf (le : Hes) (o : Int) : HE := (getS le o).getD ⟨o, [], [], []⟩
def setE (le : Hes) (x : HE) : Hes := if x.num = 0 then delS le x.o else putS ktI.lt le x.o x
def mapE (l : List (Int × HV)) : Hes := l.map fun p => (p.1, p.2.e)
section
variable {κ ν μ : Type} [DecidableEq κ] (f : ν → μ)
theorem getS_map (l : List (κ × ν)) (x : κ) : getS (l.map fun p => (p.1, f p.2)) x = (getS l x).map f := by
  induction l with
  | nil => rfl
  | cons p r ih =>
    simp only [List.map_cons, getS]
    by_cases e : p.1 = x
    · rw [if_pos e, if_pos e]; rfl
    · rw [if_neg e, if_neg e, ih]
theorem delS_map (l : List (κ × ν)) (x : κ) : delS (l.map fun p => (p.1, f p.2)) x = (delS l x).map fun p => (p.1, f p.2) := by
  unfold delS
  rw [List.filter_map]
  rfl
omit [DecidableEq κ] in
theorem insS_map (lt : κ → κ → Bool) (x : κ × ν) : ∀ l : List (κ × ν), insS lt (x.1, f x.2) (l.map fun p => (p.1, f p.2)) = (insS lt x l).map fun p => (p.1, f p.2)
  | [] => rfl
  | y :: r => by
    show (if lt x.1 y.1 = true then _ else _) = List.map _ (if lt x.1 y.1 = true then _ else _)
    cases lt x.1 y.1
    · simp only [Bool.false_eq_true, if_false, List.map_cons, insS_map lt x r]
    · simp
theorem putS_map (lt : κ → κ → Bool) (l : List (κ × ν)) (x : κ) (v : ν) : putS lt (l.map fun p => (p.1, f p.2)) x (f v) = (putS lt l x v).map fun p => (p.1, f p.2) := by
  unfold putS
  rw [delS_map]
  exact insS_map f lt (x, v) _
end
theorem heOf_map (l : List (Int × HV)) (o : Int) : heOf (mapE l) o = (holdOf l o).e := by
  unfold heOf holdOf mapE
  rw [getS_map]
  cases getS l o <;> rfl
theorem getE_none (l : List (Int × HV)) (o : Int) : (getS (mapE l) o).isNone = (getS l o).isNone := by
  unfold mapE
  rw [getS_map]
  cases getS l o <;> rfl
theorem setE_map (l : List (Int × HV)) (x : HV) : mapE (setH l x) = setE (mapE l) x.e := by
  have h1 : x.e.num = x.num := rfl
  have h2 : x.e.o = x.o := rfl
  unfold setH setE
  rw [h1, h2]
  split
  · unfold mapE; rw [delS_map]
  · unfold mapE; rw [putS_map]
theorem mapE_len (l : List (Int × HV)) : (mapE l).length = l.length := by unfold mapE; rw [List.length_map]
/-- What Take answers, and what it leaves. -/
def takeE (A : Stk) (le : Hes) (o : Int) (L : Its) : (Its × Int) × Stk × Hes :=
  if mayO o ≠ 0 then (([], mayO o), A, le)
  else if mayL L = false then (([], 60), A, le)
  else if 0 < (heOf le o).pi.length + (heOf le o).sh.length then (([], 80), A, le)
  else if offerS A L = [] then (([], 0), A, le)
  else if (getS le o).isNone = true ∧ 256 ≤ le.length then (([], 2), A, le)
  else if (plusF (heOf le o).he (offerS A L)).2 ≠ 0 then (([], (plusF (heOf le o).he (offerS A L)).2), A, le)
  else if (doS A 2 (offerS A L)).1 ≠ 0 then (([], (doS A 2 (offerS A L)).1), A, le)
  else ((offerS A L, 0), (doS A 2 (offerS A L)).2, setE le { heOf le o with he := (plusF (heOf le o).he (offerS A L)).1 })
/-- A hold's lists, by their places. -/
def HE.get (x : HE) : Nat → Its
  | 0 => x.he
  | 1 => x.pi
  | _ => x.sh
def HE.set (x : HE) (i : Nat) (L : Its) : HE := match i with
  | 0 => { x with he := L }
  | 1 => { x with pi := L }
  | _ => { x with sh := L }
/-- What moving all of list i to list j (or to none) answers, and what it leaves. -/
def moveS (A : Stk) (le : Hes) (o k : Int) (i : Nat) (j : Option Nat) : (Its × Int) × Stk × Hes :=
  if mayO o ≠ 0 then (([], mayO o), A, le)
  else if (heOf le o).get i = [] then (([], 4), A, le)
  else match j with
    | none => if (doS A k ((heOf le o).get i)).1 ≠ 0 then (([], (doS A k ((heOf le o).get i)).1), A, le)
      else (((heOf le o).get i, 0), (doS A k ((heOf le o).get i)).2, setE le ((heOf le o).set i []))
    | some j => if (plusF ((heOf le o).get j) ((heOf le o).get i)).2 ≠ 0 then (([], (plusF ((heOf le o).get j) ((heOf le o).get i)).2), A, le)
      else if (doS A k ((heOf le o).get i)).1 ≠ 0 then (([], (doS A k ((heOf le o).get i)).1), A, le)
      else (((heOf le o).get i, 0), (doS A k ((heOf le o).get i)).2, setE le (((heOf le o).set i []).set j (plusF ((heOf le o).get j) ((heOf le o).get i)).1))
def freeE (A : Stk) (le : Hes) (o : Int) : (Its × Int) × Stk × Hes :=
  if mayO o ≠ 0 then (([], mayO o), A, le)
  else if 0 < (heOf le o).pi.length then (([], 80), A, le)
  else moveS A le o 3 0 none
/-- A shelf's lists all may be. -/
structure HEok (o : Int) (x : HE) : Prop where
  eq : x.o = o
  may : 1 ≤ o ∧ o ≤ 1099511627776
  he : mayL x.he = true
  pi : mayL x.pi = true
  sh : mayL x.sh = true
  num : x.num ≠ 0
structure ShOk (A : Stk) (le : Hes) : Prop where
  stk : SOk A
  rise : le.Pairwise (fun p q => p.1 < q.1)
  row : ∀ p ∈ le, HEok p.1 p.2
  len : le.length ≤ 256
theorem offer_len (A : Stk) (L : Its) : (offerS A L).length ≤ L.length := List.length_filterMap_le _ _
theorem heOf_may {le : Hes} (h : ∀ p ∈ le, HEok p.1 p.2) (o : Int) : mayL (heOf le o).he = true ∧ mayL (heOf le o).pi = true ∧ mayL (heOf le o).sh = true := by
  unfold heOf
  cases e : getS le o with
  | none => exact ⟨rfl, rfl, rfl⟩
  | some x =>
    have := h _ (getK_mem e)
    exact ⟨this.he, this.pi, this.sh⟩
theorem heOf_len {le : Hes} (h : ∀ p ∈ le, HEok p.1 p.2) (o : Int) : (heOf le o).he.length ≤ 16 ∧ (heOf le o).pi.length ≤ 16 ∧ (heOf le o).sh.length ≤ 16 := by
  have := heOf_may h o
  exact ⟨(mayL_iff.1 this.1).2, (mayL_iff.1 this.2.1).2, (mayL_iff.1 this.2.2).2⟩
end Go.Proofs.YtogphlnakdnchaaGreat

namespace Go.Proofs.YtogphlnakdnchaaGreat
open Go.RowKit Go.Maps
/-- A list's counts are added to a map. -/
def addAt (H : Its) (p : Str × Int) : Its := putS ktS.lt H p.1 ((getS H p.1).getD 0 + p.2)
def addAll (H L : Its) : Its := L.foldl addAt H
theorem addAll_take {H L : Its} {k : Nat} {p : Str × Int} (h : L[k]? = some p) : addAll H (L.take (k + 1)) = addAt (addAll H (L.take k)) p := by
  unfold addAll
  rw [List.take_add_one, h, List.foldl_append]
  rfl
structure AddOk (H' H L : Its) : Prop where
  rise : RiseS H'
  get : ∀ s, getI H' s = getI H s + getI L s
  key : ∀ s, (getS H' s).isSome = true ↔ ((getS H s).isSome = true ∨ ∃ p ∈ L, p.1 = s)
theorem AddOk.refl {H : Its} (h : RiseS H) : AddOk H H [] := ⟨h, fun s => by rw [getI_nil]; omega, fun s => ⟨.inl, fun e => e.elim id (fun ⟨p, hp, _⟩ => by cases hp)⟩⟩
theorem AddOk.step {H' H L : Its} {p : Str × Int} (h : AddOk H' H L) : AddOk (addAt H' p) H (L ++ [p]) := by
  refine ⟨riseS_put h.rise, fun s => ?_, fun s => ?_⟩
  · unfold addAt
    rw [getI_rise s (riseS_put h.rise), getK_put (riseS_nd h.rise), getI_app, getI_cons, getI_nil]
    have h1 := h.get s
    rw [getI_rise s h.rise] at h1
    by_cases e : p.1 = s
    · subst e
      rw [if_pos rfl, if_pos rfl]
      simp only [Option.getD_some]
      omega
    · rw [if_neg e, if_neg e]; omega
  · unfold addAt
    rw [getK_put (riseS_nd h.rise)]
    by_cases e : p.1 = s
    · rw [if_pos e]
      exact ⟨fun _ => .inr ⟨p, by simp, e⟩, fun _ => rfl⟩
    · rw [if_neg e, h.key s]
      constructor
      · rintro (h1 | ⟨q, hq, e1⟩)
        · exact .inl h1
        · exact .inr ⟨q, by simp [hq], e1⟩
      · rintro (h1 | ⟨q, hq, e1⟩)
        · exact .inl h1
        · rcases List.mem_append.1 hq with hq | hq
          · exact .inr ⟨q, hq, e1⟩
          · simp only [List.mem_cons, List.not_mem_nil, or_false] at hq
            subst hq
            exact absurd e1 e
theorem addAll_ok' : ∀ (B A H' H : Its), AddOk H' H A → AddOk (addAll H' B) H (A ++ B)
  | [], A, H', H, h => by rw [List.append_nil]; exact h
  | p :: r, A, H', H, h => by
    have := addAll_ok' r (A ++ [p]) (addAt H' p) H h.step
    rw [List.append_assoc] at this
    exact this
theorem addAll_ok {H : Its} (L : Its) (h : RiseS H) : AddOk (addAll H L) H L := by
  have := addAll_ok' L [] H H (AddOk.refl h)
  simpa using this
theorem addAll_len (H L : Its) : (addAll H L).length ≤ H.length + L.length := by
  induction L generalizing H with
  | nil => exact Nat.le_refl _
  | cons p r ih =>
    have h1 := ih (addAt H p)
    have h2 := putK_len ktS.lt H p.1 ((getS H p.1).getD 0 + p.2)
    rw [List.length_cons]
    unfold addAll at h1 ⊢
    rw [List.foldl_cons]
    unfold addAt at h1 ⊢
    omega
/-- What the entries that are left no more say together. -/
def sumOf {ν : Type} (left : Lit → Bool) (l : List (Int × ν)) (f : ν → Int) : Int := ((l.filter fun p => !left (ktI.lit p.1)).map fun p => f p.2).sum
section
variable {ν : Type}
theorem litI_same (x y : Int) : (ktI.lit x).sameKey (ktI.lit y) = decide (x = y) := by simp [ktI, Lit.sameKey]
theorem sumOf_cons (left : Lit → Bool) (p : Int × ν) (r : List (Int × ν)) (f : ν → Int) : sumOf left (p :: r) f = (if left (ktI.lit p.1) = true then 0 else f p.2) + sumOf left r f := by
  unfold sumOf
  rw [List.filter_cons]
  cases left (ktI.lit p.1) <;> simp
theorem sumOf_rest {left : Lit → Bool} {f : ν → Int} {x : Int} : ∀ {l : List (Int × ν)}, x ∉ l.map (·.1) → sumOf (fun z => left z && !z.sameKey (ktI.lit x)) l f = sumOf left l f
  | [], _ => rfl
  | p :: r, h => by
    rw [List.map_cons, List.mem_cons, not_or] at h
    rw [sumOf_cons, sumOf_cons, sumOf_rest h.2, litI_same]
    have : decide (p.1 = x) = false := by simpa using fun e => h.1 e.symm
    rw [this]
    simp
theorem sumOf_step {left : Lit → Bool} {f : ν → Int} {x : Int} {v : ν} (hl : left (ktI.lit x) = true) : ∀ {l : List (Int × ν)}, (l.map (·.1)).Nodup → getS l x = some v →
    sumOf (fun z => left z && !z.sameKey (ktI.lit x)) l f = sumOf left l f + f v
  | [], _, h => by cases h
  | p :: r, hn, h => by
    rw [List.map_cons, List.nodup_cons] at hn
    rw [sumOf_cons, sumOf_cons, litI_same]
    by_cases e : p.1 = x
    · subst e
      simp only [getS, if_pos] at h
      cases h
      rw [sumOf_rest hn.1]
      simp [hl]
      omega
    · simp only [getS, if_neg e] at h
      rw [sumOf_step hl hn.2 h]
      simp [e]
      omega
theorem sumOf_none {left : Lit → Bool} (h : ∀ k, left k = false) (l : List (Int × ν)) (f : ν → Int) : sumOf left l f = (l.map fun p => f p.2).sum := by
  unfold sumOf
  congr 2
  exact List.filter_eq_self.2 (fun p _ => by simp [h])
theorem sumOf_all {left : Lit → Bool} {l : List (Int × ν)} (h : ∀ p ∈ l, left (ktI.lit p.1) = true) (f : ν → Int) : sumOf left l f = 0 := by
  unfold sumOf
  have : l.filter (fun p => !left (ktI.lit p.1)) = [] := List.filter_eq_nil_iff.2 (fun p hp => by simp [h p hp])
  rw [this]; rfl
theorem sumOf_le {left : Lit → Bool} {f : ν → Int} {B : Int} (hB : 0 ≤ B) : ∀ {l : List (Int × ν)}, (∀ p ∈ l, 0 ≤ f p.2 ∧ f p.2 ≤ B) → 0 ≤ sumOf left l f ∧ sumOf left l f ≤ (l.length : Int) * B
  | [], _ => ⟨Int.le_refl _, by simp [sumOf]⟩
  | p :: r, h => by
    have ih := sumOf_le (left := left) hB (l := r) (fun q hq => h q (by simp [hq]))
    have h1 := h p (by simp)
    rw [sumOf_cons, List.length_cons, Int.natCast_add, Int.add_mul]
    constructor
    · split <;> omega
    · split <;> omega
end
/-- A map that holds what the entries that are left no more say together. -/
structure SdW {ν : Type} (H : Its) (left : Lit → Bool) (l : List (Int × ν)) (f : ν → Its) : Prop where
  rise : RiseS H
  get : ∀ s, getI H s = sumOf left l (fun h => getI (f h) s)
  key : ∀ s, (getS H s).isSome = true ↔ ∃ p ∈ l, left (ktI.lit p.1) = false ∧ ∃ q ∈ f p.2, q.1 = s
  len : (H.length : Int) ≤ 16 * sumOf left l (fun _ => 1)
theorem SdW.start {ν : Type} {left : Lit → Bool} {l : List (Int × ν)} {f : ν → Its} (h : ∀ p ∈ l, left (ktI.lit p.1) = true) : SdW [] left l f :=
  ⟨List.Pairwise.nil, fun s => by rw [sumOf_all h]; rfl, fun s => ⟨fun e => (by cases e), fun ⟨p, hp, e, _⟩ => (by rw [h p hp] at e; cases e)⟩, by rw [sumOf_all h]; simp⟩
theorem SdW.step {ν : Type} {H : Its} {left : Lit → Bool} {l : List (Int × ν)} {f : ν → Its} {x : Int} {v : ν} (h : SdW H left l f) (hl : left (ktI.lit x) = true) (hn : (l.map (·.1)).Nodup) (hx : getS l x = some v) (h16 : (f v).length ≤ 16) :
    SdW (addAll H (f v)) (fun z => left z && !z.sameKey (ktI.lit x)) l f := by
  have ha := addAll_ok (f v) h.rise
  refine ⟨ha.rise, fun s => ?_, fun s => ?_, ?_⟩
  · rw [ha.get, h.get, sumOf_step hl hn hx]
  · rw [ha.key, h.key]
    constructor
    · rintro (⟨p, hp, e, q, hq, e2⟩ | ⟨q, hq, e2⟩)
      · exact ⟨p, hp, by simp [e], q, hq, e2⟩
      · exact ⟨(x, v), getK_mem hx, by simp [litI_same], q, hq, e2⟩
    · rintro ⟨p, hp, e, q, hq, e2⟩
      by_cases e3 : p.1 = x
      · have : p.2 = v := by
          have h1 := getK_of hn (x := p.1) (v := p.2) hp
          rw [e3, hx] at h1
          exact (Option.some.inj h1).symm
        exact .inr ⟨q, by rw [← this]; exact hq, e2⟩
      · rw [litI_same] at e
        simp [e3] at e
        exact .inl ⟨p, hp, e, q, hq, e2⟩
  · rw [sumOf_step hl hn hx]
    have h1 := addAll_len H (f v)
    have h2 := h.len
    omega
theorem SdW.bound {ν : Type} {H : Its} {left : Lit → Bool} {l : List (Int × ν)} {f : ν → Its} (h : SdW H left l f) (hl : l.length ≤ 256) : H.length ≤ 4096 := by
  have h1 := h.len
  have h2 := sumOf_le (left := left) (f := fun _ : ν => (1 : Int)) (B := 1) (by omega) (l := l) (fun p _ => ⟨by omega, by omega⟩)
  omega
theorem SdW.done {ν : Type} {H : Its} {left : Lit → Bool} {l : List (Int × ν)} {f : ν → Its} (h : SdW H left l f) (hl : ∀ k, left k = false) (s : Str) : (getS H s).getD 0 = (l.map fun p => getI (f p.2) s).sum ∧ ((getS H s).isSome = true ↔ ∃ p ∈ l, ∃ q ∈ f p.2, q.1 = s) := by
  constructor
  · rw [← getI_rise s h.rise, h.get, sumOf_none hl]
  · rw [h.key]
    exact ⟨fun ⟨p, hp, _, q, hq, e⟩ => ⟨p, hp, q, hq, e⟩, fun ⟨p, hp, q, hq, e⟩ => ⟨p, hp, hl _, q, hq, e⟩⟩
theorem getI_may {L : Its} (h : mayL L = true) (s : Str) : 0 ≤ getI L s ∧ getI L s ≤ 1099511627776 := by
  have hk := mayL_all h
  rw [getI_rise s hk.rise]
  cases e : getS L s with
  | none => exact ⟨Int.le_refl _, by simp⟩
  | some v => have := (hk.row _ (getK_mem e)).2; simp only [Option.getD_some]; simp only at this; omega
theorem snd_bound {ν : Type} {H : Its} {left : Lit → Bool} {l : List (Int × ν)} {f : ν → Its} {L : Its} {k : Nat} {p : Str × Int} (h : SdW H left l f) (hm : ∀ p ∈ l, mayL (f p.2) = true) (hl : l.length ≤ 256) (hL : mayL L = true) (hp : L[k]? = some p) :
    0 ≤ (getS (addAll H (L.take k)) p.1).getD 0 + p.2 ∧ (getS (addAll H (L.take k)) p.1).getD 0 + p.2 ≤ 1125899906842624 := by
  have ha := addAll_ok (L.take k) h.rise
  rw [← getI_rise p.1 ha.rise, ha.get, h.get]
  have h1 := sumOf_le (left := left) (f := fun h => getI (f h) p.1) (B := 1099511627776) (by omega) (l := l) (fun q hq => getI_may (hm q hq) p.1)
  have hpos : ∀ q ∈ L, 0 ≤ q.2 := fun q hq => by have := (mayL_all hL).row q hq; omega
  have h2 : getI L p.1 = getI (L.take (k + 1)) p.1 + getI (L.drop (k + 1)) p.1 := by rw [← getI_app, List.take_append_drop]
  have h3 : getI (L.take (k + 1)) p.1 = getI (L.take k) p.1 + p.2 := by
    rw [List.take_add_one, hp, getI_app]
    simp only [Option.toList_some]
    rw [getI_cons, if_pos rfl, getI_nil]; omega
  have h4 : 0 ≤ getI (L.drop (k + 1)) p.1 := getI_nn p.1 (fun q hq => hpos q (List.mem_of_mem_drop hq))
  have h5 : 0 ≤ getI (L.take k) p.1 := getI_nn p.1 (fun q hq => hpos q (List.mem_of_mem_take hq))
  have h6 := getI_may hL p.1
  have h7 := hpos p (List.mem_of_getElem? hp)
  have h8 : (l.length : Int) * 1099511627776 ≤ 256 * 1099511627776 := by omega
  omega
/-- How many of a good all holds together say. -/
def allE (f : HE → Its) (le : Hes) (s : Str) : Int := (le.map fun p => getI (f p.2) s).sum
/-- Are all holds together the stock's? -/
def soundE (A : Stk) (le : Hes) : Bool :=
  (A.all fun r => decide (r.2.held = allE HE.he le r.1) && decide (r.2.picked = allE HE.pi le r.1)) &&
  (le.all fun p => ((p.2.he ++ p.2.pi).all fun q => (getS A q.1).isSome))
theorem getS_del {κ ν : Type} [DecidableEq κ] (x y : κ) : ∀ l : List (κ × ν), getS (delS l x) y = if x = y then none else getS l y
  | [] => by simp [delS, getS]
  | p :: r => by
    have ih := getS_del x y r
    simp only [delS] at ih ⊢
    by_cases e : p.1 = x
    · simp only [List.filter_cons, e, decide_true, Bool.not_true, Bool.false_eq_true, if_false, getS, ih]
      by_cases e2 : x = y <;> simp [e2]
    · simp only [List.filter_cons, e, decide_false, Bool.not_false, if_true, getS, ih]
      by_cases e2 : p.1 = y
      · have : x ≠ y := fun h => e (e2.trans h.symm)
        simp [e2, this]
      · simp [e2]
/-- A map without some keys. -/
def delAll (H : Its) (ks : List Str) : Its := ks.foldl delS H
theorem delAll_take {H : Its} {ks : List Str} {k : Nat} {s : Str} (h : ks[k]? = some s) : delAll H (ks.take (k + 1)) = delS (delAll H (ks.take k)) s := by
  unfold delAll
  rw [List.take_add_one, h, List.foldl_append]
  rfl
theorem getS_delAll (s : Str) : ∀ (ks : List Str) (H : Its), getS (delAll H ks) s = if s ∈ ks then none else getS H s
  | [], H => by simp [delAll]
  | k :: r, H => by
    have ih := getS_delAll s r (delS H k)
    unfold delAll at ih ⊢
    rw [List.foldl_cons, ih, getS_del]
    by_cases h1 : s ∈ r
    · simp [h1]
    · by_cases h2 : k = s
      · subst h2; simp
      · have h3 : ¬ s = k := fun e => h2 e.symm
        simp [h1, h2, h3]
theorem delAll_nil {H : Its} {ks : List Str} : (delAll H ks).length = 0 ↔ ∀ p ∈ H, p.1 ∈ ks := by
  rw [List.length_eq_zero_iff]
  constructor
  · intro h p hp
    have h1 := getS_delAll p.1 ks H
    rw [h] at h1
    by_cases e : p.1 ∈ ks
    · exact e
    · rw [if_neg e] at h1
      exact absurd rfl (getK_none.1 h1.symm p hp)
  · intro h
    cases e : delAll H ks with
    | nil => rfl
    | cons q r =>
      have h1 := getS_delAll q.1 ks H
      rw [e] at h1
      simp only [getS, if_pos] at h1
      split at h1
      · cases h1
      · rename_i hn
        cases e2 : getS H q.1 with
        | none => rw [e2] at h1; cases h1
        | some v => exact absurd (h _ (getK_mem e2)) hn
theorem delAll_len : ∀ (ks : List Str) (H : Its), (delAll H ks).length ≤ H.length
  | [], H => Nat.le_refl _
  | k :: r, H => by
    have h1 := delAll_len r (delS H k)
    have h2 : (delS H k).length ≤ H.length := List.length_filter_le _ _
    unfold delAll at h1 ⊢
    rw [List.foldl_cons]
    omega
theorem isSome_mem {A : Stk} {s : Str} : (getS A s).isSome = true ↔ s ∈ A.map (·.1) := by
  constructor
  · intro h
    cases e : getS A s with
    | none => rw [e] at h; cases h
    | some v => exact List.mem_map.2 ⟨_, getK_mem e, rfl⟩
  · intro h
    obtain ⟨p, hp, rfl⟩ := List.mem_map.1 h
    cases e : getS A p.1 with
    | some v => rfl
    | none => exact absurd rfl (getK_none.1 e p hp)
theorem hmap_sum (f : HE → Its) (g : HV → Its) (hfg : ∀ x : HV, f x.e = g x) (l : List (Int × HV)) (s : Str) : allE f (mapE l) s = (l.map fun p => getI (g p.2) s).sum := by
  unfold allE mapE
  rw [List.map_map]
  congr 1
  exact List.map_congr_left (fun p _ => by simp [hfg])
/-- The whole test, by what the two maps hold. -/
theorem sound_of {A : Stk} {l : List (Int × HV)} {H P : Its} {left : Lit → Bool} (hw : SdW H left l HV.he) (pw : SdW P left l HV.pi) (hl : ∀ k, left k = false) :
    soundE A (mapE l) = true ↔ ((∀ r ∈ A, r.2.held = (getS H r.1).getD 0 ∧ r.2.picked = (getS P r.1).getD 0) ∧ (delAll H (A.map (·.1))).length = 0 ∧ (delAll P (A.map (·.1))).length = 0) := by
  unfold soundE
  rw [Bool.and_eq_true, List.all_eq_true, List.all_eq_true, delAll_nil, delAll_nil]
  have e1 : ∀ s, allE HE.he (mapE l) s = (getS H s).getD 0 := fun s => by rw [(hw.done hl s).1]; exact hmap_sum HE.he HV.he (fun _ => rfl) l s
  have e2 : ∀ s, allE HE.pi (mapE l) s = (getS P s).getD 0 := fun s => by rw [(pw.done hl s).1]; exact hmap_sum HE.pi HV.pi (fun _ => rfl) l s
  have k1 : ∀ s, (∃ p ∈ H, p.1 = s) ↔ ∃ p ∈ l, ∃ q ∈ p.2.he, q.1 = s := fun s => by
    rw [← (hw.done hl s).2]
    exact ⟨fun ⟨p, hp, e⟩ => by rw [← e, getK_of (riseS_nd hw.rise) (x := p.1) (v := p.2) hp]; rfl, fun h => by
      cases e : getS H s with
      | none => rw [e] at h; cases h
      | some v => exact ⟨_, getK_mem e, rfl⟩⟩
  have k2 : ∀ s, (∃ p ∈ P, p.1 = s) ↔ ∃ p ∈ l, ∃ q ∈ p.2.pi, q.1 = s := fun s => by
    rw [← (pw.done hl s).2]
    exact ⟨fun ⟨p, hp, e⟩ => by rw [← e, getK_of (riseS_nd pw.rise) (x := p.1) (v := p.2) hp]; rfl, fun h => by
      cases e : getS P s with
      | none => rw [e] at h; cases h
      | some v => exact ⟨_, getK_mem e, rfl⟩⟩
  refine and_congr ⟨fun h r hr => ?_, fun h r hr => ?_⟩ ⟨fun h => ⟨fun p hp => ?_, fun p hp => ?_⟩, fun h x hx => ?_⟩
  · have := h r hr
    rw [Bool.and_eq_true, decide_eq_true_eq, decide_eq_true_eq, e1, e2] at this
    exact this
  · rw [Bool.and_eq_true, decide_eq_true_eq, decide_eq_true_eq, e1, e2]
    exact h r hr
  · obtain ⟨y, hy, q, hq, e⟩ := (k1 p.1).1 ⟨p, hp, rfl⟩
    have := h (y.1, y.2.e) (List.mem_map.2 ⟨y, hy, rfl⟩)
    rw [List.all_eq_true] at this
    have := this q (List.mem_append_left _ hq)
    rw [isSome_mem, e] at this
    exact this
  · obtain ⟨y, hy, q, hq, e⟩ := (k2 p.1).1 ⟨p, hp, rfl⟩
    have := h (y.1, y.2.e) (List.mem_map.2 ⟨y, hy, rfl⟩)
    rw [List.all_eq_true] at this
    have := this q (List.mem_append_right _ hq)
    rw [isSome_mem, e] at this
    exact this
  · obtain ⟨y, hy, rfl⟩ := List.mem_map.1 hx
    rw [List.all_eq_true]
    intro q hq
    rw [isSome_mem]
    rcases List.mem_append.1 hq with hq | hq
    · obtain ⟨p, hp, e⟩ := (k1 q.1).2 ⟨y, hy, q, hq, rfl⟩
      rw [← e]; exact h.1 p hp
    · obtain ⟨p, hp, e⟩ := (k2 q.1).2 ⟨y, hy, q, hq, rfl⟩
      rw [← e]; exact h.2 p hp
end Go.Proofs.YtogphlnakdnchaaGreat

namespace Go.Proofs.YtogphlnakdnchaaGreat
open Go.RowKit Go.Maps Go.Sort Go.Shelf Go.Proofs
theorem sortsS (m : Nat) : AnyZ.SortsIn Tryz.prog Tryz.laysSortedS_ren Fence.wide m :=
  ⟨fun blk off cap ss W hH hblk hsz => callsIn_wide.2 (AnyM.slices_Sort_string Tryz.laysSortS blk off cap ss W hH hblk hsz),
   fun p cap W => callsIn_wide.2 (AnyM.slices_Sort_string_none Tryz.laysSortS p cap W)⟩
/-- A map's keys as an iterator, and its sorted row: both contracts, at a map of strings. -/
theorem keysSorted {ν : Type} (w : World) (b : Nat) (enc : ν → Value) (l : List (Str × ν)) (h : Mp Tryz.prog w 9 ktS enc b l) (hl : (l.length : Int) ≤ 1099511627776) :
    CallsIn Fence.wide 5 Tryz.prog 98 #[.map (some b)] w (fun e w' => e = .returned (.func (.func 121) #[] #[.pointer (some ⟨w.heap.size, 0, none⟩)]) ∧ w' = w.alloc (.cells #[.map (some b)] 100)) ∧
    CallsIn Fence.wide 5 Tryz.prog 97 #[.func (.func 121) #[] #[.pointer (some ⟨w.heap.size, 0, none⟩)]] (w.alloc (.cells #[.map (some b)] 100)) (fun e w' => ∃ v, e = .returned v ∧ w'.ownsRow w.heap.size 9 1 v l.length (l.map fun p => vS p.1) ∧ Below w.heap.size w w') := by
  obtain ⟨nn, hown⟩ := id h
  have hord := riseS_of (h.ok (koS Tryz.underlying9)).2
  have hsz : Maps.size (ktS.dat enc l) = l.length := dat_size ktS enc l
  have hk : strKeys (ktS.dat enc l) = l.map (·.1) := strKeys_dat enc l
  have hsort : ∀ ss : List Str, ss.Perm (l.map (·.1)) → ss.mergeSort (fun x y => decide (x ≤ y)) = l.map (·.1) := fun ss hp => strs_sorted hord hp
  have hbl := hown.lt
  have hseq : SeqGives Fence.wide 2 Tryz.prog 121 #[.pointer (some ⟨w.heap.size, 0, none⟩)] encStr (fun ss => ss.Perm (strKeys (ktS.dat enc l))) (Maps.size (ktS.dat enc l)) (w.alloc (.cells #[.map (some b)] 100)) :=
    AnyZ.keys_gives (ρ := Tryz.laysKeysS_ren) { Tryz.laysKeysS with } Fence.wide _ trivial rfl (by omega) w.heap.size b nn _ _ (by simp) (by simp) (by
      obtain ⟨es, clock, hb, Ft, hs, hD⟩ := hown
      exact ⟨es, clock, (Below.heap_alloc _ _ b hbl).trans hb, Ft, hs, hD⟩)
  refine ⟨AnyZ.keys_in Tryz.laysKeysS Fence.wide 5 trivial rfl (some b) w, ?_⟩
  have cS := AnyZ.sorted_in Tryz.laysSortedS Fence.wide 5 trivial trivial trivial trivial rfl (by omega) (sortsS _) (enters_of Tryz.func120 (by kernel_rfl) rfl) 121 #[.pointer (some ⟨w.heap.size, 0, none⟩)] trivial (enters_of Tryz.func121 (by kernel_rfl) rfl) _ _ (by rw [hsz]; unfold maxLen; omega) (by rw [hsz]; omega) _ hseq
  change CallsIn _ _ Tryz.prog 97 _ _ _ at cS
  refine cS.mono ?_
  rintro e w' ⟨v, ss, rfl, hS, hrow, hnil, hb⟩
  rw [hk] at hS
  rw [hsort ss hS] at hrow
  have hlen : ss.length = l.length := by rw [hS.length_eq]; simp
  rw [hlen, List.map_map] at hrow
  exact ⟨v, rfl, ownsRow_base_a hrow (by simp), ((Below.refl _ w).alloc (Nat.le_refl _) _).trans (hb.mono (by simp))⟩
end Go.Proofs.YtogphlnakdnchaaGreat

namespace Go.Proofs.YtogphlnakdnchaaGreat
open Go.RowKit
/-- A world in which all that was there in w lies as it did. -/
structure FrW (w : World) where
  val : World
  fr : Fr (fun _ => False) w val
instance frW_nonempty (w : World) : Nonempty (FrW w) := ⟨⟨w, Fr.refl _ w⟩⟩
theorem FrW.cell {w : World} {p : Addr} {v : Value} (hc : w.cell? p = some v) (X : FrW w) : X.val.cell? p = some v := X.fr.cell hc (fun h => h)
theorem FrW.at_ {w : World} {b : Nat} {o : Obj} (hc : w.heap[b]? = some o) (X : FrW w) : X.val.heap[b]? = some o := X.fr.at_ hc (fun h => h)
theorem wp_region_fr {P : Program} {id : Nat} {Q : Exit → Act → World → Prop} {a : Act} {w : World} {l : List Oper} (hm : P.follows .mixedOrders = true) (hB : Region.lexB .any l.toArray = true)
    (h : wpQuiet P l.toArray (fun w' => ∃ X : FrW w, w' = X.val) (fun a' => ∀ w', (∃ X : FrW w, w' = X.val) → Q .normal a' w') l a) : (Code.region id l.toArray true).wp P Q a w :=
  wp_region_quiet (C := fun w' => ∃ X : FrW w, w' = X.val) hm hB ⟨⟨_, (Fr.refl _ w).drew⟩, rfl⟩ (by simpa using h)
end Go.Proofs.YtogphlnakdnchaaGreat

namespace Go.Proofs.YtogphlnakdnchaaGreat
open Go.RowKit Go.Maps
theorem sum_wraps {r : SR} (h : SRb r) : IntKind.i64.wrap (r.free + r.held) = r.free + r.held ∧ IntKind.i64.wrap (r.free + r.held + r.picked) = r.free + r.held + r.picked ∧ IntKind.i64.wrap (r.free + r.held + r.picked + r.aside) = r.free + r.held + r.picked + r.aside := by
  obtain ⟨a0, a1, a2, a3, -, -, -, -, -, -⟩ := h
  refine ⟨?_, ?_, ?_⟩ <;> (rw [IntKind.wrap_i64]; omega)
set_option maxRecDepth 100000 in
set_option maxHeartbeats 4000000 in
theorem sRight (w : World) (b : Nat) (r : SR) (h : RowAt w b r) : Calls Tryz.prog 76 #[.pointer (some ⟨b, 0, none⟩)] w fun e w' => e = .returned (.bool r.right) ∧ Fr (fun _ => False) w w' := by
  have HEv := Lib.hid (fun X : FrW w => sEach X.val b r (X.at_ h))
  cases hE : r.each with
  | false =>
    have e : r.right = false := by simp [SR.right, hE]
    rw [e]
    rw [hE] at HEv
    clear h hE e
    go_enter Tryz.func76, Tryz.ntmps76
    go_wp2_with fail
    refine wp_region_fr (by kernel_rfl) (by kernel_rfl) ?_
    repeat (go_big_quiet_step ((go_at_call 107; rename_i X; refine (HEv.out X).mono ?_; rintro e w1 ⟨rfl, hF⟩; exact ⟨rfl, ⟨w1, X.fr.trans hF⟩, rfl⟩)))
    refine wpQuiet_nil ?_
    rintro _ ⟨⟨V, hV⟩, rfl⟩
    go_wp2_with fail
    go_ret
    exact ⟨rfl, hV⟩
  | true =>
    have e : r.right = mayI r.sum := by simp [SR.right, hE]
    rw [e]
    obtain ⟨w1, w2, w3⟩ := sum_wraps (SR.each_iff.1 hE)
    rw [hE] at HEv
    obtain ⟨S, hS⟩ : ∃ S, mayI r.sum = S := ⟨_, rfl⟩
    have HMv := Lib.hid (fun W => kMay W r.sum)
    rw [hS] at HMv ⊢
    unfold SR.sum at HMv
    have p0 := FrW.cell (cell_obj h 0 (.int .i64 r.free) rfl)
    have p1 := FrW.cell (cell_obj h 1 (.int .i64 r.held) rfl)
    have p2 := FrW.cell (cell_obj h 2 (.int .i64 r.picked) rfl)
    have p3 := FrW.cell (cell_obj h 3 (.int .i64 r.aside) rfl)
    clear h hE e hS
    go_enter Tryz.func76, Tryz.ntmps76
    go_wp2_with fail
    refine wp_region_fr (by kernel_rfl) (by kernel_rfl) ?_
    repeat (go_big_quiet_step (first | (go_at_call 107; rename_i X; refine (HEv.out X).mono ?_; rintro e w1 ⟨rfl, hF⟩; exact ⟨rfl, ⟨w1, X.fr.trans hF⟩, rfl⟩) | (go_at_call 68; rename_i X; refine (HMv.out _).mono ?_; rintro e w2 ⟨rfl, rfl⟩; exact ⟨rfl, X, rfl⟩)))
    refine wpQuiet_nil ?_
    rintro _ ⟨⟨V, hV⟩, rfl⟩
    go_wp2_with fail
    go_ret
    exact ⟨rfl, hV⟩
def SR.lev (r : SR) : Value := .agg #[.int .i64 r.free, .int .i64 r.held, .int .i64 r.picked, .int .i64 r.aside]
def SR.flo (r : SR) : Value := .agg #[.int .i64 r.received, .int .i64 r.returned, .int .i64 r.counted, .int .i64 r.came, .int .i64 r.shipped, .int .i64 r.scrapped, .int .i64 r.sent]
set_option maxRecDepth 100000 in
set_option maxHeartbeats 4000000 in
theorem sBalanced (w : World) (r : SR) : Calls Tryz.prog 99 #[r.lev, r.flo] w fun e w' => e = .returned (.bool r.bal) ∧ Fr (fun _ => False) w w' := by
  have hEv := Lib.hid (fun W b (h : RowAt W b r) => sEach W b r h)
  obtain ⟨G, hG⟩ : ∃ G, r.bal = G := ⟨_, rfl⟩
  rw [hG]
  have HG := Lib.hid hG
  clear hG
  have hF0 := Lib.hid ((((Fr.refl (fun _ => False) w).alloc (.cells #[.int .i64 r.free, .int .i64 r.held, .int .i64 r.picked, .int .i64 r.aside] 98)).alloc (.cells #[.int .i64 r.received, .int .i64 r.returned, .int .i64 r.counted, .int .i64 r.came, .int .i64 r.shipped, .int .i64 r.scrapped, .int .i64 r.sent] 119)).alloc (.cells r.cs 121))
  have b0 := heap_keep (heap_keep (heap_new w (.cells #[.int .i64 r.free, .int .i64 r.held, .int .i64 r.picked, .int .i64 r.aside] 98)) (.cells #[.int .i64 r.received, .int .i64 r.returned, .int .i64 r.counted, .int .i64 r.came, .int .i64 r.shipped, .int .i64 r.scrapped, .int .i64 r.sent] 119)) (.cells r.cs 121)
  have b1 : (((w.alloc (.cells #[.int .i64 r.free, .int .i64 r.held, .int .i64 r.picked, .int .i64 r.aside] 98)).alloc (.cells #[.int .i64 r.received, .int .i64 r.returned, .int .i64 r.counted, .int .i64 r.came, .int .i64 r.shipped, .int .i64 r.scrapped, .int .i64 r.sent] 119)).alloc (.cells r.cs 121)).heap[w.heap.size + 1]? = some (.cells #[.int .i64 r.received, .int .i64 r.returned, .int .i64 r.counted, .int .i64 r.came, .int .i64 r.shipped, .int .i64 r.scrapped, .int .i64 r.sent] 119) := heap_keep (heap_at (by simp) _) _
  have b2 : RowAt (((w.alloc (.cells #[.int .i64 r.free, .int .i64 r.held, .int .i64 r.picked, .int .i64 r.aside] 98)).alloc (.cells #[.int .i64 r.received, .int .i64 r.returned, .int .i64 r.counted, .int .i64 r.came, .int .i64 r.shipped, .int .i64 r.scrapped, .int .i64 r.sent] 119)).alloc (.cells r.cs 121)) (w.heap.size + 1 + 1) r := heap_at (by simp) _
  have hEw := Lib.hid (hEv.out _ _ b2)
  have HB0 := Lib.hid b0; have HB1 := Lib.hid b1
  clear b0 b1 b2 hEv
  unfold SR.lev SR.flo
  unfold SR.cs at hF0 hEw HB0 HB1
  obtain ⟨f0, f1, f2, f3, f4, f5, f6, f7, f8, f9, f10⟩ := r
  dsimp only at hF0 hEw HB0 HB1 ⊢
  cases hE : SR.each ⟨f0, f1, f2, f3, f4, f5, f6, f7, f8, f9, f10⟩ with
  | false =>
    have hg : Hid (G = false) := Lib.hid (by rw [← HG.out]; simp [SR.bal, hE])
    rw [hE] at hEw
    clear hE
    go_enter Tryz.func99, Tryz.ntmps99
    go_wp2_with (go_at_call 107; refine hEw.out.mono ?_; rintro e w1 ⟨rfl, hF⟩; have HF := Lib.hid hF; clear hF)
    go_ret
    exact ⟨by rw [hg.out]; rfl, hF0.out.trans HF.out⟩
  | true =>
    have hb := SR.each_iff.1 hE
    have hbal : Hid (G = (decide (-576460752303423488 ≤ f6) && decide (f6 ≤ 576460752303423488) && decide (f0 + f1 + f2 + f3 = f4 + f5 + f6 + f7 - f8 - f9 - f10))) := Lib.hid (by rw [← HG.out]; unfold SR.bal; rw [hE]; rfl)
    rw [hE] at hEw
    obtain ⟨a0, a1, a2, a3, c0, c1, c2, c3, c4, c5⟩ := hb
    dsimp only at a0 a1 a2 a3 c0 c1 c2 c3 c4 c5
    obtain ⟨a0, a0'⟩ := a0; obtain ⟨a1, a1'⟩ := a1; obtain ⟨a2, a2'⟩ := a2; obtain ⟨a3, a3'⟩ := a3
    obtain ⟨c0, c0'⟩ := c0; obtain ⟨c1, c1'⟩ := c1; obtain ⟨c2, c2'⟩ := c2; obtain ⟨c3, c3'⟩ := c3; obtain ⟨c4, c4'⟩ := c4; obtain ⟨c5, c5'⟩ := c5
    clear hE
    rcases (by omega : f6 < -576460752303423488 ∨ (-576460752303423488 ≤ f6 ∧ 576460752303423488 < f6) ∨ (-576460752303423488 ≤ f6 ∧ f6 ≤ 576460752303423488)) with h | ⟨h, h'⟩ | ⟨h, h'⟩
    · have hg : Hid (G = false) := Lib.hid (by rw [hbal.out]; simp; omega)
      go_enter Tryz.func99, Tryz.ntmps99
      go_wp2_with (go_at_call 107; refine hEw.out.mono ?_; rintro e w1 ⟨rfl, hF⟩; have HF := Lib.hid hF; have q0 := cell_obj (hF.at_ HB1.out (fun h => h)) 2 (.int .i64 f6) rfl; clear hF)
      go_ret
      exact ⟨by rw [hg.out]; rfl, hF0.out.trans HF.out⟩
    · have hg : Hid (G = false) := Lib.hid (by rw [hbal.out]; simp; omega)
      go_enter Tryz.func99, Tryz.ntmps99
      go_wp2_with (go_at_call 107; refine hEw.out.mono ?_; rintro e w1 ⟨rfl, hF⟩; have HF := Lib.hid hF; have q0 := cell_obj (hF.at_ HB1.out (fun h => h)) 2 (.int .i64 f6) rfl; clear hF)
      go_ret
      exact ⟨by rw [hg.out]; rfl, hF0.out.trans HF.out⟩
    · have hg : Hid (G = decide (f0 + f1 + f2 + f3 = f4 + f5 + f6 + f7 - f8 - f9 - f10)) := Lib.hid (by rw [hbal.out]; simp [h, h'])
      go_enter Tryz.func99, Tryz.ntmps99
      go_wp2_with (go_at_call 107; refine hEw.out.mono ?_; rintro e w1 ⟨rfl, hF⟩; have HF := Lib.hid hF; have x0 := hF.at_ HB0.out (fun h => h); have x1 := hF.at_ HB1.out (fun h => h); have p0 := cell_obj x0 0 (.int .i64 f0) rfl; have p1 := cell_obj x0 1 (.int .i64 f1) rfl; have p2 := cell_obj x0 2 (.int .i64 f2) rfl; have p3 := cell_obj x0 3 (.int .i64 f3) rfl; have q0 := cell_obj x1 0 (.int .i64 f4) rfl; have q1 := cell_obj x1 1 (.int .i64 f5) rfl; have q2 := cell_obj x1 2 (.int .i64 f6) rfl; have q3 := cell_obj x1 3 (.int .i64 f7) rfl; have q4 := cell_obj x1 4 (.int .i64 f8) rfl; have q5 := cell_obj x1 5 (.int .i64 f9) rfl; have q6 := cell_obj x1 6 (.int .i64 f10) rfl; clear hF x0 x1)
      go_ret
      refine ⟨?_, hF0.out.trans HF.out⟩
      rw [hg.out]
      exact ret_bool (a := f0 + f1 + f2 + f3 == f4 + f5 + f6 + f7 - f8 - f9 - f10) (by rw [Bool.eq_iff_iff]; simp)
end Go.Proofs.YtogphlnakdnchaaGreat

namespace Go.Proofs.YtogphlnakdnchaaGreat
open Go.RowKit Go.Maps
theorem mp_row {w : World} {m : Nat} {A : Stk} {s : Str} (h : Mp Tryz.prog w 9 ktS SR.enc m A) (hs : okS s) : (Instr.lookup 100 (.map (some m)) (vS s) false).run Tryz.prog w = .ok (rowAt A s).enc w := by
  have := h.look kS Tryz.underlying100 (zeroSR w) (x := s) hs
  unfold rowAt
  cases e : getS A s <;> rw [e] at this <;> exact this
theorem mp_row_ok {w : World} {m : Nat} {A : Stk} {s : Str} (h : Mp Tryz.prog w 9 ktS SR.enc m A) (hs : okS s) : (Instr.lookup 100 (.map (some m)) (vS s) true).run Tryz.prog w = .ok (.tuple #[(rowAt A s).enc, .bool (getS A s).isSome]) w := by
  have := h.look_ok kS Tryz.underlying100 (zeroSR w) (x := s) hs
  unfold rowAt
  cases e : getS A s <;> rw [e] at this <;> exact this
theorem SA.cell {w : World} {g : Nat} {TS : Nat → Prop} {A : Stk} (h : SA w g TS A) : ∃ m, w.cell? ⟨g, 0, none⟩ = some (.map (some m)) ∧ Mp Tryz.prog w 9 ktS SR.enc m A ∧ TS m := by
  obtain ⟨⟨m, h1, h2, h3⟩, -, -⟩ := h
  exact ⟨m, cell_obj h1 0 _ rfl, h2, h3⟩
set_option maxRecDepth 100000 in
set_option maxHeartbeats 2000000 in
theorem sLevel (w : World) (g : Nat) (TS : Nat → Prop) (A : Stk) (s : Str) (h : SA w g TS A) (hs : okS s) :
    Calls Tryz.prog 60 #[.pointer (some ⟨g, 0, none⟩), vS s] w fun e w' => e = .returned (rowAt A s).lev ∧ Fr (fun _ => False) w w' := by
  have h1 := h.fr ((Fr.refl (fun _ => False) w).alloc (.cells #[.int .i64 0, .int .i64 0, .int .i64 0, .int .i64 0] 98)) (fun _ _ h => h)
  obtain ⟨m, hc, hm, -⟩ := h1.cell
  have hlk := mp_row hm hs
  have hmd := Lib.hid (smade _ g m hc)
  unfold SR.lev
  unfold SR.enc SR.cs at hlk
  generalize rowAt A s = r at hlk ⊢
  obtain ⟨f0, f1, f2, f3, f4, f5, f6, f7, f8, f9, f10⟩ := r
  dsimp only at hlk ⊢
  have hfl : ∀ W, (Instr.field 121 (.agg #[.int .i64 f0, .int .i64 f1, .int .i64 f2, .int .i64 f3, .int .i64 f4, .int .i64 f5, .int .i64 f6, .int .i64 f7, .int .i64 f8, .int .i64 f9, .int .i64 f10]) 0).run Tryz.prog W = .ok (.agg #[.int .i64 f0, .int .i64 f1, .int .i64 f2, .int .i64 f3]) W := fun W => by kernel_rfl
  clear h h1 hm
  go_enter Tryz.func60, Tryz.ntmps60
  go_wp2_with (go_at_call 69; refine hmd.out.mono ?_; rintro e w' ⟨rfl, rfl⟩)
  go_returns
  exact ⟨rfl, (Fr.refl _ _).alloc _⟩
theorem sClone (w : World) (m : Nat) (A : Stk) (h : Mp Tryz.prog w 9 ktS SR.enc m A) : Calls Tryz.prog 73 #[.map (some m)] w fun e w' => e = .returned (.map (some w.heap.size)) ∧ Mp Tryz.prog w' 9 ktS SR.enc w.heap.size A ∧ Below w.heap.size w w' := by
  obtain ⟨n, hown⟩ := h
  have hcon := AnyW.maps_Clone_owns Tryz.laysCloneS 9 _ m n _ w hown
  change Calls Tryz.prog 73 _ _ _ at hcon
  refine hcon.mono ?_
  rintro e w' ⟨rfl, h1, _, hB⟩
  exact ⟨rfl, ⟨n, h1⟩, hB⟩
set_option maxRecDepth 100000 in
set_option maxHeartbeats 2000000 in
theorem sFork (w : World) (g : Nat) (TS : Nat → Prop) (A : Stk) (h : SA w g TS A) :
    Calls Tryz.prog 57 #[.pointer (some ⟨g, 0, none⟩)] w fun e w' => ∃ g' TS', e = .returned (.pointer (some ⟨g', 0, none⟩)) ∧ SA w' g' TS' A ∧ Fr (fun _ => False) w w' ∧ ∀ b, TS' b → w.heap.size ≤ b := by
  obtain ⟨m, hc, hm, -⟩ := h.cell
  have hmd := Lib.hid (smade _ g m hc)
  have hcl := Lib.hid (sClone w m A hm)
  clear h hm
  go_enter Tryz.func57, Tryz.ntmps57
  go_wp2_with (first
    | (go_at_call 69; refine hmd.out.mono ?_; rintro e w' ⟨rfl, rfl⟩)
    | (go_at_call 73; refine hcl.out.mono ?_; rintro e w1 ⟨rfl, h1, hB⟩; have H1 := Lib.hid h1; have HB := Lib.hid hB; clear h1 hB))
  go_ret
  have hsz := HB.out.size
  have hlt := H1.out.lt
  refine ⟨_, fun b => b = w.heap.size ∨ b = w1.heap.size, rfl, ⟨⟨_, heap_new _ _, H1.out.alloc _, .inl rfl⟩, .inr rfl, fun b hb => by simp; omega⟩, (Fr.below HB.out).alloc _, fun b hb => by omega⟩
end Go.Proofs.YtogphlnakdnchaaGreat

namespace Go.Proofs.YtogphlnakdnchaaGreat
open Go.RowKit Go.Maps
end Go.Proofs.YtogphlnakdnchaaGreat

namespace Go.Proofs.YtogphlnakdnchaaGreat
open Go.RowKit Go.Maps
attribute [local go_sem] Oper.semAt_some
@[local go_sem] theorem optP_none (b : Nat) : optP b none = .pointer none := rfl
@[local go_sem] theorem optP_some (b i : Nat) : optP b (some i) = .pointer (some ⟨b, i, none⟩) := rfl
/-- Three boxes of the call's own: the stock, a kind, a result. -/
structure QI (w0 W : World) (n0 g : Nat) (k e : Int) : Prop where
  s : W.heap[n0]? = some (.cells #[.pointer (some ⟨g, 0, none⟩)] 58)
  k : W.heap[n0 + 1]? = some (.cells #[.int .i64 k] 3)
  e : W.heap[n0 + 1 + 1]? = some (.cells #[.int .i64 e] 30)
  fr : Fr (fun b => n0 ≤ b) w0 W
section
variable {w0 W W' : World} {n0 g : Nat} {k e : Int}
theorem QI.fa {B : Nat} (h : QI w0 W n0 g k e) (hf : Fa B W W') (hB : w0.heap.size ≤ B) : QI w0 W' n0 g k e :=
  ⟨Fa.cells hf h.s, Fa.cells hf h.k, Fa.cells hf h.e, h.fr.trans' hf (fun b hb e => by have := e.1; omega)⟩
theorem QI.keep (h : QI w0 W n0 g k e) (hf : Fr (fun _ => False) W W') : QI w0 W' n0 g k e :=
  ⟨hf.at_ h.s (fun h => h), hf.at_ h.k (fun h => h), hf.at_ h.e (fun h => h), h.fr.trans' hf (fun _ _ e => e.elim)⟩
theorem QI.put (h : QI w0 W n0 g k e) (e' : Int) : QI w0 (W.setCell ⟨n0 + 1 + 1, 0, none⟩ (.int .i64 e')) n0 g k e' := by
  have hF : Fr (fun b => b = n0 + 1 + 1) W (W.setCell ⟨n0 + 1 + 1, 0, none⟩ (.int .i64 e')) := (Fr.refl (fun b => b = n0 + 1 + 1) W).setCell (p := ⟨n0 + 1 + 1, 0, none⟩) (fun _ => rfl) _
  exact ⟨hF.at_ h.s (by omega), hF.at_ h.k (by omega), obj_set h.e 0 _, h.fr.trans' hF (fun b _ e => by omega)⟩
end
theorem doMay_71 {A : Stk} {k : Int} {L : Its} {i j : Nat} {p : Str × Int} (hr : (roadF k).1 = some i) (hp : L[j]? = some p) (hn : getS A p.1 = none) : doMay A k L = 71 := by
  unfold doMay
  rw [hr]
  have : (L.any fun p => (getS A p.1).isNone) = true := List.any_eq_true.2 ⟨p, List.mem_of_getElem? hp, by rw [hn]; rfl⟩
  simp only [this, if_true]
theorem doMay_known {A : Stk} {k : Int} {L : Its} {i : Nat} (hr : (roadF k).1 = some i) (hk : ∀ (j : Nat) (p : Str × Int), j < L.length → L[j]? = some p → (getS A p.1).isSome = true) :
    doMay A k L = if L.any (fun p => decide ((rowAt A p.1).get i < p.2)) = true then 51 else 0 := by
  unfold doMay
  rw [hr]
  have : (L.any fun p => (getS A p.1).isNone) = false := by
    refine Bool.eq_false_iff.2 (fun ht => ?_)
    obtain ⟨p, hp, hn⟩ := List.any_eq_true.1 ht
    obtain ⟨j, hj, rfl⟩ := List.getElem_of_mem hp
    have := hk j _ hj (List.getElem?_eq_getElem hj)
    cases e : getS A L[j].1 <;> rw [e] at this hn
    · cases this
    · cases hn
  simp only [this, Bool.false_eq_true, if_false]
def Mi1 (w : World) (n0 g : Nat) (k : Int) (A : Stk) (L : Its) (j : Nat) (_ : Nat → Prop) (W : World) : Prop := QI w W n0 g k 0 ∧ ∀ (i : Nat) (p : Str × Int), i < j → L[i]? = some p → (getS A p.1).isSome = true
def Mx1 (w : World) (n0 g : Nat) (k : Int) (A : Stk) (L : Its) (c : Code) (_ : Nat) (_ : Nat → Prop) (W : World) : Prop := c = .ret ∧ doMay A k L = 71 ∧ QI w W n0 g k 71
def Mi2 (w : World) (n0 g D : Nat) (k : Int) (A : Stk) (L : Its) (i0 : Nat) (j : Nat) (_ : Nat → Prop) (W : World) : Prop := (QI w W n0 g k 0 ∧ W.heap[D]? = some (.deferred (some []))) ∧ ∀ (i : Nat) (p : Str × Int), i < j → L[i]? = some p → ¬ (rowAt A p.1).get i0 < p.2
def Mx2 (w : World) (n0 g D : Nat) (k : Int) (A : Stk) (L : Its) (c : Code) (_ : Nat) (_ : Nat → Prop) (W : World) : Prop := c = .ret ∧ doMay A k L = 51 ∧ QI w W n0 g k 51 ∧ W.heap[D]? = some (.deferred (some []))
theorem def_fa {B D : Nat} {W W' : World} (h : W.heap[D]? = some (.deferred (some []))) (hf : Fa B W W') (hD : D < B) : W'.heap[D]? = some (.deferred (some [])) :=
  hf.at_ h (fun e => by have := e.1; omega)
set_option maxRecDepth 100000 in
set_option maxHeartbeats 8000000 in
theorem sMay (w : World) (g : Nat) (TS : Nat → Prop) (A : Stk) (k : Int) (v : Value) (L : Its) (h : SA w g TS A) (hA : SOk A) (hv : Il w v L) :
    Calls Tryz.prog 72 #[.pointer (some ⟨g, 0, none⟩), .int .i64 k, v] w fun e w' => e = .returned (.int .i64 (doMay A k L)) ∧ Fr (fun _ => False) w w' := by
  obtain ⟨n0, hn0⟩ : ∃ n0, w.heap.size = n0 := ⟨_, rfl⟩
  have HS := Lib.hid hn0
  have HL := Lib.hid hv
  have hob := hv.lt
  have HOB := Lib.hid hob
  have hokl : Hid (∀ (j : Nat) (p : Str × Int), L[j]? = some p → okS p.1) := Lib.hid (fun j p hp => by obtain ⟨_, _, _, _, hx⟩ := hv; exact (hx j p hp).1)
  obtain ⟨a, c, rfl⟩ := hv.sl
  obtain ⟨N, hN⟩ : ∃ N, L.length = N := ⟨_, rfl⟩
  have HN := Lib.hid hN
  rw [hN] at HL HOB ⊢
  obtain ⟨m, hc, hm, hTm⟩ := h.cell
  have HC := Lib.hid hc; have HM := Lib.hid hm; have HAA := Lib.hid hA
  have HGL : Hid (g < w.heap.size) := Lib.hid (h.lt g h.own)
  have hroad := Lib.hid (fun W b => sRoad W b k)
  have hrl := roadF_lt k
  clear hv hob hN h hm hTm hc hA
  refine (callsIn_wide (n := 0)).1 ?_
  refine callsIn_of_wp_marks Tryz.func72 rfl trivial ?_ rfl
  simp only [Tryz.ntmps72, List.size_toArray, List.length_cons, List.length_nil, Nat.reduceAdd, Nat.reduceSub, Array.replicate_succ, Array.replicate_zero, List.push_toArray, List.append_toArray, List.nil_append, List.cons_append]
  have hfn : ∀ f, Fence.wide.fn f := fun _ => trivial
  have hdp : Fence.wide.depth.isSome = false := rfl
  have hI0 : QI w ((((w.alloc (.cells #[.pointer (some ⟨g, 0, none⟩)] 58)).alloc (.cells #[.int .i64 k] 3)).alloc (.cells #[.int .i64 0] 30)).alloc (.cells SR.zero.cs 121)) n0 g k 0 :=
    ⟨heap_keep (heap_keep (heap_keep (heap_at hn0.symm _) _) _) _, heap_keep (heap_keep (heap_at (by simp; omega) _) _) _, heap_keep (heap_at (by simp; omega) _) _, ((((Fr.refl _ w).alloc _).alloc _).alloc _).alloc _⟩
  have hs0 : ((((w.alloc (.cells #[.pointer (some ⟨g, 0, none⟩)] 58)).alloc (.cells #[.int .i64 k] 3)).alloc (.cells #[.int .i64 0] 30)).alloc (.cells SR.zero.cs 121)).heap.size = n0 + 4 := by simp; omega
  dsimp only [SR.cs, SR.zero] at hI0 hs0
  have HI0 := Lib.hid hI0; have HS0 := Lib.hid hs0
  clear hI0 hs0
  obtain ⟨⟨rf, rt, ro⟩, hR⟩ : ∃ R, roadF k = R := ⟨_, rfl⟩
  rw [hR] at hroad hrl
  dsimp only at hroad hrl
  have hrf : Hid (∀ i, rf = some i → (roadF k).1 = some i) := Lib.hid (fun i e => by rw [hR]; exact e)
  have hrn : Hid (rf = none → doMay A k L = 0) := Lib.hid (fun e => by unfold doMay; rw [hR, e])
  clear hR
  cases rf with
  | none =>
    have hz := Lib.hid (hrn.out rfl)
    gi_wp2_with (gi_at_call 74; refine (callsIn_wide.2 (hroad.out _ _)).mono ?_; rintro e w1 ⟨rfl, q, rfl⟩)
    have hc5 := cell_obj (HI0.out.keep ((Fr.refl _ _).drewN q)).e 0 (.int .i64 0) rfl
    refine ⟨.int .i64 0, by simp [results, Tryz.results72, go_sem, hc5], ?_, ?_⟩
    · rw [hz.out]
    · exact ((((((Fr.refl _ w).alloc _).alloc _).alloc _).alloc _).drewN _).setCell (p := ⟨n0 + 1 + 1, 0, none⟩) (fun h => by have := HS.out; have h : n0 + 1 + 1 < w.heap.size := h; omega) _
  | some i0 =>
    have hi4 := hrl.1 i0 rfl
    have hroadI := hrf.out i0 rfl
    have HRO := Lib.hid hroadI
    clear hrl hrn hrf hroadI
    gi_wp2_with (first
      | (gi_at_call 74; refine (callsIn_wide.2 (hroad.out _ _)).mono ?_; rintro e w1 ⟨rfl, q, rfl⟩)
      | (gi_at_call 58; refine (callsIn_wide.2 (iAll _ _ _ _)).mono ?_; rintro e w1 ⟨rfl, rfl⟩))
    have hI1 := HI0.out.keep (((Fr.refl (fun _ => False) _).drewN q).alloc (.cells #[.slice a N c] 27))
    have hB1 : Boxed (((((((w.alloc (.cells #[.pointer (some ⟨g, 0, none⟩)] 58)).alloc (.cells #[.int .i64 k] 3)).alloc (.cells #[.int .i64 0] 30)).alloc (.cells #[.int .i64 0, .int .i64 0, .int .i64 0, .int .i64 0, .int .i64 0, .int .i64 0, .int .i64 0, .int .i64 0, .int .i64 0, .int .i64 0, .int .i64 0] 121)).drewN q)).alloc (.cells #[.slice a N c] 27)) (n0 + 4) 27 (.slice a N c) := heap_at (by have := HS0.out; exact this.symm) _
    obtain ⟨W1, hW1⟩ : ∃ W1, (((((((w.alloc (.cells #[.pointer (some ⟨g, 0, none⟩)] 58)).alloc (.cells #[.int .i64 k] 3)).alloc (.cells #[.int .i64 0] 30)).alloc (.cells #[.int .i64 0, .int .i64 0, .int .i64 0, .int .i64 0, .int .i64 0, .int .i64 0, .int .i64 0, .int .i64 0, .int .i64 0, .int .i64 0, .int .i64 0] 121)).drewN q)).alloc (.cells #[.slice a N c] 27)) = W1 := ⟨_, rfl⟩
    have hs1 : W1.heap.size = n0 + 5 := by rw [← hW1]; simp; omega
    rw [hW1] at hI1 hB1 ⊢
    have hL1 := HL.out.fr hI1.fr (fun b hb => by omega)
    have HI1 := Lib.hid hI1; have HS1 := Lib.hid hs1
    clear hW1 hI1 HI0 HS0
    refine rangeX (w0 := W1) (X := L) (S := fun b => b = n0 + 1 + 1) rfl (enters_of Tryz.func95 (by kernel_rfl) rfl)
      (iAll1 _ W1 (n0 + 4) _ L hB1 hL1 (by omega) (fun hl b hb e => by have := HOB.out hl b e; omega)) (Below.refl _ _) (fun b hb => by omega) (fun _ => rfl)
      (Mi1 w n0 g k A L) (Mx1 w n0 g k A L)
      (fun k C W W' hs hf => ⟨hs.1.fa hf (by omega), hs.2⟩) (fun c k C W W' hs hf => ⟨hs.1, hs.2.1, hs.2.2.fa hf (by omega)⟩)
      ⟨HI1.out, fun i p hi => by omega⟩ ?round ?done ?stop
    case round =>
      rintro lp j x C W hx hlp hi hr
      dsimp only [encIt]
      gi_wp2
      refine Took.mk (Fr.refl _ _) hi ?_
      rintro Wb ⟨hQ, hkn⟩ hrb hf hsz hsw hCC _
      have hok := hokl.out j x hx
      obtain ⟨gd, n⟩ := x
      dsimp only at hok ⊢
      have cs := cell_obj hQ.s 0 (.pointer (some ⟨g, 0, none⟩)) rfl
      have ce := cell_obj hQ.e 0 (.int .i64 0) rfl
      have fe := obj_frozen hQ.e 0
      have cg := hQ.fr.cell HC.out (by have := HGL.out; show ¬ n0 ≤ g; omega)
      have hlk := mp_row_ok (hQ.fr.mp HM.out (by have := HM.out.lt; omega)) hok
      unfold SR.enc at hlk
      obtain ⟨R, hRR⟩ : ∃ R, rowAt A gd = R := ⟨_, rfl⟩
      rw [hRR] at hlk
      unfold SR.cs at hlk
      have HX := Lib.hid hx; have HQ := Lib.hid hQ; have HKN := Lib.hid hkn
      clear hi hr hf hrb hx hQ hkn hok hRR
      cases hg : getS A gd with
      | none =>
        rw [hg] at hlk
        dsimp only [Option.isSome] at hlk
        have hno := Lib.hid (doMay_71 HRO.out HX.out hg)
        have hQ2 := HQ.out.keep ((Fr.refl (fun _ => False) Wb).alloc (.cells #[.int .i64 R.free, .int .i64 R.held, .int .i64 R.picked, .int .i64 R.aside, .int .i64 R.received, .int .i64 R.returned, .int .i64 R.counted, .int .i64 R.came, .int .i64 R.shipped, .int .i64 R.scrapped, .int .i64 R.sent] 121))
        have ce2 := cell_obj hQ2.e 0 (.int .i64 0) rfl
        have fe2 := obj_frozen hQ2.e 0
        have HQ2 := Lib.hid hQ2
        clear hg ce fe hQ2
        gi_wp2_with fail
        refine ⟨((Fr.refl _ _).alloc _).setCell (p := ⟨n0 + 1 + 1, 0, none⟩) (fun _ => .inl rfl) _, rfl, hno.out, HQ2.out.put 71⟩
      | some r =>
        rw [hg] at hlk
        dsimp only [Option.isSome] at hlk
        have hyes : Hid (∀ (i : Nat) (p : Str × Int), i < j + 1 → L[i]? = some p → (getS A p.1).isSome = true) := Lib.hid (fun i p hi hp => by
          by_cases e : i = j
          · subst e
            rw [HX.out] at hp
            cases hp
            rw [hg]; rfl
          · exact HKN.out i p (by omega) hp)
        clear hg
        gi_wp2_with fail
        exact ⟨(Fr.refl _ _).alloc _, HQ.out.keep ((Fr.refl _ _).alloc _), hyes.out⟩
    case stop =>
      rintro D c j C W hD hk ⟨rfl, hno, hQ⟩ hr hK
      have HQ := Lib.hid hQ; have HNO := Lib.hid hno
      have hc5 := cell_obj (Fa.cells (frPut (B := n0) (.deferred none) (by omega) hK rfl) hQ.e) 0 (.int .i64 71) rfl
      clear hQ hno hr
      gi_wp2_with fail
      refine ⟨by simp, .inl ⟨_, _, rfl, run_takeDeferred hK, ?_⟩⟩
      refine ⟨.int .i64 71, by simp [results, Tryz.results72, go_sem, hc5], ?_, ?_⟩
      · rw [HNO.out]
      · exact (HQ.out.fr.putObj (l := D) (fun _ => by omega) _).mono (fun b hb e => by omega)
    case done =>
      rintro D C W hD ⟨hQ, hkn⟩ hr hK
      have HQ := Lib.hid hQ
      have hkn' := Lib.hid (doMay_known HRO.out hkn)
      have hDl := (Array.getElem?_eq_some_iff.1 hK).1
      clear hkn hQ hr hB1 hL1
      gi_wp2_with (gi_at_call 58; refine (callsIn_wide.2 (iAll _ _ _ _)).mono ?_; rintro e w2 ⟨rfl, rfl⟩)
      have hQ2 := HQ.out.keep ((Fr.refl (fun _ => False) W).alloc (.cells #[.slice a N c] 27))
      have hB2 := Boxed.new W 27 (.slice a N c)
      have hK2 := heap_keep hK (.cells #[.slice a N c] 27)
      obtain ⟨W2, hW2⟩ : ∃ W2, W.alloc (.cells #[.slice a N c] 27) = W2 := ⟨_, rfl⟩
      have hs2 : W2.heap.size = W.heap.size + 1 := by rw [← hW2]; simp
      rw [hW2] at hQ2 hB2 hK2 ⊢
      have hL2 := HL.out.fr hQ2.fr (fun b hb => by omega)
      have HQ2 := Lib.hid hQ2; have HK2 := Lib.hid hK2
      have hnD : n0 + 5 ≤ D := by have := HS1.out; omega
      clear hW2 hQ2 hK2 HQ hK
      refine rangeX (w0 := W2) (X := L) (S := fun b => b = n0 + 1 + 1) rfl (enters_of Tryz.func95 (by kernel_rfl) rfl)
        (iAll1 _ W2 _ _ L hB2 hL2 (by omega) (fun hl b hb e => by have := HOB.out hl b e; omega)) (Below.refl _ _) (fun b hb => by omega) (fun _ => rfl)
        (Mi2 w n0 g D k A L i0) (Mx2 w n0 g D k A L)
        (fun k C W W' hs hf => ⟨⟨hs.1.1.fa hf (by omega), def_fa hs.1.2 hf (by omega)⟩, hs.2⟩) (fun c k C W W' hs hf => ⟨hs.1, hs.2.1, hs.2.2.1.fa hf (by omega), def_fa hs.2.2.2 hf (by omega)⟩)
        ⟨⟨HQ2.out, HK2.out⟩, fun i p hi => by omega⟩ ?round2 ?done2 ?stop2
      case round2 =>
        rintro lp j x C3 W3 hx hlp hi hr
        dsimp only [encIt]
        gi_wp2
        refine Took.mk (Fr.refl _ _) hi ?_
        rintro Wb ⟨⟨hQ, hKb⟩, hkn⟩ hrb hf hsz hsw hCC _
        have hok := hokl.out j x hx
        obtain ⟨gd, n⟩ := x
        dsimp only at hok ⊢
        have cs := cell_obj hQ.s 0 (.pointer (some ⟨g, 0, none⟩)) rfl
        have ck := cell_obj (heap_keep hQ.k (.cells (rowAt A gd).cs 121)) 0 (.int .i64 k) rfl
        have cg := hQ.fr.cell HC.out (by have := HGL.out; show ¬ n0 ≤ g; omega)
        have hlk := mp_row (hQ.fr.mp HM.out (by have := HM.out.lt; omega)) hok
        have hcl := cell_obj (heap_new Wb (.cells (rowAt A gd).cs 121)) i0 _ ((rowAt A gd).cs_get (show i0 < 11 by omega))
        unfold SR.enc at hlk
        obtain ⟨R, hRR⟩ : ∃ R, rowAt A gd = R := ⟨_, rfl⟩
        rw [hRR] at hlk hcl ck
        obtain ⟨have_, hhv⟩ : ∃ x, R.get i0 = x := ⟨_, rfl⟩
        rw [hhv] at hcl
        have HHV : Hid ((rowAt A gd).get i0 = have_) := Lib.hid (by rw [hRR, hhv])
        unfold SR.cs at hlk hcl ck
        have hQ3 := HQ2.out
        have hQa := hQ.keep (((Fr.refl (fun _ => False) Wb).alloc (.cells #[.int .i64 R.free, .int .i64 R.held, .int .i64 R.picked, .int .i64 R.aside, .int .i64 R.received, .int .i64 R.returned, .int .i64 R.counted, .int .i64 R.came, .int .i64 R.shipped, .int .i64 R.scrapped, .int .i64 R.sent] 121)))
        have HX := Lib.hid hx; have HQ := Lib.hid hQ; have HQA := Lib.hid hQa; have HKN := Lib.hid hkn; have HKB := Lib.hid hKb
        clear hi hr hf hrb hx hQ hkn hok hRR hhv hQ3 hQa hKb
        by_cases hlt : have_ < n
        · have hno : Hid (doMay A k L = 51) := Lib.hid (by
            rw [hkn'.out, if_pos]
            exact List.any_eq_true.2 ⟨_, List.mem_of_getElem? HX.out, by rw [decide_eq_true_eq, HHV.out]; exact hlt⟩)
          have ce2 := cell_obj HQA.out.e 0 (.int .i64 0) rfl
          have fe2 := obj_frozen HQA.out.e 0
          gi_wp2_with (gi_at_call 74; refine (callsIn_wide.2 (hroad.out _ _)).mono ?_; rintro e w5 ⟨rfl, q5, rfl⟩)
          have hFq : Fr (fun b => b = n0 + 1 + 1) Wb (((Wb.alloc (.cells #[.int .i64 R.free, .int .i64 R.held, .int .i64 R.picked, .int .i64 R.aside, .int .i64 R.received, .int .i64 R.returned, .int .i64 R.counted, .int .i64 R.came, .int .i64 R.shipped, .int .i64 R.scrapped, .int .i64 R.sent] 121)).drewN q5).setCell ⟨n0 + 1 + 1, 0, none⟩ (.int .i64 51)) := (((Fr.refl (fun b => b = n0 + 1 + 1) Wb).alloc _).drewN _).setCell (p := ⟨n0 + 1 + 1, 0, none⟩) (fun _ => rfl) _
          exact ⟨hFq.mono (fun _ _ e => .inl e), rfl, hno.out, (HQA.out.keep ((Fr.refl _ _).drewN q5)).put 51, hFq.at_ HKB.out (by omega)⟩
        · have hyes : Hid (∀ (i : Nat) (p : Str × Int), i < j + 1 → L[i]? = some p → ¬ (rowAt A p.1).get i0 < p.2) := Lib.hid (fun i p hi hp => by
            by_cases e : i = j
            · subst e
              rw [HX.out] at hp
              cases hp
              rw [HHV.out]; exact hlt
            · exact HKN.out i p (by omega) hp)
          gi_wp2_with (gi_at_call 74; refine (callsIn_wide.2 (hroad.out _ _)).mono ?_; rintro e w5 ⟨rfl, q5, rfl⟩)
          exact ⟨((Fr.refl _ _).alloc _).drewN _, ⟨HQA.out.keep ((Fr.refl _ _).drewN q5), heap_keep HKB.out _⟩, fun i p hi hp => by have := hyes.out i p hi hp; omega⟩
      case stop2 =>
        rintro D2 c j C3 W3 hD2 hk ⟨rfl, hno, hQ, hK1⟩ hr hK
        have HQ := Lib.hid hQ; have HNO := Lib.hid hno
        have hK1' := (World.putObj_heap_other (w := W3) (r := D2) (o := .deferred none) (k := D) (by omega)).trans hK1
        have hFx : Fa n0 W3 ((W3.putObj D2 (.deferred none)).putObj D (.deferred none)) := (frPut (B := n0) (.deferred none) (by omega) hK rfl).trans' (frPut (B := n0) (.deferred none) (by omega) hK1' rfl) (fun b hb e => ⟨e.1, by
          obtain ⟨-, o, ho, hx⟩ := e
          by_cases hbD : b = D2
          · subst hbD; exact ⟨_, hK, rfl⟩
          · exact ⟨o, (World.putObj_heap_other hbD).symm.trans ho, hx⟩⟩)
        have hc5 := cell_obj (Fa.cells hFx hQ.e) 0 (.int .i64 51) rfl
        clear hQ hno hr
        gi_wp2_with fail
        refine ⟨by simp, .inl ⟨_, _, rfl, run_takeDeferred hK, ?_⟩⟩
        refine ⟨by simp, .inl ⟨_, _, rfl, run_takeDeferred hK1', ?_⟩⟩
        refine ⟨.int .i64 51, by simp [results, Tryz.results72, go_sem, hc5], ?_, ?_⟩
        · rw [HNO.out]
        · exact ((HQ.out.fr.putObj (l := D2) (fun _ => by omega) _).putObj (l := D) (fun _ => by omega) _).mono (fun b hb e => by omega)
      case done2 =>
        rintro D2 C3 W3 hD2 ⟨⟨hQ, hK1⟩, hkn⟩ hr hK
        have HQ := Lib.hid (hQ.put 0)
        have hz : Hid (doMay A k L = 0) := Lib.hid (by
          rw [hkn'.out, if_neg]
          intro ht
          obtain ⟨p, hp, hlt⟩ := List.any_eq_true.1 ht
          obtain ⟨i, hi, rfl⟩ := List.getElem_of_mem hp
          have := hkn i _ hi (List.getElem?_eq_getElem hi)
          simp only [decide_eq_true_eq] at hlt
          exact this hlt)
        have ce2 := cell_obj hQ.e 0 (.int .i64 0) rfl
        have fe2 := obj_frozen hQ.e 0
        have hKs := (Below.heap_setCell W3 ⟨n0 + 1 + 1, 0, none⟩ (.int .i64 0) D2 (by simp; omega)).trans hK
        have hK1s := (Below.heap_setCell W3 ⟨n0 + 1 + 1, 0, none⟩ (.int .i64 0) D (by simp; omega)).trans hK1
        have hK1' := (World.putObj_heap_other (w := W3.setCell ⟨n0 + 1 + 1, 0, none⟩ (.int .i64 0)) (r := D2) (o := .deferred none) (k := D) (by omega)).trans hK1s
        have hFx : Fa n0 (W3.setCell ⟨n0 + 1 + 1, 0, none⟩ (.int .i64 0)) (((W3.setCell ⟨n0 + 1 + 1, 0, none⟩ (.int .i64 0)).putObj D2 (.deferred none)).putObj D (.deferred none)) := (frPut (B := n0) (.deferred none) (by omega) hKs rfl).trans' (frPut (B := n0) (.deferred none) (by omega) hK1' rfl) (fun b hb e => ⟨e.1, by
          obtain ⟨-, o, ho, hx⟩ := e
          by_cases hbD : b = D2
          · subst hbD; exact ⟨_, hKs, rfl⟩
          · exact ⟨o, (World.putObj_heap_other hbD).symm.trans ho, hx⟩⟩)
        have hc5 := cell_obj (Fa.cells hFx (hQ.put 0).e) 0 (.int .i64 0) rfl
        clear hQ hkn hr hK hK1
        gi_wp2_with fail
        refine ⟨by simp, .inl ⟨_, _, rfl, run_takeDeferred hKs, ?_⟩⟩
        refine ⟨by simp, .inl ⟨_, _, rfl, run_takeDeferred hK1', ?_⟩⟩
        refine ⟨.int .i64 0, by simp [results, Tryz.results72, go_sem, hc5], ?_, ?_⟩
        · rw [hz.out]
        · exact ((HQ.out.fr.putObj (l := D2) (fun _ => by omega) _).putObj (l := D) (fun _ => by omega) _).mono (fun b hb e => by omega)
end Go.Proofs.YtogphlnakdnchaaGreat

namespace Go.Proofs.YtogphlnakdnchaaGreat
open Go.RowKit Go.Maps
attribute [local go_sem] Oper.semAt_some
theorem SR.get_ok {r : SR} (h : SRb r) {i : Nat} (hi : i < 11) (h6 : i ≠ 6) : 0 ≤ r.get i ∧ r.get i ≤ 72057594037927936 := by
  obtain ⟨a0, a1, a2, a3, b0, b1, b2, b3, b4, b5⟩ := h
  match i, hi, h6 with
  | 0, _, _ => exact ⟨a0.1, by have := a0.2; show r.free ≤ _; omega⟩
  | 1, _, _ => exact ⟨a1.1, by have := a1.2; show r.held ≤ _; omega⟩
  | 2, _, _ => exact ⟨a2.1, by have := a2.2; show r.picked ≤ _; omega⟩
  | 3, _, _ => exact ⟨a3.1, by have := a3.2; show r.aside ≤ _; omega⟩
  | 4, _, _ => exact b0
  | 5, _, _ => exact b1
  | 6, _, h => exact absurd rfl h
  | 7, _, _ => exact b2
  | 8, _, _ => exact b3
  | 9, _, _ => exact b4
  | 10, _, _ => exact b5
theorem SR.get_set (r : SR) (i j : Nat) (n : Int) (hi : i < 11) (hj : j < 11) : (r.set i n).get j = if i = j then n else r.get j := by
  have h : ∀ (i j : Fin 11), (r.set i.val n).get j.val = if i = j then n else r.get j.val := by
    intro i j
    match i, j with
    | ⟨i, hi⟩, ⟨j, hj⟩ =>
      match i, hi, j, hj with
      | 0, _, j, hj => match j, hj with | 0, _ | 1, _ | 2, _ | 3, _ | 4, _ | 5, _ | 6, _ | 7, _ | 8, _ | 9, _ | 10, _ => rfl
      | 1, _, j, hj => match j, hj with | 0, _ | 1, _ | 2, _ | 3, _ | 4, _ | 5, _ | 6, _ | 7, _ | 8, _ | 9, _ | 10, _ => rfl
      | 2, _, j, hj => match j, hj with | 0, _ | 1, _ | 2, _ | 3, _ | 4, _ | 5, _ | 6, _ | 7, _ | 8, _ | 9, _ | 10, _ => rfl
      | 3, _, j, hj => match j, hj with | 0, _ | 1, _ | 2, _ | 3, _ | 4, _ | 5, _ | 6, _ | 7, _ | 8, _ | 9, _ | 10, _ => rfl
      | 4, _, j, hj => match j, hj with | 0, _ | 1, _ | 2, _ | 3, _ | 4, _ | 5, _ | 6, _ | 7, _ | 8, _ | 9, _ | 10, _ => rfl
      | 5, _, j, hj => match j, hj with | 0, _ | 1, _ | 2, _ | 3, _ | 4, _ | 5, _ | 6, _ | 7, _ | 8, _ | 9, _ | 10, _ => rfl
      | 6, _, j, hj => match j, hj with | 0, _ | 1, _ | 2, _ | 3, _ | 4, _ | 5, _ | 6, _ | 7, _ | 8, _ | 9, _ | 10, _ => rfl
      | 7, _, j, hj => match j, hj with | 0, _ | 1, _ | 2, _ | 3, _ | 4, _ | 5, _ | 6, _ | 7, _ | 8, _ | 9, _ | 10, _ => rfl
      | 8, _, j, hj => match j, hj with | 0, _ | 1, _ | 2, _ | 3, _ | 4, _ | 5, _ | 6, _ | 7, _ | 8, _ | 9, _ | 10, _ => rfl
      | 9, _, j, hj => match j, hj with | 0, _ | 1, _ | 2, _ | 3, _ | 4, _ | 5, _ | 6, _ | 7, _ | 8, _ | 9, _ | 10, _ => rfl
      | 10, _, j, hj => match j, hj with | 0, _ | 1, _ | 2, _ | 3, _ | 4, _ | 5, _ | 6, _ | 7, _ | 8, _ | 9, _ | 10, _ => rfl
  have := h ⟨i, hi⟩ ⟨j, hj⟩
  simpa [Fin.ext_iff] using this
/-- What the three additions need: nothing wraps. -/
theorem SR.adds {r : SR} (h : SRb r) {k n : Int} (hn : 0 ≤ n ∧ n ≤ 1099511627776) :
    (∀ i, (roadF k).1 = some i → i < 11 ∧ okI (r.get i + -n)) ∧ (∀ i, (roadF k).2.1 = some i → i < 11 ∧ okI ((r.add (roadF k).1 (-n)).get i + n)) ∧
    (∀ i, (roadF k).2.2 = some i → i < 11 ∧ okI (((r.add (roadF k).1 (-n)).add (roadF k).2.1 n).get i + n)) := by
  obtain ⟨h1, h2, h3⟩ := roadF_lt k
  have key : ∀ (o : Option Nat) (d : Int) (i : Nat) (s : SR), (∀ j, o = some j → j < 11) → i < 11 → -1099511627776 ≤ d → d ≤ 1099511627776 → s.get i - 1099511627776 ≤ (s.add o d).get i ∧ (s.add o d).get i ≤ s.get i + 1099511627776 := by
    intro o d i s ho hi d0 d1
    cases o with
    | none => exact ⟨by show s.get i - _ ≤ s.get i; omega, by show s.get i ≤ _; omega⟩
    | some j =>
      show s.get i - _ ≤ (s.set j (s.get j + d)).get i ∧ (s.set j (s.get j + d)).get i ≤ _
      rw [SR.get_set _ _ _ _ (ho j rfl) hi]
      by_cases e : j = i
      · subst e; rw [if_pos rfl]; omega
      · rw [if_neg e]; omega
  obtain ⟨n0, n1⟩ := hn
  refine ⟨fun i hi => ?_, fun i hi => ?_, fun i hi => ?_⟩
  · have := h1 i hi
    have := SR.get_ok h (i := i) (by omega) (by omega)
    exact ⟨by omega, by unfold okI; omega⟩
  · have := h2 i hi
    have h0 := SR.get_ok h (i := i) (by omega) (by omega)
    have := key (roadF k).1 (-n) i r (fun j hj => by have := h1 j hj; omega) (by omega) (by omega) (by omega)
    exact ⟨by omega, by unfold okI; omega⟩
  · have := h3 i hi
    have h0 := SR.get_ok h (i := i) (by omega) (by omega)
    have h4 := key (roadF k).1 (-n) i r (fun j hj => by have := h1 j hj; omega) (by omega) (by omega) (by omega)
    have h5 := key (roadF k).2.1 n i (r.add (roadF k).1 (-n)) (fun j hj => by have := h2 j hj; omega) (by omega) (by omega) (by omega)
    exact ⟨by omega, by unfold okI; omega⟩
theorem doFold_cons (k : Int) (B : Stk) (p : Str × Int) (r : Its) : doFold k B (p :: r) = if ((rowAt B p.1).move k p.2).right = true then doFold k (putS ktS.lt B p.1 ((rowAt B p.1).move k p.2)) r else none := rfl
theorem right_b {r : SR} (h : r.right = true) : SRb r := by
  unfold SR.right at h
  rw [Bool.and_eq_true, SR.each_iff] at h
  exact h.1
theorem rowAt_b {B : Stk} (h : ∀ p ∈ B, SRb p.2) (g : Str) : SRb (rowAt B g) := by
  show SRb ((getS B g).getD SR.zero)
  cases e : getS B g with
  | none => exact SRok.zero.b
  | some v => exact h _ (getS_memS e)
/-- What Do keeps on its way. -/
structure DoI (w0 W : World) (n0 nb mb : Nat) (k e : Int) (B : Stk) : Prop where
  k : W.heap[n0]? = some (.cells #[.int .i64 k] 3)
  e : W.heap[n0 + 1]? = some (.cells #[.int .i64 e] 30)
  nx : W.heap[nb]? = some (.cells #[.map (some mb)] 100)
  map : Mp Tryz.prog W 9 ktS SR.enc mb B
  rows : ∀ p ∈ B, SRb p.2
  fr : Fr (fun b => n0 ≤ b) w0 W
  hn : n0 + 1 < nb ∧ n0 + 1 < mb ∧ nb ≠ mb
section
variable {w0 W W' : World} {n0 nb mb : Nat} {k e : Int} {B : Stk}
theorem DoI.fa {C : Nat} (h : DoI w0 W n0 nb mb k e B) (hf : Fa C W W') (hB : w0.heap.size ≤ C) : DoI w0 W' n0 nb mb k e B :=
  ⟨Fa.cells hf h.k, Fa.cells hf h.e, Fa.cells hf h.nx, Fa.mp hf h.map, h.rows, h.fr.trans' hf (fun b hb e => by have := e.1; omega), h.hn⟩
theorem DoI.keep (h : DoI w0 W n0 nb mb k e B) (hf : Fr (fun _ => False) W W') : DoI w0 W' n0 nb mb k e B :=
  ⟨hf.at_ h.k (fun h => h), hf.at_ h.e (fun h => h), hf.at_ h.nx (fun h => h), hf.mp h.map (fun h => h), h.rows, h.fr.trans' hf (fun _ _ e => e.elim), h.hn⟩
theorem DoI.side {S : Nat → Prop} (h : DoI w0 W n0 nb mb k e B) (hf : Fr S W W') (hS : ∀ b, S b → W.heap.size ≤ b) : DoI w0 W' n0 nb mb k e B := by
  have l1 := (Array.getElem?_eq_some_iff.1 h.k).1
  have l2 := (Array.getElem?_eq_some_iff.1 h.e).1
  have l3 := (Array.getElem?_eq_some_iff.1 h.nx).1
  have l4 := h.map.lt
  exact ⟨hf.at_ h.k (fun e => by have := hS _ e; omega), hf.at_ h.e (fun e => by have := hS _ e; omega), hf.at_ h.nx (fun e => by have := hS _ e; omega), hf.mp h.map (fun e => by have := hS _ e; omega), h.rows, h.fr.trans' hf (fun b _ e => by have := hS _ e; have := h.fr.size; omega), h.hn⟩
theorem DoI.put (h : DoI w0 W n0 nb mb k e B) (e' : Int) : DoI w0 (W.setCell ⟨n0 + 1, 0, none⟩ (.int .i64 e')) n0 nb mb k e' B := by
  have hF : Fr (fun b => b = n0 + 1) W (W.setCell ⟨n0 + 1, 0, none⟩ (.int .i64 e')) := (Fr.refl (fun b => b = n0 + 1) W).setCell (p := ⟨n0 + 1, 0, none⟩) (fun _ => rfl) _
  have := h.hn
  exact ⟨hF.at_ h.k (by omega), obj_set h.e 0 _, hF.at_ h.nx (by omega), hF.mp h.map (by omega), h.rows, h.fr.trans' hF (fun b _ e => by omega), h.hn⟩
theorem DoI.turn {s : Str} {r : SR} (h : DoI w0 W n0 nb mb k e B) (ht : W.mapTurned W' mb) (hm : Mp Tryz.prog W' 9 ktS SR.enc mb (putS ktS.lt B s r)) (hr : SRb r) : DoI w0 W' n0 nb mb k e (putS ktS.lt B s r) := by
  have hF : Fr (fun b => b = mb) W W' := Fr.turned ht rfl
  have := h.hn
  refine ⟨hF.at_ h.k (by omega), hF.at_ h.e (by omega), hF.at_ h.nx this.2.2, hm, fun p hp => ?_, h.fr.trans' hF (fun b _ e => by omega), h.hn⟩
  rcases mem_putK.1 hp with rfl | ⟨hp3, -⟩
  · exact hr
  · exact h.rows p hp3
end
end Go.Proofs.YtogphlnakdnchaaGreat

namespace Go.Proofs.YtogphlnakdnchaaGreat
open Go.RowKit Go.Maps
attribute [local go_sem] Oper.semAt_some
theorem itsOk_pos : ∀ {L : Its} {last : Str}, itsOk last L = true → ∀ p ∈ L, goodB p.1 = true ∧ 1 ≤ p.2 ∧ p.2 ≤ 1099511627776
  | [], _, _, p, hp => by cases hp
  | q :: r, last, h, p, hp => by
    rw [itsOk_cons] at h
    simp only [Bool.and_eq_true, decide_eq_true_eq, mayI_iff] at h
    rcases List.mem_cons.1 hp with rfl | hp
    · exact ⟨h.1.1.1.1, h.1.1.1.2, h.1.1.2.2⟩
    · exact itsOk_pos h.2 p hp
theorem mayL_pos {L : Its} (h : mayL L = true) : ∀ p ∈ L, 0 ≤ p.2 ∧ p.2 ≤ 1099511627776 := fun p hp => by
  unfold mayL at h
  rw [Bool.and_eq_true] at h
  have := itsOk_pos h.1 p hp
  omega
def DoJ (w : World) (n0 nb mb : Nat) (k : Int) (A : Stk) (L : Its) (j : Nat) (_ : Nat → Prop) (W : World) : Prop := ∃ B, DoI w W n0 nb mb k 0 B ∧ doFold k A L = doFold k B (L.drop j) ∧ B.length ≤ A.length + j
def DoX (w : World) (n0 nb mb : Nat) (k : Int) (A : Stk) (L : Its) (c : Code) (_ : Nat) (_ : Nat → Prop) (W : World) : Prop := c = .ret ∧ doFold k A L = none ∧ ∃ B, DoI w W n0 nb mb k 50 B
set_option maxRecDepth 100000 in
set_option maxHeartbeats 16000000 in
theorem sDo (w : World) (g : Nat) (TS : Nat → Prop) (A : Stk) (k : Int) (v : Value) (L : Its) (h : SA w g TS A) (hA : SOk A) (hv : Il w v L) :
    Calls Tryz.prog 31 #[.pointer (some ⟨g, 0, none⟩), .int .i64 k, v] w fun e w' => e = .returned (.int .i64 (doS A k L).1) ∧ ∃ TS', SA w' g TS' (doS A k L).2 ∧ Stp TS w w' TS' := by
  obtain ⟨n0, hn0⟩ : ∃ n0, w.heap.size = n0 := ⟨_, rfl⟩
  have HS := Lib.hid hn0
  have HL := Lib.hid hv
  have hob := hv.lt
  have HOB := Lib.hid hob
  have hokl : Hid (∀ (j : Nat) (p : Str × Int), L[j]? = some p → okS p.1) := Lib.hid (fun j p hp => by obtain ⟨_, _, _, _, hx⟩ := hv; exact (hx j p hp).1)
  obtain ⟨a, c, rfl⟩ := hv.sl
  obtain ⟨N, hN⟩ : ∃ N, L.length = N := ⟨_, rfl⟩
  have HN := Lib.hid hN
  rw [hN] at HL HOB ⊢
  have HSA := Lib.hid h
  have HAA := Lib.hid hA
  have HGL : Hid (g < w.heap.size) := Lib.hid (h.lt g h.own)
  obtain ⟨m, hc, hm, hTm⟩ := h.cell
  have HC := Lib.hid hc; have HM := Lib.hid hm
  have hmd := Lib.hid (fun W (hW : W.cell? ⟨g, 0, none⟩ = some (.map (some m))) => smade W g m hW)
  clear hv hob hN h hm hTm hA
  refine (callsIn_wide (n := 0)).1 ?_
  refine callsIn_of_wp_marks Tryz.func31 rfl trivial ?_ rfl
  simp only [Tryz.ntmps31, List.size_toArray, List.length_cons, List.length_nil, Nat.reduceAdd, Nat.reduceSub, Array.replicate_succ, Array.replicate_zero, List.push_toArray, List.append_toArray, List.nil_append, List.cons_append]
  have hfn : ∀ f, Fence.wide.fn f := fun _ => trivial
  have hdp : Fence.wide.depth.isSome = false := rfl
  obtain ⟨W0, hW0⟩ : ∃ W0, (w.alloc (.cells #[.int .i64 k] 3)).alloc (.cells #[.int .i64 0] 30) = W0 := ⟨_, rfl⟩
  have hF0 : Fr (fun _ => False) w W0 := by rw [← hW0]; exact ((Fr.refl _ w).alloc _).alloc _
  have hs0 : W0.heap.size = n0 + 2 := by rw [← hW0]; simp; omega
  have hk0 : W0.heap[n0]? = some (.cells #[.int .i64 k] 3) := by rw [← hW0]; exact heap_keep (heap_at hn0.symm _) _
  have he0 : W0.heap[n0 + 1]? = some (.cells #[.int .i64 0] 30) := by rw [← hW0]; exact heap_at (by simp; omega) _
  have HF0 := Lib.hid hF0; have HS0 := Lib.hid hs0; have HK0 := Lib.hid hk0; have HE0 := Lib.hid he0; have HW0 := Lib.hid hW0
  have hcg0 : W0.cell? ⟨g, 0, none⟩ = some (.map (some m)) := hF0.cell hc (fun h => h)
  have hckk := cell_obj hk0 0 (.int .i64 k) rfl
  have hcee := cell_obj he0 0 (.int .i64 0) rfl
  have hfee := obj_frozen he0 0
  clear hF0 hs0 hk0 he0 hc
  have hrefuse : ∀ W x, Fr (fun _ => False) w W → ∃ TS', SA (W.setCell ⟨n0 + 1, 0, none⟩ (.int .i64 x)) g TS' A ∧ Stp TS w (W.setCell ⟨n0 + 1, 0, none⟩ (.int .i64 x)) TS' := fun W x hf => by
    have hF' : Fr (fun _ => False) w (W.setCell ⟨n0 + 1, 0, none⟩ (.int .i64 x)) := hf.setCell (p := ⟨n0 + 1, 0, none⟩) (fun h => by have := HS.out; have h : n0 + 1 < w.heap.size := h; omega) _
    exact ⟨TS, HSA.out.fr hF' (fun _ _ h => h), Stp.refl hF'⟩
  have HRF := Lib.hid hrefuse
  have hmdc := Lib.hid (fun W (hW : W.cell? ⟨g, 0, none⟩ = some (.map (some m))) => (callsIn_wide (n := 0)).2 (hmd.out W hW))
  clear hrefuse hmd
  by_cases hkr : k < 1 ∨ 11 < k
  · have hd : Hid (doS A k L = (1, A)) := Lib.hid (by unfold doS; rw [if_pos hkr])
    have hres := cell_obj (obj_set HE0.out 0 (.int .i64 1)) 0 (.int .i64 1) rfl
    rcases (by omega : k < 1 ∨ (1 ≤ k ∧ 11 < k)) with h1 | ⟨h1, h2⟩
    all_goals
      gi_wp2_with (gi_at_call 69; refine (hmdc.out _ hcg0).mono ?_; rintro e w1 ⟨rfl, rfl⟩)
      refine ⟨.int .i64 1, by simp [results, Tryz.results31, go_sem, hres], ?_, ?_⟩
      · rw [hd.out]
      · rw [hd.out]; exact HRF.out _ _ HF0.out
  · have hk1 : 1 ≤ k := by omega
    have hk2 : k ≤ 11 := by omega
    have hL0 := HL.out.fr HF0.out (fun b hb => hb.elim)
    have hIM := Lib.hid (iMay W0 (.slice a N c) L hL0)
    clear hL0
    cases hml : mayL L with
    | false =>
      have hd : Hid (doS A k L = (60, A)) := Lib.hid (by unfold doS; rw [if_neg hkr, if_pos hml])
      rw [hml] at hIM
      clear hkr hml
      gi_wp2_with (first
        | (gi_at_call 69; refine (hmdc.out _ hcg0).mono ?_; rintro e w1 ⟨rfl, rfl⟩)
        | (gi_at_call 28; refine (callsIn_wide.2 hIM.out).mono ?_; rintro e w2 ⟨rfl, hf2⟩; have hE2 := Lib.hid (hf2.at_ HE0.out (fun h => h)); have ce2 := cell_obj hE2.out 0 (.int .i64 0) rfl; have fe2 := obj_frozen hE2.out 0; have HF2 := Lib.hid (HF0.out.trans hf2); clear hf2))
      have hres := cell_obj (obj_set hE2.out 0 (.int .i64 60)) 0 (.int .i64 60) rfl
      refine ⟨.int .i64 60, by simp [results, Tryz.results31, go_sem, hres], ?_, ?_⟩
      · rw [hd.out]
      · rw [hd.out]; exact HRF.out _ _ HF2.out
    | true =>
      rw [hml] at hIM
      have hpos : Hid (∀ p ∈ L, 0 ≤ p.2 ∧ p.2 ≤ 1099511627776) := Lib.hid (mayL_pos hml)
      have h16 : Hid (L.length ≤ 16) := Lib.hid (by unfold mayL at hml; simp at hml; exact hml.2)
      have hSM : Hid (∀ W, Fr (fun _ => False) w W → Calls Tryz.prog 72 #[.pointer (some ⟨g, 0, none⟩), .int .i64 k, .slice a N c] W fun e w' => e = .returned (.int .i64 (doMay A k L)) ∧ Fr (fun _ => False) W w') := Lib.hid (fun W hf =>
        sMay W g TS A k (.slice a N c) L (HSA.out.fr hf (fun _ _ h => h)) HAA.out (HL.out.fr hf (fun b hb => hb.elim)))
      obtain ⟨x, hx⟩ : ∃ x, doMay A k L = x := ⟨_, rfl⟩
      rw [hx] at hSM
      by_cases hx0 : x = 0
      · subst hx0
        have hd : Hid (doS A k L = (match doFold k A L with | none => (50, A) | some B => if 64 < B.length then (2, A) else (0, B))) := Lib.hid (by
          unfold doS
          rw [if_neg hkr, if_neg (by rw [hml]; decide), if_neg (by rw [hx]; simp)]
          cases doFold k A L <;> rfl)
        clear hkr hml hx
        gi_wp2_with (first
          | (gi_at_call 69; refine (hmdc.out _ hcg0).mono ?_; rintro e w1 ⟨rfl, rfl⟩)
          | (gi_at_call 28; refine (callsIn_wide.2 hIM.out).mono ?_; rintro e w2 ⟨rfl, hf2⟩; have HF2 := Lib.hid (HF0.out.trans hf2); have hck2 := cell_obj (hf2.at_ HK0.out (fun h => h)) 0 (.int .i64 k) rfl; have HX2 := Lib.hid hf2; clear hf2)
          | (gi_at_call 72; refine (callsIn_wide.2 (hSM.out _ HF2.out)).mono ?_; rintro e w3 ⟨rfl, hf3⟩; have HF3 := Lib.hid (HF2.out.trans hf3); have hcg3 := HF3.out.cell HC.out (fun h => h); have HX3 := Lib.hid (HX2.out.trans hf3); clear hf3))
        refine (callsIn_wide.2 (sClone w3 m A (HF3.out.mp HM.out (fun h => h)))).mono ?_
        rintro e w4 ⟨rfl, hm4, hB4⟩
        obtain ⟨mb, hmb⟩ : ∃ mb, w3.heap.size = mb := ⟨_, rfl⟩
        rw [hmb] at hm4
        have hF4 := HF3.out.trans (Fr.below hB4)
        have hX4 := HX3.out.trans (Fr.below (S := fun _ => False) hB4)
        have hsz3 := HX3.out.size
        have hsz4 := hB4.size
        have hs4 : mb < w4.heap.size := hm4.lt
        rw [HS0.out, hmb] at hsz3
        rw [hmb] at hsz4
        have hI4 : DoI w ((w4.alloc (.cells #[.map (some mb)] 100)).alloc (.cells #[.slice a N c] 27)) n0 w4.heap.size mb k 0 A :=
          ⟨heap_keep (heap_keep (hX4.at_ HK0.out (fun h => h)) _) _, heap_keep (heap_keep (hX4.at_ HE0.out (fun h => h)) _) _, heap_keep (heap_new _ _) _, (hm4.alloc _).alloc _, fun p hp => (HAA.out.row p hp).b, ((hF4.mono (fun _ _ h => h.elim)).alloc _).alloc _, by omega, by omega, by omega⟩
        have hBx : Boxed ((w4.alloc (.cells #[.map (some mb)] 100)).alloc (.cells #[.slice a N c] 27)) (w4.heap.size + 1) 27 (.slice a N c) := heap_at (by simp) _
        have HI4 := Lib.hid hI4; have HBX := Lib.hid hBx
        rw [hmb]
        clear hmb hm4 hB4 hF4 hX4 hI4 hBx hck2 hcg3 HX2 HX3 HF2 HF3 hIM hSM
        gi_wp2_with (gi_at_call 58; refine (callsIn_wide.2 (iAll _ _ _ _)).mono ?_; rintro e w5 ⟨rfl, rfl⟩)
        obtain ⟨nb, hnb⟩ : ∃ nb, w4.heap.size = nb := ⟨_, rfl⟩
        obtain ⟨W5, hW5⟩ : ∃ W5, (w4.alloc (.cells #[.map (some mb)] 100)).alloc (.cells #[.slice a N c] 27) = W5 := ⟨_, rfl⟩
        have hs5 : W5.heap.size = nb + 2 := by rw [← hW5]; simp; omega
        rw [hW5, hnb] at HI4 HBX
        rw [hW5]
        simp only [hnb]
        rw [hnb] at hs4 hsz4
        have hL5 := HL.out.fr HI4.out.fr (fun b hb => by omega)
        clear hW5 hnb
        refine rangeX (w0 := W5) (X := L) (S := fun b => b = n0 + 1 ∨ b = mb) rfl (enters_of Tryz.func95 (by kernel_rfl) rfl)
          (iAll1 _ W5 _ _ L HBX.out hL5 (by omega) (fun hl b hb e => by have := HOB.out hl b e; omega)) (Below.refl _ _) (fun b hb => by omega) (fun _ => rfl)
          (DoJ w n0 nb mb k A L) (DoX w n0 nb mb k A L)
          (fun k C W W' hs hf => by obtain ⟨B, h1, h2⟩ := hs; exact ⟨B, h1.fa hf (by omega), h2⟩) (fun c k C W W' hs hf => by obtain ⟨e, e2, B, h1⟩ := hs; exact ⟨e, e2, B, h1.fa hf (by omega)⟩)
          ⟨A, HI4.out, rfl, by omega⟩ ?round ?done ?stop
        case round =>
          rintro lp j x C W hx hlp hi hr
          dsimp only [encIt]
          gi_wp2
          refine Took.mk (Fr.refl _ _) hi ?_
          rintro Wb ⟨B, hI, hrest, hBl⟩ hrb hf hsz hsw hCC _
          have hdr : L.drop j = x :: L.drop (j + 1) := List.drop_eq_getElem?_toList_append |>.trans (by rw [hx]; rfl)
          rw [hdr, doFold_cons] at hrest
          have hok := hokl.out j x hx
          have hpos := hpos.out x (List.mem_of_getElem? hx)
          obtain ⟨gd, n⟩ := x
          dsimp only at hok hrest hpos ⊢
          have cnx := cell_obj hI.nx 0 (.map (some mb)) rfl
          have hlk := mp_row hI.map hok
          have hRb := rowAt_b hI.rows gd
          obtain ⟨R, hRR⟩ : ∃ R, rowAt B gd = R := ⟨_, rfl⟩
          rw [hRR] at hlk hRb hrest
          have hadd := SR.adds (k := k) hRb hpos
          obtain ⟨ad1, ad2, ad3⟩ := hadd
          unfold SR.enc SR.cs at hlk
          have hnn : IntKind.i64.wrap (-n) = -n := by rw [IntKind.wrap_i64]; omega
          have hIa := hI.keep ((Fr.refl (fun _ => False) Wb).alloc (.cells R.cs 121))
          have hra : RowAt (Wb.alloc (.cells R.cs 121)) Wb.heap.size R := heap_new _ _
          have hcka := cell_obj hIa.k 0 (.int .i64 k) rfl
          unfold SR.cs at hIa hra hcka
          obtain ⟨rb, hrb⟩ : ∃ rb, Wb.heap.size = rb := ⟨_, rfl⟩
          have HI := Lib.hid hI; have HIA := Lib.hid hIa; have HRA := Lib.hid hra; have HREST := Lib.hid hrest; have HBL := Lib.hid hBl; have HRB := Lib.hid hrb; have AD1 := Lib.hid ad1; have AD2 := Lib.hid ad2; have AD3 := Lib.hid ad3
          have hokh := Lib.hid hok; have HXX := Lib.hid hx
          clear hi hr hf hrb hdr hrest hok hI hIa hra hBl ad1 ad2 ad3 hRb hRR hx
          obtain ⟨⟨rf, rt, ro⟩, hR3⟩ : ∃ R, roadF k = R := ⟨_, rfl⟩
          have hroad := Lib.hid (fun W b => sRoad W b k)
          have hmv : Hid (R.move k n = ((R.add rf (-n)).add rt n).add ro n) := Lib.hid (by unfold SR.move; rw [hR3])
          rw [hR3] at AD1 AD2 AD3 hroad
          dsimp only at AD1 AD2 AD3 hroad
          clear hR3 hsz hsw hCC hlp hpos
          gi_wp2_with (gi_at_call 74; refine (callsIn_wide.2 (hroad.out _ _)).mono ?_; rintro e w6 ⟨rfl, q, rfl⟩)
          refine (callsIn_wide.2 (sAdd _ _ R rf (-n) (by exact HRA.out) AD1.out)).mono ?_
          rintro e w7 ⟨⟨v7, rfl⟩, hr7, hf7⟩
          have HR7 := Lib.hid hr7
          have HF7 := Lib.hid ((((Fr.refl (fun b => b = Wb.heap.size) Wb).alloc _).drewN q).trans' hf7 (fun b _ e => e))
          clear hr7 hf7 hcka cnx hlk
          gi_wp2_with fail
          refine (callsIn_wide.2 (sAdd w7 _ _ rt n HR7.out AD2.out)).mono ?_
          rintro e w8 ⟨⟨v8, rfl⟩, hr8, hf8⟩
          have HR8 := Lib.hid hr8
          have HF8 := Lib.hid (HF7.out.trans' hf8 (fun b _ e => e))
          clear hr8 hf8
          gi_wp2_with fail
          refine (callsIn_wide.2 (sAdd w8 _ _ ro n HR8.out AD3.out)).mono ?_
          rintro e w9 ⟨⟨v9, rfl⟩, hr9, hf9⟩
          rw [← hmv.out] at hr9
          have HF9 := Lib.hid (HF8.out.trans' hf9 (fun b _ e => e))
          obtain ⟨M, hM⟩ : ∃ M, R.move k n = M := ⟨_, rfl⟩
          rw [hM] at hr9 HREST
          have HR9 := Lib.hid hr9
          clear hr9 hf9 hM hmv HR7 HR8 HF7 HF8
          gi_wp2_with fail
          refine (callsIn_wide.2 (sRight w9 _ M HR9.out)).mono ?_
          rintro e w10 ⟨rfl, hf10⟩
          have HF10 := Lib.hid (HF9.out.trans' hf10 (fun b _ e => e.elim))
          have hr10 := hf10.at_ HR9.out (fun h => h)
          have hI10 := HI.out.side HF10.out (fun b e => by omega)
          have ce10 := cell_obj hI10.e 0 (.int .i64 0) rfl
          have fe10 := obj_frozen hI10.e 0
          have HI10 := Lib.hid hI10
          have hn' := hI10.hn
          cases hMr : M.right with
          | false =>
            have hno : Hid (doFold k A L = none) := Lib.hid (by rw [HREST.out, if_neg (by rw [hMr]; decide)])
            clear hf10 hr10 hI10 hMr
            gi_wp2_with fail
            exact ⟨((HF10.out.mono (S' := fun b => b = n0 + 1 ∨ b = Wb.heap.size) (fun _ _ e => .inr e)).setCell (p := ⟨n0 + 1, 0, none⟩) (fun _ => .inl rfl) _).mono (fun b hb e => e.elim (fun e => .inl (.inl e)) (fun e => by omega)), rfl, hno.out, B, HI10.out.put 50⟩
          | true =>
            have hyes : Hid (doFold k A L = doFold k (putS ktS.lt B gd M) (L.drop (j + 1))) := Lib.hid (by rw [HREST.out, if_pos hMr])
            have hMb := Lib.hid (right_b hMr)
            have e0 := cell_obj hr10 0 (.int .i64 M.free) rfl
            have e1 := cell_obj hr10 1 (.int .i64 M.held) rfl
            have e2 := cell_obj hr10 2 (.int .i64 M.picked) rfl
            have e3 := cell_obj hr10 3 (.int .i64 M.aside) rfl
            have e4 := cell_obj hr10 4 (.int .i64 M.received) rfl
            have e5 := cell_obj hr10 5 (.int .i64 M.returned) rfl
            have e6 := cell_obj hr10 6 (.int .i64 M.counted) rfl
            have e7 := cell_obj hr10 7 (.int .i64 M.came) rfl
            have e8 := cell_obj hr10 8 (.int .i64 M.shipped) rfl
            have e9 := cell_obj hr10 9 (.int .i64 M.scrapped) rfl
            have e10 := cell_obj hr10 10 (.int .i64 M.sent) rfl
            have cnx := cell_obj hI10.nx 0 (.map (some mb)) rfl
            obtain ⟨w11, hst, hm11, ht11⟩ := hI10.map.store kS Tryz.underlying100 (by have := HBL.out; have := HAA.out.len; have := (List.getElem?_eq_some_iff.1 HXX.out).1; have := h16.out; omega) hokh.out M
            have hst : (Instr.mapUpdate 100 (.map (some mb)) (vS gd) (.agg #[.int .i64 M.free, .int .i64 M.held, .int .i64 M.picked, .int .i64 M.aside, .int .i64 M.received, .int .i64 M.returned, .int .i64 M.counted, .int .i64 M.came, .int .i64 M.shipped, .int .i64 M.scrapped, .int .i64 M.sent])).run Tryz.prog w10 = .ok () w11 := hst
            have HI11 := Lib.hid (hI10.turn ht11 hm11 hMb.out)
            have HT11 := Lib.hid ht11
            clear hf10 hr10 hI10 hMr hm11 ht11 ce10 fe10
            gi_wp2_with fail
            refine ⟨(HF10.out.mono (fun b hb e => by omega)).trans' (Fr.turned (S := fun b => b = mb) HT11.out rfl) (fun b _ e => .inl (.inr e)), _, HI11.out, hyes.out, ?_⟩
            have := putK_len ktS.lt B gd M
            have := HBL.out
            omega
        case stop =>
          rintro D c j C W hD hk ⟨rfl, hno, B, hI⟩ hr hK
          have hc5 := cell_obj (Fa.cells (frPut (B := n0) (.deferred none) (by omega) hK rfl) hI.e) 0 (.int .i64 50) rfl
          have hd2 : Hid (doS A k L = (50, A)) := Lib.hid (by rw [hd.out, hno])
          have hF : Hid (Fr (fun _ => False) w (W.putObj D (.deferred none))) := Lib.hid ((hI.fr.putObj (l := D) (fun _ => by omega) _).mono (fun b hb e => by omega))
          clear hI hr hno
          gi_wp2_with fail
          refine ⟨by simp, .inl ⟨_, _, rfl, run_takeDeferred hK, ?_⟩⟩
          refine ⟨.int .i64 50, by simp [results, Tryz.results31, go_sem, hc5], ?_, ?_⟩
          · rw [hd2.out]
          · rw [hd2.out]; exact ⟨TS, HSA.out.fr hF.out (fun _ _ h => h), Stp.refl hF.out⟩
        case done =>
          rintro D C W hD ⟨B, hI, hrest, hBl⟩ hr hK
          have hdd : doFold k A L = some B := by rw [hrest, List.drop_length]; rfl
          have hlen := hI.map.len Tryz.underlying100 3
          have cnx := cell_obj hI.nx 0 (.map (some mb)) rfl
          have hg0 : w.heap[g]? = some (.cells #[.map (some m)] 102) := by
            obtain ⟨⟨m', e1, e2, e3⟩, -, -⟩ := HSA.out
            have := cell_obj e1 0 _ rfl
            rw [HC.out] at this
            cases this
            exact e1
          have hgW := hI.fr.at_ hg0 (by have := HGL.out; omega)
          have hbl2 : (B.length : Int) ≤ 80 := by have := HAA.out.len; have := h16.out; omega
          obtain ⟨bl, hbl⟩ : ∃ bl, B.length = bl := ⟨_, rfl⟩
          rw [hbl] at hlen hbl2
          have HI := Lib.hid hI; have HGW := Lib.hid hgW
          by_cases h64 : (64 : Int) < bl
          · have hd2 : Hid (doS A k L = (2, A)) := Lib.hid (by rw [hd.out, hdd]; show (if 64 < B.length then _ else _) = _; rw [if_pos (by omega)])
            have ce := cell_obj hI.e 0 (.int .i64 0) rfl
            have fe := obj_frozen hI.e 0
            have hKs := (Below.heap_setCell W ⟨n0 + 1, 0, none⟩ (.int .i64 2) D (by show D ≠ n0 + 1; omega)).trans hK
            have hc5 := cell_obj (Fa.cells (frPut (B := n0) (.deferred none) (by omega) hKs rfl) (hI.put 2).e) 0 (.int .i64 2) rfl
            have hF : Hid (Fr (fun _ => False) w ((W.setCell ⟨n0 + 1, 0, none⟩ (.int .i64 2)).putObj D (.deferred none))) := Lib.hid (((hI.put 2).fr.putObj (l := D) (fun _ => by omega) _).mono (fun b hb e => by omega))
            clear hI hr hrest hdd hBl hgW hK
            gi_wp2_with fail
            refine ⟨by simp, .inl ⟨_, _, rfl, run_takeDeferred hKs, ?_⟩⟩
            refine ⟨.int .i64 2, by simp [results, Tryz.results31, go_sem, hc5], ?_, ?_⟩
            · rw [hd2.out]
            · rw [hd2.out]; exact ⟨TS, HSA.out.fr hF.out (fun _ _ h => h), Stp.refl hF.out⟩
          · have hd2 : Hid (doS A k L = (0, B)) := Lib.hid (by rw [hd.out, hdd]; show (if 64 < B.length then _ else _) = _; rw [if_neg (by omega)])
            have cgW := cell_obj hgW 0 (.map (some m)) rfl
            have fgW := obj_frozen hgW 0
            have hgne : g ≠ n0 + 1 := by have := HGL.out; omega
            have hFg : Fr (fun b => b = g) W (W.setCell ⟨g, 0, none⟩ (.map (some mb))) := (Fr.refl (fun b => b = g) W).setCell (p := ⟨g, 0, none⟩) (fun _ => rfl) _
            have hE1 := hFg.at_ hI.e (fun e => hgne e.symm)
            have ce := cell_obj hE1 0 (.int .i64 0) rfl
            have fe := obj_frozen hE1 0
            obtain ⟨V, hV⟩ : ∃ V, (W.setCell ⟨g, 0, none⟩ (.map (some mb))).setCell ⟨n0 + 1, 0, none⟩ (.int .i64 0) = V := ⟨_, rfl⟩
            have hFV : Fr (fun b => b = g ∨ b = n0 + 1) W V := by
              rw [← hV]
              exact (hFg.mono (fun _ _ e => .inl e)).setCell (p := ⟨n0 + 1, 0, none⟩) (fun _ => .inr rfl) _
            have hEV : V.heap[n0 + 1]? = some (.cells #[.int .i64 0] 30) := by rw [← hV]; exact obj_set hE1 0 _
            have hGV : V.heap[g]? = some (.cells #[.map (some mb)] 102) := by
              rw [← hV]
              exact ((Fr.refl (fun b => b = n0 + 1) _).setCell (p := ⟨n0 + 1, 0, none⟩) (fun _ => rfl) _).at_ (obj_set hgW 0 _) hgne
            have hKs : V.heap[D]? = some (.deferred (some [])) := hFV.at_ hK (by have := HGL.out; omega)
            have hn' := hI.hn
            have hmV := hFV.mp hI.map (by have := HGL.out; omega)
            have hc5 := cell_obj (Fa.cells (frPut (B := n0) (.deferred none) (by omega) hKs rfl) hEV) 0 (.int .i64 0) rfl
            have hP := frPut (B := n0) (.deferred none) (show n0 ≤ D by omega) hKs rfl
            have hfin : SA (V.putObj D (.deferred none)) g (fun b => TS b ∨ b = mb) B ∧ Stp TS w (V.putObj D (.deferred none)) (fun b => TS b ∨ b = mb) := by
              have hFt : Fr (fun b => b = g ∨ n0 ≤ b) w (V.putObj D (.deferred none)) :=
                ((hI.fr.mono (S' := fun b => b = g ∨ n0 ≤ b) (fun b hb e => .inr e)).trans (hFV.mono (S' := fun b => b = g ∨ n0 ≤ b) (fun b _ e => e.imp id (fun e => by omega)))).trans (hP.mono (S' := fun b => b = g ∨ n0 ≤ b) (fun b _ e => .inr e.1))
              have hmlt := hI.map.lt
              have hsW := hFV.size
              refine ⟨⟨⟨mb, Fa.cells hP hGV, Fa.mp hP hmV, .inr rfl⟩, .inl HSA.out.own, fun b hb => ?_⟩, hFt.mono (fun b hb e => e.elim (fun e => e ▸ HSA.out.own) (fun e => by omega)), fun b hb => hb.elim .inl (fun e => .inr (by omega))⟩
              have := hFt.size
              rcases hb with hb | rfl
              · have := HSA.out.lt b hb; omega
              · have := hP.size; omega
            have HFIN := Lib.hid hfin; have HKS := Lib.hid hKs
            clear hI hr hrest hdd hBl hgW hK hFg hE1 hFV hEV hGV hKs hmV hP hfin
            gi_wp2_with fail
            refine ⟨by simp, .inl ⟨_, _, rfl, run_takeDeferred HKS.out, ?_⟩⟩
            refine ⟨.int .i64 0, by simp [results, Tryz.results31, go_sem, hc5], ?_, ?_⟩
            · rw [hd2.out]
            · rw [hd2.out]; exact ⟨_, HFIN.out⟩
      · have hd : Hid (doS A k L = (x, A)) := Lib.hid (by
          unfold doS
          rw [if_neg hkr, if_neg (by rw [hml]; decide), if_pos (by rw [hx]; exact hx0), hx])
        have hxB : (x != 0) = true := by simp; exact hx0
        clear hkr hml hx hx0
        gi_wp2_with (first
          | (gi_at_call 69; refine (hmdc.out _ hcg0).mono ?_; rintro e w1 ⟨rfl, rfl⟩)
          | (gi_at_call 28; refine (callsIn_wide.2 hIM.out).mono ?_; rintro e w2 ⟨rfl, hf2⟩; have HF2 := Lib.hid (HF0.out.trans hf2); have hck2 := cell_obj (hf2.at_ HK0.out (fun h => h)) 0 (.int .i64 k) rfl; have HX2 := Lib.hid hf2; clear hf2)
          | (gi_at_call 72; refine (callsIn_wide.2 (hSM.out _ HF2.out)).mono ?_; rintro e w3 ⟨rfl, hf3⟩; have hE3 := Lib.hid ((HX2.out.trans hf3).at_ HE0.out (fun h => h)); have ce3 := cell_obj hE3.out 0 (.int .i64 0) rfl; have fe3 := obj_frozen hE3.out 0; have HF3 := Lib.hid (HF2.out.trans hf3); clear hf3))
        have hres := cell_obj (obj_set hE3.out 0 (.int .i64 x)) 0 (.int .i64 x) rfl
        refine ⟨.int .i64 x, by simp [results, Tryz.results31, go_sem, hres], ?_, ?_⟩
        · rw [hd.out]
        · rw [hd.out]; exact HRF.out _ _ HF3.out
end Go.Proofs.YtogphlnakdnchaaGreat

namespace Go.Proofs.YtogphlnakdnchaaGreat
open Go.RowKit Go.Maps
theorem sGoods (p : Option Addr) (w : World) : Calls Tryz.prog 59 #[.pointer p] w fun e w' =>
    e = .returned (.func (.func 96) #[] #[.pointer (some ⟨w.heap.size, 0, none⟩)]) ∧ w' = w.alloc (.cells #[.pointer p] 58) := by
  go_enter Tryz.func59, Tryz.ntmps59
  go_wp2
  go_ret
  exact ⟨rfl, rfl⟩
def encS (s : Str) : Array Value := #[vS s]
set_option maxRecDepth 100000 in
set_option maxHeartbeats 4000000 in
theorem sGoods1 (S : Nat → Prop) (w : World) (Bt g : Nat) (TS : Nat → Prop) (A : Stk) (hBt : Boxed w Bt 58 (.pointer (some ⟨g, 0, none⟩))) (h : SA w g TS A) (hl : A.length ≤ 1000) (n1 : ¬ S Bt) (n2 : ∀ b, TS b → ¬ S b) :
    ItX 96 #[.pointer (some ⟨Bt, 0, none⟩)] encS (A.map (·.1)) S w := by
  intro lp S' J Jx W hW hS' hJ hY hJx h0
  have hBW := boxed_below hBt hW hBt.lt
  have hAW := h.fr (Fr.below (S := fun _ => False) hW) (fun _ _ h => h)
  obtain ⟨m, hc, hm, hTm⟩ := hAW.cell
  have hkS := keysSorted W m SR.enc A hm (by omega)
  have HK1 := Lib.hid (callsIn_wide.1 hkS.1); have HK2 := Lib.hid (callsIn_wide.1 hkS.2)
  have hcB := hBW.cell
  obtain ⟨N, hN⟩ : ∃ N, A.length = N := ⟨_, rfl⟩
  have HN := Lib.hid hN
  have HS := Lib.hid hS'
  have HX : Hid ((A.map (·.1)).length = N) := Lib.hid (by rw [List.length_map]; exact hN)
  rw [hN] at HK2 hl
  have hfn : ∀ f, Fence.wide.fn f := fun _ => trivial
  have hdp : Fence.wide.depth.isSome = false := rfl
  clear hBt h n1 n2 hS' hBW hW hm hN hkS hAW hTm
  refine (callsIn_wide (n := 0)).1 ?_
  refine callsIn_of_wp Tryz.func96 rfl trivial ?_ rfl
  simp only [Tryz.ntmps96, List.size_toArray, List.length_cons, List.length_nil, Nat.reduceAdd, Nat.reduceSub, Array.replicate_succ, Array.replicate_zero, List.push_toArray, List.append_toArray, List.nil_append, List.cons_append]
  gi_wp2_with (first
    | (gi_at_call 69; refine (callsIn_wide.2 (smade _ g m hc)).mono ?_; rintro e w1 ⟨rfl, rfl⟩)
    | (gi_at_call 98; refine (callsIn_wide.2 HK1.out).mono ?_; rintro e w1 ⟨rfl, rfl⟩)
    | (gi_at_call 97; refine (callsIn_wide.2 HK2.out).mono ?_; rintro e w1 ⟨v, rfl, hown, hb⟩; obtain ⟨a, c, rfl⟩ := row_slice hown))
  have hJ1 := hJ 0 _ _ _ h0 (Fr.below hb)
  have HW1 : Hid (W.heap.size ≤ w1.heap.size) := Lib.hid hb.size
  have HO := Lib.hid hown; have HJ1 := Lib.hid hJ1
  clear h0 hcB hc hown hb hJ1
  gi_loopw [15] (fun i wr => ∃ (k : Nat) (C : Nat → Prop), k ≤ N ∧ i = .int .i64 k ∧ J k C wr ∧ (∀ b, C b → w1.heap.size ≤ b ∧ b < wr.heap.size) ∧ Fr (fun b => S' b ∨ C b) w1 wr) (fun i _ => N - (intOf i).toNat)
  case atStart => exact ⟨0, _, Nat.zero_le _, rfl, HJ1.out, fun _ h => False.elim h, Fr.refl _ _⟩
  case round =>
    obtain ⟨k, C, hk, rfl, hJr, hC, hkp⟩ := hrel
    by_cases hlt : k < N
    · obtain ⟨p, hp⟩ : ∃ p, A[k]? = some p := ⟨A[k]'(by rw [HN.out]; exact hlt), List.getElem?_eq_getElem _⟩
      obtain ⟨g', rfl, hg1, hg2⟩ := row_addr HO.out (by omega)
      have m5 : ¬ (S' g' ∨ C g') := fun e => e.elim (fun e => by have := (HS.out _ e).1; omega) (fun e => by have := hC _ e; omega)
      have hownr := hkp.row HO.out (fun b e => by obtain rfl : g' = b := (by simpa [Value.ownBlock] using e); exact m5)
      have hcx : wr.cell? ⟨g', k, none⟩ = some (vS p.1) := by
        have := hownr.cellAt (g := g') (j := k) (by omega)
        rw [this]; simp [hp]
      have hxx : (A.map (·.1))[k]? = some p.1 := by rw [List.getElem?_map, hp]; rfl
      obtain ⟨fn, tmps, assign, body, hy, hR⟩ := hY k p.1 C wr hxx hJr
      dsimp only [encS] at hy
      have hlI : (k : Int) < N := by omega
      have HC := Lib.hid hC; have HK := Lib.hid hkp
      clear hC hkp hp hJr hownr hxx
      gi_wp2
      refine hR.mono ?_
      rintro e W3 (⟨rfl, hJ3, hk3⟩ | ⟨rfl, hJx3, _⟩)
      · gi_wp2
        go_roundw
        case rel =>
          refine ⟨k + 1, _, by omega, by go_num, hJ3, ?_, ?_⟩
          · have hs3 := hk3.size
            rintro b (e | e)
            · have := HC.out b e; exact ⟨this.1, by omega⟩
            · have := HK.out.size; exact ⟨by omega, e.2⟩
          · exact (HK.out.mono (fun b _ e => e.elim .inl (fun e => .inr (.inl e)))).trans (hk3.mono (fun b _ e => e.elim .inl (fun e => .inr (.inl e))))
        case measure => simp [intOf]; omega
      · gi_wp2
        refine bodyPost_ret (results_none rfl _ _ _) rfl ?_
        refine ⟨⟨_, rfl⟩, .inr ⟨_, _, ?_, hJx3⟩⟩
        have := HX.out
        omega
    · have : k = N := by omega
      subst this
      gi_wp2
      go_end0
      exact ⟨⟨_, rfl⟩, .inl ⟨C, by rw [HX.out]; exact hJr⟩⟩
end Go.Proofs.YtogphlnakdnchaaGreat

namespace Go.Proofs.YtogphlnakdnchaaGreat
open Go.RowKit Go.Maps
theorem goodB_len {s : Str} (h : goodB s = true) : s.length ≤ 16 := by
  unfold goodB at h
  simp at h
  omega
theorem textB_len {s : Str} (h : s.length ≤ 16) : (textB s).length ≤ 25 := by
  unfold textB
  rw [List.length_append, sB_len]
  have := (numB_len (n := (s.length : Int)) (by unfold okI; omega)).2
  omega
end Go.Proofs.YtogphlnakdnchaaGreat

namespace Go.Proofs.YtogphlnakdnchaaGreat
open Go.RowKit Go.Maps
theorem put_ok {bs c : List Int} (h : bs.length + c.length ≤ 262144) : putB bs false c = bs ++ c ∧ putL bs false c = false := by
  unfold putB putL
  have : ¬ 262144 < bs.length + c.length := by omega
  simp [this]
theorem MK.fa {B : Nat} {w w' : World} {g : Nat} {TS : Nat → Prop} {bs : List Int} {long : Bool} (h : MK w g TS bs long) (hf : Fa B w w') : MK w' g TS bs long := by
  obtain ⟨⟨v, h1, h2, h3⟩, h4, h5, h6⟩ := h
  exact ⟨⟨v, Fa.cells hf h1, Fa.row hf h2, h3⟩, h4, fun b hb => Nat.lt_of_lt_of_le (h5 b hb) hf.size, h6⟩
theorem mNum {w : World} {g : Nat} {TS : Nat → Prop} {bs : List Int} (n : Int) (h : MK w g TS bs false) (hn : okI n) (hl : bs.length ≤ 262100) :
    Calls Tryz.prog 51 #[.pointer (some ⟨g, 0, none⟩), .int .i64 n] w fun e w' => e = .returned (.pointer (some ⟨g, 0, none⟩)) ∧ ∃ TS', MK w' g TS' (bs ++ numB n) false ∧ Stp TS w w' TS' := by
  have hp := put_ok (bs := bs) (c := numB n) (by have := (numB_len hn).2; omega)
  have := cMNum w g TS bs false n h hn
  rw [hp.1, hp.2] at this
  exact this
theorem mText {w : World} {g : Nat} {TS : Nat → Prop} {bs : List Int} (s : Str) (h : MK w g TS bs false) (hs : s.length ≤ 16) (hl : bs.length ≤ 262100) :
    Calls Tryz.prog 49 #[.pointer (some ⟨g, 0, none⟩), vS s] w fun e w' => e = .returned (.pointer (some ⟨g, 0, none⟩)) ∧ ∃ TS', MK w' g TS' (bs ++ textB s) false ∧ Stp TS w w' TS' := by
  have hp := put_ok (bs := bs) (c := textB s) (by have := textB_len hs; omega)
  have := cMText w g TS bs false s h (by omega)
  rw [hp.1, hp.2] at this
  exact this
theorem xMN (w : World) : Calls Tryz.prog 48 #[] w fun e w' => ∃ gm TS, e = .returned (.pointer (some ⟨gm, 0, none⟩)) ∧ MK w' gm TS [] false ∧ (∀ b, TS b → w.heap.size ≤ b) ∧ Fr (fun _ => False) w w' := by
  refine (cMNew w).mono ?_
  rintro e w' ⟨rfl, h1, h2⟩
  exact ⟨_, _, rfl, h1, fun b hb => by omega, h2⟩
end Go.Proofs.YtogphlnakdnchaaGreat

namespace Go.Proofs.YtogphlnakdnchaaGreat
open Go.RowKit Go.Maps
def numsB (r : SR) (k : Nat) : List Int := (List.range k).flatMap fun j => numB (r.get j)
def rowB (p : Str × SR) : List Int := textB p.1 ++ numsB p.2 11
def packS (A : Stk) : List Int := numB (A.length : Int) ++ A.flatMap rowB
theorem numsB_succ (r : SR) (k : Nat) : numsB r (k + 1) = numsB r k ++ numB (r.get k) := by simp [numsB, List.range_succ]
theorem SRok.get {r : SR} (h : SRok r) (j : Nat) : okI (r.get j) := by
  have hc := h.counted
  obtain ⟨⟨a0, a1, a2, a3, b0, b1, b2, b3, b4, b5⟩, -, -⟩ := h
  unfold okI SR.get
  split <;> omega
theorem numsB_len {r : SR} (h : SRok r) (k : Nat) : (numsB r k).length ≤ 9 * k := by
  induction k with
  | zero => simp [numsB]
  | succ k ih =>
    rw [numsB_succ, List.length_append]
    have := (numB_len (h.get k)).2
    omega
theorem rowB_len {p : Str × SR} (h1 : goodB p.1 = true) (h2 : SRok p.2) : (rowB p).length ≤ 124 := by
  unfold rowB
  rw [List.length_append]
  have := textB_len (goodB_len h1)
  have := numsB_len h2 11
  omega
theorem rows_len : ∀ {L : Stk}, (∀ p ∈ L, goodB p.1 = true ∧ SRok p.2) → (L.flatMap rowB).length ≤ 124 * L.length
  | [], _ => by simp
  | p :: r, h => by
    rw [List.flatMap_cons, List.length_append, List.length_cons]
    have := rowB_len (h p (by simp)).1 (h p (by simp)).2
    have := rows_len (L := r) (fun q hq => h q (by simp [hq]))
    omega
theorem rowsB_byt {L : Stk} (h : ∀ p ∈ L, goodB p.1 = true ∧ SRok p.2) : Byt (L.flatMap rowB) := by
  intro x hx
  obtain ⟨p, hp, hx⟩ := List.mem_flatMap.1 hx
  unfold rowB textB numsB at hx
  obtain ⟨h1, h2⟩ := h p hp
  simp only [List.mem_append, List.mem_flatMap] at hx
  rcases hx with (hx | hx) | ⟨j, _, hx⟩
  · exact numB_mem (by have := goodB_len h1; unfold okI; omega) hx
  · exact sB_byt _ x hx
  · exact numB_mem (h2.get j) hx
theorem packS_byt {A : Stk} (h : SOk A) : Byt (packS A) := by
  intro x hx
  rcases List.mem_append.1 hx with hx | hx
  · exact numB_mem (by have := h.len; unfold okI; omega) hx
  · exact rowsB_byt (fun p hp => ⟨h.good p hp, h.row p hp⟩) x hx
theorem packS_len {A : Stk} (h : SOk A) : (packS A).length ≤ 7945 := by
  unfold packS
  rw [List.length_append]
  have := (numB_len (n := (A.length : Int)) (by have := h.len; unfold okI; omega)).2
  have := rows_len (fun p hp => ⟨h.good p hp, h.row p hp⟩)
  have := h.len
  omega
end Go.Proofs.YtogphlnakdnchaaGreat

namespace Go.Proofs.YtogphlnakdnchaaGreat
open Go.RowKit Go.Maps
abbrev minI : Int := -9223372036854775808
abbrev maxI : Int := 9223372036854775807
/-- The first k of a row's numbers, taken. -/
def tkNums (t : Tst) : Nat → SR × Tst
  | 0 => (SR.zero, t)
  | k + 1 => ((tkNums t k).1.set k (tk (tkNums t k).2 minI maxI).1, (tk (tkNums t k).2 minI maxI).2)
/-- A row, taken. -/
def tkRow (t : Tst) : Str × SR × Tst := ((tkT t 16).1, tkNums (tkT t 16).2 11)
def rowMay (last : Str) (g : Str) (r : SR) : Bool := goodB g && decide (last < g) && r.bal && r.right
/-- n rows, taken. -/
def unpL : Nat → Tst → Str → Stk → Option (Stk × Tst)
  | 0, t, _, A => some (A, t)
  | n + 1, t, last, A => if rowMay last (tkRow t).1 (tkRow t).2.1 = true then unpL n (tkRow t).2.2 (tkRow t).1 (putS ktS.lt A (tkRow t).1 (tkRow t).2.1) else none
def unpS (bs : List Int) : Option Stk :=
  match unpL (tk (bs, false) 0 64).1.toNat (tk (bs, false) 0 64).2 [] [] with
  | none => none
  | some (A, t) => if doneT t.1 t.2 = 0 then some A else none
end Go.Proofs.YtogphlnakdnchaaGreat

namespace Go.Proofs.YtogphlnakdnchaaGreat
open Go.RowKit Go.Maps
theorem ins_end {ν : Type} {g : Str} {r : ν} : ∀ {B : List (Str × ν)}, (∀ p ∈ B, p.1 < g) → insS ktS.lt (g, r) B = B ++ [(g, r)]
  | [], _ => rfl
  | y :: t, h => by
    have hy := h y (by simp)
    have e : ktS.lt g y.1 = false := by rw [ktS_lt]; simpa using str_asym hy
    show (if ktS.lt g y.1 = true then (g, r) :: y :: t else y :: insS ktS.lt (g, r) t) = _
    rw [e]
    simp only [Bool.false_eq_true, if_false]
    rw [ins_end (fun p hp => h p (by simp [hp]))]
    rfl
theorem put_end {ν : Type} {g : Str} {r : ν} {B : List (Str × ν)} (h : ∀ p ∈ B, p.1 < g) : putS ktS.lt B g r = B ++ [(g, r)] := by
  unfold putS
  have e : delS B g = B := by
    unfold delS
    rw [List.filter_eq_self]
    intro p hp
    have := h p hp
    simp only [Bool.not_eq_true', decide_eq_false_iff_not]
    rintro rfl
    exact str_irr _ this
  rw [e]
  exact ins_end h
end Go.Proofs.YtogphlnakdnchaaGreat

namespace Go.Proofs.YtogphlnakdnchaaGreat
open Go.RowKit Go.Maps
theorem tkT_take {t : Tst} {m : Int} (hb : Byt t.1) (h : (tkT t m).2.2 = false) : t.1 = textB (tkT t m).1 ++ (tkT t m).2.1 ∧ t.2 = false ∧ Byt (tkT t m).2.1 := by
  obtain ⟨q, hq⟩ : ∃ q, tk t 0 m = q := ⟨_, rfl⟩
  unfold tkT at *
  rw [hq] at h ⊢
  dsimp only at h ⊢
  by_cases h1 : q.2.2 = true
  · rw [if_pos h1] at h
    dsimp only at h
    rw [h1] at h
    cases h
  · rw [if_neg h1] at h ⊢
    have h1 : q.2.2 = false := by simpa using h1
    by_cases h2 : (q.2.1.length : Int) < q.1
    · rw [if_pos h2] at h; cases h
    · rw [if_neg h2]
      dsimp only
      have := tk_take hb (a := 0) (b := m) (by rw [hq]; exact h1)
      rw [hq] at this
      obtain ⟨h3, h4, ⟨h5, h6⟩, h7, h8⟩ := this
      refine ⟨?_, h7, fun x hx => h8 x (List.mem_of_mem_drop hx)⟩
      have hl : (q.2.1.take q.1.toNat).length = q.1.toNat := by rw [List.length_take]; omega
      unfold textB
      rw [sB_bS (fun x hx => h8 x (List.mem_of_mem_take hx))]
      have : ((bS (q.2.1.take q.1.toNat)).length : Int) = q.1 := by unfold bS; rw [List.length_map, hl]; omega
      rw [this, List.append_assoc, List.take_append_drop]
      exact h4
theorem get_set (r : SR) {k : Nat} (h : k < 11) (x : Int) : (r.set k x).get k = x := by
  match k, h with
  | 0, _ => rfl
  | 1, _ => rfl
  | 2, _ => rfl
  | 3, _ => rfl
  | 4, _ => rfl
  | 5, _ => rfl
  | 6, _ => rfl
  | 7, _ => rfl
  | 8, _ => rfl
  | 9, _ => rfl
  | 10, _ => rfl
theorem get_set_ne (r : SR) {j k : Nat} (h : k < 11) (hj : j < k) (x : Int) : (r.set k x).get j = r.get j := by
  match k, h, j, hj with
  | 1, _, 0, _ => rfl
  | 1, _, j + 1, hj => exact absurd hj (by omega)
  | 2, _, 0, _ => rfl
  | 2, _, 1, _ => rfl
  | 2, _, j + 2, hj => exact absurd hj (by omega)
  | 3, _, 0, _ => rfl
  | 3, _, 1, _ => rfl
  | 3, _, 2, _ => rfl
  | 3, _, j + 3, hj => exact absurd hj (by omega)
  | 4, _, 0, _ => rfl
  | 4, _, 1, _ => rfl
  | 4, _, 2, _ => rfl
  | 4, _, 3, _ => rfl
  | 4, _, j + 4, hj => exact absurd hj (by omega)
  | 5, _, 0, _ => rfl
  | 5, _, 1, _ => rfl
  | 5, _, 2, _ => rfl
  | 5, _, 3, _ => rfl
  | 5, _, 4, _ => rfl
  | 5, _, j + 5, hj => exact absurd hj (by omega)
  | 6, _, 0, _ => rfl
  | 6, _, 1, _ => rfl
  | 6, _, 2, _ => rfl
  | 6, _, 3, _ => rfl
  | 6, _, 4, _ => rfl
  | 6, _, 5, _ => rfl
  | 6, _, j + 6, hj => exact absurd hj (by omega)
  | 7, _, 0, _ => rfl
  | 7, _, 1, _ => rfl
  | 7, _, 2, _ => rfl
  | 7, _, 3, _ => rfl
  | 7, _, 4, _ => rfl
  | 7, _, 5, _ => rfl
  | 7, _, 6, _ => rfl
  | 7, _, j + 7, hj => exact absurd hj (by omega)
  | 8, _, 0, _ => rfl
  | 8, _, 1, _ => rfl
  | 8, _, 2, _ => rfl
  | 8, _, 3, _ => rfl
  | 8, _, 4, _ => rfl
  | 8, _, 5, _ => rfl
  | 8, _, 6, _ => rfl
  | 8, _, 7, _ => rfl
  | 8, _, j + 8, hj => exact absurd hj (by omega)
  | 9, _, 0, _ => rfl
  | 9, _, 1, _ => rfl
  | 9, _, 2, _ => rfl
  | 9, _, 3, _ => rfl
  | 9, _, 4, _ => rfl
  | 9, _, 5, _ => rfl
  | 9, _, 6, _ => rfl
  | 9, _, 7, _ => rfl
  | 9, _, 8, _ => rfl
  | 9, _, j + 9, hj => exact absurd hj (by omega)
  | 10, _, 0, _ => rfl
  | 10, _, 1, _ => rfl
  | 10, _, 2, _ => rfl
  | 10, _, 3, _ => rfl
  | 10, _, 4, _ => rfl
  | 10, _, 5, _ => rfl
  | 10, _, 6, _ => rfl
  | 10, _, 7, _ => rfl
  | 10, _, 8, _ => rfl
  | 10, _, 9, _ => rfl
  | 10, _, j + 10, hj => exact absurd hj (by omega)
  | 0, _, j, hj => exact absurd hj (by omega)
theorem numsB_set (r : SR) {k : Nat} (h : k < 11) (x : Int) : ∀ n, n ≤ k → numsB (r.set k x) n = numsB r n
  | 0, _ => rfl
  | n + 1, hn => by rw [numsB_succ, numsB_succ, numsB_set r h x n (by omega), get_set_ne r h (by omega)]
theorem tkNums_take {t : Tst} (hb : Byt t.1) : ∀ k, k ≤ 11 → (tkNums t k).2.2 = false → t.1 = numsB (tkNums t k).1 k ++ (tkNums t k).2.1 ∧ t.2 = false ∧ Byt (tkNums t k).2.1
  | 0, _, h => ⟨rfl, h, hb⟩
  | k + 1, hk, h => by
    have h0 : (tk (tkNums t k).2 minI maxI).2.2 = false := h
    have h1 : (tkNums t k).2.2 = false := (tk_ok h0).1
    obtain ⟨e1, e2, e3⟩ := tkNums_take hb k (by omega) h1
    obtain ⟨a1, a2, a3, a4, a5⟩ := tk_take e3 h0
    refine ⟨?_, e2, a5⟩
    show t.1 = numsB ((tkNums t k).1.set k (tk (tkNums t k).2 minI maxI).1) (k + 1) ++ (tk (tkNums t k).2 minI maxI).2.1
    rw [numsB_succ, numsB_set _ (by omega) _ _ (Nat.le_refl _), get_set _ (by omega), List.append_assoc, ← a2]
    exact e1
theorem tkRow_take {t : Tst} (hb : Byt t.1) (h : (tkRow t).2.2.2 = false) : t.1 = rowB ((tkRow t).1, (tkRow t).2.1) ++ (tkRow t).2.2.1 ∧ t.2 = false ∧ Byt (tkRow t).2.2.1 := by
  obtain ⟨q, hq⟩ : ∃ q, tkT t 16 = q := ⟨_, rfl⟩
  unfold tkRow at *
  rw [hq] at h ⊢
  dsimp only at h ⊢
  have h1 : q.2.2 = false := by
    cases e : q.2.2 with
    | false => rfl
    | true =>
      have : ∀ k, (tkNums q.2 k).2.2 = true := fun k => by
        induction k with
        | zero => exact e
        | succ k ih =>
          show (tk (tkNums q.2 k).2 minI maxI).2.2 = true
          rw [tk_bad ih]
          exact ih
      rw [this 11] at h
      cases h
  obtain ⟨e1, e2, e3⟩ := tkT_take (t := t) (m := 16) hb (by rw [hq]; exact h1)
  rw [hq] at e1 e3
  obtain ⟨a1, a2, a3⟩ := tkNums_take e3 11 (by omega) h
  refine ⟨?_, e2, a3⟩
  unfold rowB
  dsimp only
  rw [List.append_assoc, ← a1]
  exact e1
theorem unpL_take : ∀ {n : Nat} {t : Tst} {last : Str} {B A : Stk} {t' : Tst}, unpL n t last B = some (A, t') → t'.2 = false → Byt t.1 → (∀ q ∈ B, q.1 = last ∨ q.1 < last) →
    ∃ C, A = B ++ C ∧ C.length = n ∧ t.1 = C.flatMap rowB ++ t'.1 ∧ t.2 = false ∧ (∀ p ∈ C, goodB p.1 = true ∧ SRok p.2) ∧ RiseS C ∧ ∀ p ∈ C, last < p.1
  | 0, t, last, B, A, t', h, h1, hb, hB => by
    unfold unpL at h
    injection h with h
    injection h with h2 h3
    subst h2 h3
    exact ⟨[], by simp, rfl, by simp, h1, by simp, List.Pairwise.nil, by simp⟩
  | n + 1, t, last, B, A, t', h, h1, hb, hB => by
    unfold unpL at h
    by_cases hm : rowMay last (tkRow t).1 (tkRow t).2.1 = true
    · rw [if_pos hm] at h
      unfold rowMay at hm
      simp only [Bool.and_eq_true, decide_eq_true_eq] at hm
      obtain ⟨⟨⟨m1, m2⟩, m3⟩, m4⟩ := hm
      have hlt : ∀ q ∈ B, q.1 < (tkRow t).1 := fun q hq => (hB q hq).elim (fun e => e ▸ m2) (fun e => str_trans e m2)
      rw [put_end hlt] at h
      have hbad : (tkRow t).2.2.2 = false ∨ (tkRow t).2.2.2 = true := by cases (tkRow t).2.2.2 <;> simp
      rcases hbad with hbf | hbt
      · obtain ⟨e1, e2, e3⟩ := tkRow_take hb hbf
        obtain ⟨C, c1, c2, c3, c4, c5, c6, c7⟩ := unpL_take h h1 e3 (fun q hq => by
          rcases List.mem_append.1 hq with e | e
          · exact .inr (hlt q e)
          · have : q = ((tkRow t).1, (tkRow t).2.1) := by simpa using e
            subst this
            exact .inl rfl)
        refine ⟨((tkRow t).1, (tkRow t).2.1) :: C, by rw [c1]; simp, by simp [c2], ?_, e2, ?_, ?_, ?_⟩
        · rw [List.flatMap_cons, List.append_assoc, ← c3]; exact e1
        · intro p hp
          rcases List.mem_cons.1 hp with rfl | hp
          · exact ⟨m1, SRok.of m4 m3⟩
          · exact c5 p hp
        · exact List.pairwise_cons.2 ⟨fun q hq => c7 q hq, c6⟩
        · intro p hp
          rcases List.mem_cons.1 hp with rfl | hp
          · exact m2
          · exact str_trans m2 (c7 p hp)
      · exfalso
        have hstay : ∀ (n : Nat) (s : Tst) (l : Str) (B' : Stk), s.2 = true → unpL n s l B' = some (A, t') → t'.2 = true := by
          intro n
          induction n with
          | zero => intro s l B' hs e; unfold unpL at e; injection e with e; injection e with e1 e2; rw [← e2]; exact hs
          | succ n ih =>
            intro s l B' hs e
            unfold unpL at e
            split at e
            · refine ih _ _ _ ?_ e
              cases hx : (tkRow s).2.2.2 with
              | true => rfl
              | false =>
                have hT : tkT s 16 = ([], s) := by unfold tkT; rw [tk_bad hs]; simp [hs]
                have : ∀ k, (tkNums s k).2.2 = true := fun k => by
                  induction k with
                  | zero => exact hs
                  | succ k ih =>
                    show (tk (tkNums s k).2 minI maxI).2.2 = true
                    rw [tk_bad ih]
                    exact ih
                have h9 := this 11
                unfold tkRow at hx
                rw [hT] at hx
                dsimp only at hx
                rw [h9] at hx
                cases hx
            · cases e
        rw [hstay _ _ _ _ hbt h] at h1
        cases h1
    · rw [if_neg hm] at h; cases h
theorem unpS_take {bs : List Int} {A : Stk} (hb : Byt bs) (h : unpS bs = some A) : SOk A ∧ packS A = bs := by
  unfold unpS at h
  obtain ⟨q, hq⟩ : ∃ q, tk (bs, false) 0 64 = q := ⟨_, rfl⟩
  rw [hq] at h
  cases e : unpL q.1.toNat q.2 [] [] with
  | none => rw [e] at h; cases h
  | some p =>
    obtain ⟨A', t'⟩ := p
    rw [e] at h
    dsimp only at h
    by_cases hd : doneT t'.1 t'.2 = 0
    · rw [if_pos hd] at h
      injection h with h
      subst h
      have hd2 : t'.2 = false ∧ t'.1 = [] := by
        unfold doneT at hd
        split at hd
        · cases hd
        · rename_i hn
          simp only [not_or, Decidable.not_not] at hn
          exact ⟨by simpa using hn.1, by simpa using hn.2⟩
      by_cases hqb : q.2.2 = false
      · have hbt := tk_take (t := (bs, false)) (a := 0) (b := 64) hb (by rw [hq]; exact hqb)
        rw [hq] at hbt
        obtain ⟨b1, b2, ⟨b3, b4⟩, b5, b6⟩ := hbt
        obtain ⟨C, c1, c2, c3, c4, c5, c6, c7⟩ := unpL_take e hd2.1 b6 (fun q hq => by cases hq)
        rw [List.nil_append] at c1
        subst c1
        refine ⟨⟨c6, fun p hp => (c5 p hp).1, fun p hp => (c5 p hp).2, by omega⟩, ?_⟩
        unfold packS
        rw [c2, show ((q.1.toNat : Nat) : Int) = q.1 by omega]
        rw [hd2.2, List.append_nil] at c3
        rw [← c3]
        exact b2.symm
      · exfalso
        have hqb : q.2.2 = true := by simpa using hqb
        have h0 := tk_bad0 (bs, false) 0 64 (by rw [hq]; exact hqb)
        rw [hq] at h0
        rw [h0] at e
        unfold unpL at e
        simp only [Int.toNat_zero] at e
        injection e with e
        injection e with e1 e2
        rw [← e2, hqb] at hd2
        cases hd2.1
    · rw [if_neg hd] at h; cases h
end Go.Proofs.YtogphlnakdnchaaGreat

namespace Go.Proofs.YtogphlnakdnchaaGreat
open Go.RowKit Go.Maps
/-- Lists that are read one behind the other. -/
def rdF (t : Tst) : Nat → Tst × List Its
  | 0 => (t, [])
  | j + 1 => ((readT (rdF t j).1).2, (rdF t j).2 ++ [(readT (rdF t j).1).1])
def rdG (g : Bool) (t : Tst) : Nat → Bool
  | 0 => g
  | j + 1 => rdG g t j && mayL (readT (rdF t j).1).1
/-- One order's hold: what is read, whether it is good, what is left. -/
def unh1 (t : Tst) (last : Int) : HE × Bool × Tst :=
  let o := tk t 1 1099511627776
  (⟨o.1, (readT (rdF o.2 0).1).1, (readT (rdF o.2 1).1).1, (readT (rdF o.2 2).1).1⟩, rdG (decide (last < o.1)) o.2 3, (rdF o.2 3).1)
def unhL : Nat → Tst → Int → Hes → Option (Hes × Tst)
  | 0, t, _, le => some (le, t)
  | n + 1, t, last, le => if (unh1 t last).2.1 = true ∧ (unh1 t last).1.num ≠ 0 then unhL n (unh1 t last).2.2 (unh1 t last).1.o (putS ktI.lt le (unh1 t last).1.o (unh1 t last).1) else none
def unpackH (bs : List Int) : Option (Stk × Hes) :=
  match unpS (sB (tkT (bs, false) 262144).1) with
  | none => none
  | some A => match unhL (tk (tkT (bs, false) 262144).2 0 256).1.toNat (tk (tkT (bs, false) 262144).2 0 256).2 0 [] with
    | none => none
    | some (le, t) => if doneT t.1 t.2 = 0 ∧ soundE A le = true then some (A, le) else none
/-- What has been read so far is as it should be. -/
structure LeOk (le : Hes) (last : Int) : Prop where
  rise : le.Pairwise (fun p q => p.1 < q.1)
  row : ∀ p ∈ le, HEok p.1 p.2
  top : ∀ p ∈ le, p.1 ≤ last
  pos : 0 ≤ last
theorem LeOk.nil : LeOk [] 0 := ⟨List.Pairwise.nil, fun p hp => (by cases hp), fun p hp => (by cases hp), Int.le_refl _⟩
theorem putS_last {le : Hes} {o : Int} {x : HE} (h : ∀ p ∈ le, p.1 < o) : putS ktI.lt le o x = le ++ [(o, x)] := by
  unfold putS
  have h1 : delS le o = le := List.filter_eq_self.2 (fun p hp => by have := h p hp; simp; omega)
  rw [h1]
  induction le with
  | nil => rfl
  | cons p r ih =>
    have hp := h p (by simp)
    show (if ktI.lt o p.1 = true then _ else _) = _
    have : ktI.lt o p.1 = false := by
      show decide (o < p.1) = false
      simp; omega
    rw [this]
    simp only [Bool.false_eq_true, if_false]
    rw [ih (fun q hq => h q (by simp [hq])) (List.filter_eq_self.2 (fun q hq => by have := h q (by simp [hq]); simp; omega))]
    rfl
theorem LeOk.step {le : Hes} {last : Int} {x : HE} (h : LeOk le last) (hl : last < x.o) (hm : x.o ≤ 1099511627776) (h1 : mayL x.he = true) (h2 : mayL x.pi = true) (h3 : mayL x.sh = true) (hn : x.num ≠ 0) : LeOk (putS ktI.lt le x.o x) x.o := by
  rw [putS_last (fun p hp => by have := h.top p hp; omega)]
  have hp := h.pos
  refine ⟨List.pairwise_append.2 ⟨h.rise, by simp, fun p hp q hq => ?_⟩, fun p hp => ?_, fun p hp => ?_, by omega⟩
  · simp only [List.mem_cons, List.not_mem_nil, or_false] at hq
    subst hq
    have := h.top p hp
    show p.1 < x.o
    omega
  · rcases List.mem_append.1 hp with hp | hp
    · exact h.row p hp
    · simp only [List.mem_cons, List.not_mem_nil, or_false] at hp
      subst hp
      exact ⟨rfl, ⟨by show 1 ≤ x.o; omega, hm⟩, h1, h2, h3, hn⟩
  · rcases List.mem_append.1 hp with hp | hp
    · have := h.top p hp; omega
    · simp only [List.mem_cons, List.not_mem_nil, or_false] at hp
      subst hp
      exact Int.le_refl _
theorem rdG_all {g : Bool} {t : Tst} : ∀ {j : Nat}, rdG g t j = true → g = true ∧ ∀ i, i < j → mayL (readT (rdF t i).1).1 = true
  | 0, h => ⟨h, fun i hi => by omega⟩
  | j + 1, h => by
    unfold rdG at h
    rw [Bool.and_eq_true] at h
    obtain ⟨h1, h2⟩ := rdG_all h.1
    exact ⟨h1, fun i hi => by
      by_cases e : i = j
      · rw [e]; exact h.2
      · exact h2 i (by omega)⟩
theorem unh1_ok {t : Tst} {last : Int} (h : (unh1 t last).2.1 = true) : last < (unh1 t last).1.o ∧ (unh1 t last).1.o ≤ 1099511627776 ∧ mayL (unh1 t last).1.he = true ∧ mayL (unh1 t last).1.pi = true ∧ mayL (unh1 t last).1.sh = true := by
  have h2 : rdG (decide (last < (tk t 1 1099511627776).1)) (tk t 1 1099511627776).2 3 = true := h
  obtain ⟨h3, h4⟩ := rdG_all h2
  have h5 := tk_in1 t (b := 1099511627776) (by omega)
  exact ⟨of_decide_eq_true h3, h5.2, h4 0 (by omega), h4 1 (by omega), h4 2 (by omega)⟩
theorem unhL_ok : ∀ (n : Nat) (t : Tst) (last : Int) (le : Hes) (le' : Hes) (t' : Tst), LeOk le last → unhL n t last le = some (le', t') → (∃ last', LeOk le' last') ∧ le'.length ≤ le.length + n
  | 0, t, last, le, le', t', h, e => by
    unfold unhL at e
    cases e
    exact ⟨⟨last, h⟩, by omega⟩
  | n + 1, t, last, le, le', t', h, e => by
    unfold unhL at e
    split at e
    · rename_i hg
      obtain ⟨g1, g2, g3, g4, g5⟩ := unh1_ok hg.1
      have h1 := unhL_ok n _ _ _ le' t' (h.step g1 g2 g3 g4 g5 hg.2) e
      have h2 := putK_len ktI.lt le (unh1 t last).1.o (unh1 t last).1
      exact ⟨h1.1, by omega⟩
    · cases e
theorem unpackH_ok {bs : List Int} {A : Stk} {le : Hes} (h : unpackH bs = some (A, le)) : ShOk A le := by
  unfold unpackH at h
  split at h
  · cases h
  · rename_i A' hA
    split at h
    · cases h
    · rename_i le' t' hle
      split at h
      · cases h
        obtain ⟨⟨last', h1⟩, h2⟩ := unhL_ok _ _ _ _ _ _ LeOk.nil hle
        have h3 := tk_in (tkT (bs, false) 262144).2 (a := 0) (b := 256) (by omega) (by omega)
        exact ⟨(unpS_take (sB_byt _) hA).1, h1.rise, h1.row, by simp only [List.length_nil] at h2; omega⟩
      · cases h
end Go.Proofs.YtogphlnakdnchaaGreat

namespace Go.Proofs.YtogphlnakdnchaaGreat
open Go.RowKit Go.Maps
attribute [local go_sem] Oper.semAt_some
theorem mk_fa {B : Nat} {w w' : World} {g : Nat} {TS : Nat → Prop} {bs : List Int} {long : Bool} (h : MK w g TS bs long) (hf : Fa B w w') : MK w' g TS bs long := by
  obtain ⟨⟨v, h1, h2, h3⟩, h4, h5, h6⟩ := h
  exact ⟨⟨v, Fa.cells hf h1, Fa.row hf h2, h3⟩, h4, fun b hb => Nat.lt_of_lt_of_le (h5 b hb) hf.size, h6⟩
theorem mkAll_app (s : Mst) (a b : List (List Int)) : mkAll s (a ++ b) = mkAll (mkAll s a) b := List.foldl_append
/-- Items' cells. -/
def itC (L : Its) : List (List Int) := L.flatMap fun p => [textB p.1, numB p.2]
theorem itC_take {L : Its} {j : Nat} {p : Str × Int} (h : L[j]? = some p) : itC (L.take (j + 1)) = itC (L.take j) ++ [textB p.1, numB p.2] := by
  unfold itC
  rw [List.take_add_one, h, List.flatMap_append]
  simp
/-- A list's cells. -/
def liC (L : Its) : List (List Int) := numB (L.length : Int) :: itC L
structure PmS (w : World) (TS0 : Nat → Prop) (n0 : Nat) (W : World) (g : Nat) (TM : Nat → Prop) (s : Mst) : Prop where
  mkr : MK W g TM s.1 s.2
  box : W.heap[n0]? = some (.cells #[.pointer (some ⟨g, 0, none⟩)] 79)
  nb : ¬ TM n0
  st : Stp TS0 w W TM
section
variable {W0 W W' : World} {TS0 TM TM' : Nat → Prop} {n0 g : Nat} {s s' : Mst}
theorem PmS.fa {B : Nat} (h : PmS W0 TS0 n0 W g TM s) (hf : Fa B W W') (hB : W0.heap.size ≤ B) : PmS W0 TS0 n0 W' g TM s :=
  ⟨mk_fa h.mkr hf, Fa.cells hf h.box, h.nb, Fa.old hf h.st.1 hB, h.st.2⟩
theorem PmS.step (h : PmS W0 TS0 n0 W g TM s) (hm : MK W' g TM' s'.1 s'.2) (hs : Stp TM W W' TM') : PmS W0 TS0 n0 W' g TM' s' :=
  have hl := (Array.getElem?_eq_some_iff.1 h.box).1
  ⟨hm, hs.1.at_ h.box h.nb, fun e => (hs.2 _ e).elim h.nb (fun e => by omega), h.st.trans hs⟩
theorem PmS.keep (h : PmS W0 TS0 n0 W g TM s) (hf : Fr (fun _ => False) W W') : PmS W0 TS0 n0 W' g TM s :=
  ⟨h.mkr.fr hf (fun _ _ e => e), hf.at_ h.box (fun e => e), h.nb, h.st.trans (Stp.refl hf)⟩
theorem PmS.num (h : PmS W0 TS0 n0 W g TM s) (n : Int) (hn : okI n) : Calls Tryz.prog 51 #[.pointer (some ⟨g, 0, none⟩), .int .i64 n] W fun e w' => e = .returned (.pointer (some ⟨g, 0, none⟩)) ∧ ∃ TM', PmS W0 TS0 n0 w' g TM' (mkP s (numB n)) ∧ Stp TM W w' TM' := by
  refine (cMNum W g TM s.1 s.2 n h.mkr hn).mono ?_
  rintro e w' ⟨rfl, TM', h1, h2⟩
  exact ⟨rfl, TM', h.step h1 h2, h2⟩
theorem PmS.text (h : PmS W0 TS0 n0 W g TM s) (t : Str) (ht : t.length ≤ 65536) : Calls Tryz.prog 49 #[.pointer (some ⟨g, 0, none⟩), vS t] W fun e w' => e = .returned (.pointer (some ⟨g, 0, none⟩)) ∧ ∃ TM', PmS W0 TS0 n0 w' g TM' (mkP s (textB t)) ∧ Stp TM W w' TM' := by
  refine (cMText W g TM s.1 s.2 t h.mkr ht).mono ?_
  rintro e w' ⟨rfl, TM', h1, h2⟩
  exact ⟨rfl, TM', h.step h1 h2, h2⟩
end
def PmI (W0 : World) (TS0 : Nat → Prop) (n0 g : Nat) (TM0 : Nat → Prop) (s : Mst) (L : Its) (k : Nat) (C : Nat → Prop) (W : World) : Prop :=
  ∃ TM, PmS W0 TS0 n0 W g TM (mkAll s (itC (L.take k))) ∧ ∀ b, TM b → TM0 b ∨ C b
set_option maxRecDepth 100000 in
set_option maxHeartbeats 8000000 in
theorem hPut (w : World) (g : Nat) (TS : Nat → Prop) (s : Mst) (v : Value) (its : Its) (h : MK w g TS s.1 s.2) (hi : Il w v its) (hT : its ≠ [] → ∀ b, v.ownBlock = some b → ¬ TS b) (hits : ∀ p ∈ its, p.1.length ≤ 16 ∧ okI p.2) :
    Calls Tryz.prog 52 #[.pointer (some ⟨g, 0, none⟩), v] w fun e w' => (∃ v, e = .returned v) ∧ ∃ TS', MK w' g TS' (mkAll s (liC its)).1 (mkAll s (liC its)).2 ∧ Stp TS w w' TS' := by
  obtain ⟨n0, hn0⟩ : ∃ n0, w.heap.size = n0 := ⟨_, rfl⟩
  have okN : Hid (okI (its.length : Int)) := Lib.hid (by have := hi.1; unfold okI; omega)
  obtain ⟨la, lc, rfl⟩ := hi.sl
  obtain ⟨N, hN⟩ : ∃ N : Nat, its.length = N := ⟨_, rfl⟩
  obtain ⟨W0, hW0⟩ : ∃ W0, w.alloc (.cells #[.pointer (some ⟨g, 0, none⟩)] 79) = W0 := ⟨_, rfl⟩
  have hF0 : Fr (fun _ => False) w W0 := by rw [← hW0]; exact (Fr.refl _ w).alloc _
  have hb0 : W0.heap[n0]? = some (.cells #[.pointer (some ⟨g, 0, none⟩)] 79) := by rw [← hW0]; exact heap_at hn0.symm _
  have hP0 : PmS w TS n0 W0 g TS s := ⟨h.fr hF0 (fun _ _ e => e), hb0, fun e => by have := h.lt _ e; omega, Stp.refl hF0⟩
  have HIL := Lib.hid hi; have HOB := Lib.hid hi.lt; have HT := Lib.hid hT
  have hits := Lib.hid hits
  have HN := Lib.hid hN; have HS := Lib.hid hn0; have HP0 := Lib.hid hP0; have HF0 := Lib.hid hF0
  have hTlt := Lib.hid h.lt
  have hfin : Hid (mkAll s (liC its) = mkAll (mkP s (numB (N : Int))) (itC its)) := Lib.hid (by unfold liC; rw [hN]; rfl)
  rw [hN] at HIL HOB HT okN ⊢
  have c0 := cell_obj hb0 0 (.pointer (some ⟨g, 0, none⟩)) rfl
  clear h hi hT hN hP0 hb0
  refine (callsIn_wide (n := 0)).1 ?_
  refine callsIn_of_wp_marks Tryz.func52 rfl trivial ?_ rfl
  simp only [Tryz.ntmps52, List.size_toArray, List.length_cons, List.length_nil, Nat.reduceAdd, Nat.reduceSub, Array.replicate_succ, Array.replicate_zero, List.push_toArray, List.append_toArray, List.nil_append, List.cons_append]
  have hfn : ∀ f, Fence.wide.fn f := fun _ => trivial
  have hdp : Fence.wide.depth.isSome = false := rfl
  gi_wp2_with (first
    | (gi_at_call 51; refine (callsIn_wide.2 (HP0.out.num _ okN.out)).mono ?_; rintro e w1 ⟨rfl, TS1, hP1, hs1⟩; have HP1 := Lib.hid hP1; clear hP1 hs1)
    | (gi_at_call 58; refine (callsIn_wide.2 (iAll _ _ _ _)).mono ?_; rintro e w2 ⟨rfl, rfl⟩))
  obtain ⟨s1, hs1⟩ : ∃ s1, mkP s (numB (N : Int)) = s1 := ⟨_, rfl⟩
  rw [hs1] at hfin HP1
  have hPs := HP1.out
  obtain ⟨z1, hz1⟩ : ∃ z1, w1.heap.size = z1 := ⟨_, rfl⟩
  clear hs1 c0 hW0 HP1 HP0
  have hF2 : Fr (fun _ => False) w1 (w1.alloc (.cells #[.slice la N lc] 27)) := (Fr.refl _ _).alloc _
  have hBx : Boxed (w1.alloc (.cells #[.slice la N lc] 27)) w1.heap.size 27 (.slice la N lc) := heap_new _ _
  have hs2 : (w1.alloc (.cells #[.slice la N lc] 27)).heap.size = w1.heap.size + 1 := by simp
  obtain ⟨W2, hW2⟩ : ∃ W2, w1.alloc (.cells #[.slice la N lc] 27) = W2 := ⟨_, rfl⟩
  rw [hW2] at hF2 hBx hs2 ⊢
  rw [hz1] at hBx hs2 ⊢
  have hn1 : n0 < z1 := by rw [← hz1]; exact (Array.getElem?_eq_some_iff.1 hPs.box).1
  have hT1 : Hid (∀ b, TS1 b → b < z1) := Lib.hid (fun b hb => by rw [← hz1]; exact hPs.mkr.lt b hb)
  have hne : Hid (its ≠ [] → ∀ b, la.map (·.block) = some b → ¬ TS1 b) := Lib.hid (fun hne b hb e => by
    have h2 : (Value.slice la N lc).ownBlock = some b := by cases la <;> simp_all [Value.ownBlock]
    have h3 := HOB.out hne b h2
    have hs := HS.out
    rcases hPs.st.2 b e with e | e
    · exact HT.out hne b h2 e
    · omega)
  have hP2 := hPs.keep hF2
  have hIL2 : Il W2 (.slice la N lc) its := HIL.out.keep hP2.st.1 (fun hne b hb => HT.out hne b hb)
  have HP2 := Lib.hid hP2; have HS2 := Lib.hid hs2
  have hz0 : Hid (w.heap.size ≤ W2.heap.size) := Lib.hid hP2.st.1.size
  have HN1 := Lib.hid hn1
  clear hPs hP2 hF2 hz1 hW2 hn1
  refine rangeX (w0 := W2) (X := its) (S := TS1) rfl (enters_of Tryz.func95 (by kernel_rfl) rfl)
    (iAll1 _ W2 z1 _ its hBx hIL2 (fun e => by have := hT1.out _ e; omega) (fun hne' b hb e => hne.out hne' b (by cases la <;> simp_all [Value.ownBlock]) hb)) (Below.refl _ _) (fun b hb => by have := HS2.out; have := hT1.out b hb; omega) (fun _ => rfl)
    (PmI w TS n0 g TS1 s1 its) (fun _ _ _ _ => False)
    (fun k C W W' hs hf => hs.elim fun TM h => ⟨TM, h.1.fa hf hz0.out, h.2⟩) (fun c k C W W' hs hf => hs)
    ⟨TS1, by simpa [itC, mkAll] using HP2.out, fun b hb => .inl hb⟩ ?round ?done ?stop
  case stop => intro D c k C W hD hk hX; exact hX.elim
  case round =>
    rintro lp j x C W hx hlp hi hr
    dsimp only [encIt]
    gi_wp2
    refine Took.mk (Fr.refl _ _) hi ?_
    rintro Wb ⟨TM, hPb, hTC⟩ hrb hf hsz hsw hCC _
    obtain ⟨ok1, ok2⟩ := hits.out x (List.mem_of_getElem? hx)
    have hcm := cell_obj hPb.box 0 (.pointer (some ⟨g, 0, none⟩)) rfl
    have HX := Lib.hid (itC_take hx)
    obtain ⟨gx, nx⟩ := x
    dsimp only at ok1 ok2 HX
    have ok1' : gx.length ≤ 65536 := by omega
    have HPB := Lib.hid hPb; have HTC := Lib.hid hTC; have HCC := Lib.hid hCC; have HSZ := Lib.hid hsz
    have OK1 := Lib.hid ok1'; have OK2 := Lib.hid ok2
    clear hi hr hf hrb hx hPb hTC hCC ok1 ok2 ok1'
    gi_wp2_with (first
      | (gi_at_call 49; refine (callsIn_wide.2 (HPB.out.text gx OK1.out)).mono ?_; rintro e w8 ⟨rfl, TM8, hM8, hS8⟩; have HM8 := Lib.hid hM8; have HS8 := Lib.hid hS8; clear hM8 hS8)
      | (gi_at_call 51; refine (callsIn_wide.2 (HM8.out.num nx OK2.out)).mono ?_; rintro e w9 ⟨rfl, TM9, hM9, hS9⟩; have HM9 := Lib.hid hM9; have HS9 := Lib.hid hS9; clear hM9 hS9))
    have hst := HS8.out.trans HS9.out
    refine ⟨hst.1.mono (fun b hb e => (HTC.out b e).elim .inl (fun e => .inr (.inl e))), TM9, ?_, ?_⟩
    · rw [HX.out, mkAll_app]
      exact HM9.out
    · intro b hb
      rcases hst.2 b hb with e | e
      · exact (HTC.out b e).elim .inl (fun e => .inr (.inl e))
      · exact .inr (.inr ⟨by have := HSZ.out; omega, HM9.out.mkr.lt b hb⟩)
  case done =>
    rintro D C W hD ⟨TM, hPS, -⟩ hr hK
    rw [List.take_length] at hPS
    have HPS := Lib.hid hPS; have HKK := Lib.hid hK
    clear hPS hK hr
    gi_wp2_with fail
    have hz := hz0.out
    have hs := HS.out
    refine ⟨by simp, .inl ⟨_, _, rfl, run_takeDeferred HKK.out, ?_⟩⟩
    refine ⟨_, results_none rfl _ _ _, ⟨_, rfl⟩, TM, ?_, ?_⟩
    · rw [hfin.out]
      exact mk_fa HPS.out.mkr (frPut (B := n0) (.deferred none) (by omega) HKK.out rfl)
    · exact ⟨HPS.out.st.1.trans' ((Fr.refl (fun b => b = D) W).putObj (l := D) (fun _ => rfl) _) (fun b hb e => by omega), HPS.out.st.2⟩
end Go.Proofs.YtogphlnakdnchaaGreat

