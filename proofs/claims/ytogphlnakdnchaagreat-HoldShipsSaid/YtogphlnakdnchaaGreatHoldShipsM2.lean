/- Texts of this claim, joined: hold: set; Lists of goods that may be, plainly; items: Of, Total: plainly; Plain: sums of goods; Plain: sums of goods, lists put in order, two lists together; hold, plainly: what is kept for each order; hold: all holds together: plainly; stock: the keys in order, Goods, Fork; A region that draws its order, whose operations only read, and whose calls may lay blocks, but give what does not hang on the world: one walk in the text's order serves (the library's theorem on quiet regions, at the class of all worlds that hold what was there); stock: right, Balanced; stock: Level, Flow, Fork, Count; stock: Count; items: May; stock: may; stock: Do; stock: Do: the walk; hold: Stock, Count, Do; stock, plainly: what Do and Count keep; what Do makes of a stock; what is done and undone. -/
import Derived.Test.YtogphlnakdnchaaGreatHoldShipsM1
import Derived.Test.YtogphlnakdnchaaGreatShelfC
import Derived.Shelf.Abstract
import Derived.BigQuiet
import Derived.Handy
namespace Go.Proofs.YtogphlnakdnchaaGreat
open Go.RowKit Go.Maps
def HV.num (x : HV) : Nat := x.he.length + x.pi.length + x.sh.length
def setH (l : List (Int × HV)) (x : HV) : List (Int × HV) := if x.num = 0 then delS l x.o else putS ktI.lt l x.o x
section
variable {W W' : World} {g gs m : Nat} {T0 TB TB' : Nat → Prop} {A : Stk} {l : List (Int × HV)}
theorem SB.more (h : SB W g gs m T0 TB A l) (hT : ∀ b, TB b → TB' b) (hB : ∀ b, TB' b → b < W.heap.size ∧ ¬ T0 b ∧ b ≠ g ∧ b ≠ m) : SB W g gs m T0 TB' A l := by
  obtain ⟨h1, h2, h3, h4, h5, h6, h7, h8⟩ := h
  exact ⟨h1, h2, h3, fun p hp => ⟨(h4 p hp).1, (h4 p hp).2.mono hT⟩, ⟨h5.1, fun e => (hB g e).2.2.1 rfl, h5.2.2⟩, ⟨h6.1, fun e => (hB m e).2.2.2 rfl⟩, fun b hb => (hB b hb).2.1, fun b hb => (hB b hb).1⟩
end
set_option maxRecDepth 100000 in
set_option maxHeartbeats 4000000 in
theorem hset (w : World) (g gs m : Nat) (T0 TB TB' : Nat → Prop) (A : Stk) (l : List (Int × HV)) (x : HV) (h : SB w g gs m T0 TB A l) (hT : ∀ b, TB b → TB' b) (hk : HOk w TB' x) (hB : ∀ b, TB' b → b < w.heap.size ∧ ¬ T0 b ∧ b ≠ g ∧ b ≠ m) (hl : l.length ≤ 1000000) (hx : x.he.length ≤ 1000 ∧ x.pi.length ≤ 1000 ∧ x.sh.length ≤ 1000) :
    Calls Tryz.prog 32 #[.pointer (some ⟨g, 0, none⟩), x.enc] w fun e w' => e = .returned (.tuple #[]) ∧ SB w' g gs m T0 TB' A (setH l x) ∧ Fr (fun b => b = m) w w' := by
  have HH := Lib.hid h; have HK := Lib.hid hk; have HT := Lib.hid hT; have HB := Lib.hid hB
  obtain ⟨a1, c1, e1⟩ := hk.lh.1.sl
  obtain ⟨a2, c2, e2⟩ := hk.lp.1.sl
  obtain ⟨a3, c3, e3⟩ := hk.ls.1.sl
  have ho := hk.o
  have hmn := h.ng.2.2
  unfold setH HV.num
  obtain ⟨o, xh, xp, xs, he, pi, sh⟩ := x
  dsimp only at e1 e2 e3 hx ho
  subst e1; subst e2; subst e3
  obtain ⟨n1, hn1⟩ : ∃ n, he.length = n := ⟨_, rfl⟩
  obtain ⟨n2, hn2⟩ : ∃ n, pi.length = n := ⟨_, rfl⟩
  obtain ⟨n3, hn3⟩ : ∃ n, sh.length = n := ⟨_, rfl⟩
  dsimp only [HV.enc]
  rw [hn1, hn2, hn3] at HK hx ⊢
  have hst : ∀ W, Fr (fun _ => False) w W → ∃ w', (Instr.mapUpdate 61 (.map (some m)) (.int .i64 o) (.agg #[.int .i64 o, .slice a1 n1 c1, .slice a2 n2 c2, .slice a3 n3 c3])).run Tryz.prog W = .ok () w' ∧ Mp Tryz.prog w' 3 ktI HV.enc m (putS ktI.lt l o ⟨o, .slice a1 n1 c1, .slice a2 n2 c2, .slice a3 n3 c3, he, pi, sh⟩) ∧ W.mapTurned w' m := fun W hW =>
    (hW.mp HH.out.mp (fun h => h)).store kHI Tryz.underlying61 (by omega) ho (⟨o, .slice a1 n1 c1, .slice a2 n2 c2, .slice a3 n3 c3, he, pi, sh⟩ : HV)
  have hdl : ∀ W ty, Fr (fun _ => False) w W → ∃ w', (Builtin.delete_ #[61, 3] ty #[.map (some m), .int .i64 o]).run Tryz.prog W = .ok (.tuple #[]) w' ∧ Mp Tryz.prog w' 3 ktI HV.enc m (delS l o) ∧ W.mapTurned w' m := fun W ty hW =>
    (hW.mp HH.out.mp (fun h => h)).drop kHI Tryz.underlying61 ho ty
  have HST := Lib.hid hst; have HDL := Lib.hid hdl
  obtain ⟨n0, hn0⟩ : ∃ n0, w.heap.size = n0 := ⟨_, rfl⟩
  have HN0 := Lib.hid hn0
  have hbx : (w.alloc (.cells #[.int .i64 o, .slice a1 n1 c1, .slice a2 n2 c2, .slice a3 n3 c3] 37)).heap[n0]? = some (.cells #[.int .i64 o, .slice a1 n1 c1, .slice a2 n2 c2, .slice a3 n3 c3] 37) := heap_at hn0.symm _
  have HBX := Lib.hid hbx
  have hw1 : IntKind.i64.wrap ((n1 : Int) + n2) = (n1 : Int) + n2 := IntWalk.i64_in _ ⟨by omega, by omega⟩
  have hw2 : IntKind.i64.wrap ((n1 : Int) + n2 + n3) = (n1 : Int) + n2 + n3 := IntWalk.i64_in _ ⟨by omega, by omega⟩
  clear h hk hT hB hst hdl hbx hn1 hn2 hn3
  by_cases hz : n1 + n2 + n3 = 0
  · rw [if_pos hz]
    obtain ⟨rfl, rfl, rfl⟩ : n1 = 0 ∧ n2 = 0 ∧ n3 = 0 := by omega
    clear hw1 hw2 hz hx
    go_enter Tryz.func32, Tryz.ntmps32
    go_wp2_with fail
    refine wp_region_still_tail 6 (by kernel_rfl) (by kernel_rfl) ?_
    simp only [List.take_succ_cons, List.take_zero, List.drop_succ_cons, List.drop_zero]
    subst hn0
    obtain ⟨W1, hW1⟩ : ∃ W1, w.alloc (.cells #[.int .i64 o, .slice a1 0 c1, .slice a2 0 c2, .slice a3 0 c3] 37) = W1 := ⟨_, rfl⟩
    have hF0 : Fr (fun _ => False) w W1 := by rw [← hW1]; exact (Fr.refl _ w).alloc _
    rw [hW1] at HBX ⊢
    have hF : Fr (fun _ => False) w W1.drew := hF0.drew
    have hB3 : W1.drew.heap[w.heap.size]? = some (.cells #[.int .i64 o, .slice a1 0 c1, .slice a2 0 c2, .slice a3 0 c3] 37) := HBX.out
    change wpStill _ _ W1.drew (fun a' => wpList _ _ _ _ a' W1.drew) _ _
    generalize W1.drew = V at hF hB3 ⊢
    obtain ⟨w5, hst5, hm5, ht5⟩ := HDL.out V 0 hF
    have hSV := HH.out.keep hF (fun _ _ e => e)
    obtain ⟨cg0, cg1⟩ := hSV.cells
    have d0 := cell_obj hB3 0 (.int .i64 o) rfl
    have HSV := Lib.hid hSV; have HF := Lib.hid hF; have HM5 := Lib.hid hm5; have HT5 := Lib.hid ht5
    clear hSV hF hB3 hm5 ht5 hF0 hW1
    repeat still_step
    refine wpStill_nil ?_
    go_wp2_with fail
    have hF5 : Fr (fun b => b = m) w w5 := (HF.out.mono (fun _ _ h => h.elim)).trans' (Fr.turned (S := fun b => b = m) HT5.out rfl) (fun b _ e => e)
    have hz2 := hF5.size
    refine bodyPost_ret (v := .tuple #[]) (by simp [results, Tryz.results32, go_sem]) rfl ?_
    exact ⟨rfl, (HSV.out.del HM5.out HT5.out).more HT.out (fun b hb => ⟨by have := (HB.out b hb).1; omega, (HB.out b hb).2⟩), hF5⟩
  · rw [if_neg hz]
    have hzI : ((n1 : Int) + n2 + n3 == 0) = false := by simp; omega
    clear hz
    go_enter Tryz.func32, Tryz.ntmps32
    go_wp2_with fail
    refine wp_region_still_tail 7 (by kernel_rfl) (by kernel_rfl) ?_
    simp only [List.take_succ_cons, List.take_zero, List.drop_succ_cons, List.drop_zero]
    subst hn0
    obtain ⟨W1, hW1⟩ : ∃ W1, w.alloc (.cells #[.int .i64 o, .slice a1 n1 c1, .slice a2 n2 c2, .slice a3 n3 c3] 37) = W1 := ⟨_, rfl⟩
    have hF0 : Fr (fun _ => False) w W1 := by rw [← hW1]; exact (Fr.refl _ w).alloc _
    rw [hW1] at HBX ⊢
    have hF : Fr (fun _ => False) w W1.drew := hF0.drew
    have hB3 : W1.drew.heap[w.heap.size]? = some (.cells #[.int .i64 o, .slice a1 n1 c1, .slice a2 n2 c2, .slice a3 n3 c3] 37) := HBX.out
    change wpStill _ _ W1.drew (fun a' => wpList _ _ _ _ a' W1.drew) _ _
    generalize W1.drew = V at hF hB3 ⊢
    obtain ⟨w5, hst5, hm5, ht5⟩ := HST.out V hF
    have hSV := HH.out.keep hF (fun _ _ e => e)
    obtain ⟨cg0, cg1⟩ := hSV.cells
    have d0 := cell_obj hB3 0 (.int .i64 o) rfl
    have d1 := cell_obj hB3 1 (.slice a1 n1 c1) rfl
    have d2 := cell_obj hB3 2 (.slice a2 n2 c2) rfl
    have d3 := cell_obj hB3 3 (.slice a3 n3 c3) rfl
    have HSV := Lib.hid hSV; have HF := Lib.hid hF; have HM5 := Lib.hid hm5; have HT5 := Lib.hid ht5
    clear hSV hF hB3 hm5 ht5 hF0 hW1
    repeat still_step
    refine wpStill_nil ?_
    go_wp2_with fail
    go_end0
    have hF5 : Fr (fun b => b = m) w w5 := (HF.out.mono (fun _ _ h => h.elim)).trans' (Fr.turned (S := fun b => b = m) HT5.out rfl) (fun b _ e => e)
    exact ⟨rfl, HSV.out.put (h' := ⟨o, .slice a1 n1 c1, .slice a2 n2 c2, .slice a3 n3 c3, he, pi, sh⟩) HM5.out HT5.out HT.out (HK.out.keep HF.out (fun _ _ e => e)) (fun b hb => ⟨by have := (HB.out b hb).1; have := HF.out.size; omega, (HB.out b hb).2⟩), hF5⟩
end Go.Proofs.YtogphlnakdnchaaGreat

namespace Go.Proofs.YtogphlnakdnchaaGreat
open Go.RowKit Go.Maps
theorem its_cons {last : Str} {p : Str × Int} {r : Its} (h : itsOk last (p :: r) = true) : goodB p.1 = true ∧ 1 ≤ p.2 ∧ p.2 ≤ 1099511627776 ∧ last < p.1 ∧ itsOk p.1 r = true := by
  unfold itsOk at h
  simp only [Bool.and_eq_true, decide_eq_true_eq, mayI_iff] at h
  exact ⟨h.1.1.1.1, h.1.1.1.2, h.1.1.2.2, h.1.2, h.2⟩
theorem its_all : ∀ {L : Its} {last : Str}, itsOk last L = true → RiseS L ∧ ∀ p ∈ L, goodB p.1 = true ∧ 1 ≤ p.2 ∧ p.2 ≤ 1099511627776 ∧ last < p.1
  | [], _, _ => ⟨List.Pairwise.nil, fun p hp => by cases hp⟩
  | q :: r, last, h => by
    obtain ⟨h1, h2, h3, h4, h5⟩ := its_cons h
    obtain ⟨i1, i2⟩ := its_all h5
    refine ⟨List.pairwise_cons.2 ⟨fun p hp => (i2 p hp).2.2.2, i1⟩, fun p hp => ?_⟩
    rcases List.mem_cons.1 hp with rfl | hp
    · exact ⟨h1, h2, h3, h4⟩
    · obtain ⟨j1, j2, j3, j4⟩ := i2 p hp
      exact ⟨j1, j2, j3, str_trans h4 j4⟩
theorem mayL_iff {L : Its} : mayL L = true ↔ itsOk [] L = true ∧ L.length ≤ 16 := by
  unfold mayL; rw [Bool.and_eq_true, decide_eq_true_eq]
end Go.Proofs.YtogphlnakdnchaaGreat

namespace Go.Proofs.YtogphlnakdnchaaGreat
open Go.RowKit Go.Maps
/-- How many of a good. -/
def ofStep (s : Str) (a : Int) (p : Str × Int) : Int := if p.1 = s then wrap64 (a + p.2) else a
def ofF (L : Its) (s : Str) : Int := L.foldl (ofStep s) 0
theorem ofF_take {L : Its} {k : Nat} {p : Str × Int} (s : Str) (h : L[k]? = some p) : ofF (L.take (k + 1)) s = ofStep s (ofF (L.take k) s) p := by
  unfold ofF
  rw [List.take_add_one, h, List.foldl_append]
  rfl
end Go.Proofs.YtogphlnakdnchaaGreat

namespace Go.Proofs.YtogphlnakdnchaaGreat
open Go.RowKit
def sumI (L : Its) : Int := (L.map (·.2)).sum
def getI (L : Its) (s : Str) : Int := sumI (L.filter fun p => decide (p.1 = s))
theorem sumI_app (A B : Its) : sumI (A ++ B) = sumI A + sumI B := by simp [sumI]
theorem sumI_cons (p : Str × Int) (B : Its) : sumI (p :: B) = p.2 + sumI B := by simp [sumI]
theorem sumI_nn {L : Its} (h : ∀ p ∈ L, 0 ≤ p.2) : 0 ≤ sumI L := by
  induction L with
  | nil => exact Int.le_refl _
  | cons p r ih =>
    rw [sumI_cons]
    have := h p List.mem_cons_self
    have := ih (fun q hq => h q (List.mem_cons_of_mem _ hq))
    omega
theorem wrap64_in {x : Int} (h : -9223372036854775808 ≤ x ∧ x ≤ 9223372036854775807) : wrap64 x = x := by unfold wrap64; omega
theorem ofF_aux (s : Str) : ∀ (L : Its) (a : Int), 0 ≤ a → (∀ p ∈ L, 0 ≤ p.2) → a + getI L s ≤ 9223372036854775807 → L.foldl (ofStep s) a = a + getI L s
  | [], a, _, _, _ => by simp [getI, sumI]
  | p :: r, a, ha, hp, hb => by
    have h1 := hp p List.mem_cons_self
    have h2 : 0 ≤ getI r s := sumI_nn (fun q hq => hp q (List.mem_cons_of_mem _ ((List.mem_filter.1 hq).1)))
    rw [List.foldl_cons]
    by_cases e : p.1 = s
    · have e1 : getI (p :: r) s = p.2 + getI r s := by unfold getI; rw [List.filter_cons, if_pos (by simpa using e), sumI_cons]
      rw [e1] at hb ⊢
      have e2 : ofStep s a p = a + p.2 := by unfold ofStep; rw [if_pos e, wrap64_in ⟨by omega, by omega⟩]
      rw [e2, ofF_aux s r (a + p.2) (by omega) (fun q hq => hp q (List.mem_cons_of_mem _ hq)) (by omega)]
      omega
    · have e1 : getI (p :: r) s = getI r s := by unfold getI; rw [List.filter_cons, if_neg (by simpa using e)]
      rw [e1] at hb ⊢
      have e2 : ofStep s a p = a := by unfold ofStep; rw [if_neg e]
      rw [e2, ofF_aux s r a ha (fun q hq => hp q (List.mem_cons_of_mem _ hq)) hb]
theorem getI_nn {L : Its} (s : Str) (hp : ∀ p ∈ L, 0 ≤ p.2) : 0 ≤ getI L s := sumI_nn (fun q hq => hp q ((List.mem_filter.1 hq).1))
end Go.Proofs.YtogphlnakdnchaaGreat

namespace Go.Proofs.YtogphlnakdnchaaGreat
open Go.RowKit Go.Maps
def badIt (p : Str × Int) : Bool := !(goodB p.1 && mayI p.2)
def sumAt (m : Its) (p : Str × Int) : Int := (getS m p.1).getD 0 + p.2
def sumStep (r : Option Its) (p : Str × Int) : Option Its := match r with
  | none => none
  | some m => if 1099511627776 < sumAt m p then none else some (putS ktS.lt m p.1 (sumAt m p))
def sumsM (L : Its) : Option Its := L.foldl sumStep (some [])
/-- The sums of all goods, or what is wrong. -/
def sumsF (L : Its) : Int × Its := if L.any badIt = true then (60, []) else match sumsM L with | some m => (0, m) | none => (50, [])
def posF (m : Its) : Its := m.filter fun p => decide (0 < p.2)
/-- A list put in order. -/
def normF (L : Its) : Its × Int := if (sumsF L).1 = 0 then (if 16 < (posF (sumsF L).2).length then ([], 3) else (posF (sumsF L).2, 0)) else ([], (sumsF L).1)
/-- Two lists together. -/
def plusF (a b : Its) : Its × Int := if mayL a = true ∧ mayL b = true then normF (a ++ b) else ([], 60)
theorem sumsM_take {L : Its} {k : Nat} {p : Str × Int} (h : L[k]? = some p) : sumsM (L.take (k + 1)) = sumStep (sumsM (L.take k)) p := by
  unfold sumsM
  rw [List.take_add_one, h, List.foldl_append]
  rfl
theorem sumStep_none : ∀ L : Its, L.foldl sumStep none = none
  | [] => rfl
  | _ :: r => sumStep_none r
theorem sumsM_no {L : Its} {k : Nat} (h : sumsM (L.take k) = none) : sumsM L = none := by
  have : sumsM L = (L.drop k).foldl sumStep (sumsM (L.take k)) := by
    unfold sumsM
    rw [← List.foldl_append, List.take_append_drop]
  rw [this, h, sumStep_none]
theorem getI_app (A B : Its) (s : Str) : getI (A ++ B) s = getI A s + getI B s := by
  unfold getI; rw [List.filter_append, sumI_app]
theorem getI_cons (p : Str × Int) (B : Its) (s : Str) : getI (p :: B) s = (if p.1 = s then p.2 else 0) + getI B s := by
  unfold getI
  rw [List.filter_cons]
  by_cases e : p.1 = s
  · rw [if_pos (by simpa using e), if_pos e, sumI_cons]
  · rw [if_neg (by simpa using e), if_neg e]; omega
theorem getI_nil (s : Str) : getI [] s = 0 := rfl
theorem getI_rise : ∀ {m : Its} (s : Str), RiseS m → getI m s = (getS m s).getD 0
  | [], _, _ => rfl
  | p :: r, s, h => by
    obtain ⟨h1, h2⟩ := List.pairwise_cons.1 h
    rw [getI_cons]
    by_cases e : p.1 = s
    · rw [if_pos e]
      have : getI r s = 0 := by
        rw [getI_rise s h2, getK_none.2 (fun y hy e2 => by have := h1 y hy; rw [e, e2] at this; exact str_irr _ this)]
        rfl
      rw [this]
      simp only [getS, if_pos e, Option.getD_some]
      omega
    · rw [if_neg e, getI_rise s h2]
      simp only [getS, if_neg e]
      omega
structure SumOk (m : Its) (L : Its) : Prop where
  rise : RiseS m
  row : ∀ p ∈ m, goodB p.1 = true ∧ 0 ≤ p.2 ∧ p.2 ≤ 1099511627776
  get : ∀ s, getI m s = getI L s
  key : ∀ p ∈ m, ∃ q ∈ L, q.1 = p.1
theorem SumOk.nil : SumOk [] [] := ⟨List.Pairwise.nil, fun p hp => (by cases hp), fun s => rfl, fun p hp => (by cases hp)⟩
theorem SumOk.nd {m L : Its} (h : SumOk m L) : (m.map (·.1)).Nodup := riseS_nd h.rise
theorem SumOk.at_ {m L : Its} (h : SumOk m L) (s : Str) : 0 ≤ (getS m s).getD 0 ∧ (getS m s).getD 0 ≤ 1099511627776 := by
  cases e : getS m s with
  | none => exact ⟨Int.le_refl _, by simp⟩
  | some v => exact (h.row _ (getK_mem e)).2
theorem SumOk.step {m L : Its} {p : Str × Int} (h : SumOk m L) (hp : badIt p = false) (hs : ¬ 1099511627776 < sumAt m p) : SumOk (putS ktS.lt m p.1 (sumAt m p)) (L ++ [p]) := by
  have hp2 : goodB p.1 = true ∧ 0 ≤ p.2 ∧ p.2 ≤ 1099511627776 := by
    unfold badIt at hp
    have h3 : (goodB p.1 && mayI p.2) = true := by simpa using hp
    rw [Bool.and_eq_true, mayI_iff] at h3
    exact h3
  have h0 := h.at_ p.1
  refine ⟨riseS_put h.rise, fun q hq => ?_, fun s => ?_, fun q hq => ?_⟩
  · rcases mem_putK.1 hq with rfl | ⟨hq, -⟩
    · refine ⟨hp2.1, ?_, ?_⟩ <;> (unfold sumAt at hs ⊢; dsimp only; omega)
    · exact h.row q hq
  · rw [getI_rise s (riseS_put h.rise), getK_put h.nd, getI_app, getI_cons, getI_nil, ← h.get s, getI_rise s h.rise]
    by_cases e : p.1 = s
    · rw [if_pos e, if_pos e]
      subst e
      simp only [Option.getD_some]
      unfold sumAt
      omega
    · rw [if_neg e, if_neg e]; omega
  · rcases mem_putK.1 hq with rfl | ⟨hq, -⟩
    · exact ⟨p, by simp, rfl⟩
    · obtain ⟨r, hr, e⟩ := h.key q hq
      exact ⟨r, by simp [hr], e⟩
theorem sumsM_ok : ∀ (B A m : Its) (m' : Its), SumOk m A → (∀ p ∈ B, badIt p = false) → B.foldl sumStep (some m) = some m' → SumOk m' (A ++ B)
  | [], A, m, m', h, _, e => by
    obtain rfl : m = m' := Option.some.inj e
    rw [List.append_nil]; exact h
  | p :: r, A, m, m', h, hb, e => by
    rw [List.foldl_cons] at e
    by_cases hs : 1099511627776 < sumAt m p
    · have : sumStep (some m) p = none := by simp only [sumStep, if_pos hs]
      rw [this, sumStep_none] at e; cases e
    · have h1 : sumStep (some m) p = some (putS ktS.lt m p.1 (sumAt m p)) := by simp only [sumStep, if_neg hs]
      rw [h1] at e
      have := sumsM_ok r (A ++ [p]) _ m' (h.step (hb p (by simp)) hs) (fun q hq => hb q (by simp [hq])) e
      rw [List.append_assoc] at this
      exact this
theorem sumsF_ok {L m : Its} (h : sumsF L = (0, m)) : SumOk m L := by
  unfold sumsF at h
  split at h
  · cases h
  · rename_i hb
    split at h
    · rename_i m' hm
      injection h with _ h
      subst h
      have hb2 : ∀ p ∈ L, badIt p = false := fun p hp => by
        cases e : badIt p with
        | false => rfl
        | true => exact absurd (List.any_eq_true.2 ⟨p, hp, e⟩) hb
      exact sumsM_ok L [] [] m' SumOk.nil hb2 hm
    · cases h
theorem getI_pos {m : Its} (h : ∀ p ∈ m, 0 ≤ p.2) (s : Str) : getI (posF m) s = getI m s := by
  induction m with
  | nil => rfl
  | cons p r ih =>
    have i1 := ih (fun q hq => h q (by simp [hq]))
    have h1 := h p (by simp)
    unfold posF at i1 ⊢
    rw [List.filter_cons]
    by_cases e : 0 < p.2
    · rw [if_pos (by simpa using e), getI_cons, getI_cons, i1]
    · rw [if_neg (by simpa using e), getI_cons, i1]
      split <;> omega
/-- A list in order: what it is. -/
structure NormOk (r L : Its) : Prop where
  rise : RiseS r
  row : ∀ p ∈ r, goodB p.1 = true ∧ 1 ≤ p.2 ∧ p.2 ≤ 1099511627776
  get : ∀ s, getI r s = getI L s
  len : r.length ≤ 16
theorem normF_ok {L r : Its} (h : normF L = (r, 0)) : NormOk r L := by
  unfold normF at h
  split at h
  · rename_i h0
    split at h
    · injection h with _ h; exact absurd h (by omega)
    · rename_i h1
      injection h with h _
      have hk : SumOk (sumsF L).2 L := sumsF_ok (Prod.ext h0 rfl)
      subst h
      refine ⟨List.Pairwise.sublist List.filter_sublist hk.rise, fun p hp => ?_, fun s => ?_, by omega⟩
      · obtain ⟨h2, h3⟩ := List.mem_filter.1 hp
        have := hk.row p h2
        have : 0 < p.2 := by simpa using h3
        exact ⟨(hk.row p h2).1, by omega, (hk.row p h2).2.2⟩
      · rw [getI_pos (fun p hp => (hk.row p hp).2.1), hk.get s]
  · rename_i h0
    injection h with _ h
    exact absurd h h0
theorem itsOk_of : ∀ {L : Its} {last : Str}, RiseS L → (∀ p ∈ L, goodB p.1 = true ∧ 1 ≤ p.2 ∧ p.2 ≤ 1099511627776 ∧ last < p.1) → itsOk last L = true
  | [], _, _, _ => rfl
  | p :: r, last, h, hx => by
    obtain ⟨h1, h2⟩ := List.pairwise_cons.1 h
    obtain ⟨a, b, c, d⟩ := hx p (by simp)
    unfold itsOk
    rw [itsOk_of h2 (fun q hq => by have := hx q (by simp [hq]); exact ⟨this.1, this.2.1, this.2.2.1, h1 q hq⟩)]
    simp only [Bool.and_eq_true, decide_eq_true_eq, mayI_iff]
    exact ⟨⟨⟨⟨a, b⟩, by omega, c⟩, d⟩, trivial⟩
theorem good_posN {s : Str} (h : goodB s = true) : ([] : Str) < s := by
  cases s with
  | nil => simp [goodB] at h
  | cons a r => exact List.nil_lt_cons a r
theorem NormOk.may {r L : Its} (h : NormOk r L) : mayL r = true := mayL_iff.2 ⟨itsOk_of h.rise (fun p hp => ⟨(h.row p hp).1, (h.row p hp).2.1, (h.row p hp).2.2, good_posN (h.row p hp).1⟩), h.len⟩
theorem mayL_all {L : Its} (h : mayL L = true) : NormOk L L := by
  have h1 := mayL_iff.1 h
  have h2 := its_all h1.1
  exact ⟨h2.1, fun p hp => ⟨(h2.2 p hp).1, (h2.2 p hp).2.1, (h2.2 p hp).2.2.1⟩, fun s => rfl, h1.2⟩
theorem plusF_ok {a b r : Its} (h : plusF a b = (r, 0)) : mayL r = true ∧ mayL a = true ∧ mayL b = true ∧ ∀ s, getI r s = getI a s + getI b s := by
  unfold plusF at h
  split at h
  · rename_i hm
    have hk := normF_ok h
    exact ⟨hk.may, hm.1, hm.2, fun s => by rw [hk.get, getI_app]⟩
  · injection h with _ h; exact absurd h (by omega)
end Go.Proofs.YtogphlnakdnchaaGreat

namespace Go.Proofs.YtogphlnakdnchaaGreat
open Go.RowKit Go.Maps
abbrev Hes := List (Int × HE)
def HE.num (x : HE) : Nat := x.he.length + x.pi.length + x.sh.length
def heOf (le : Hes) (o : Int) : HE := (getS le o).getD ⟨o, [], [], []⟩
def setE (le : Hes) (x : HE) : Hes := if x.num = 0 then delS le x.o else putS ktI.lt le x.o x
def mapE (l : List (Int × HV)) : Hes := l.map fun p => (p.1, p.2.e)
section
variable {κ ν μ : Type} [DecidableEq κ] (f : ν → μ)
theorem getS_map (l : List (κ × ν)) (x : κ) : getS (l.map fun p => (p.1, f p.2)) x = (getS l x).map f := by
  induction l with
  | nil => rfl
  | cons p r ih =>
    simp only [List.map_cons, getS]
    by_cases e : p.1 = x
    · rw [if_pos e, if_pos e]; rfl
    · rw [if_neg e, if_neg e, ih]
theorem delS_map (l : List (κ × ν)) (x : κ) : delS (l.map fun p => (p.1, f p.2)) x = (delS l x).map fun p => (p.1, f p.2) := by
  unfold delS
  rw [List.filter_map]
  rfl
omit [DecidableEq κ] in
theorem insS_map (lt : κ → κ → Bool) (x : κ × ν) : ∀ l : List (κ × ν), insS lt (x.1, f x.2) (l.map fun p => (p.1, f p.2)) = (insS lt x l).map fun p => (p.1, f p.2)
  | [] => rfl
  | y :: r => by
    show (if lt x.1 y.1 = true then _ else _) = List.map _ (if lt x.1 y.1 = true then _ else _)
    cases lt x.1 y.1
    · simp only [Bool.false_eq_true, if_false, List.map_cons, insS_map lt x r]
    · simp
theorem putS_map (lt : κ → κ → Bool) (l : List (κ × ν)) (x : κ) (v : ν) : putS lt (l.map fun p => (p.1, f p.2)) x (f v) = (putS lt l x v).map fun p => (p.1, f p.2) := by
  unfold putS
  rw [delS_map]
  exact insS_map f lt (x, v) _
end
theorem heOf_map (l : List (Int × HV)) (o : Int) : heOf (mapE l) o = (holdOf l o).e := by
  unfold heOf holdOf mapE
  rw [getS_map]
  cases getS l o <;> rfl
theorem getE_none (l : List (Int × HV)) (o : Int) : (getS (mapE l) o).isNone = (getS l o).isNone := by
  unfold mapE
  rw [getS_map]
  cases getS l o <;> rfl
theorem setE_map (l : List (Int × HV)) (x : HV) : mapE (setH l x) = setE (mapE l) x.e := by
  have h1 : x.e.num = x.num := rfl
  have h2 : x.e.o = x.o := rfl
  unfold setH setE
  rw [h1, h2]
  split
  · unfold mapE; rw [delS_map]
  · unfold mapE; rw [putS_map]
theorem mapE_len (l : List (Int × HV)) : (mapE l).length = l.length := by unfold mapE; rw [List.length_map]
/-- What Take answers, and what it leaves. -/
def takeE (A : Stk) (le : Hes) (o : Int) (L : Its) : (Its × Int) × Stk × Hes :=
  if mayO o ≠ 0 then (([], mayO o), A, le)
  else if mayL L = false then (([], 60), A, le)
  else if 0 < (heOf le o).pi.length + (heOf le o).sh.length then (([], 80), A, le)
  else if offerS A L = [] then (([], 0), A, le)
  else if (getS le o).isNone = true ∧ 256 ≤ le.length then (([], 2), A, le)
  else if (plusF (heOf le o).he (offerS A L)).2 ≠ 0 then (([], (plusF (heOf le o).he (offerS A L)).2), A, le)
  else if (doS A 2 (offerS A L)).1 ≠ 0 then (([], (doS A 2 (offerS A L)).1), A, le)
  else ((offerS A L, 0), (doS A 2 (offerS A L)).2, setE le { heOf le o with he := (plusF (heOf le o).he (offerS A L)).1 })
/-- A hold's lists, by their places. -/
def HE.get (x : HE) : Nat → Its
  | 0 => x.he
  | 1 => x.pi
  | _ => x.sh
def HE.set (x : HE) (i : Nat) (L : Its) : HE := match i with
  | 0 => { x with he := L }
  | 1 => { x with pi := L }
  | _ => { x with sh := L }
/-- What moving all of list i to list j (or to none) answers, and what it leaves. -/
def moveS (A : Stk) (le : Hes) (o k : Int) (i : Nat) (j : Option Nat) : (Its × Int) × Stk × Hes :=
  if mayO o ≠ 0 then (([], mayO o), A, le)
  else if (heOf le o).get i = [] then (([], 4), A, le)
  else match j with
    | none => if (doS A k ((heOf le o).get i)).1 ≠ 0 then (([], (doS A k ((heOf le o).get i)).1), A, le)
      else (((heOf le o).get i, 0), (doS A k ((heOf le o).get i)).2, setE le ((heOf le o).set i []))
    | some j => if (plusF ((heOf le o).get j) ((heOf le o).get i)).2 ≠ 0 then (([], (plusF ((heOf le o).get j) ((heOf le o).get i)).2), A, le)
      else if (doS A k ((heOf le o).get i)).1 ≠ 0 then (([], (doS A k ((heOf le o).get i)).1), A, le)
      else (((heOf le o).get i, 0), (doS A k ((heOf le o).get i)).2, setE le (((heOf le o).set i []).set j (plusF ((heOf le o).get j) ((heOf le o).get i)).1))
def freeE (A : Stk) (le : Hes) (o : Int) : (Its × Int) × Stk × Hes :=
  if mayO o ≠ 0 then (([], mayO o), A, le)
  else if 0 < (heOf le o).pi.length then (([], 80), A, le)
  else moveS A le o 3 0 none
def pickE (A : Stk) (le : Hes) (o : Int) := moveS A le o 4 0 (some 1)
def unpickE (A : Stk) (le : Hes) (o : Int) := moveS A le o 5 1 (some 0)
def shipE (A : Stk) (le : Hes) (o : Int) := moveS A le o 6 1 (some 2)
/-- A shelf's lists all may be. -/
structure HEok (o : Int) (x : HE) : Prop where
  eq : x.o = o
  may : 1 ≤ o ∧ o ≤ 1099511627776
  he : mayL x.he = true
  pi : mayL x.pi = true
  sh : mayL x.sh = true
  num : x.num ≠ 0
structure ShOk (A : Stk) (le : Hes) : Prop where
  stk : SOk A
  rise : le.Pairwise (fun p q => p.1 < q.1)
  row : ∀ p ∈ le, HEok p.1 p.2
  len : le.length ≤ 256
theorem offer_len (A : Stk) (L : Its) : (offerS A L).length ≤ L.length := List.length_filterMap_le _ _
theorem heOf_o {le : Hes} {o : Int} (h : ∀ p ∈ le, p.1 = p.2.o) : (heOf le o).o = o := by
  unfold heOf
  cases e : getS le o with
  | none => rfl
  | some x => exact (h _ (getK_mem e)).symm
theorem heOf_may {le : Hes} (h : ∀ p ∈ le, HEok p.1 p.2) (o : Int) : mayL (heOf le o).he = true ∧ mayL (heOf le o).pi = true ∧ mayL (heOf le o).sh = true := by
  unfold heOf
  cases e : getS le o with
  | none => exact ⟨rfl, rfl, rfl⟩
  | some x =>
    have := h _ (getK_mem e)
    exact ⟨this.he, this.pi, this.sh⟩
theorem heOf_len {le : Hes} (h : ∀ p ∈ le, HEok p.1 p.2) (o : Int) : (heOf le o).he.length ≤ 16 ∧ (heOf le o).pi.length ≤ 16 ∧ (heOf le o).sh.length ≤ 16 := by
  have := heOf_may h o
  exact ⟨(mayL_iff.1 this.1).2, (mayL_iff.1 this.2.1).2, (mayL_iff.1 this.2.2).2⟩
end Go.Proofs.YtogphlnakdnchaaGreat

namespace Go.Proofs.YtogphlnakdnchaaGreat
open Go.RowKit Go.Maps
/-- A list's counts are added to a map. -/
def addAt (H : Its) (p : Str × Int) : Its := putS ktS.lt H p.1 ((getS H p.1).getD 0 + p.2)
def addAll (H L : Its) : Its := L.foldl addAt H
theorem addAll_take {H L : Its} {k : Nat} {p : Str × Int} (h : L[k]? = some p) : addAll H (L.take (k + 1)) = addAt (addAll H (L.take k)) p := by
  unfold addAll
  rw [List.take_add_one, h, List.foldl_append]
  rfl
structure AddOk (H' H L : Its) : Prop where
  rise : RiseS H'
  get : ∀ s, getI H' s = getI H s + getI L s
  key : ∀ s, (getS H' s).isSome = true ↔ ((getS H s).isSome = true ∨ ∃ p ∈ L, p.1 = s)
theorem AddOk.refl {H : Its} (h : RiseS H) : AddOk H H [] := ⟨h, fun s => by rw [getI_nil]; omega, fun s => ⟨.inl, fun e => e.elim id (fun ⟨p, hp, _⟩ => by cases hp)⟩⟩
theorem AddOk.step {H' H L : Its} {p : Str × Int} (h : AddOk H' H L) : AddOk (addAt H' p) H (L ++ [p]) := by
  refine ⟨riseS_put h.rise, fun s => ?_, fun s => ?_⟩
  · unfold addAt
    rw [getI_rise s (riseS_put h.rise), getK_put (riseS_nd h.rise), getI_app, getI_cons, getI_nil]
    have h1 := h.get s
    rw [getI_rise s h.rise] at h1
    by_cases e : p.1 = s
    · subst e
      rw [if_pos rfl, if_pos rfl]
      simp only [Option.getD_some]
      omega
    · rw [if_neg e, if_neg e]; omega
  · unfold addAt
    rw [getK_put (riseS_nd h.rise)]
    by_cases e : p.1 = s
    · rw [if_pos e]
      exact ⟨fun _ => .inr ⟨p, by simp, e⟩, fun _ => rfl⟩
    · rw [if_neg e, h.key s]
      constructor
      · rintro (h1 | ⟨q, hq, e1⟩)
        · exact .inl h1
        · exact .inr ⟨q, by simp [hq], e1⟩
      · rintro (h1 | ⟨q, hq, e1⟩)
        · exact .inl h1
        · rcases List.mem_append.1 hq with hq | hq
          · exact .inr ⟨q, hq, e1⟩
          · simp only [List.mem_cons, List.not_mem_nil, or_false] at hq
            subst hq
            exact absurd e1 e
theorem addAll_ok' : ∀ (B A H' H : Its), AddOk H' H A → AddOk (addAll H' B) H (A ++ B)
  | [], A, H', H, h => by rw [List.append_nil]; exact h
  | p :: r, A, H', H, h => by
    have := addAll_ok' r (A ++ [p]) (addAt H' p) H h.step
    rw [List.append_assoc] at this
    exact this
theorem addAll_ok {H : Its} (L : Its) (h : RiseS H) : AddOk (addAll H L) H L := by
  have := addAll_ok' L [] H H (AddOk.refl h)
  simpa using this
theorem addAll_len (H L : Its) : (addAll H L).length ≤ H.length + L.length := by
  induction L generalizing H with
  | nil => exact Nat.le_refl _
  | cons p r ih =>
    have h1 := ih (addAt H p)
    have h2 := putK_len ktS.lt H p.1 ((getS H p.1).getD 0 + p.2)
    rw [List.length_cons]
    unfold addAll at h1 ⊢
    rw [List.foldl_cons]
    unfold addAt at h1 ⊢
    omega
/-- What the entries that are left no more say together. -/
def sumOf {ν : Type} (left : Lit → Bool) (l : List (Int × ν)) (f : ν → Int) : Int := ((l.filter fun p => !left (ktI.lit p.1)).map fun p => f p.2).sum
section
variable {ν : Type}
theorem litI_same (x y : Int) : (ktI.lit x).sameKey (ktI.lit y) = decide (x = y) := by simp [ktI, Lit.sameKey]
theorem sumOf_cons (left : Lit → Bool) (p : Int × ν) (r : List (Int × ν)) (f : ν → Int) : sumOf left (p :: r) f = (if left (ktI.lit p.1) = true then 0 else f p.2) + sumOf left r f := by
  unfold sumOf
  rw [List.filter_cons]
  cases left (ktI.lit p.1) <;> simp
theorem sumOf_rest {left : Lit → Bool} {f : ν → Int} {x : Int} : ∀ {l : List (Int × ν)}, x ∉ l.map (·.1) → sumOf (fun z => left z && !z.sameKey (ktI.lit x)) l f = sumOf left l f
  | [], _ => rfl
  | p :: r, h => by
    rw [List.map_cons, List.mem_cons, not_or] at h
    rw [sumOf_cons, sumOf_cons, sumOf_rest h.2, litI_same]
    have : decide (p.1 = x) = false := by simpa using fun e => h.1 e.symm
    rw [this]
    simp
theorem sumOf_step {left : Lit → Bool} {f : ν → Int} {x : Int} {v : ν} (hl : left (ktI.lit x) = true) : ∀ {l : List (Int × ν)}, (l.map (·.1)).Nodup → getS l x = some v →
    sumOf (fun z => left z && !z.sameKey (ktI.lit x)) l f = sumOf left l f + f v
  | [], _, h => by cases h
  | p :: r, hn, h => by
    rw [List.map_cons, List.nodup_cons] at hn
    rw [sumOf_cons, sumOf_cons, litI_same]
    by_cases e : p.1 = x
    · subst e
      simp only [getS, if_pos] at h
      cases h
      rw [sumOf_rest hn.1]
      simp [hl]
      omega
    · simp only [getS, if_neg e] at h
      rw [sumOf_step hl hn.2 h]
      simp [e]
      omega
theorem sumOf_none {left : Lit → Bool} (h : ∀ k, left k = false) (l : List (Int × ν)) (f : ν → Int) : sumOf left l f = (l.map fun p => f p.2).sum := by
  unfold sumOf
  congr 2
  exact List.filter_eq_self.2 (fun p _ => by simp [h])
theorem sumOf_all {left : Lit → Bool} {l : List (Int × ν)} (h : ∀ p ∈ l, left (ktI.lit p.1) = true) (f : ν → Int) : sumOf left l f = 0 := by
  unfold sumOf
  have : l.filter (fun p => !left (ktI.lit p.1)) = [] := List.filter_eq_nil_iff.2 (fun p hp => by simp [h p hp])
  rw [this]; rfl
theorem sumOf_le {left : Lit → Bool} {f : ν → Int} {B : Int} (hB : 0 ≤ B) : ∀ {l : List (Int × ν)}, (∀ p ∈ l, 0 ≤ f p.2 ∧ f p.2 ≤ B) → 0 ≤ sumOf left l f ∧ sumOf left l f ≤ (l.length : Int) * B
  | [], _ => ⟨Int.le_refl _, by simp [sumOf]⟩
  | p :: r, h => by
    have ih := sumOf_le (left := left) hB (l := r) (fun q hq => h q (by simp [hq]))
    have h1 := h p (by simp)
    rw [sumOf_cons, List.length_cons, Int.natCast_add, Int.add_mul]
    constructor
    · split <;> omega
    · split <;> omega
end
/-- A map that holds what the entries that are left no more say together. -/
structure SdW {ν : Type} (H : Its) (left : Lit → Bool) (l : List (Int × ν)) (f : ν → Its) : Prop where
  rise : RiseS H
  get : ∀ s, getI H s = sumOf left l (fun h => getI (f h) s)
  key : ∀ s, (getS H s).isSome = true ↔ ∃ p ∈ l, left (ktI.lit p.1) = false ∧ ∃ q ∈ f p.2, q.1 = s
  len : (H.length : Int) ≤ 16 * sumOf left l (fun _ => 1)
theorem SdW.start {ν : Type} {left : Lit → Bool} {l : List (Int × ν)} {f : ν → Its} (h : ∀ p ∈ l, left (ktI.lit p.1) = true) : SdW [] left l f :=
  ⟨List.Pairwise.nil, fun s => by rw [sumOf_all h]; rfl, fun s => ⟨fun e => (by cases e), fun ⟨p, hp, e, _⟩ => (by rw [h p hp] at e; cases e)⟩, by rw [sumOf_all h]; simp⟩
theorem SdW.step {ν : Type} {H : Its} {left : Lit → Bool} {l : List (Int × ν)} {f : ν → Its} {x : Int} {v : ν} (h : SdW H left l f) (hl : left (ktI.lit x) = true) (hn : (l.map (·.1)).Nodup) (hx : getS l x = some v) (h16 : (f v).length ≤ 16) :
    SdW (addAll H (f v)) (fun z => left z && !z.sameKey (ktI.lit x)) l f := by
  have ha := addAll_ok (f v) h.rise
  refine ⟨ha.rise, fun s => ?_, fun s => ?_, ?_⟩
  · rw [ha.get, h.get, sumOf_step hl hn hx]
  · rw [ha.key, h.key]
    constructor
    · rintro (⟨p, hp, e, q, hq, e2⟩ | ⟨q, hq, e2⟩)
      · exact ⟨p, hp, by simp [e], q, hq, e2⟩
      · exact ⟨(x, v), getK_mem hx, by simp [litI_same], q, hq, e2⟩
    · rintro ⟨p, hp, e, q, hq, e2⟩
      by_cases e3 : p.1 = x
      · have : p.2 = v := by
          have h1 := getK_of hn (x := p.1) (v := p.2) hp
          rw [e3, hx] at h1
          exact (Option.some.inj h1).symm
        exact .inr ⟨q, by rw [← this]; exact hq, e2⟩
      · rw [litI_same] at e
        simp [e3] at e
        exact .inl ⟨p, hp, e, q, hq, e2⟩
  · rw [sumOf_step hl hn hx]
    have h1 := addAll_len H (f v)
    have h2 := h.len
    omega
theorem SdW.bound {ν : Type} {H : Its} {left : Lit → Bool} {l : List (Int × ν)} {f : ν → Its} (h : SdW H left l f) (hl : l.length ≤ 256) : H.length ≤ 4096 := by
  have h1 := h.len
  have h2 := sumOf_le (left := left) (f := fun _ : ν => (1 : Int)) (B := 1) (by omega) (l := l) (fun p _ => ⟨by omega, by omega⟩)
  omega
theorem SdW.done {ν : Type} {H : Its} {left : Lit → Bool} {l : List (Int × ν)} {f : ν → Its} (h : SdW H left l f) (hl : ∀ k, left k = false) (s : Str) : (getS H s).getD 0 = (l.map fun p => getI (f p.2) s).sum ∧ ((getS H s).isSome = true ↔ ∃ p ∈ l, ∃ q ∈ f p.2, q.1 = s) := by
  constructor
  · rw [← getI_rise s h.rise, h.get, sumOf_none hl]
  · rw [h.key]
    exact ⟨fun ⟨p, hp, _, q, hq, e⟩ => ⟨p, hp, q, hq, e⟩, fun ⟨p, hp, q, hq, e⟩ => ⟨p, hp, hl _, q, hq, e⟩⟩
theorem getI_may {L : Its} (h : mayL L = true) (s : Str) : 0 ≤ getI L s ∧ getI L s ≤ 1099511627776 := by
  have hk := mayL_all h
  rw [getI_rise s hk.rise]
  cases e : getS L s with
  | none => exact ⟨Int.le_refl _, by simp⟩
  | some v => have := (hk.row _ (getK_mem e)).2; simp only [Option.getD_some]; simp only at this; omega
theorem snd_bound {ν : Type} {H : Its} {left : Lit → Bool} {l : List (Int × ν)} {f : ν → Its} {L : Its} {k : Nat} {p : Str × Int} (h : SdW H left l f) (hm : ∀ p ∈ l, mayL (f p.2) = true) (hl : l.length ≤ 256) (hL : mayL L = true) (hp : L[k]? = some p) :
    0 ≤ (getS (addAll H (L.take k)) p.1).getD 0 + p.2 ∧ (getS (addAll H (L.take k)) p.1).getD 0 + p.2 ≤ 1125899906842624 := by
  have ha := addAll_ok (L.take k) h.rise
  rw [← getI_rise p.1 ha.rise, ha.get, h.get]
  have h1 := sumOf_le (left := left) (f := fun h => getI (f h) p.1) (B := 1099511627776) (by omega) (l := l) (fun q hq => getI_may (hm q hq) p.1)
  have hpos : ∀ q ∈ L, 0 ≤ q.2 := fun q hq => by have := (mayL_all hL).row q hq; omega
  have h2 : getI L p.1 = getI (L.take (k + 1)) p.1 + getI (L.drop (k + 1)) p.1 := by rw [← getI_app, List.take_append_drop]
  have h3 : getI (L.take (k + 1)) p.1 = getI (L.take k) p.1 + p.2 := by
    rw [List.take_add_one, hp, getI_app]
    simp only [Option.toList_some]
    rw [getI_cons, if_pos rfl, getI_nil]; omega
  have h4 : 0 ≤ getI (L.drop (k + 1)) p.1 := getI_nn p.1 (fun q hq => hpos q (List.mem_of_mem_drop hq))
  have h5 : 0 ≤ getI (L.take k) p.1 := getI_nn p.1 (fun q hq => hpos q (List.mem_of_mem_take hq))
  have h6 := getI_may hL p.1
  have h7 := hpos p (List.mem_of_getElem? hp)
  have h8 : (l.length : Int) * 1099511627776 ≤ 256 * 1099511627776 := by omega
  omega
/-- How many of a good all holds together say. -/
def allE (f : HE → Its) (le : Hes) (s : Str) : Int := (le.map fun p => getI (f p.2) s).sum
/-- Are all holds together the stock's? -/
def soundE (A : Stk) (le : Hes) : Bool :=
  (A.all fun r => decide (r.2.held = allE HE.he le r.1) && decide (r.2.picked = allE HE.pi le r.1)) &&
  (le.all fun p => ((p.2.he ++ p.2.pi).all fun q => (getS A q.1).isSome))
theorem getS_del {κ ν : Type} [DecidableEq κ] (x y : κ) : ∀ l : List (κ × ν), getS (delS l x) y = if x = y then none else getS l y
  | [] => by simp [delS, getS]
  | p :: r => by
    have ih := getS_del x y r
    simp only [delS] at ih ⊢
    by_cases e : p.1 = x
    · simp only [List.filter_cons, e, decide_true, Bool.not_true, Bool.false_eq_true, if_false, getS, ih]
      by_cases e2 : x = y <;> simp [e2]
    · simp only [List.filter_cons, e, decide_false, Bool.not_false, if_true, getS, ih]
      by_cases e2 : p.1 = y
      · have : x ≠ y := fun h => e (e2.trans h.symm)
        simp [e2, this]
      · simp [e2]
/-- A map without some keys. -/
def delAll (H : Its) (ks : List Str) : Its := ks.foldl delS H
theorem delAll_take {H : Its} {ks : List Str} {k : Nat} {s : Str} (h : ks[k]? = some s) : delAll H (ks.take (k + 1)) = delS (delAll H (ks.take k)) s := by
  unfold delAll
  rw [List.take_add_one, h, List.foldl_append]
  rfl
theorem getS_delAll (s : Str) : ∀ (ks : List Str) (H : Its), getS (delAll H ks) s = if s ∈ ks then none else getS H s
  | [], H => by simp [delAll]
  | k :: r, H => by
    have ih := getS_delAll s r (delS H k)
    unfold delAll at ih ⊢
    rw [List.foldl_cons, ih, getS_del]
    by_cases h1 : s ∈ r
    · simp [h1]
    · by_cases h2 : k = s
      · subst h2; simp
      · have h3 : ¬ s = k := fun e => h2 e.symm
        simp [h1, h2, h3]
theorem delAll_nil {H : Its} {ks : List Str} : (delAll H ks).length = 0 ↔ ∀ p ∈ H, p.1 ∈ ks := by
  rw [List.length_eq_zero_iff]
  constructor
  · intro h p hp
    have h1 := getS_delAll p.1 ks H
    rw [h] at h1
    by_cases e : p.1 ∈ ks
    · exact e
    · rw [if_neg e] at h1
      exact absurd rfl (getK_none.1 h1.symm p hp)
  · intro h
    cases e : delAll H ks with
    | nil => rfl
    | cons q r =>
      have h1 := getS_delAll q.1 ks H
      rw [e] at h1
      simp only [getS, if_pos] at h1
      split at h1
      · cases h1
      · rename_i hn
        cases e2 : getS H q.1 with
        | none => rw [e2] at h1; cases h1
        | some v => exact absurd (h _ (getK_mem e2)) hn
theorem delAll_len : ∀ (ks : List Str) (H : Its), (delAll H ks).length ≤ H.length
  | [], H => Nat.le_refl _
  | k :: r, H => by
    have h1 := delAll_len r (delS H k)
    have h2 : (delS H k).length ≤ H.length := List.length_filter_le _ _
    unfold delAll at h1 ⊢
    rw [List.foldl_cons]
    omega
theorem isSome_mem {A : Stk} {s : Str} : (getS A s).isSome = true ↔ s ∈ A.map (·.1) := by
  constructor
  · intro h
    cases e : getS A s with
    | none => rw [e] at h; cases h
    | some v => exact List.mem_map.2 ⟨_, getK_mem e, rfl⟩
  · intro h
    obtain ⟨p, hp, rfl⟩ := List.mem_map.1 h
    cases e : getS A p.1 with
    | some v => rfl
    | none => exact absurd rfl (getK_none.1 e p hp)
theorem hmap_sum (f : HE → Its) (g : HV → Its) (hfg : ∀ x : HV, f x.e = g x) (l : List (Int × HV)) (s : Str) : allE f (mapE l) s = (l.map fun p => getI (g p.2) s).sum := by
  unfold allE mapE
  rw [List.map_map]
  congr 1
  exact List.map_congr_left (fun p _ => by simp [hfg])
/-- The whole test, by what the two maps hold. -/
theorem sound_of {A : Stk} {l : List (Int × HV)} {H P : Its} {left : Lit → Bool} (hw : SdW H left l HV.he) (pw : SdW P left l HV.pi) (hl : ∀ k, left k = false) :
    soundE A (mapE l) = true ↔ ((∀ r ∈ A, r.2.held = (getS H r.1).getD 0 ∧ r.2.picked = (getS P r.1).getD 0) ∧ (delAll H (A.map (·.1))).length = 0 ∧ (delAll P (A.map (·.1))).length = 0) := by
  unfold soundE
  rw [Bool.and_eq_true, List.all_eq_true, List.all_eq_true, delAll_nil, delAll_nil]
  have e1 : ∀ s, allE HE.he (mapE l) s = (getS H s).getD 0 := fun s => by rw [(hw.done hl s).1]; exact hmap_sum HE.he HV.he (fun _ => rfl) l s
  have e2 : ∀ s, allE HE.pi (mapE l) s = (getS P s).getD 0 := fun s => by rw [(pw.done hl s).1]; exact hmap_sum HE.pi HV.pi (fun _ => rfl) l s
  have k1 : ∀ s, (∃ p ∈ H, p.1 = s) ↔ ∃ p ∈ l, ∃ q ∈ p.2.he, q.1 = s := fun s => by
    rw [← (hw.done hl s).2]
    exact ⟨fun ⟨p, hp, e⟩ => by rw [← e, getK_of (riseS_nd hw.rise) (x := p.1) (v := p.2) hp]; rfl, fun h => by
      cases e : getS H s with
      | none => rw [e] at h; cases h
      | some v => exact ⟨_, getK_mem e, rfl⟩⟩
  have k2 : ∀ s, (∃ p ∈ P, p.1 = s) ↔ ∃ p ∈ l, ∃ q ∈ p.2.pi, q.1 = s := fun s => by
    rw [← (pw.done hl s).2]
    exact ⟨fun ⟨p, hp, e⟩ => by rw [← e, getK_of (riseS_nd pw.rise) (x := p.1) (v := p.2) hp]; rfl, fun h => by
      cases e : getS P s with
      | none => rw [e] at h; cases h
      | some v => exact ⟨_, getK_mem e, rfl⟩⟩
  refine and_congr ⟨fun h r hr => ?_, fun h r hr => ?_⟩ ⟨fun h => ⟨fun p hp => ?_, fun p hp => ?_⟩, fun h x hx => ?_⟩
  · have := h r hr
    rw [Bool.and_eq_true, decide_eq_true_eq, decide_eq_true_eq, e1, e2] at this
    exact this
  · rw [Bool.and_eq_true, decide_eq_true_eq, decide_eq_true_eq, e1, e2]
    exact h r hr
  · obtain ⟨y, hy, q, hq, e⟩ := (k1 p.1).1 ⟨p, hp, rfl⟩
    have := h (y.1, y.2.e) (List.mem_map.2 ⟨y, hy, rfl⟩)
    rw [List.all_eq_true] at this
    have := this q (List.mem_append_left _ hq)
    rw [isSome_mem, e] at this
    exact this
  · obtain ⟨y, hy, q, hq, e⟩ := (k2 p.1).1 ⟨p, hp, rfl⟩
    have := h (y.1, y.2.e) (List.mem_map.2 ⟨y, hy, rfl⟩)
    rw [List.all_eq_true] at this
    have := this q (List.mem_append_right _ hq)
    rw [isSome_mem, e] at this
    exact this
  · obtain ⟨y, hy, rfl⟩ := List.mem_map.1 hx
    rw [List.all_eq_true]
    intro q hq
    rw [isSome_mem]
    rcases List.mem_append.1 hq with hq | hq
    · obtain ⟨p, hp, e⟩ := (k1 q.1).2 ⟨y, hy, q, hq, rfl⟩
      rw [← e]; exact h.1 p hp
    · obtain ⟨p, hp, e⟩ := (k2 q.1).2 ⟨y, hy, q, hq, rfl⟩
      rw [← e]; exact h.2 p hp
end Go.Proofs.YtogphlnakdnchaaGreat

namespace Go.Proofs.YtogphlnakdnchaaGreat
open Go.RowKit Go.Maps Go.Sort Go.Shelf Go.Proofs
theorem sortsS (m : Nat) : AnyZ.SortsIn Tryz.prog Tryz.laysSortedS_ren Fence.wide m :=
  ⟨fun blk off cap ss W hH hblk hsz => callsIn_wide.2 (AnyM.slices_Sort_string Tryz.laysSortS blk off cap ss W hH hblk hsz),
   fun p cap W => callsIn_wide.2 (AnyM.slices_Sort_string_none Tryz.laysSortS p cap W)⟩
/-- A map's keys as an iterator, and its sorted row: both contracts, at a map of strings. -/
theorem keysSorted {ν : Type} (w : World) (b : Nat) (enc : ν → Value) (l : List (Str × ν)) (h : Mp Tryz.prog w 9 ktS enc b l) (hl : (l.length : Int) ≤ 1099511627776) :
    CallsIn Fence.wide 5 Tryz.prog 98 #[.map (some b)] w (fun e w' => e = .returned (.func (.func 121) #[] #[.pointer (some ⟨w.heap.size, 0, none⟩)]) ∧ w' = w.alloc (.cells #[.map (some b)] 100)) ∧
    CallsIn Fence.wide 5 Tryz.prog 97 #[.func (.func 121) #[] #[.pointer (some ⟨w.heap.size, 0, none⟩)]] (w.alloc (.cells #[.map (some b)] 100)) (fun e w' => ∃ v, e = .returned v ∧ w'.ownsRow w.heap.size 9 1 v l.length (l.map fun p => vS p.1) ∧ Below w.heap.size w w') := by
  obtain ⟨nn, hown⟩ := id h
  have hord := riseS_of (h.ok (koS Tryz.underlying9)).2
  have hsz : Maps.size (ktS.dat enc l) = l.length := dat_size ktS enc l
  have hk : strKeys (ktS.dat enc l) = l.map (·.1) := strKeys_dat enc l
  have hsort : ∀ ss : List Str, ss.Perm (l.map (·.1)) → ss.mergeSort (fun x y => decide (x ≤ y)) = l.map (·.1) := fun ss hp => strs_sorted hord hp
  have hbl := hown.lt
  have hseq : SeqGives Fence.wide 2 Tryz.prog 121 #[.pointer (some ⟨w.heap.size, 0, none⟩)] encStr (fun ss => ss.Perm (strKeys (ktS.dat enc l))) (Maps.size (ktS.dat enc l)) (w.alloc (.cells #[.map (some b)] 100)) :=
    AnyZ.keys_gives (ρ := Tryz.laysKeysS_ren) { Tryz.laysKeysS with } Fence.wide _ trivial rfl (by omega) w.heap.size b nn _ _ (by simp) (by simp) (by
      obtain ⟨es, clock, hb, Ft, hs, hD⟩ := hown
      exact ⟨es, clock, (Below.heap_alloc _ _ b hbl).trans hb, Ft, hs, hD⟩)
  refine ⟨AnyZ.keys_in Tryz.laysKeysS Fence.wide 5 trivial rfl (some b) w, ?_⟩
  have cS := AnyZ.sorted_in Tryz.laysSortedS Fence.wide 5 trivial trivial trivial trivial rfl (by omega) (sortsS _) (enters_of Tryz.func120 (by kernel_rfl) rfl) 121 #[.pointer (some ⟨w.heap.size, 0, none⟩)] trivial (enters_of Tryz.func121 (by kernel_rfl) rfl) _ _ (by rw [hsz]; unfold maxLen; omega) (by rw [hsz]; omega) _ hseq
  change CallsIn _ _ Tryz.prog 97 _ _ _ at cS
  refine cS.mono ?_
  rintro e w' ⟨v, ss, rfl, hS, hrow, hnil, hb⟩
  rw [hk] at hS
  rw [hsort ss hS] at hrow
  have hlen : ss.length = l.length := by rw [hS.length_eq]; simp
  rw [hlen, List.map_map] at hrow
  exact ⟨v, rfl, ownsRow_base_a hrow (by simp), ((Below.refl _ w).alloc (Nat.le_refl _) _).trans (hb.mono (by simp))⟩
end Go.Proofs.YtogphlnakdnchaaGreat

namespace Go.Proofs.YtogphlnakdnchaaGreat
open Go.RowKit
/-- A world in which all that was there in w lies as it did. -/
structure FrW (w : World) where
  val : World
  fr : Fr (fun _ => False) w val
instance frW_nonempty (w : World) : Nonempty (FrW w) := ⟨⟨w, Fr.refl _ w⟩⟩
theorem FrW.cell {w : World} {p : Addr} {v : Value} (hc : w.cell? p = some v) (X : FrW w) : X.val.cell? p = some v := X.fr.cell hc (fun h => h)
theorem FrW.at_ {w : World} {b : Nat} {o : Obj} (hc : w.heap[b]? = some o) (X : FrW w) : X.val.heap[b]? = some o := X.fr.at_ hc (fun h => h)
theorem wp_region_fr {P : Program} {id : Nat} {Q : Exit → Act → World → Prop} {a : Act} {w : World} {l : List Oper} (hm : P.follows .mixedOrders = true) (hB : Region.lexB .any l.toArray = true)
    (h : wpQuiet P l.toArray (fun w' => ∃ X : FrW w, w' = X.val) (fun a' => ∀ w', (∃ X : FrW w, w' = X.val) → Q .normal a' w') l a) : (Code.region id l.toArray true).wp P Q a w :=
  wp_region_quiet (C := fun w' => ∃ X : FrW w, w' = X.val) hm hB ⟨⟨_, (Fr.refl _ w).drew⟩, rfl⟩ (by simpa using h)
end Go.Proofs.YtogphlnakdnchaaGreat

namespace Go.Proofs.YtogphlnakdnchaaGreat
open Go.RowKit Go.Maps
theorem sum_wraps {r : SR} (h : SRb r) : IntKind.i64.wrap (r.free + r.held) = r.free + r.held ∧ IntKind.i64.wrap (r.free + r.held + r.picked) = r.free + r.held + r.picked ∧ IntKind.i64.wrap (r.free + r.held + r.picked + r.aside) = r.free + r.held + r.picked + r.aside := by
  obtain ⟨a0, a1, a2, a3, -, -, -, -, -, -⟩ := h
  refine ⟨?_, ?_, ?_⟩ <;> (rw [IntKind.wrap_i64]; omega)
set_option maxRecDepth 100000 in
set_option maxHeartbeats 4000000 in
theorem sRight (w : World) (b : Nat) (r : SR) (h : RowAt w b r) : Calls Tryz.prog 76 #[.pointer (some ⟨b, 0, none⟩)] w fun e w' => e = .returned (.bool r.right) ∧ Fr (fun _ => False) w w' := by
  have HEv := Lib.hid (fun X : FrW w => sEach X.val b r (X.at_ h))
  cases hE : r.each with
  | false =>
    have e : r.right = false := by simp [SR.right, hE]
    rw [e]
    rw [hE] at HEv
    clear h hE e
    go_enter Tryz.func76, Tryz.ntmps76
    go_wp2_with fail
    refine wp_region_fr (by kernel_rfl) (by kernel_rfl) ?_
    repeat (go_big_quiet_step ((go_at_call 107; rename_i X; refine (HEv.out X).mono ?_; rintro e w1 ⟨rfl, hF⟩; exact ⟨rfl, ⟨w1, X.fr.trans hF⟩, rfl⟩)))
    refine wpQuiet_nil ?_
    rintro _ ⟨⟨V, hV⟩, rfl⟩
    go_wp2_with fail
    go_ret
    exact ⟨rfl, hV⟩
  | true =>
    have e : r.right = mayI r.sum := by simp [SR.right, hE]
    rw [e]
    obtain ⟨w1, w2, w3⟩ := sum_wraps (SR.each_iff.1 hE)
    rw [hE] at HEv
    obtain ⟨S, hS⟩ : ∃ S, mayI r.sum = S := ⟨_, rfl⟩
    have HMv := Lib.hid (fun W => kMay W r.sum)
    rw [hS] at HMv ⊢
    unfold SR.sum at HMv
    have p0 := FrW.cell (cell_obj h 0 (.int .i64 r.free) rfl)
    have p1 := FrW.cell (cell_obj h 1 (.int .i64 r.held) rfl)
    have p2 := FrW.cell (cell_obj h 2 (.int .i64 r.picked) rfl)
    have p3 := FrW.cell (cell_obj h 3 (.int .i64 r.aside) rfl)
    clear h hE e hS
    go_enter Tryz.func76, Tryz.ntmps76
    go_wp2_with fail
    refine wp_region_fr (by kernel_rfl) (by kernel_rfl) ?_
    repeat (go_big_quiet_step (first | (go_at_call 107; rename_i X; refine (HEv.out X).mono ?_; rintro e w1 ⟨rfl, hF⟩; exact ⟨rfl, ⟨w1, X.fr.trans hF⟩, rfl⟩) | (go_at_call 68; rename_i X; refine (HMv.out _).mono ?_; rintro e w2 ⟨rfl, rfl⟩; exact ⟨rfl, X, rfl⟩)))
    refine wpQuiet_nil ?_
    rintro _ ⟨⟨V, hV⟩, rfl⟩
    go_wp2_with fail
    go_ret
    exact ⟨rfl, hV⟩
def SR.lev (r : SR) : Value := .agg #[.int .i64 r.free, .int .i64 r.held, .int .i64 r.picked, .int .i64 r.aside]
def SR.flo (r : SR) : Value := .agg #[.int .i64 r.received, .int .i64 r.returned, .int .i64 r.counted, .int .i64 r.came, .int .i64 r.shipped, .int .i64 r.scrapped, .int .i64 r.sent]
set_option maxRecDepth 100000 in
set_option maxHeartbeats 4000000 in
theorem sBalanced (w : World) (r : SR) : Calls Tryz.prog 99 #[r.lev, r.flo] w fun e w' => e = .returned (.bool r.bal) ∧ Fr (fun _ => False) w w' := by
  have hEv := Lib.hid (fun W b (h : RowAt W b r) => sEach W b r h)
  obtain ⟨G, hG⟩ : ∃ G, r.bal = G := ⟨_, rfl⟩
  rw [hG]
  have HG := Lib.hid hG
  clear hG
  have hF0 := Lib.hid ((((Fr.refl (fun _ => False) w).alloc (.cells #[.int .i64 r.free, .int .i64 r.held, .int .i64 r.picked, .int .i64 r.aside] 98)).alloc (.cells #[.int .i64 r.received, .int .i64 r.returned, .int .i64 r.counted, .int .i64 r.came, .int .i64 r.shipped, .int .i64 r.scrapped, .int .i64 r.sent] 119)).alloc (.cells r.cs 121))
  have b0 := heap_keep (heap_keep (heap_new w (.cells #[.int .i64 r.free, .int .i64 r.held, .int .i64 r.picked, .int .i64 r.aside] 98)) (.cells #[.int .i64 r.received, .int .i64 r.returned, .int .i64 r.counted, .int .i64 r.came, .int .i64 r.shipped, .int .i64 r.scrapped, .int .i64 r.sent] 119)) (.cells r.cs 121)
  have b1 : (((w.alloc (.cells #[.int .i64 r.free, .int .i64 r.held, .int .i64 r.picked, .int .i64 r.aside] 98)).alloc (.cells #[.int .i64 r.received, .int .i64 r.returned, .int .i64 r.counted, .int .i64 r.came, .int .i64 r.shipped, .int .i64 r.scrapped, .int .i64 r.sent] 119)).alloc (.cells r.cs 121)).heap[w.heap.size + 1]? = some (.cells #[.int .i64 r.received, .int .i64 r.returned, .int .i64 r.counted, .int .i64 r.came, .int .i64 r.shipped, .int .i64 r.scrapped, .int .i64 r.sent] 119) := heap_keep (heap_at (by simp) _) _
  have b2 : RowAt (((w.alloc (.cells #[.int .i64 r.free, .int .i64 r.held, .int .i64 r.picked, .int .i64 r.aside] 98)).alloc (.cells #[.int .i64 r.received, .int .i64 r.returned, .int .i64 r.counted, .int .i64 r.came, .int .i64 r.shipped, .int .i64 r.scrapped, .int .i64 r.sent] 119)).alloc (.cells r.cs 121)) (w.heap.size + 1 + 1) r := heap_at (by simp) _
  have hEw := Lib.hid (hEv.out _ _ b2)
  have HB0 := Lib.hid b0; have HB1 := Lib.hid b1
  clear b0 b1 b2 hEv
  unfold SR.lev SR.flo
  unfold SR.cs at hF0 hEw HB0 HB1
  obtain ⟨f0, f1, f2, f3, f4, f5, f6, f7, f8, f9, f10⟩ := r
  dsimp only at hF0 hEw HB0 HB1 ⊢
  cases hE : SR.each ⟨f0, f1, f2, f3, f4, f5, f6, f7, f8, f9, f10⟩ with
  | false =>
    have hg : Hid (G = false) := Lib.hid (by rw [← HG.out]; simp [SR.bal, hE])
    rw [hE] at hEw
    clear hE
    go_enter Tryz.func99, Tryz.ntmps99
    go_wp2_with (go_at_call 107; refine hEw.out.mono ?_; rintro e w1 ⟨rfl, hF⟩; have HF := Lib.hid hF; clear hF)
    go_ret
    exact ⟨by rw [hg.out]; rfl, hF0.out.trans HF.out⟩
  | true =>
    have hb := SR.each_iff.1 hE
    have hbal : Hid (G = (decide (-576460752303423488 ≤ f6) && decide (f6 ≤ 576460752303423488) && decide (f0 + f1 + f2 + f3 = f4 + f5 + f6 + f7 - f8 - f9 - f10))) := Lib.hid (by rw [← HG.out]; unfold SR.bal; rw [hE]; rfl)
    rw [hE] at hEw
    obtain ⟨a0, a1, a2, a3, c0, c1, c2, c3, c4, c5⟩ := hb
    dsimp only at a0 a1 a2 a3 c0 c1 c2 c3 c4 c5
    obtain ⟨a0, a0'⟩ := a0; obtain ⟨a1, a1'⟩ := a1; obtain ⟨a2, a2'⟩ := a2; obtain ⟨a3, a3'⟩ := a3
    obtain ⟨c0, c0'⟩ := c0; obtain ⟨c1, c1'⟩ := c1; obtain ⟨c2, c2'⟩ := c2; obtain ⟨c3, c3'⟩ := c3; obtain ⟨c4, c4'⟩ := c4; obtain ⟨c5, c5'⟩ := c5
    clear hE
    rcases (by omega : f6 < -576460752303423488 ∨ (-576460752303423488 ≤ f6 ∧ 576460752303423488 < f6) ∨ (-576460752303423488 ≤ f6 ∧ f6 ≤ 576460752303423488)) with h | ⟨h, h'⟩ | ⟨h, h'⟩
    · have hg : Hid (G = false) := Lib.hid (by rw [hbal.out]; simp; omega)
      go_enter Tryz.func99, Tryz.ntmps99
      go_wp2_with (go_at_call 107; refine hEw.out.mono ?_; rintro e w1 ⟨rfl, hF⟩; have HF := Lib.hid hF; have q0 := cell_obj (hF.at_ HB1.out (fun h => h)) 2 (.int .i64 f6) rfl; clear hF)
      go_ret
      exact ⟨by rw [hg.out]; rfl, hF0.out.trans HF.out⟩
    · have hg : Hid (G = false) := Lib.hid (by rw [hbal.out]; simp; omega)
      go_enter Tryz.func99, Tryz.ntmps99
      go_wp2_with (go_at_call 107; refine hEw.out.mono ?_; rintro e w1 ⟨rfl, hF⟩; have HF := Lib.hid hF; have q0 := cell_obj (hF.at_ HB1.out (fun h => h)) 2 (.int .i64 f6) rfl; clear hF)
      go_ret
      exact ⟨by rw [hg.out]; rfl, hF0.out.trans HF.out⟩
    · have hg : Hid (G = decide (f0 + f1 + f2 + f3 = f4 + f5 + f6 + f7 - f8 - f9 - f10)) := Lib.hid (by rw [hbal.out]; simp [h, h'])
      go_enter Tryz.func99, Tryz.ntmps99
      go_wp2_with (go_at_call 107; refine hEw.out.mono ?_; rintro e w1 ⟨rfl, hF⟩; have HF := Lib.hid hF; have x0 := hF.at_ HB0.out (fun h => h); have x1 := hF.at_ HB1.out (fun h => h); have p0 := cell_obj x0 0 (.int .i64 f0) rfl; have p1 := cell_obj x0 1 (.int .i64 f1) rfl; have p2 := cell_obj x0 2 (.int .i64 f2) rfl; have p3 := cell_obj x0 3 (.int .i64 f3) rfl; have q0 := cell_obj x1 0 (.int .i64 f4) rfl; have q1 := cell_obj x1 1 (.int .i64 f5) rfl; have q2 := cell_obj x1 2 (.int .i64 f6) rfl; have q3 := cell_obj x1 3 (.int .i64 f7) rfl; have q4 := cell_obj x1 4 (.int .i64 f8) rfl; have q5 := cell_obj x1 5 (.int .i64 f9) rfl; have q6 := cell_obj x1 6 (.int .i64 f10) rfl; clear hF x0 x1)
      go_ret
      refine ⟨?_, hF0.out.trans HF.out⟩
      rw [hg.out]
      exact ret_bool (a := f0 + f1 + f2 + f3 == f4 + f5 + f6 + f7 - f8 - f9 - f10) (by rw [Bool.eq_iff_iff]; simp)
end Go.Proofs.YtogphlnakdnchaaGreat

namespace Go.Proofs.YtogphlnakdnchaaGreat
open Go.RowKit Go.Maps
theorem mp_row {w : World} {m : Nat} {A : Stk} {s : Str} (h : Mp Tryz.prog w 9 ktS SR.enc m A) (hs : okS s) : (Instr.lookup 100 (.map (some m)) (vS s) false).run Tryz.prog w = .ok (rowAt A s).enc w := by
  have := h.look kS Tryz.underlying100 (zeroSR w) (x := s) hs
  unfold rowAt
  cases e : getS A s <;> rw [e] at this <;> exact this
theorem mp_row_ok {w : World} {m : Nat} {A : Stk} {s : Str} (h : Mp Tryz.prog w 9 ktS SR.enc m A) (hs : okS s) : (Instr.lookup 100 (.map (some m)) (vS s) true).run Tryz.prog w = .ok (.tuple #[(rowAt A s).enc, .bool (getS A s).isSome]) w := by
  have := h.look_ok kS Tryz.underlying100 (zeroSR w) (x := s) hs
  unfold rowAt
  cases e : getS A s <;> rw [e] at this <;> exact this
theorem SA.cell {w : World} {g : Nat} {TS : Nat → Prop} {A : Stk} (h : SA w g TS A) : ∃ m, w.cell? ⟨g, 0, none⟩ = some (.map (some m)) ∧ Mp Tryz.prog w 9 ktS SR.enc m A ∧ TS m := by
  obtain ⟨⟨m, h1, h2, h3⟩, -, -⟩ := h
  exact ⟨m, cell_obj h1 0 _ rfl, h2, h3⟩
set_option maxRecDepth 100000 in
set_option maxHeartbeats 2000000 in
theorem sLevel (w : World) (g : Nat) (TS : Nat → Prop) (A : Stk) (s : Str) (h : SA w g TS A) (hs : okS s) :
    Calls Tryz.prog 60 #[.pointer (some ⟨g, 0, none⟩), vS s] w fun e w' => e = .returned (rowAt A s).lev ∧ Fr (fun _ => False) w w' := by
  have h1 := h.fr ((Fr.refl (fun _ => False) w).alloc (.cells #[.int .i64 0, .int .i64 0, .int .i64 0, .int .i64 0] 98)) (fun _ _ h => h)
  obtain ⟨m, hc, hm, -⟩ := h1.cell
  have hlk := mp_row hm hs
  have hmd := Lib.hid (smade _ g m hc)
  unfold SR.lev
  unfold SR.enc SR.cs at hlk
  generalize rowAt A s = r at hlk ⊢
  obtain ⟨f0, f1, f2, f3, f4, f5, f6, f7, f8, f9, f10⟩ := r
  dsimp only at hlk ⊢
  have hfl : ∀ W, (Instr.field 121 (.agg #[.int .i64 f0, .int .i64 f1, .int .i64 f2, .int .i64 f3, .int .i64 f4, .int .i64 f5, .int .i64 f6, .int .i64 f7, .int .i64 f8, .int .i64 f9, .int .i64 f10]) 0).run Tryz.prog W = .ok (.agg #[.int .i64 f0, .int .i64 f1, .int .i64 f2, .int .i64 f3]) W := fun W => by kernel_rfl
  clear h h1 hm
  go_enter Tryz.func60, Tryz.ntmps60
  go_wp2_with (go_at_call 69; refine hmd.out.mono ?_; rintro e w' ⟨rfl, rfl⟩)
  go_returns
  exact ⟨rfl, (Fr.refl _ _).alloc _⟩
theorem sClone (w : World) (m : Nat) (A : Stk) (h : Mp Tryz.prog w 9 ktS SR.enc m A) : Calls Tryz.prog 73 #[.map (some m)] w fun e w' => e = .returned (.map (some w.heap.size)) ∧ Mp Tryz.prog w' 9 ktS SR.enc w.heap.size A ∧ Below w.heap.size w w' := by
  obtain ⟨n, hown⟩ := h
  have hcon := AnyW.maps_Clone_owns Tryz.laysCloneS 9 _ m n _ w hown
  change Calls Tryz.prog 73 _ _ _ at hcon
  refine hcon.mono ?_
  rintro e w' ⟨rfl, h1, _, hB⟩
  exact ⟨rfl, ⟨n, h1⟩, hB⟩
set_option maxRecDepth 100000 in
set_option maxHeartbeats 2000000 in
theorem sFork (w : World) (g : Nat) (TS : Nat → Prop) (A : Stk) (h : SA w g TS A) :
    Calls Tryz.prog 57 #[.pointer (some ⟨g, 0, none⟩)] w fun e w' => ∃ g' TS', e = .returned (.pointer (some ⟨g', 0, none⟩)) ∧ SA w' g' TS' A ∧ Fr (fun _ => False) w w' ∧ ∀ b, TS' b → w.heap.size ≤ b := by
  obtain ⟨m, hc, hm, -⟩ := h.cell
  have hmd := Lib.hid (smade _ g m hc)
  have hcl := Lib.hid (sClone w m A hm)
  clear h hm
  go_enter Tryz.func57, Tryz.ntmps57
  go_wp2_with (first
    | (go_at_call 69; refine hmd.out.mono ?_; rintro e w' ⟨rfl, rfl⟩)
    | (go_at_call 73; refine hcl.out.mono ?_; rintro e w1 ⟨rfl, h1, hB⟩; have H1 := Lib.hid h1; have HB := Lib.hid hB; clear h1 hB))
  go_ret
  have hsz := HB.out.size
  have hlt := H1.out.lt
  refine ⟨_, fun b => b = w.heap.size ∨ b = w1.heap.size, rfl, ⟨⟨_, heap_new _ _, H1.out.alloc _, .inl rfl⟩, .inr rfl, fun b hb => by simp; omega⟩, (Fr.below HB.out).alloc _, fun b hb => by omega⟩
end Go.Proofs.YtogphlnakdnchaaGreat

namespace Go.Proofs.YtogphlnakdnchaaGreat
open Go.RowKit Go.Maps
end Go.Proofs.YtogphlnakdnchaaGreat

namespace Go.Proofs.YtogphlnakdnchaaGreat
open Go.RowKit Go.Maps
attribute [local go_sem] Oper.semAt_some
theorem itsOk_cons (last : Str) (p : Str × Int) (r : Its) : itsOk last (p :: r) = (goodB p.1 && decide (1 ≤ p.2) && mayI p.2 && decide (last < p.1) && itsOk p.1 r) := rfl
/-- Two blocks of the call's own are as told, and all else that was there is as it was. -/
structure MyI (w0 w : World) (n0 : Nat) (r : Bool) (last : Str) : Prop where
  res : w.heap[n0]? = some (.cells #[.bool r] 4)
  last : w.heap[n0 + 1]? = some (.cells #[vS last] 9)
  fr : Fr (fun b => n0 ≤ b) w0 w
theorem MyI.fa {B : Nat} {w0 w w' : World} {n0 : Nat} {r : Bool} {last : Str} (h : MyI w0 w n0 r last) (hf : Fa B w w') (hB : w0.heap.size ≤ B) : MyI w0 w' n0 r last :=
  ⟨Fa.cells hf h.res, Fa.cells hf h.last, h.fr.trans' hf (fun b hb e => by have := e.1; omega)⟩
theorem MyI.keep {w0 w w' : World} {n0 : Nat} {r : Bool} {last : Str} (h : MyI w0 w n0 r last) (hf : Fr (fun _ => False) w w') : MyI w0 w' n0 r last :=
  ⟨hf.at_ h.res (fun h => h), hf.at_ h.last (fun h => h), h.fr.trans' hf (fun _ _ e => e.elim)⟩
theorem MyI.putL {w0 w : World} {n0 : Nat} {r : Bool} {last : Str} (h : MyI w0 w n0 r last) (s : Str) : MyI w0 (w.setCell ⟨n0 + 1, 0, none⟩ (vS s)) n0 r s := by
  have hF : Fr (fun b => b = n0 + 1) w (w.setCell ⟨n0 + 1, 0, none⟩ (vS s)) := (Fr.refl (fun b => b = n0 + 1) w).setCell (p := ⟨n0 + 1, 0, none⟩) (fun _ => rfl) _
  exact ⟨hF.at_ h.res (by omega), obj_set h.last 0 _, h.fr.trans' hF (fun b _ e => by omega)⟩
theorem MyI.putR {w0 w : World} {n0 : Nat} {r : Bool} {last : Str} (h : MyI w0 w n0 r last) (b : Bool) : MyI w0 (w.setCell ⟨n0, 0, none⟩ (.bool b)) n0 b last := by
  have hF : Fr (fun b => b = n0) w (w.setCell ⟨n0, 0, none⟩ (.bool b)) := (Fr.refl (fun b => b = n0) w).setCell (p := ⟨n0, 0, none⟩) (fun _ => rfl) _
  exact ⟨obj_set h.res 0 _, hF.at_ h.last (by omega), h.fr.trans' hF (fun b _ e => by omega)⟩
def MyJ (w0 : World) (n0 : Nat) (L : Its) (k : Nat) (_ : Nat → Prop) (W : World) : Prop := ∃ last, MyI w0 W n0 false last ∧ itsOk [] L = itsOk last (L.drop k)
def MyX (w0 : World) (n0 : Nat) (L : Its) (c : Code) (_ : Nat) (_ : Nat → Prop) (W : World) : Prop := c = .ret ∧ itsOk [] L = false ∧ ∃ last, MyI w0 W n0 false last
set_option maxRecDepth 100000 in
set_option maxHeartbeats 8000000 in
theorem iMay (w : World) (v : Value) (L : Its) (h : Il w v L) : Calls Tryz.prog 28 #[v] w fun e w' => e = .returned (.bool (mayL L)) ∧ Fr (fun _ => False) w w' := by
  obtain ⟨n0, hn0⟩ : ∃ n0, w.heap.size = n0 := ⟨_, rfl⟩
  have HS := Lib.hid hn0
  have HL := Lib.hid h
  have hob := h.lt
  have HOB := Lib.hid hob
  have hokl : Hid (∀ (k : Nat) (p : Str × Int), L[k]? = some p → okS p.1) := Lib.hid (fun k p hp => by obtain ⟨_, _, _, _, hx⟩ := h; exact (hx k p hp).1)
  obtain ⟨a, c, rfl⟩ := h.sl
  obtain ⟨N, hN⟩ : ∃ N, L.length = N := ⟨_, rfl⟩
  have HN := Lib.hid hN
  have hNb : (N : Int) ≤ 9223372036854775807 := by have := h.1; omega
  rw [hN] at HL HOB ⊢
  clear h hob hN
  refine (callsIn_wide (n := 0)).1 ?_
  refine callsIn_of_wp_marks Tryz.func28 rfl trivial ?_ rfl
  simp only [Tryz.ntmps28, List.size_toArray, List.length_cons, List.length_nil, Nat.reduceAdd, Nat.reduceSub, Array.replicate_succ, Array.replicate_zero, List.push_toArray, List.append_toArray, List.nil_append, List.cons_append]
  have hfn : ∀ f, Fence.wide.fn f := fun _ => trivial
  have hdp : Fence.wide.depth.isSome = false := rfl
  gi_wp2_with (gi_at_call 58; refine (callsIn_wide.2 (iAll _ _ _ _)).mono ?_; rintro e w1 ⟨rfl, rfl⟩)
  have hI0 : MyI w (((w.alloc (.cells #[.bool false] 4)).alloc (.cells #[vS []] 9)).alloc (.cells #[.slice a N c] 27)) n0 false [] := by
    refine ⟨heap_keep (heap_keep (heap_at hn0.symm _) _) _, heap_keep (heap_at (by simp; omega) _) _, (((Fr.refl _ w).alloc _).alloc _).alloc _⟩
  have hB0 : Boxed (((w.alloc (.cells #[.bool false] 4)).alloc (.cells #[vS []] 9)).alloc (.cells #[.slice a N c] 27)) (n0 + 2) 27 (.slice a N c) := heap_at (by simp; omega) _
  obtain ⟨W0, hW0⟩ : ∃ W0, (((w.alloc (.cells #[.bool false] 4)).alloc (.cells #[vS []] 9)).alloc (.cells #[.slice a N c] 27)) = W0 := ⟨_, rfl⟩
  have hs0 : W0.heap.size = n0 + 3 := by rw [← hW0]; simp; omega
  rw [hW0] at hI0 hB0 ⊢
  have hL0 := HL.out.fr hI0.fr (fun b hb => by omega)
  have HI0 := Lib.hid hI0; have HS0 := Lib.hid hs0
  clear hW0 hI0
  refine rangeX (w0 := W0) (X := L) (S := fun b => b = n0 ∨ b = n0 + 1) rfl (enters_of Tryz.func95 (by kernel_rfl) rfl)
    (iAll1 _ W0 (n0 + 2) _ L hB0 hL0 (by omega) (fun hl b hb e => by have := HOB.out hl b e; omega)) (Below.refl _ _) (fun b hb => by omega) (fun _ => rfl)
    (MyJ w n0 L) (MyX w n0 L)
    (fun k C W W' hs hf => by obtain ⟨l, h1, h2⟩ := hs; exact ⟨l, h1.fa hf (by omega), h2⟩) (fun c k C W W' hs hf => by obtain ⟨e, e2, l, h1⟩ := hs; exact ⟨e, e2, l, h1.fa hf (by omega)⟩)
    ⟨[], HI0.out, rfl⟩ ?round ?done ?stop
  case round =>
    rintro lp k x C W hx hlp hi hr
    dsimp only [encIt]
    gi_wp2
    refine Took.mk (Fr.refl _ _) hi ?_
    rintro Wb ⟨last, hM, hrest⟩ hrb hf hsz hsw hCC _
    have hdr : L.drop k = x :: L.drop (k + 1) := List.drop_eq_getElem?_toList_append |>.trans (by rw [hx]; rfl)
    rw [hdr, itsOk_cons] at hrest
    have hok := hokl.out k x hx
    obtain ⟨g, n⟩ := x
    dsimp only at hrest hok ⊢
    have HM := Lib.hid hM; have HOK := Lib.hid hok
    clear hM hok hi hr hf hrb hdr hx
    by_cases hg : goodB g = true
    · rw [hg, Bool.true_and] at hrest
      by_cases h1 : 1 ≤ n
      · rw [decide_eq_true h1, Bool.true_and] at hrest
        cases hm : mayI n with
        | false =>
          have HNO : Hid (itsOk [] L = false) := Lib.hid (by rw [hrest, hm]; rfl)
          clear hrest
          gi_wp2_with (first
        | (gi_at_call 67; refine (callsIn_wide.2 (iGood _ g HOK.out)).mono ?_; rw [hg]; rintro e w2 ⟨rfl, hf2⟩; have hM2 := HM.out.keep hf2; have HM2 := Lib.hid hM2; have HF2 := Lib.hid hf2; have c0 := cell_obj hM2.last 0 (vS last) rfl; have f0 := obj_frozen hM2.last 0; have cr := cell_obj hM2.res 0 (.bool false) rfl; have fr := obj_frozen hM2.res 0; clear hM2 hf2)
        | (gi_at_call 68; refine (callsIn_wide.2 (kMay _ n)).mono ?_; rw [hm]; rintro e w3 ⟨rfl, rfl⟩))
          refine ⟨(HF2.out.mono (fun _ _ e => e.elim)).setCell (p := ⟨n0, 0, none⟩) (fun _ => .inl (.inl rfl)) _, rfl, HNO.out, last, HM2.out.putR false⟩
        | true =>
          rw [hm, Bool.true_and] at hrest
          rcases str_tri last g with hlt | heq | hgt
          · have HYES : Hid (itsOk [] L = itsOk g (L.drop (k + 1))) := Lib.hid (by rw [hrest, decide_eq_true hlt, Bool.true_and])
            have q1 : Op.bytesLess g last = false := by rw [bytesLess_eq]; simpa using str_asym hlt
            have q2 : (g == last) = false := by
              simp only [beq_eq_false_iff_ne, ne_eq]
              rintro rfl; exact str_irr _ hlt
            clear hrest hlt
            gi_wp2_with (first
        | (gi_at_call 67; refine (callsIn_wide.2 (iGood _ g HOK.out)).mono ?_; rw [hg]; rintro e w2 ⟨rfl, hf2⟩; have hM2 := HM.out.keep hf2; have HM2 := Lib.hid hM2; have HF2 := Lib.hid hf2; have c0 := cell_obj hM2.last 0 (vS last) rfl; have f0 := obj_frozen hM2.last 0; have cr := cell_obj hM2.res 0 (.bool false) rfl; have fr := obj_frozen hM2.res 0; clear hM2 hf2)
        | (gi_at_call 68; refine (callsIn_wide.2 (kMay _ n)).mono ?_; rw [hm]; rintro e w3 ⟨rfl, rfl⟩))
            exact ⟨(HF2.out.mono (fun _ _ e => e.elim)).setCell (p := ⟨n0 + 1, 0, none⟩) (fun _ => .inl (.inr rfl)) _, g, HM2.out.putL g, HYES.out⟩
          · have HNO : Hid (itsOk [] L = false) := Lib.hid (by rw [hrest, heq, decide_eq_false (str_irr g), Bool.false_and])
            have q2 : (g == last) = true := by simp [heq]
            clear hrest heq
            gi_wp2_with (first
        | (gi_at_call 67; refine (callsIn_wide.2 (iGood _ g HOK.out)).mono ?_; rw [hg]; rintro e w2 ⟨rfl, hf2⟩; have hM2 := HM.out.keep hf2; have HM2 := Lib.hid hM2; have HF2 := Lib.hid hf2; have c0 := cell_obj hM2.last 0 (vS last) rfl; have f0 := obj_frozen hM2.last 0; have cr := cell_obj hM2.res 0 (.bool false) rfl; have fr := obj_frozen hM2.res 0; clear hM2 hf2)
        | (gi_at_call 68; refine (callsIn_wide.2 (kMay _ n)).mono ?_; rw [hm]; rintro e w3 ⟨rfl, rfl⟩))
            refine ⟨(HF2.out.mono (fun _ _ e => e.elim)).setCell (p := ⟨n0, 0, none⟩) (fun _ => .inl (.inl rfl)) _, rfl, HNO.out, last, HM2.out.putR false⟩
          · have HNO : Hid (itsOk [] L = false) := Lib.hid (by rw [hrest, decide_eq_false (str_asym hgt), Bool.false_and])
            have q1 : Op.bytesLess g last = true := by rw [bytesLess_eq]; simpa using hgt
            clear hrest hgt
            gi_wp2_with (first
        | (gi_at_call 67; refine (callsIn_wide.2 (iGood _ g HOK.out)).mono ?_; rw [hg]; rintro e w2 ⟨rfl, hf2⟩; have hM2 := HM.out.keep hf2; have HM2 := Lib.hid hM2; have HF2 := Lib.hid hf2; have c0 := cell_obj hM2.last 0 (vS last) rfl; have f0 := obj_frozen hM2.last 0; have cr := cell_obj hM2.res 0 (.bool false) rfl; have fr := obj_frozen hM2.res 0; clear hM2 hf2)
        | (gi_at_call 68; refine (callsIn_wide.2 (kMay _ n)).mono ?_; rw [hm]; rintro e w3 ⟨rfl, rfl⟩))
            refine ⟨(HF2.out.mono (fun _ _ e => e.elim)).setCell (p := ⟨n0, 0, none⟩) (fun _ => .inl (.inl rfl)) _, rfl, HNO.out, last, HM2.out.putR false⟩
      · have HNO : Hid (itsOk [] L = false) := Lib.hid (by rw [hrest, decide_eq_false h1, Bool.false_and, Bool.false_and, Bool.false_and])
        have h1' : n < 1 := by omega
        clear hrest
        gi_wp2_with (first
        | (gi_at_call 67; refine (callsIn_wide.2 (iGood _ g HOK.out)).mono ?_; rw [hg]; rintro e w2 ⟨rfl, hf2⟩; have hM2 := HM.out.keep hf2; have HM2 := Lib.hid hM2; have HF2 := Lib.hid hf2; have c0 := cell_obj hM2.last 0 (vS last) rfl; have f0 := obj_frozen hM2.last 0; have cr := cell_obj hM2.res 0 (.bool false) rfl; have fr := obj_frozen hM2.res 0; clear hM2 hf2)
        | (gi_at_call 68; refine (callsIn_wide.2 (kMay _ n)).mono ?_; rw [hm]; rintro e w3 ⟨rfl, rfl⟩))
        refine ⟨(HF2.out.mono (fun _ _ e => e.elim)).setCell (p := ⟨n0, 0, none⟩) (fun _ => .inl (.inl rfl)) _, rfl, HNO.out, last, HM2.out.putR false⟩
    · have hg : goodB g = false := by simpa using hg
      have HNO : Hid (itsOk [] L = false) := Lib.hid (by rw [hrest, hg]; rfl)
      clear hrest
      gi_wp2_with (first
        | (gi_at_call 67; refine (callsIn_wide.2 (iGood _ g HOK.out)).mono ?_; rw [hg]; rintro e w2 ⟨rfl, hf2⟩; have hM2 := HM.out.keep hf2; have HM2 := Lib.hid hM2; have HF2 := Lib.hid hf2; have c0 := cell_obj hM2.last 0 (vS last) rfl; have f0 := obj_frozen hM2.last 0; have cr := cell_obj hM2.res 0 (.bool false) rfl; have fr := obj_frozen hM2.res 0; clear hM2 hf2)
        | (gi_at_call 68; refine (callsIn_wide.2 (kMay _ n)).mono ?_; rw [hm]; rintro e w3 ⟨rfl, rfl⟩))
      refine ⟨(HF2.out.mono (fun _ _ e => e.elim)).setCell (p := ⟨n0, 0, none⟩) (fun _ => .inl (.inl rfl)) _, rfl, HNO.out, last, HM2.out.putR false⟩
  case stop =>
    rintro D c k C W hD hk ⟨rfl, hF, last, hM⟩ hr hK
    have HM := Lib.hid hM; have HNO := Lib.hid hF
    have hc5 := cell_obj (Fa.cells (frPut (B := n0) (.deferred none) (by omega) hK rfl) hM.res) 0 (.bool false) rfl
    clear hM hF hr
    gi_wp2_with fail
    refine ⟨by simp, .inl ⟨_, _, rfl, run_takeDeferred hK, ?_⟩⟩
    refine ⟨.bool (mayL L), by simp [results, Tryz.results28, go_sem, hc5, mayL, HNO.out], rfl, ?_⟩
    exact (HM.out.fr.putObj (l := D) (fun _ => by omega) _).mono (fun b hb e => by omega)
  case done =>
    rintro D C W hD ⟨last, hM, hrest⟩ hr hK
    have HYES : Hid (itsOk [] L = true) := Lib.hid (by rw [hrest, List.drop_length]; rfl)
    have HM := Lib.hid hM
    have cr := cell_obj hM.res 0 (.bool false) rfl
    have fr := obj_frozen hM.res 0
    have hR5 := (hM.putR (decide ((N : Int) ≤ 16))).res
    have hK5 := (Below.heap_setCell W ⟨n0, 0, none⟩ (.bool (decide ((N : Int) ≤ 16))) D (by simp; omega)).trans hK
    have HR5 := Lib.hid hR5; have HK5 := Lib.hid hK5
    clear hM hrest hr hK hR5 hK5
    gi_wp2_with fail
    have hc5 := cell_obj (Fa.cells (frPut (B := n0) (.deferred none) (by omega) HK5.out rfl) HR5.out) 0 (.bool (decide ((N : Int) ≤ 16))) rfl
    refine ⟨by simp, .inl ⟨_, _, rfl, run_takeDeferred HK5.out, ?_⟩⟩
    refine ⟨.bool (decide ((N : Int) ≤ 16)), by simp [results, Tryz.results28, go_sem, hc5], ?_, ?_⟩
    · have : mayL L = decide ((N : Int) ≤ 16) := by
        unfold mayL
        rw [HYES.out, Bool.true_and, HN.out]
        by_cases h : N ≤ 16
        · rw [decide_eq_true h, decide_eq_true (by omega)]
        · rw [decide_eq_false h, decide_eq_false (by omega)]
      rw [this]
    · exact ((HM.out.putR _).fr.putObj (l := D) (fun _ => by omega) _).mono (fun b hb e => by omega)
end Go.Proofs.YtogphlnakdnchaaGreat

namespace Go.Proofs.YtogphlnakdnchaaGreat
open Go.RowKit Go.Maps
attribute [local go_sem] Oper.semAt_some
@[local go_sem] theorem optP_none (b : Nat) : optP b none = .pointer none := rfl
@[local go_sem] theorem optP_some (b i : Nat) : optP b (some i) = .pointer (some ⟨b, i, none⟩) := rfl
/-- Three boxes of the call's own: the stock, a kind, a result. -/
structure QI (w0 W : World) (n0 g : Nat) (k e : Int) : Prop where
  s : W.heap[n0]? = some (.cells #[.pointer (some ⟨g, 0, none⟩)] 58)
  k : W.heap[n0 + 1]? = some (.cells #[.int .i64 k] 3)
  e : W.heap[n0 + 1 + 1]? = some (.cells #[.int .i64 e] 30)
  fr : Fr (fun b => n0 ≤ b) w0 W
section
variable {w0 W W' : World} {n0 g : Nat} {k e : Int}
theorem QI.fa {B : Nat} (h : QI w0 W n0 g k e) (hf : Fa B W W') (hB : w0.heap.size ≤ B) : QI w0 W' n0 g k e :=
  ⟨Fa.cells hf h.s, Fa.cells hf h.k, Fa.cells hf h.e, h.fr.trans' hf (fun b hb e => by have := e.1; omega)⟩
theorem QI.keep (h : QI w0 W n0 g k e) (hf : Fr (fun _ => False) W W') : QI w0 W' n0 g k e :=
  ⟨hf.at_ h.s (fun h => h), hf.at_ h.k (fun h => h), hf.at_ h.e (fun h => h), h.fr.trans' hf (fun _ _ e => e.elim)⟩
theorem QI.put (h : QI w0 W n0 g k e) (e' : Int) : QI w0 (W.setCell ⟨n0 + 1 + 1, 0, none⟩ (.int .i64 e')) n0 g k e' := by
  have hF : Fr (fun b => b = n0 + 1 + 1) W (W.setCell ⟨n0 + 1 + 1, 0, none⟩ (.int .i64 e')) := (Fr.refl (fun b => b = n0 + 1 + 1) W).setCell (p := ⟨n0 + 1 + 1, 0, none⟩) (fun _ => rfl) _
  exact ⟨hF.at_ h.s (by omega), hF.at_ h.k (by omega), obj_set h.e 0 _, h.fr.trans' hF (fun b _ e => by omega)⟩
end
theorem doMay_71 {A : Stk} {k : Int} {L : Its} {i j : Nat} {p : Str × Int} (hr : (roadF k).1 = some i) (hp : L[j]? = some p) (hn : getS A p.1 = none) : doMay A k L = 71 := by
  unfold doMay
  rw [hr]
  have : (L.any fun p => (getS A p.1).isNone) = true := List.any_eq_true.2 ⟨p, List.mem_of_getElem? hp, by rw [hn]; rfl⟩
  simp only [this, if_true]
theorem doMay_known {A : Stk} {k : Int} {L : Its} {i : Nat} (hr : (roadF k).1 = some i) (hk : ∀ (j : Nat) (p : Str × Int), j < L.length → L[j]? = some p → (getS A p.1).isSome = true) :
    doMay A k L = if L.any (fun p => decide ((rowAt A p.1).get i < p.2)) = true then 51 else 0 := by
  unfold doMay
  rw [hr]
  have : (L.any fun p => (getS A p.1).isNone) = false := by
    refine Bool.eq_false_iff.2 (fun ht => ?_)
    obtain ⟨p, hp, hn⟩ := List.any_eq_true.1 ht
    obtain ⟨j, hj, rfl⟩ := List.getElem_of_mem hp
    have := hk j _ hj (List.getElem?_eq_getElem hj)
    cases e : getS A L[j].1 <;> rw [e] at this hn
    · cases this
    · cases hn
  simp only [this, Bool.false_eq_true, if_false]
def Mi1 (w : World) (n0 g : Nat) (k : Int) (A : Stk) (L : Its) (j : Nat) (_ : Nat → Prop) (W : World) : Prop := QI w W n0 g k 0 ∧ ∀ (i : Nat) (p : Str × Int), i < j → L[i]? = some p → (getS A p.1).isSome = true
def Mx1 (w : World) (n0 g : Nat) (k : Int) (A : Stk) (L : Its) (c : Code) (_ : Nat) (_ : Nat → Prop) (W : World) : Prop := c = .ret ∧ doMay A k L = 71 ∧ QI w W n0 g k 71
def Mi2 (w : World) (n0 g D : Nat) (k : Int) (A : Stk) (L : Its) (i0 : Nat) (j : Nat) (_ : Nat → Prop) (W : World) : Prop := (QI w W n0 g k 0 ∧ W.heap[D]? = some (.deferred (some []))) ∧ ∀ (i : Nat) (p : Str × Int), i < j → L[i]? = some p → ¬ (rowAt A p.1).get i0 < p.2
def Mx2 (w : World) (n0 g D : Nat) (k : Int) (A : Stk) (L : Its) (c : Code) (_ : Nat) (_ : Nat → Prop) (W : World) : Prop := c = .ret ∧ doMay A k L = 51 ∧ QI w W n0 g k 51 ∧ W.heap[D]? = some (.deferred (some []))
theorem def_fa {B D : Nat} {W W' : World} (h : W.heap[D]? = some (.deferred (some []))) (hf : Fa B W W') (hD : D < B) : W'.heap[D]? = some (.deferred (some [])) :=
  hf.at_ h (fun e => by have := e.1; omega)
set_option maxRecDepth 100000 in
set_option maxHeartbeats 8000000 in
theorem sMay (w : World) (g : Nat) (TS : Nat → Prop) (A : Stk) (k : Int) (v : Value) (L : Its) (h : SA w g TS A) (hA : SOk A) (hv : Il w v L) :
    Calls Tryz.prog 72 #[.pointer (some ⟨g, 0, none⟩), .int .i64 k, v] w fun e w' => e = .returned (.int .i64 (doMay A k L)) ∧ Fr (fun _ => False) w w' := by
  obtain ⟨n0, hn0⟩ : ∃ n0, w.heap.size = n0 := ⟨_, rfl⟩
  have HS := Lib.hid hn0
  have HL := Lib.hid hv
  have hob := hv.lt
  have HOB := Lib.hid hob
  have hokl : Hid (∀ (j : Nat) (p : Str × Int), L[j]? = some p → okS p.1) := Lib.hid (fun j p hp => by obtain ⟨_, _, _, _, hx⟩ := hv; exact (hx j p hp).1)
  obtain ⟨a, c, rfl⟩ := hv.sl
  obtain ⟨N, hN⟩ : ∃ N, L.length = N := ⟨_, rfl⟩
  have HN := Lib.hid hN
  rw [hN] at HL HOB ⊢
  obtain ⟨m, hc, hm, hTm⟩ := h.cell
  have HC := Lib.hid hc; have HM := Lib.hid hm; have HAA := Lib.hid hA
  have HGL : Hid (g < w.heap.size) := Lib.hid (h.lt g h.own)
  have hroad := Lib.hid (fun W b => sRoad W b k)
  have hrl := roadF_lt k
  clear hv hob hN h hm hTm hc hA
  refine (callsIn_wide (n := 0)).1 ?_
  refine callsIn_of_wp_marks Tryz.func72 rfl trivial ?_ rfl
  simp only [Tryz.ntmps72, List.size_toArray, List.length_cons, List.length_nil, Nat.reduceAdd, Nat.reduceSub, Array.replicate_succ, Array.replicate_zero, List.push_toArray, List.append_toArray, List.nil_append, List.cons_append]
  have hfn : ∀ f, Fence.wide.fn f := fun _ => trivial
  have hdp : Fence.wide.depth.isSome = false := rfl
  have hI0 : QI w ((((w.alloc (.cells #[.pointer (some ⟨g, 0, none⟩)] 58)).alloc (.cells #[.int .i64 k] 3)).alloc (.cells #[.int .i64 0] 30)).alloc (.cells SR.zero.cs 121)) n0 g k 0 :=
    ⟨heap_keep (heap_keep (heap_keep (heap_at hn0.symm _) _) _) _, heap_keep (heap_keep (heap_at (by simp; omega) _) _) _, heap_keep (heap_at (by simp; omega) _) _, ((((Fr.refl _ w).alloc _).alloc _).alloc _).alloc _⟩
  have hs0 : ((((w.alloc (.cells #[.pointer (some ⟨g, 0, none⟩)] 58)).alloc (.cells #[.int .i64 k] 3)).alloc (.cells #[.int .i64 0] 30)).alloc (.cells SR.zero.cs 121)).heap.size = n0 + 4 := by simp; omega
  dsimp only [SR.cs, SR.zero] at hI0 hs0
  have HI0 := Lib.hid hI0; have HS0 := Lib.hid hs0
  clear hI0 hs0
  obtain ⟨⟨rf, rt, ro⟩, hR⟩ : ∃ R, roadF k = R := ⟨_, rfl⟩
  rw [hR] at hroad hrl
  dsimp only at hroad hrl
  have hrf : Hid (∀ i, rf = some i → (roadF k).1 = some i) := Lib.hid (fun i e => by rw [hR]; exact e)
  have hrn : Hid (rf = none → doMay A k L = 0) := Lib.hid (fun e => by unfold doMay; rw [hR, e])
  clear hR
  cases rf with
  | none =>
    have hz := Lib.hid (hrn.out rfl)
    gi_wp2_with (gi_at_call 74; refine (callsIn_wide.2 (hroad.out _ _)).mono ?_; rintro e w1 ⟨rfl, q, rfl⟩)
    have hc5 := cell_obj (HI0.out.keep ((Fr.refl _ _).drewN q)).e 0 (.int .i64 0) rfl
    refine ⟨.int .i64 0, by simp [results, Tryz.results72, go_sem, hc5], ?_, ?_⟩
    · rw [hz.out]
    · exact ((((((Fr.refl _ w).alloc _).alloc _).alloc _).alloc _).drewN _).setCell (p := ⟨n0 + 1 + 1, 0, none⟩) (fun h => by have := HS.out; have h : n0 + 1 + 1 < w.heap.size := h; omega) _
  | some i0 =>
    have hi4 := hrl.1 i0 rfl
    have hroadI := hrf.out i0 rfl
    have HRO := Lib.hid hroadI
    clear hrl hrn hrf hroadI
    gi_wp2_with (first
      | (gi_at_call 74; refine (callsIn_wide.2 (hroad.out _ _)).mono ?_; rintro e w1 ⟨rfl, q, rfl⟩)
      | (gi_at_call 58; refine (callsIn_wide.2 (iAll _ _ _ _)).mono ?_; rintro e w1 ⟨rfl, rfl⟩))
    have hI1 := HI0.out.keep (((Fr.refl (fun _ => False) _).drewN q).alloc (.cells #[.slice a N c] 27))
    have hB1 : Boxed (((((((w.alloc (.cells #[.pointer (some ⟨g, 0, none⟩)] 58)).alloc (.cells #[.int .i64 k] 3)).alloc (.cells #[.int .i64 0] 30)).alloc (.cells #[.int .i64 0, .int .i64 0, .int .i64 0, .int .i64 0, .int .i64 0, .int .i64 0, .int .i64 0, .int .i64 0, .int .i64 0, .int .i64 0, .int .i64 0] 121)).drewN q)).alloc (.cells #[.slice a N c] 27)) (n0 + 4) 27 (.slice a N c) := heap_at (by have := HS0.out; exact this.symm) _
    obtain ⟨W1, hW1⟩ : ∃ W1, (((((((w.alloc (.cells #[.pointer (some ⟨g, 0, none⟩)] 58)).alloc (.cells #[.int .i64 k] 3)).alloc (.cells #[.int .i64 0] 30)).alloc (.cells #[.int .i64 0, .int .i64 0, .int .i64 0, .int .i64 0, .int .i64 0, .int .i64 0, .int .i64 0, .int .i64 0, .int .i64 0, .int .i64 0, .int .i64 0] 121)).drewN q)).alloc (.cells #[.slice a N c] 27)) = W1 := ⟨_, rfl⟩
    have hs1 : W1.heap.size = n0 + 5 := by rw [← hW1]; simp; omega
    rw [hW1] at hI1 hB1 ⊢
    have hL1 := HL.out.fr hI1.fr (fun b hb => by omega)
    have HI1 := Lib.hid hI1; have HS1 := Lib.hid hs1
    clear hW1 hI1 HI0 HS0
    refine rangeX (w0 := W1) (X := L) (S := fun b => b = n0 + 1 + 1) rfl (enters_of Tryz.func95 (by kernel_rfl) rfl)
      (iAll1 _ W1 (n0 + 4) _ L hB1 hL1 (by omega) (fun hl b hb e => by have := HOB.out hl b e; omega)) (Below.refl _ _) (fun b hb => by omega) (fun _ => rfl)
      (Mi1 w n0 g k A L) (Mx1 w n0 g k A L)
      (fun k C W W' hs hf => ⟨hs.1.fa hf (by omega), hs.2⟩) (fun c k C W W' hs hf => ⟨hs.1, hs.2.1, hs.2.2.fa hf (by omega)⟩)
      ⟨HI1.out, fun i p hi => by omega⟩ ?round ?done ?stop
    case round =>
      rintro lp j x C W hx hlp hi hr
      dsimp only [encIt]
      gi_wp2
      refine Took.mk (Fr.refl _ _) hi ?_
      rintro Wb ⟨hQ, hkn⟩ hrb hf hsz hsw hCC _
      have hok := hokl.out j x hx
      obtain ⟨gd, n⟩ := x
      dsimp only at hok ⊢
      have cs := cell_obj hQ.s 0 (.pointer (some ⟨g, 0, none⟩)) rfl
      have ce := cell_obj hQ.e 0 (.int .i64 0) rfl
      have fe := obj_frozen hQ.e 0
      have cg := hQ.fr.cell HC.out (by have := HGL.out; show ¬ n0 ≤ g; omega)
      have hlk := mp_row_ok (hQ.fr.mp HM.out (by have := HM.out.lt; omega)) hok
      unfold SR.enc at hlk
      obtain ⟨R, hRR⟩ : ∃ R, rowAt A gd = R := ⟨_, rfl⟩
      rw [hRR] at hlk
      unfold SR.cs at hlk
      have HX := Lib.hid hx; have HQ := Lib.hid hQ; have HKN := Lib.hid hkn
      clear hi hr hf hrb hx hQ hkn hok hRR
      cases hg : getS A gd with
      | none =>
        rw [hg] at hlk
        dsimp only [Option.isSome] at hlk
        have hno := Lib.hid (doMay_71 HRO.out HX.out hg)
        have hQ2 := HQ.out.keep ((Fr.refl (fun _ => False) Wb).alloc (.cells #[.int .i64 R.free, .int .i64 R.held, .int .i64 R.picked, .int .i64 R.aside, .int .i64 R.received, .int .i64 R.returned, .int .i64 R.counted, .int .i64 R.came, .int .i64 R.shipped, .int .i64 R.scrapped, .int .i64 R.sent] 121))
        have ce2 := cell_obj hQ2.e 0 (.int .i64 0) rfl
        have fe2 := obj_frozen hQ2.e 0
        have HQ2 := Lib.hid hQ2
        clear hg ce fe hQ2
        gi_wp2_with fail
        refine ⟨((Fr.refl _ _).alloc _).setCell (p := ⟨n0 + 1 + 1, 0, none⟩) (fun _ => .inl rfl) _, rfl, hno.out, HQ2.out.put 71⟩
      | some r =>
        rw [hg] at hlk
        dsimp only [Option.isSome] at hlk
        have hyes : Hid (∀ (i : Nat) (p : Str × Int), i < j + 1 → L[i]? = some p → (getS A p.1).isSome = true) := Lib.hid (fun i p hi hp => by
          by_cases e : i = j
          · subst e
            rw [HX.out] at hp
            cases hp
            rw [hg]; rfl
          · exact HKN.out i p (by omega) hp)
        clear hg
        gi_wp2_with fail
        exact ⟨(Fr.refl _ _).alloc _, HQ.out.keep ((Fr.refl _ _).alloc _), hyes.out⟩
    case stop =>
      rintro D c j C W hD hk ⟨rfl, hno, hQ⟩ hr hK
      have HQ := Lib.hid hQ; have HNO := Lib.hid hno
      have hc5 := cell_obj (Fa.cells (frPut (B := n0) (.deferred none) (by omega) hK rfl) hQ.e) 0 (.int .i64 71) rfl
      clear hQ hno hr
      gi_wp2_with fail
      refine ⟨by simp, .inl ⟨_, _, rfl, run_takeDeferred hK, ?_⟩⟩
      refine ⟨.int .i64 71, by simp [results, Tryz.results72, go_sem, hc5], ?_, ?_⟩
      · rw [HNO.out]
      · exact (HQ.out.fr.putObj (l := D) (fun _ => by omega) _).mono (fun b hb e => by omega)
    case done =>
      rintro D C W hD ⟨hQ, hkn⟩ hr hK
      have HQ := Lib.hid hQ
      have hkn' := Lib.hid (doMay_known HRO.out hkn)
      have hDl := (Array.getElem?_eq_some_iff.1 hK).1
      clear hkn hQ hr hB1 hL1
      gi_wp2_with (gi_at_call 58; refine (callsIn_wide.2 (iAll _ _ _ _)).mono ?_; rintro e w2 ⟨rfl, rfl⟩)
      have hQ2 := HQ.out.keep ((Fr.refl (fun _ => False) W).alloc (.cells #[.slice a N c] 27))
      have hB2 := Boxed.new W 27 (.slice a N c)
      have hK2 := heap_keep hK (.cells #[.slice a N c] 27)
      obtain ⟨W2, hW2⟩ : ∃ W2, W.alloc (.cells #[.slice a N c] 27) = W2 := ⟨_, rfl⟩
      have hs2 : W2.heap.size = W.heap.size + 1 := by rw [← hW2]; simp
      rw [hW2] at hQ2 hB2 hK2 ⊢
      have hL2 := HL.out.fr hQ2.fr (fun b hb => by omega)
      have HQ2 := Lib.hid hQ2; have HK2 := Lib.hid hK2
      have hnD : n0 + 5 ≤ D := by have := HS1.out; omega
      clear hW2 hQ2 hK2 HQ hK
      refine rangeX (w0 := W2) (X := L) (S := fun b => b = n0 + 1 + 1) rfl (enters_of Tryz.func95 (by kernel_rfl) rfl)
        (iAll1 _ W2 _ _ L hB2 hL2 (by omega) (fun hl b hb e => by have := HOB.out hl b e; omega)) (Below.refl _ _) (fun b hb => by omega) (fun _ => rfl)
        (Mi2 w n0 g D k A L i0) (Mx2 w n0 g D k A L)
        (fun k C W W' hs hf => ⟨⟨hs.1.1.fa hf (by omega), def_fa hs.1.2 hf (by omega)⟩, hs.2⟩) (fun c k C W W' hs hf => ⟨hs.1, hs.2.1, hs.2.2.1.fa hf (by omega), def_fa hs.2.2.2 hf (by omega)⟩)
        ⟨⟨HQ2.out, HK2.out⟩, fun i p hi => by omega⟩ ?round2 ?done2 ?stop2
      case round2 =>
        rintro lp j x C3 W3 hx hlp hi hr
        dsimp only [encIt]
        gi_wp2
        refine Took.mk (Fr.refl _ _) hi ?_
        rintro Wb ⟨⟨hQ, hKb⟩, hkn⟩ hrb hf hsz hsw hCC _
        have hok := hokl.out j x hx
        obtain ⟨gd, n⟩ := x
        dsimp only at hok ⊢
        have cs := cell_obj hQ.s 0 (.pointer (some ⟨g, 0, none⟩)) rfl
        have ck := cell_obj (heap_keep hQ.k (.cells (rowAt A gd).cs 121)) 0 (.int .i64 k) rfl
        have cg := hQ.fr.cell HC.out (by have := HGL.out; show ¬ n0 ≤ g; omega)
        have hlk := mp_row (hQ.fr.mp HM.out (by have := HM.out.lt; omega)) hok
        have hcl := cell_obj (heap_new Wb (.cells (rowAt A gd).cs 121)) i0 _ ((rowAt A gd).cs_get (show i0 < 11 by omega))
        unfold SR.enc at hlk
        obtain ⟨R, hRR⟩ : ∃ R, rowAt A gd = R := ⟨_, rfl⟩
        rw [hRR] at hlk hcl ck
        obtain ⟨have_, hhv⟩ : ∃ x, R.get i0 = x := ⟨_, rfl⟩
        rw [hhv] at hcl
        have HHV : Hid ((rowAt A gd).get i0 = have_) := Lib.hid (by rw [hRR, hhv])
        unfold SR.cs at hlk hcl ck
        have hQ3 := HQ2.out
        have hQa := hQ.keep (((Fr.refl (fun _ => False) Wb).alloc (.cells #[.int .i64 R.free, .int .i64 R.held, .int .i64 R.picked, .int .i64 R.aside, .int .i64 R.received, .int .i64 R.returned, .int .i64 R.counted, .int .i64 R.came, .int .i64 R.shipped, .int .i64 R.scrapped, .int .i64 R.sent] 121)))
        have HX := Lib.hid hx; have HQ := Lib.hid hQ; have HQA := Lib.hid hQa; have HKN := Lib.hid hkn; have HKB := Lib.hid hKb
        clear hi hr hf hrb hx hQ hkn hok hRR hhv hQ3 hQa hKb
        by_cases hlt : have_ < n
        · have hno : Hid (doMay A k L = 51) := Lib.hid (by
            rw [hkn'.out, if_pos]
            exact List.any_eq_true.2 ⟨_, List.mem_of_getElem? HX.out, by rw [decide_eq_true_eq, HHV.out]; exact hlt⟩)
          have ce2 := cell_obj HQA.out.e 0 (.int .i64 0) rfl
          have fe2 := obj_frozen HQA.out.e 0
          gi_wp2_with (gi_at_call 74; refine (callsIn_wide.2 (hroad.out _ _)).mono ?_; rintro e w5 ⟨rfl, q5, rfl⟩)
          have hFq : Fr (fun b => b = n0 + 1 + 1) Wb (((Wb.alloc (.cells #[.int .i64 R.free, .int .i64 R.held, .int .i64 R.picked, .int .i64 R.aside, .int .i64 R.received, .int .i64 R.returned, .int .i64 R.counted, .int .i64 R.came, .int .i64 R.shipped, .int .i64 R.scrapped, .int .i64 R.sent] 121)).drewN q5).setCell ⟨n0 + 1 + 1, 0, none⟩ (.int .i64 51)) := (((Fr.refl (fun b => b = n0 + 1 + 1) Wb).alloc _).drewN _).setCell (p := ⟨n0 + 1 + 1, 0, none⟩) (fun _ => rfl) _
          exact ⟨hFq.mono (fun _ _ e => .inl e), rfl, hno.out, (HQA.out.keep ((Fr.refl _ _).drewN q5)).put 51, hFq.at_ HKB.out (by omega)⟩
        · have hyes : Hid (∀ (i : Nat) (p : Str × Int), i < j + 1 → L[i]? = some p → ¬ (rowAt A p.1).get i0 < p.2) := Lib.hid (fun i p hi hp => by
            by_cases e : i = j
            · subst e
              rw [HX.out] at hp
              cases hp
              rw [HHV.out]; exact hlt
            · exact HKN.out i p (by omega) hp)
          gi_wp2_with (gi_at_call 74; refine (callsIn_wide.2 (hroad.out _ _)).mono ?_; rintro e w5 ⟨rfl, q5, rfl⟩)
          exact ⟨((Fr.refl _ _).alloc _).drewN _, ⟨HQA.out.keep ((Fr.refl _ _).drewN q5), heap_keep HKB.out _⟩, fun i p hi hp => by have := hyes.out i p hi hp; omega⟩
      case stop2 =>
        rintro D2 c j C3 W3 hD2 hk ⟨rfl, hno, hQ, hK1⟩ hr hK
        have HQ := Lib.hid hQ; have HNO := Lib.hid hno
        have hK1' := (World.putObj_heap_other (w := W3) (r := D2) (o := .deferred none) (k := D) (by omega)).trans hK1
        have hFx : Fa n0 W3 ((W3.putObj D2 (.deferred none)).putObj D (.deferred none)) := (frPut (B := n0) (.deferred none) (by omega) hK rfl).trans' (frPut (B := n0) (.deferred none) (by omega) hK1' rfl) (fun b hb e => ⟨e.1, by
          obtain ⟨-, o, ho, hx⟩ := e
          by_cases hbD : b = D2
          · subst hbD; exact ⟨_, hK, rfl⟩
          · exact ⟨o, (World.putObj_heap_other hbD).symm.trans ho, hx⟩⟩)
        have hc5 := cell_obj (Fa.cells hFx hQ.e) 0 (.int .i64 51) rfl
        clear hQ hno hr
        gi_wp2_with fail
        refine ⟨by simp, .inl ⟨_, _, rfl, run_takeDeferred hK, ?_⟩⟩
        refine ⟨by simp, .inl ⟨_, _, rfl, run_takeDeferred hK1', ?_⟩⟩
        refine ⟨.int .i64 51, by simp [results, Tryz.results72, go_sem, hc5], ?_, ?_⟩
        · rw [HNO.out]
        · exact ((HQ.out.fr.putObj (l := D2) (fun _ => by omega) _).putObj (l := D) (fun _ => by omega) _).mono (fun b hb e => by omega)
      case done2 =>
        rintro D2 C3 W3 hD2 ⟨⟨hQ, hK1⟩, hkn⟩ hr hK
        have HQ := Lib.hid (hQ.put 0)
        have hz : Hid (doMay A k L = 0) := Lib.hid (by
          rw [hkn'.out, if_neg]
          intro ht
          obtain ⟨p, hp, hlt⟩ := List.any_eq_true.1 ht
          obtain ⟨i, hi, rfl⟩ := List.getElem_of_mem hp
          have := hkn i _ hi (List.getElem?_eq_getElem hi)
          simp only [decide_eq_true_eq] at hlt
          exact this hlt)
        have ce2 := cell_obj hQ.e 0 (.int .i64 0) rfl
        have fe2 := obj_frozen hQ.e 0
        have hKs := (Below.heap_setCell W3 ⟨n0 + 1 + 1, 0, none⟩ (.int .i64 0) D2 (by simp; omega)).trans hK
        have hK1s := (Below.heap_setCell W3 ⟨n0 + 1 + 1, 0, none⟩ (.int .i64 0) D (by simp; omega)).trans hK1
        have hK1' := (World.putObj_heap_other (w := W3.setCell ⟨n0 + 1 + 1, 0, none⟩ (.int .i64 0)) (r := D2) (o := .deferred none) (k := D) (by omega)).trans hK1s
        have hFx : Fa n0 (W3.setCell ⟨n0 + 1 + 1, 0, none⟩ (.int .i64 0)) (((W3.setCell ⟨n0 + 1 + 1, 0, none⟩ (.int .i64 0)).putObj D2 (.deferred none)).putObj D (.deferred none)) := (frPut (B := n0) (.deferred none) (by omega) hKs rfl).trans' (frPut (B := n0) (.deferred none) (by omega) hK1' rfl) (fun b hb e => ⟨e.1, by
          obtain ⟨-, o, ho, hx⟩ := e
          by_cases hbD : b = D2
          · subst hbD; exact ⟨_, hKs, rfl⟩
          · exact ⟨o, (World.putObj_heap_other hbD).symm.trans ho, hx⟩⟩)
        have hc5 := cell_obj (Fa.cells hFx (hQ.put 0).e) 0 (.int .i64 0) rfl
        clear hQ hkn hr hK hK1
        gi_wp2_with fail
        refine ⟨by simp, .inl ⟨_, _, rfl, run_takeDeferred hKs, ?_⟩⟩
        refine ⟨by simp, .inl ⟨_, _, rfl, run_takeDeferred hK1', ?_⟩⟩
        refine ⟨.int .i64 0, by simp [results, Tryz.results72, go_sem, hc5], ?_, ?_⟩
        · rw [hz.out]
        · exact ((HQ.out.fr.putObj (l := D2) (fun _ => by omega) _).putObj (l := D) (fun _ => by omega) _).mono (fun b hb e => by omega)
end Go.Proofs.YtogphlnakdnchaaGreat

namespace Go.Proofs.YtogphlnakdnchaaGreat
open Go.RowKit Go.Maps
attribute [local go_sem] Oper.semAt_some
theorem SR.get_ok {r : SR} (h : SRb r) {i : Nat} (hi : i < 11) (h6 : i ≠ 6) : 0 ≤ r.get i ∧ r.get i ≤ 72057594037927936 := by
  obtain ⟨a0, a1, a2, a3, b0, b1, b2, b3, b4, b5⟩ := h
  match i, hi, h6 with
  | 0, _, _ => exact ⟨a0.1, by have := a0.2; show r.free ≤ _; omega⟩
  | 1, _, _ => exact ⟨a1.1, by have := a1.2; show r.held ≤ _; omega⟩
  | 2, _, _ => exact ⟨a2.1, by have := a2.2; show r.picked ≤ _; omega⟩
  | 3, _, _ => exact ⟨a3.1, by have := a3.2; show r.aside ≤ _; omega⟩
  | 4, _, _ => exact b0
  | 5, _, _ => exact b1
  | 6, _, h => exact absurd rfl h
  | 7, _, _ => exact b2
  | 8, _, _ => exact b3
  | 9, _, _ => exact b4
  | 10, _, _ => exact b5
theorem SR.get_set (r : SR) (i j : Nat) (n : Int) (hi : i < 11) (hj : j < 11) : (r.set i n).get j = if i = j then n else r.get j := by
  have h : ∀ (i j : Fin 11), (r.set i.val n).get j.val = if i = j then n else r.get j.val := by
    intro i j
    match i, j with
    | ⟨i, hi⟩, ⟨j, hj⟩ =>
      match i, hi, j, hj with
      | 0, _, j, hj => match j, hj with | 0, _ | 1, _ | 2, _ | 3, _ | 4, _ | 5, _ | 6, _ | 7, _ | 8, _ | 9, _ | 10, _ => rfl
      | 1, _, j, hj => match j, hj with | 0, _ | 1, _ | 2, _ | 3, _ | 4, _ | 5, _ | 6, _ | 7, _ | 8, _ | 9, _ | 10, _ => rfl
      | 2, _, j, hj => match j, hj with | 0, _ | 1, _ | 2, _ | 3, _ | 4, _ | 5, _ | 6, _ | 7, _ | 8, _ | 9, _ | 10, _ => rfl
      | 3, _, j, hj => match j, hj with | 0, _ | 1, _ | 2, _ | 3, _ | 4, _ | 5, _ | 6, _ | 7, _ | 8, _ | 9, _ | 10, _ => rfl
      | 4, _, j, hj => match j, hj with | 0, _ | 1, _ | 2, _ | 3, _ | 4, _ | 5, _ | 6, _ | 7, _ | 8, _ | 9, _ | 10, _ => rfl
      | 5, _, j, hj => match j, hj with | 0, _ | 1, _ | 2, _ | 3, _ | 4, _ | 5, _ | 6, _ | 7, _ | 8, _ | 9, _ | 10, _ => rfl
      | 6, _, j, hj => match j, hj with | 0, _ | 1, _ | 2, _ | 3, _ | 4, _ | 5, _ | 6, _ | 7, _ | 8, _ | 9, _ | 10, _ => rfl
      | 7, _, j, hj => match j, hj with | 0, _ | 1, _ | 2, _ | 3, _ | 4, _ | 5, _ | 6, _ | 7, _ | 8, _ | 9, _ | 10, _ => rfl
      | 8, _, j, hj => match j, hj with | 0, _ | 1, _ | 2, _ | 3, _ | 4, _ | 5, _ | 6, _ | 7, _ | 8, _ | 9, _ | 10, _ => rfl
      | 9, _, j, hj => match j, hj with | 0, _ | 1, _ | 2, _ | 3, _ | 4, _ | 5, _ | 6, _ | 7, _ | 8, _ | 9, _ | 10, _ => rfl
      | 10, _, j, hj => match j, hj with | 0, _ | 1, _ | 2, _ | 3, _ | 4, _ | 5, _ | 6, _ | 7, _ | 8, _ | 9, _ | 10, _ => rfl
  have := h ⟨i, hi⟩ ⟨j, hj⟩
  simpa [Fin.ext_iff] using this
/-- What the three additions need: nothing wraps. -/
theorem SR.adds {r : SR} (h : SRb r) {k n : Int} (hn : 0 ≤ n ∧ n ≤ 1099511627776) :
    (∀ i, (roadF k).1 = some i → i < 11 ∧ okI (r.get i + -n)) ∧ (∀ i, (roadF k).2.1 = some i → i < 11 ∧ okI ((r.add (roadF k).1 (-n)).get i + n)) ∧
    (∀ i, (roadF k).2.2 = some i → i < 11 ∧ okI (((r.add (roadF k).1 (-n)).add (roadF k).2.1 n).get i + n)) := by
  obtain ⟨h1, h2, h3⟩ := roadF_lt k
  have key : ∀ (o : Option Nat) (d : Int) (i : Nat) (s : SR), (∀ j, o = some j → j < 11) → i < 11 → -1099511627776 ≤ d → d ≤ 1099511627776 → s.get i - 1099511627776 ≤ (s.add o d).get i ∧ (s.add o d).get i ≤ s.get i + 1099511627776 := by
    intro o d i s ho hi d0 d1
    cases o with
    | none => exact ⟨by show s.get i - _ ≤ s.get i; omega, by show s.get i ≤ _; omega⟩
    | some j =>
      show s.get i - _ ≤ (s.set j (s.get j + d)).get i ∧ (s.set j (s.get j + d)).get i ≤ _
      rw [SR.get_set _ _ _ _ (ho j rfl) hi]
      by_cases e : j = i
      · subst e; rw [if_pos rfl]; omega
      · rw [if_neg e]; omega
  obtain ⟨n0, n1⟩ := hn
  refine ⟨fun i hi => ?_, fun i hi => ?_, fun i hi => ?_⟩
  · have := h1 i hi
    have := SR.get_ok h (i := i) (by omega) (by omega)
    exact ⟨by omega, by unfold okI; omega⟩
  · have := h2 i hi
    have h0 := SR.get_ok h (i := i) (by omega) (by omega)
    have := key (roadF k).1 (-n) i r (fun j hj => by have := h1 j hj; omega) (by omega) (by omega) (by omega)
    exact ⟨by omega, by unfold okI; omega⟩
  · have := h3 i hi
    have h0 := SR.get_ok h (i := i) (by omega) (by omega)
    have h4 := key (roadF k).1 (-n) i r (fun j hj => by have := h1 j hj; omega) (by omega) (by omega) (by omega)
    have h5 := key (roadF k).2.1 n i (r.add (roadF k).1 (-n)) (fun j hj => by have := h2 j hj; omega) (by omega) (by omega) (by omega)
    exact ⟨by omega, by unfold okI; omega⟩
theorem doFold_cons (k : Int) (B : Stk) (p : Str × Int) (r : Its) : doFold k B (p :: r) = if ((rowAt B p.1).move k p.2).right = true then doFold k (putS ktS.lt B p.1 ((rowAt B p.1).move k p.2)) r else none := rfl
theorem right_b {r : SR} (h : r.right = true) : SRb r := by
  unfold SR.right at h
  rw [Bool.and_eq_true, SR.each_iff] at h
  exact h.1
theorem rowAt_b {B : Stk} (h : ∀ p ∈ B, SRb p.2) (g : Str) : SRb (rowAt B g) := by
  show SRb ((getS B g).getD SR.zero)
  cases e : getS B g with
  | none => exact SRok.zero.b
  | some v => exact h _ (getS_memS e)
/-- What Do keeps on its way. -/
structure DoI (w0 W : World) (n0 nb mb : Nat) (k e : Int) (B : Stk) : Prop where
  k : W.heap[n0]? = some (.cells #[.int .i64 k] 3)
  e : W.heap[n0 + 1]? = some (.cells #[.int .i64 e] 30)
  nx : W.heap[nb]? = some (.cells #[.map (some mb)] 100)
  map : Mp Tryz.prog W 9 ktS SR.enc mb B
  rows : ∀ p ∈ B, SRb p.2
  fr : Fr (fun b => n0 ≤ b) w0 W
  hn : n0 + 1 < nb ∧ n0 + 1 < mb ∧ nb ≠ mb
section
variable {w0 W W' : World} {n0 nb mb : Nat} {k e : Int} {B : Stk}
theorem DoI.fa {C : Nat} (h : DoI w0 W n0 nb mb k e B) (hf : Fa C W W') (hB : w0.heap.size ≤ C) : DoI w0 W' n0 nb mb k e B :=
  ⟨Fa.cells hf h.k, Fa.cells hf h.e, Fa.cells hf h.nx, Fa.mp hf h.map, h.rows, h.fr.trans' hf (fun b hb e => by have := e.1; omega), h.hn⟩
theorem DoI.keep (h : DoI w0 W n0 nb mb k e B) (hf : Fr (fun _ => False) W W') : DoI w0 W' n0 nb mb k e B :=
  ⟨hf.at_ h.k (fun h => h), hf.at_ h.e (fun h => h), hf.at_ h.nx (fun h => h), hf.mp h.map (fun h => h), h.rows, h.fr.trans' hf (fun _ _ e => e.elim), h.hn⟩
theorem DoI.side {S : Nat → Prop} (h : DoI w0 W n0 nb mb k e B) (hf : Fr S W W') (hS : ∀ b, S b → W.heap.size ≤ b) : DoI w0 W' n0 nb mb k e B := by
  have l1 := (Array.getElem?_eq_some_iff.1 h.k).1
  have l2 := (Array.getElem?_eq_some_iff.1 h.e).1
  have l3 := (Array.getElem?_eq_some_iff.1 h.nx).1
  have l4 := h.map.lt
  exact ⟨hf.at_ h.k (fun e => by have := hS _ e; omega), hf.at_ h.e (fun e => by have := hS _ e; omega), hf.at_ h.nx (fun e => by have := hS _ e; omega), hf.mp h.map (fun e => by have := hS _ e; omega), h.rows, h.fr.trans' hf (fun b _ e => by have := hS _ e; have := h.fr.size; omega), h.hn⟩
theorem DoI.put (h : DoI w0 W n0 nb mb k e B) (e' : Int) : DoI w0 (W.setCell ⟨n0 + 1, 0, none⟩ (.int .i64 e')) n0 nb mb k e' B := by
  have hF : Fr (fun b => b = n0 + 1) W (W.setCell ⟨n0 + 1, 0, none⟩ (.int .i64 e')) := (Fr.refl (fun b => b = n0 + 1) W).setCell (p := ⟨n0 + 1, 0, none⟩) (fun _ => rfl) _
  have := h.hn
  exact ⟨hF.at_ h.k (by omega), obj_set h.e 0 _, hF.at_ h.nx (by omega), hF.mp h.map (by omega), h.rows, h.fr.trans' hF (fun b _ e => by omega), h.hn⟩
theorem DoI.turn {s : Str} {r : SR} (h : DoI w0 W n0 nb mb k e B) (ht : W.mapTurned W' mb) (hm : Mp Tryz.prog W' 9 ktS SR.enc mb (putS ktS.lt B s r)) (hr : SRb r) : DoI w0 W' n0 nb mb k e (putS ktS.lt B s r) := by
  have hF : Fr (fun b => b = mb) W W' := Fr.turned ht rfl
  have := h.hn
  refine ⟨hF.at_ h.k (by omega), hF.at_ h.e (by omega), hF.at_ h.nx this.2.2, hm, fun p hp => ?_, h.fr.trans' hF (fun b _ e => by omega), h.hn⟩
  rcases mem_putK.1 hp with rfl | ⟨hp3, -⟩
  · exact hr
  · exact h.rows p hp3
end
end Go.Proofs.YtogphlnakdnchaaGreat

namespace Go.Proofs.YtogphlnakdnchaaGreat
open Go.RowKit Go.Maps
attribute [local go_sem] Oper.semAt_some
theorem itsOk_pos : ∀ {L : Its} {last : Str}, itsOk last L = true → ∀ p ∈ L, goodB p.1 = true ∧ 1 ≤ p.2 ∧ p.2 ≤ 1099511627776
  | [], _, _, p, hp => by cases hp
  | q :: r, last, h, p, hp => by
    rw [itsOk_cons] at h
    simp only [Bool.and_eq_true, decide_eq_true_eq, mayI_iff] at h
    rcases List.mem_cons.1 hp with rfl | hp
    · exact ⟨h.1.1.1.1, h.1.1.1.2, h.1.1.2.2⟩
    · exact itsOk_pos h.2 p hp
theorem mayL_pos {L : Its} (h : mayL L = true) : ∀ p ∈ L, 0 ≤ p.2 ∧ p.2 ≤ 1099511627776 := fun p hp => by
  unfold mayL at h
  rw [Bool.and_eq_true] at h
  have := itsOk_pos h.1 p hp
  omega
def DoJ (w : World) (n0 nb mb : Nat) (k : Int) (A : Stk) (L : Its) (j : Nat) (_ : Nat → Prop) (W : World) : Prop := ∃ B, DoI w W n0 nb mb k 0 B ∧ doFold k A L = doFold k B (L.drop j) ∧ B.length ≤ A.length + j
def DoX (w : World) (n0 nb mb : Nat) (k : Int) (A : Stk) (L : Its) (c : Code) (_ : Nat) (_ : Nat → Prop) (W : World) : Prop := c = .ret ∧ doFold k A L = none ∧ ∃ B, DoI w W n0 nb mb k 50 B
set_option maxRecDepth 100000 in
set_option maxHeartbeats 16000000 in
theorem sDo (w : World) (g : Nat) (TS : Nat → Prop) (A : Stk) (k : Int) (v : Value) (L : Its) (h : SA w g TS A) (hA : SOk A) (hv : Il w v L) :
    Calls Tryz.prog 31 #[.pointer (some ⟨g, 0, none⟩), .int .i64 k, v] w fun e w' => e = .returned (.int .i64 (doS A k L).1) ∧ ∃ TS', SA w' g TS' (doS A k L).2 ∧ Stp TS w w' TS' := by
  obtain ⟨n0, hn0⟩ : ∃ n0, w.heap.size = n0 := ⟨_, rfl⟩
  have HS := Lib.hid hn0
  have HL := Lib.hid hv
  have hob := hv.lt
  have HOB := Lib.hid hob
  have hokl : Hid (∀ (j : Nat) (p : Str × Int), L[j]? = some p → okS p.1) := Lib.hid (fun j p hp => by obtain ⟨_, _, _, _, hx⟩ := hv; exact (hx j p hp).1)
  obtain ⟨a, c, rfl⟩ := hv.sl
  obtain ⟨N, hN⟩ : ∃ N, L.length = N := ⟨_, rfl⟩
  have HN := Lib.hid hN
  rw [hN] at HL HOB ⊢
  have HSA := Lib.hid h
  have HAA := Lib.hid hA
  have HGL : Hid (g < w.heap.size) := Lib.hid (h.lt g h.own)
  obtain ⟨m, hc, hm, hTm⟩ := h.cell
  have HC := Lib.hid hc; have HM := Lib.hid hm
  have hmd := Lib.hid (fun W (hW : W.cell? ⟨g, 0, none⟩ = some (.map (some m))) => smade W g m hW)
  clear hv hob hN h hm hTm hA
  refine (callsIn_wide (n := 0)).1 ?_
  refine callsIn_of_wp_marks Tryz.func31 rfl trivial ?_ rfl
  simp only [Tryz.ntmps31, List.size_toArray, List.length_cons, List.length_nil, Nat.reduceAdd, Nat.reduceSub, Array.replicate_succ, Array.replicate_zero, List.push_toArray, List.append_toArray, List.nil_append, List.cons_append]
  have hfn : ∀ f, Fence.wide.fn f := fun _ => trivial
  have hdp : Fence.wide.depth.isSome = false := rfl
  obtain ⟨W0, hW0⟩ : ∃ W0, (w.alloc (.cells #[.int .i64 k] 3)).alloc (.cells #[.int .i64 0] 30) = W0 := ⟨_, rfl⟩
  have hF0 : Fr (fun _ => False) w W0 := by rw [← hW0]; exact ((Fr.refl _ w).alloc _).alloc _
  have hs0 : W0.heap.size = n0 + 2 := by rw [← hW0]; simp; omega
  have hk0 : W0.heap[n0]? = some (.cells #[.int .i64 k] 3) := by rw [← hW0]; exact heap_keep (heap_at hn0.symm _) _
  have he0 : W0.heap[n0 + 1]? = some (.cells #[.int .i64 0] 30) := by rw [← hW0]; exact heap_at (by simp; omega) _
  have HF0 := Lib.hid hF0; have HS0 := Lib.hid hs0; have HK0 := Lib.hid hk0; have HE0 := Lib.hid he0; have HW0 := Lib.hid hW0
  have hcg0 : W0.cell? ⟨g, 0, none⟩ = some (.map (some m)) := hF0.cell hc (fun h => h)
  have hckk := cell_obj hk0 0 (.int .i64 k) rfl
  have hcee := cell_obj he0 0 (.int .i64 0) rfl
  have hfee := obj_frozen he0 0
  clear hF0 hs0 hk0 he0 hc
  have hrefuse : ∀ W x, Fr (fun _ => False) w W → ∃ TS', SA (W.setCell ⟨n0 + 1, 0, none⟩ (.int .i64 x)) g TS' A ∧ Stp TS w (W.setCell ⟨n0 + 1, 0, none⟩ (.int .i64 x)) TS' := fun W x hf => by
    have hF' : Fr (fun _ => False) w (W.setCell ⟨n0 + 1, 0, none⟩ (.int .i64 x)) := hf.setCell (p := ⟨n0 + 1, 0, none⟩) (fun h => by have := HS.out; have h : n0 + 1 < w.heap.size := h; omega) _
    exact ⟨TS, HSA.out.fr hF' (fun _ _ h => h), Stp.refl hF'⟩
  have HRF := Lib.hid hrefuse
  have hmdc := Lib.hid (fun W (hW : W.cell? ⟨g, 0, none⟩ = some (.map (some m))) => (callsIn_wide (n := 0)).2 (hmd.out W hW))
  clear hrefuse hmd
  by_cases hkr : k < 1 ∨ 11 < k
  · have hd : Hid (doS A k L = (1, A)) := Lib.hid (by unfold doS; rw [if_pos hkr])
    have hres := cell_obj (obj_set HE0.out 0 (.int .i64 1)) 0 (.int .i64 1) rfl
    rcases (by omega : k < 1 ∨ (1 ≤ k ∧ 11 < k)) with h1 | ⟨h1, h2⟩
    all_goals
      gi_wp2_with (gi_at_call 69; refine (hmdc.out _ hcg0).mono ?_; rintro e w1 ⟨rfl, rfl⟩)
      refine ⟨.int .i64 1, by simp [results, Tryz.results31, go_sem, hres], ?_, ?_⟩
      · rw [hd.out]
      · rw [hd.out]; exact HRF.out _ _ HF0.out
  · have hk1 : 1 ≤ k := by omega
    have hk2 : k ≤ 11 := by omega
    have hL0 := HL.out.fr HF0.out (fun b hb => hb.elim)
    have hIM := Lib.hid (iMay W0 (.slice a N c) L hL0)
    clear hL0
    cases hml : mayL L with
    | false =>
      have hd : Hid (doS A k L = (60, A)) := Lib.hid (by unfold doS; rw [if_neg hkr, if_pos hml])
      rw [hml] at hIM
      clear hkr hml
      gi_wp2_with (first
        | (gi_at_call 69; refine (hmdc.out _ hcg0).mono ?_; rintro e w1 ⟨rfl, rfl⟩)
        | (gi_at_call 28; refine (callsIn_wide.2 hIM.out).mono ?_; rintro e w2 ⟨rfl, hf2⟩; have hE2 := Lib.hid (hf2.at_ HE0.out (fun h => h)); have ce2 := cell_obj hE2.out 0 (.int .i64 0) rfl; have fe2 := obj_frozen hE2.out 0; have HF2 := Lib.hid (HF0.out.trans hf2); clear hf2))
      have hres := cell_obj (obj_set hE2.out 0 (.int .i64 60)) 0 (.int .i64 60) rfl
      refine ⟨.int .i64 60, by simp [results, Tryz.results31, go_sem, hres], ?_, ?_⟩
      · rw [hd.out]
      · rw [hd.out]; exact HRF.out _ _ HF2.out
    | true =>
      rw [hml] at hIM
      have hpos : Hid (∀ p ∈ L, 0 ≤ p.2 ∧ p.2 ≤ 1099511627776) := Lib.hid (mayL_pos hml)
      have h16 : Hid (L.length ≤ 16) := Lib.hid (by unfold mayL at hml; simp at hml; exact hml.2)
      have hSM : Hid (∀ W, Fr (fun _ => False) w W → Calls Tryz.prog 72 #[.pointer (some ⟨g, 0, none⟩), .int .i64 k, .slice a N c] W fun e w' => e = .returned (.int .i64 (doMay A k L)) ∧ Fr (fun _ => False) W w') := Lib.hid (fun W hf =>
        sMay W g TS A k (.slice a N c) L (HSA.out.fr hf (fun _ _ h => h)) HAA.out (HL.out.fr hf (fun b hb => hb.elim)))
      obtain ⟨x, hx⟩ : ∃ x, doMay A k L = x := ⟨_, rfl⟩
      rw [hx] at hSM
      by_cases hx0 : x = 0
      · subst hx0
        have hd : Hid (doS A k L = (match doFold k A L with | none => (50, A) | some B => if 64 < B.length then (2, A) else (0, B))) := Lib.hid (by
          unfold doS
          rw [if_neg hkr, if_neg (by rw [hml]; decide), if_neg (by rw [hx]; simp)]
          cases doFold k A L <;> rfl)
        clear hkr hml hx
        gi_wp2_with (first
          | (gi_at_call 69; refine (hmdc.out _ hcg0).mono ?_; rintro e w1 ⟨rfl, rfl⟩)
          | (gi_at_call 28; refine (callsIn_wide.2 hIM.out).mono ?_; rintro e w2 ⟨rfl, hf2⟩; have HF2 := Lib.hid (HF0.out.trans hf2); have hck2 := cell_obj (hf2.at_ HK0.out (fun h => h)) 0 (.int .i64 k) rfl; have HX2 := Lib.hid hf2; clear hf2)
          | (gi_at_call 72; refine (callsIn_wide.2 (hSM.out _ HF2.out)).mono ?_; rintro e w3 ⟨rfl, hf3⟩; have HF3 := Lib.hid (HF2.out.trans hf3); have hcg3 := HF3.out.cell HC.out (fun h => h); have HX3 := Lib.hid (HX2.out.trans hf3); clear hf3))
        refine (callsIn_wide.2 (sClone w3 m A (HF3.out.mp HM.out (fun h => h)))).mono ?_
        rintro e w4 ⟨rfl, hm4, hB4⟩
        obtain ⟨mb, hmb⟩ : ∃ mb, w3.heap.size = mb := ⟨_, rfl⟩
        rw [hmb] at hm4
        have hF4 := HF3.out.trans (Fr.below hB4)
        have hX4 := HX3.out.trans (Fr.below (S := fun _ => False) hB4)
        have hsz3 := HX3.out.size
        have hsz4 := hB4.size
        have hs4 : mb < w4.heap.size := hm4.lt
        rw [HS0.out, hmb] at hsz3
        rw [hmb] at hsz4
        have hI4 : DoI w ((w4.alloc (.cells #[.map (some mb)] 100)).alloc (.cells #[.slice a N c] 27)) n0 w4.heap.size mb k 0 A :=
          ⟨heap_keep (heap_keep (hX4.at_ HK0.out (fun h => h)) _) _, heap_keep (heap_keep (hX4.at_ HE0.out (fun h => h)) _) _, heap_keep (heap_new _ _) _, (hm4.alloc _).alloc _, fun p hp => (HAA.out.row p hp).b, ((hF4.mono (fun _ _ h => h.elim)).alloc _).alloc _, by omega, by omega, by omega⟩
        have hBx : Boxed ((w4.alloc (.cells #[.map (some mb)] 100)).alloc (.cells #[.slice a N c] 27)) (w4.heap.size + 1) 27 (.slice a N c) := heap_at (by simp) _
        have HI4 := Lib.hid hI4; have HBX := Lib.hid hBx
        rw [hmb]
        clear hmb hm4 hB4 hF4 hX4 hI4 hBx hck2 hcg3 HX2 HX3 HF2 HF3 hIM hSM
        gi_wp2_with (gi_at_call 58; refine (callsIn_wide.2 (iAll _ _ _ _)).mono ?_; rintro e w5 ⟨rfl, rfl⟩)
        obtain ⟨nb, hnb⟩ : ∃ nb, w4.heap.size = nb := ⟨_, rfl⟩
        obtain ⟨W5, hW5⟩ : ∃ W5, (w4.alloc (.cells #[.map (some mb)] 100)).alloc (.cells #[.slice a N c] 27) = W5 := ⟨_, rfl⟩
        have hs5 : W5.heap.size = nb + 2 := by rw [← hW5]; simp; omega
        rw [hW5, hnb] at HI4 HBX
        rw [hW5]
        simp only [hnb]
        rw [hnb] at hs4 hsz4
        have hL5 := HL.out.fr HI4.out.fr (fun b hb => by omega)
        clear hW5 hnb
        refine rangeX (w0 := W5) (X := L) (S := fun b => b = n0 + 1 ∨ b = mb) rfl (enters_of Tryz.func95 (by kernel_rfl) rfl)
          (iAll1 _ W5 _ _ L HBX.out hL5 (by omega) (fun hl b hb e => by have := HOB.out hl b e; omega)) (Below.refl _ _) (fun b hb => by omega) (fun _ => rfl)
          (DoJ w n0 nb mb k A L) (DoX w n0 nb mb k A L)
          (fun k C W W' hs hf => by obtain ⟨B, h1, h2⟩ := hs; exact ⟨B, h1.fa hf (by omega), h2⟩) (fun c k C W W' hs hf => by obtain ⟨e, e2, B, h1⟩ := hs; exact ⟨e, e2, B, h1.fa hf (by omega)⟩)
          ⟨A, HI4.out, rfl, by omega⟩ ?round ?done ?stop
        case round =>
          rintro lp j x C W hx hlp hi hr
          dsimp only [encIt]
          gi_wp2
          refine Took.mk (Fr.refl _ _) hi ?_
          rintro Wb ⟨B, hI, hrest, hBl⟩ hrb hf hsz hsw hCC _
          have hdr : L.drop j = x :: L.drop (j + 1) := List.drop_eq_getElem?_toList_append |>.trans (by rw [hx]; rfl)
          rw [hdr, doFold_cons] at hrest
          have hok := hokl.out j x hx
          have hpos := hpos.out x (List.mem_of_getElem? hx)
          obtain ⟨gd, n⟩ := x
          dsimp only at hok hrest hpos ⊢
          have cnx := cell_obj hI.nx 0 (.map (some mb)) rfl
          have hlk := mp_row hI.map hok
          have hRb := rowAt_b hI.rows gd
          obtain ⟨R, hRR⟩ : ∃ R, rowAt B gd = R := ⟨_, rfl⟩
          rw [hRR] at hlk hRb hrest
          have hadd := SR.adds (k := k) hRb hpos
          obtain ⟨ad1, ad2, ad3⟩ := hadd
          unfold SR.enc SR.cs at hlk
          have hnn : IntKind.i64.wrap (-n) = -n := by rw [IntKind.wrap_i64]; omega
          have hIa := hI.keep ((Fr.refl (fun _ => False) Wb).alloc (.cells R.cs 121))
          have hra : RowAt (Wb.alloc (.cells R.cs 121)) Wb.heap.size R := heap_new _ _
          have hcka := cell_obj hIa.k 0 (.int .i64 k) rfl
          unfold SR.cs at hIa hra hcka
          obtain ⟨rb, hrb⟩ : ∃ rb, Wb.heap.size = rb := ⟨_, rfl⟩
          have HI := Lib.hid hI; have HIA := Lib.hid hIa; have HRA := Lib.hid hra; have HREST := Lib.hid hrest; have HBL := Lib.hid hBl; have HRB := Lib.hid hrb; have AD1 := Lib.hid ad1; have AD2 := Lib.hid ad2; have AD3 := Lib.hid ad3
          have hokh := Lib.hid hok; have HXX := Lib.hid hx
          clear hi hr hf hrb hdr hrest hok hI hIa hra hBl ad1 ad2 ad3 hRb hRR hx
          obtain ⟨⟨rf, rt, ro⟩, hR3⟩ : ∃ R, roadF k = R := ⟨_, rfl⟩
          have hroad := Lib.hid (fun W b => sRoad W b k)
          have hmv : Hid (R.move k n = ((R.add rf (-n)).add rt n).add ro n) := Lib.hid (by unfold SR.move; rw [hR3])
          rw [hR3] at AD1 AD2 AD3 hroad
          dsimp only at AD1 AD2 AD3 hroad
          clear hR3 hsz hsw hCC hlp hpos
          gi_wp2_with (gi_at_call 74; refine (callsIn_wide.2 (hroad.out _ _)).mono ?_; rintro e w6 ⟨rfl, q, rfl⟩)
          refine (callsIn_wide.2 (sAdd _ _ R rf (-n) (by exact HRA.out) AD1.out)).mono ?_
          rintro e w7 ⟨⟨v7, rfl⟩, hr7, hf7⟩
          have HR7 := Lib.hid hr7
          have HF7 := Lib.hid ((((Fr.refl (fun b => b = Wb.heap.size) Wb).alloc _).drewN q).trans' hf7 (fun b _ e => e))
          clear hr7 hf7 hcka cnx hlk
          gi_wp2_with fail
          refine (callsIn_wide.2 (sAdd w7 _ _ rt n HR7.out AD2.out)).mono ?_
          rintro e w8 ⟨⟨v8, rfl⟩, hr8, hf8⟩
          have HR8 := Lib.hid hr8
          have HF8 := Lib.hid (HF7.out.trans' hf8 (fun b _ e => e))
          clear hr8 hf8
          gi_wp2_with fail
          refine (callsIn_wide.2 (sAdd w8 _ _ ro n HR8.out AD3.out)).mono ?_
          rintro e w9 ⟨⟨v9, rfl⟩, hr9, hf9⟩
          rw [← hmv.out] at hr9
          have HF9 := Lib.hid (HF8.out.trans' hf9 (fun b _ e => e))
          obtain ⟨M, hM⟩ : ∃ M, R.move k n = M := ⟨_, rfl⟩
          rw [hM] at hr9 HREST
          have HR9 := Lib.hid hr9
          clear hr9 hf9 hM hmv HR7 HR8 HF7 HF8
          gi_wp2_with fail
          refine (callsIn_wide.2 (sRight w9 _ M HR9.out)).mono ?_
          rintro e w10 ⟨rfl, hf10⟩
          have HF10 := Lib.hid (HF9.out.trans' hf10 (fun b _ e => e.elim))
          have hr10 := hf10.at_ HR9.out (fun h => h)
          have hI10 := HI.out.side HF10.out (fun b e => by omega)
          have ce10 := cell_obj hI10.e 0 (.int .i64 0) rfl
          have fe10 := obj_frozen hI10.e 0
          have HI10 := Lib.hid hI10
          have hn' := hI10.hn
          cases hMr : M.right with
          | false =>
            have hno : Hid (doFold k A L = none) := Lib.hid (by rw [HREST.out, if_neg (by rw [hMr]; decide)])
            clear hf10 hr10 hI10 hMr
            gi_wp2_with fail
            exact ⟨((HF10.out.mono (S' := fun b => b = n0 + 1 ∨ b = Wb.heap.size) (fun _ _ e => .inr e)).setCell (p := ⟨n0 + 1, 0, none⟩) (fun _ => .inl rfl) _).mono (fun b hb e => e.elim (fun e => .inl (.inl e)) (fun e => by omega)), rfl, hno.out, B, HI10.out.put 50⟩
          | true =>
            have hyes : Hid (doFold k A L = doFold k (putS ktS.lt B gd M) (L.drop (j + 1))) := Lib.hid (by rw [HREST.out, if_pos hMr])
            have hMb := Lib.hid (right_b hMr)
            have e0 := cell_obj hr10 0 (.int .i64 M.free) rfl
            have e1 := cell_obj hr10 1 (.int .i64 M.held) rfl
            have e2 := cell_obj hr10 2 (.int .i64 M.picked) rfl
            have e3 := cell_obj hr10 3 (.int .i64 M.aside) rfl
            have e4 := cell_obj hr10 4 (.int .i64 M.received) rfl
            have e5 := cell_obj hr10 5 (.int .i64 M.returned) rfl
            have e6 := cell_obj hr10 6 (.int .i64 M.counted) rfl
            have e7 := cell_obj hr10 7 (.int .i64 M.came) rfl
            have e8 := cell_obj hr10 8 (.int .i64 M.shipped) rfl
            have e9 := cell_obj hr10 9 (.int .i64 M.scrapped) rfl
            have e10 := cell_obj hr10 10 (.int .i64 M.sent) rfl
            have cnx := cell_obj hI10.nx 0 (.map (some mb)) rfl
            obtain ⟨w11, hst, hm11, ht11⟩ := hI10.map.store kS Tryz.underlying100 (by have := HBL.out; have := HAA.out.len; have := (List.getElem?_eq_some_iff.1 HXX.out).1; have := h16.out; omega) hokh.out M
            have hst : (Instr.mapUpdate 100 (.map (some mb)) (vS gd) (.agg #[.int .i64 M.free, .int .i64 M.held, .int .i64 M.picked, .int .i64 M.aside, .int .i64 M.received, .int .i64 M.returned, .int .i64 M.counted, .int .i64 M.came, .int .i64 M.shipped, .int .i64 M.scrapped, .int .i64 M.sent])).run Tryz.prog w10 = .ok () w11 := hst
            have HI11 := Lib.hid (hI10.turn ht11 hm11 hMb.out)
            have HT11 := Lib.hid ht11
            clear hf10 hr10 hI10 hMr hm11 ht11 ce10 fe10
            gi_wp2_with fail
            refine ⟨(HF10.out.mono (fun b hb e => by omega)).trans' (Fr.turned (S := fun b => b = mb) HT11.out rfl) (fun b _ e => .inl (.inr e)), _, HI11.out, hyes.out, ?_⟩
            have := putK_len ktS.lt B gd M
            have := HBL.out
            omega
        case stop =>
          rintro D c j C W hD hk ⟨rfl, hno, B, hI⟩ hr hK
          have hc5 := cell_obj (Fa.cells (frPut (B := n0) (.deferred none) (by omega) hK rfl) hI.e) 0 (.int .i64 50) rfl
          have hd2 : Hid (doS A k L = (50, A)) := Lib.hid (by rw [hd.out, hno])
          have hF : Hid (Fr (fun _ => False) w (W.putObj D (.deferred none))) := Lib.hid ((hI.fr.putObj (l := D) (fun _ => by omega) _).mono (fun b hb e => by omega))
          clear hI hr hno
          gi_wp2_with fail
          refine ⟨by simp, .inl ⟨_, _, rfl, run_takeDeferred hK, ?_⟩⟩
          refine ⟨.int .i64 50, by simp [results, Tryz.results31, go_sem, hc5], ?_, ?_⟩
          · rw [hd2.out]
          · rw [hd2.out]; exact ⟨TS, HSA.out.fr hF.out (fun _ _ h => h), Stp.refl hF.out⟩
        case done =>
          rintro D C W hD ⟨B, hI, hrest, hBl⟩ hr hK
          have hdd : doFold k A L = some B := by rw [hrest, List.drop_length]; rfl
          have hlen := hI.map.len Tryz.underlying100 3
          have cnx := cell_obj hI.nx 0 (.map (some mb)) rfl
          have hg0 : w.heap[g]? = some (.cells #[.map (some m)] 102) := by
            obtain ⟨⟨m', e1, e2, e3⟩, -, -⟩ := HSA.out
            have := cell_obj e1 0 _ rfl
            rw [HC.out] at this
            cases this
            exact e1
          have hgW := hI.fr.at_ hg0 (by have := HGL.out; omega)
          have hbl2 : (B.length : Int) ≤ 80 := by have := HAA.out.len; have := h16.out; omega
          obtain ⟨bl, hbl⟩ : ∃ bl, B.length = bl := ⟨_, rfl⟩
          rw [hbl] at hlen hbl2
          have HI := Lib.hid hI; have HGW := Lib.hid hgW
          by_cases h64 : (64 : Int) < bl
          · have hd2 : Hid (doS A k L = (2, A)) := Lib.hid (by rw [hd.out, hdd]; show (if 64 < B.length then _ else _) = _; rw [if_pos (by omega)])
            have ce := cell_obj hI.e 0 (.int .i64 0) rfl
            have fe := obj_frozen hI.e 0
            have hKs := (Below.heap_setCell W ⟨n0 + 1, 0, none⟩ (.int .i64 2) D (by show D ≠ n0 + 1; omega)).trans hK
            have hc5 := cell_obj (Fa.cells (frPut (B := n0) (.deferred none) (by omega) hKs rfl) (hI.put 2).e) 0 (.int .i64 2) rfl
            have hF : Hid (Fr (fun _ => False) w ((W.setCell ⟨n0 + 1, 0, none⟩ (.int .i64 2)).putObj D (.deferred none))) := Lib.hid (((hI.put 2).fr.putObj (l := D) (fun _ => by omega) _).mono (fun b hb e => by omega))
            clear hI hr hrest hdd hBl hgW hK
            gi_wp2_with fail
            refine ⟨by simp, .inl ⟨_, _, rfl, run_takeDeferred hKs, ?_⟩⟩
            refine ⟨.int .i64 2, by simp [results, Tryz.results31, go_sem, hc5], ?_, ?_⟩
            · rw [hd2.out]
            · rw [hd2.out]; exact ⟨TS, HSA.out.fr hF.out (fun _ _ h => h), Stp.refl hF.out⟩
          · have hd2 : Hid (doS A k L = (0, B)) := Lib.hid (by rw [hd.out, hdd]; show (if 64 < B.length then _ else _) = _; rw [if_neg (by omega)])
            have cgW := cell_obj hgW 0 (.map (some m)) rfl
            have fgW := obj_frozen hgW 0
            have hgne : g ≠ n0 + 1 := by have := HGL.out; omega
            have hFg : Fr (fun b => b = g) W (W.setCell ⟨g, 0, none⟩ (.map (some mb))) := (Fr.refl (fun b => b = g) W).setCell (p := ⟨g, 0, none⟩) (fun _ => rfl) _
            have hE1 := hFg.at_ hI.e (fun e => hgne e.symm)
            have ce := cell_obj hE1 0 (.int .i64 0) rfl
            have fe := obj_frozen hE1 0
            obtain ⟨V, hV⟩ : ∃ V, (W.setCell ⟨g, 0, none⟩ (.map (some mb))).setCell ⟨n0 + 1, 0, none⟩ (.int .i64 0) = V := ⟨_, rfl⟩
            have hFV : Fr (fun b => b = g ∨ b = n0 + 1) W V := by
              rw [← hV]
              exact (hFg.mono (fun _ _ e => .inl e)).setCell (p := ⟨n0 + 1, 0, none⟩) (fun _ => .inr rfl) _
            have hEV : V.heap[n0 + 1]? = some (.cells #[.int .i64 0] 30) := by rw [← hV]; exact obj_set hE1 0 _
            have hGV : V.heap[g]? = some (.cells #[.map (some mb)] 102) := by
              rw [← hV]
              exact ((Fr.refl (fun b => b = n0 + 1) _).setCell (p := ⟨n0 + 1, 0, none⟩) (fun _ => rfl) _).at_ (obj_set hgW 0 _) hgne
            have hKs : V.heap[D]? = some (.deferred (some [])) := hFV.at_ hK (by have := HGL.out; omega)
            have hn' := hI.hn
            have hmV := hFV.mp hI.map (by have := HGL.out; omega)
            have hc5 := cell_obj (Fa.cells (frPut (B := n0) (.deferred none) (by omega) hKs rfl) hEV) 0 (.int .i64 0) rfl
            have hP := frPut (B := n0) (.deferred none) (show n0 ≤ D by omega) hKs rfl
            have hfin : SA (V.putObj D (.deferred none)) g (fun b => TS b ∨ b = mb) B ∧ Stp TS w (V.putObj D (.deferred none)) (fun b => TS b ∨ b = mb) := by
              have hFt : Fr (fun b => b = g ∨ n0 ≤ b) w (V.putObj D (.deferred none)) :=
                ((hI.fr.mono (S' := fun b => b = g ∨ n0 ≤ b) (fun b hb e => .inr e)).trans (hFV.mono (S' := fun b => b = g ∨ n0 ≤ b) (fun b _ e => e.imp id (fun e => by omega)))).trans (hP.mono (S' := fun b => b = g ∨ n0 ≤ b) (fun b _ e => .inr e.1))
              have hmlt := hI.map.lt
              have hsW := hFV.size
              refine ⟨⟨⟨mb, Fa.cells hP hGV, Fa.mp hP hmV, .inr rfl⟩, .inl HSA.out.own, fun b hb => ?_⟩, hFt.mono (fun b hb e => e.elim (fun e => e ▸ HSA.out.own) (fun e => by omega)), fun b hb => hb.elim .inl (fun e => .inr (by omega))⟩
              have := hFt.size
              rcases hb with hb | rfl
              · have := HSA.out.lt b hb; omega
              · have := hP.size; omega
            have HFIN := Lib.hid hfin; have HKS := Lib.hid hKs
            clear hI hr hrest hdd hBl hgW hK hFg hE1 hFV hEV hGV hKs hmV hP hfin
            gi_wp2_with fail
            refine ⟨by simp, .inl ⟨_, _, rfl, run_takeDeferred HKS.out, ?_⟩⟩
            refine ⟨.int .i64 0, by simp [results, Tryz.results31, go_sem, hc5], ?_, ?_⟩
            · rw [hd2.out]
            · rw [hd2.out]; exact ⟨_, HFIN.out⟩
      · have hd : Hid (doS A k L = (x, A)) := Lib.hid (by
          unfold doS
          rw [if_neg hkr, if_neg (by rw [hml]; decide), if_pos (by rw [hx]; exact hx0), hx])
        have hxB : (x != 0) = true := by simp; exact hx0
        clear hkr hml hx hx0
        gi_wp2_with (first
          | (gi_at_call 69; refine (hmdc.out _ hcg0).mono ?_; rintro e w1 ⟨rfl, rfl⟩)
          | (gi_at_call 28; refine (callsIn_wide.2 hIM.out).mono ?_; rintro e w2 ⟨rfl, hf2⟩; have HF2 := Lib.hid (HF0.out.trans hf2); have hck2 := cell_obj (hf2.at_ HK0.out (fun h => h)) 0 (.int .i64 k) rfl; have HX2 := Lib.hid hf2; clear hf2)
          | (gi_at_call 72; refine (callsIn_wide.2 (hSM.out _ HF2.out)).mono ?_; rintro e w3 ⟨rfl, hf3⟩; have hE3 := Lib.hid ((HX2.out.trans hf3).at_ HE0.out (fun h => h)); have ce3 := cell_obj hE3.out 0 (.int .i64 0) rfl; have fe3 := obj_frozen hE3.out 0; have HF3 := Lib.hid (HF2.out.trans hf3); clear hf3))
        have hres := cell_obj (obj_set hE3.out 0 (.int .i64 x)) 0 (.int .i64 x) rfl
        refine ⟨.int .i64 x, by simp [results, Tryz.results31, go_sem, hres], ?_, ?_⟩
        · rw [hd.out]
        · rw [hd.out]; exact HRF.out _ _ HF3.out
end Go.Proofs.YtogphlnakdnchaaGreat

namespace Go.Proofs.YtogphlnakdnchaaGreat
open Go.RowKit Go.Maps
section
variable {w : World} {g gs m : Nat} {T0 TB : Nat → Prop} {A : Stk} {l : List (Int × HV)}
theorem hStock (h : SB w g gs m T0 TB A l) : Calls Tryz.prog 22 #[.pointer (some ⟨g, 0, none⟩)] w fun e w' => ∃ g' TS', e = .returned (.pointer (some ⟨g', 0, none⟩)) ∧ SA w' g' TS' A ∧ Fr (fun _ => False) w w' ∧ ∀ b, TS' b → w.heap.size ≤ b := by
  obtain ⟨c0, c1⟩ := h.cells
  have hF := Lib.hid (sFork w gs T0 A h.stk)
  have hm := Lib.hid (hmade w g m c1)
  clear h
  go_enter Tryz.func22, Tryz.ntmps22
  go_wp2_with (first
    | (go_at_call 39; refine hm.out.mono ?_; rintro e w' ⟨rfl, rfl⟩)
    | (go_at_call 57; refine hF.out.mono ?_; rintro e w2 ⟨g', TS', rfl, h1, h2, h3⟩; have H1 := Lib.hid h1; have H2 := Lib.hid h2; have H3 := Lib.hid h3; clear h1 h2 h3))
  go_ret
  exact ⟨g', TS', rfl, H1.out, H2.out, H3.out⟩
def inDo (k : Int) : Prop := k = 1 ∨ k = 7 ∨ k = 8 ∨ k = 9 ∨ k = 10 ∨ k = 11
instance (k : Int) : Decidable (inDo k) := by unfold inDo; infer_instance
def doH (A : Stk) (k : Int) (L : Its) : Int × Stk := if inDo k then doS A k L else (1, A)
set_option maxRecDepth 100000 in
set_option maxHeartbeats 4000000 in
theorem hDo (k : Int) (v : Value) (L : Its) (h : SB w g gs m T0 TB A l) (hA : SOk A) (hv : Il w v L) : Calls Tryz.prog 14 #[.pointer (some ⟨g, 0, none⟩), .int .i64 k, v] w fun e w' => e = .returned (.int .i64 (doH A k L).1) ∧ ∃ T0', SB w' g gs m T0' TB (doH A k L).2 l ∧ Stp T0 w w' T0' := by
  obtain ⟨c0, c1⟩ := h.cells
  have hF := sDo w gs T0 A k v L h.stk hA hv
  have hm := Lib.hid (hmade w g m c1)
  have HH := Lib.hid h
  unfold doH
  by_cases hk : inDo k
  · rw [if_pos hk]
    obtain ⟨⟨R1, B⟩, hR⟩ : ∃ R, doS A k L = R := ⟨_, rfl⟩
    rw [hR] at hF ⊢
    have HF := Lib.hid hF
    clear h hF hR hv
    rcases hk with rfl | rfl | rfl | rfl | rfl | rfl
    all_goals
      go_enter Tryz.func14, Tryz.ntmps14
      go_wp2_with (first
        | (go_at_call 39; refine hm.out.mono ?_; rintro e w' ⟨rfl, rfl⟩)
        | (go_at_call 31; refine HF.out.mono ?_; rintro e w2 ⟨rfl, T0', h1, h2⟩; have H1 := Lib.hid h1; have H2 := Lib.hid h2; clear h1 h2))
      go_ret
      exact ⟨rfl, T0', HH.out.stock H1.out H2.out, H2.out⟩
  · rw [if_neg hk]
    unfold inDo at hk
    have d1 : (k == 1) = false := by simp; omega
    have d2 : (k == 7) = false := by simp; omega
    have d3 : (k == 8) = false := by simp; omega
    have d4 : (k == 9) = false := by simp; omega
    have d5 : (k == 10) = false := by simp; omega
    have d6 : (k == 11) = false := by simp; omega
    clear h hF hv hk
    go_enter Tryz.func14, Tryz.ntmps14
    go_wp2_with (go_at_call 39; refine hm.out.mono ?_; rintro e w' ⟨rfl, rfl⟩)
    go_ret
    exact ⟨rfl, T0, HH.out, Stp.refl (Fr.refl _ _)⟩
end
end Go.Proofs.YtogphlnakdnchaaGreat

namespace Go.Proofs.YtogphlnakdnchaaGreat
open Go.RowKit Go.Maps
theorem rowAt_put {A : Stk} {x y : Str} {v : SR} (hA : RiseS A) : rowAt (putS ktS.lt A x v) y = if x = y then v else rowAt A y := by
  unfold rowAt
  rw [getK_put (riseS_nd hA)]
  split <;> rfl
/-- What a fold of moves makes of a stock. -/
def MoveOf (k : Int) (A : Stk) (L : Its) (B : Stk) : Prop := RiseS B ∧ ∀ g, getS B g = match getS L g with | some n => some ((rowAt A g).move k n) | none => getS A g
theorem doFold_iff (k : Int) : ∀ {L : Its} {last : Str} {A : Stk}, itsOk last L = true → RiseS A →
    (∀ B, doFold k A L = some B → (∀ p ∈ L, ((rowAt A p.1).move k p.2).right = true) ∧ MoveOf k A L B) ∧ ((∀ p ∈ L, ((rowAt A p.1).move k p.2).right = true) → ∃ B, doFold k A L = some B)
  | [], last, A, h, hA => by
    refine ⟨fun B hB => ?_, fun _ => ⟨A, rfl⟩⟩
    obtain rfl : A = B := Option.some.inj hB
    exact ⟨fun p hp => (by cases hp), hA, fun g => rfl⟩
  | p :: r, last, A, h, hA => by
    obtain ⟨h1, h2, h3, h4, h5⟩ := its_cons h
    obtain ⟨r1, r2⟩ := its_all h5
    have hne : ∀ q ∈ r, ¬ p.1 = q.1 := fun q hq e => by
      have := (r2 q hq).2.2.2
      rw [e] at this; exact str_irr _ this
    have hrow : ∀ q ∈ r, rowAt (putS ktS.lt A p.1 ((rowAt A p.1).move k p.2)) q.1 = rowAt A q.1 := fun q hq => by
      rw [rowAt_put hA, if_neg (hne q hq)]
    obtain ⟨i1, i2⟩ := doFold_iff k h5 (riseS_put (x := p.1) (v := (rowAt A p.1).move k p.2) hA)
    rw [doFold_cons]
    refine ⟨fun B hB => ?_, fun hall => ?_⟩
    · split at hB
      · rename_i hr
        obtain ⟨j1, j2, j3⟩ := i1 B hB
        refine ⟨fun q hq => ?_, j2, fun g => ?_⟩
        · rcases List.mem_cons.1 hq with rfl | hq
          · exact hr
          · have := j1 q hq
            rwa [hrow q hq] at this
        · rw [j3 g]
          by_cases e : p.1 = g
          · subst e
            have hn : getS r p.1 = none := getK_none.2 (fun y hy e => hne y hy e.symm)
            rw [hn]
            simp only [getS, if_pos]
            rw [getK_put (riseS_nd hA), if_pos rfl]
          · simp only [getS, if_neg e]
            cases hg : getS r g with
            | none => simp only; rw [getK_put (riseS_nd hA), if_neg e]
            | some n => simp only; rw [rowAt_put hA, if_neg e]
      · cases hB
    · rw [if_pos (hall p (by simp))]
      exact i2 (fun q hq => by rw [hrow q hq]; exact hall q (by simp [hq]))
/-- What is said of a stock by its rows, from MoveOf. -/
theorem MoveOf.rows {k : Int} {A B : Stk} {L : Its} (h : MoveOf k A L B) (hA : SOk A) (hL : ∀ p ∈ L, goodB p.1 = true) (hr : ∀ p ∈ L, ((rowAt A p.1).move k p.2).right = true) : ∀ p ∈ B, goodB p.1 = true ∧ SRok p.2 := by
  have key : ∀ g n, (g, n) ∈ L → SRok ((rowAt A g).move k n) := fun g n hm => SRok.ofR (hr (g, n) hm) (SR.move_bal (hA.at_ g).bal k n)
  intro p hp
  have hg := getK_of (riseS_nd h.1) (x := p.1) (v := p.2) hp
  rw [h.2 p.1] at hg
  cases hl : getS L p.1 with
  | none =>
    rw [hl] at hg
    have := getK_mem hg
    exact ⟨hA.good _ this, hA.row _ this⟩
  | some n =>
    rw [hl] at hg
    have hm := getK_mem hl
    simp only [Option.some.injEq] at hg
    refine ⟨hL _ hm, ?_⟩
    rw [← hg]
    exact key _ _ hm
theorem doS_yes {A B : Stk} {k : Int} {L : Its} (hA : SOk A) (h : doS A k L = (0, B)) : 1 ≤ k ∧ k ≤ 11 ∧ mayL L = true ∧ doMay A k L = 0 ∧ (∀ p ∈ L, ((rowAt A p.1).move k p.2).right = true) ∧ MoveOf k A L B ∧ B.length ≤ 64 := by
  unfold doS at h
  split at h
  · cases h
  · rename_i h1
    split at h
    · cases h
    · rename_i h2
      split at h
      · rename_i h3
        injection h with h _
        exact absurd h h3
      · rename_i h3
        have hm : mayL L = true := by simpa using h2
        obtain ⟨i1, -⟩ := doFold_iff k (mayL_iff.1 hm).1 hA.rise
        split at h
        · cases h
        · rename_i C hC
          split at h
          · cases h
          · rename_i h4
            injection h with _ h
            subst h
            obtain ⟨j1, j2⟩ := i1 _ hC
            exact ⟨by omega, by omega, hm, by omega, j1, j2, by omega⟩
theorem doS_ok {A : Stk} {k : Int} {L : Its} (hA : SOk A) : SOk (doS A k L).2 := by
  by_cases h0 : (doS A k L).1 = 0
  · obtain ⟨-, -, hm, -, hr, hB, hlen⟩ := doS_yes hA (B := (doS A k L).2) (Prod.ext h0 rfl)
    have := hB.rows hA (fun p hp => ((its_all (mayL_iff.1 hm).1).2 p hp).1) hr
    exact ⟨hB.1, fun p hp => (this p hp).1, fun p hp => (this p hp).2, hlen⟩
  · have : (doS A k L).2 = A := by
      unfold doS at h0 ⊢
      split
      · rfl
      · split
        · rfl
        · split
          · rfl
          · split
            · rfl
            · split
              · rfl
              · rename_i h1 h2 h3 _ _ h4 h5
                rw [if_neg h1, if_neg h2, if_neg h3, h4] at h0
                simp only [if_neg h5] at h0
                first | exact absurd rfl h0 | exact absurd trivial h0
    rw [this]; exact hA
theorem doS_no {A : Stk} {k : Int} {L : Its} (h0 : (doS A k L).1 ≠ 0) : (doS A k L).2 = A := by
  unfold doS at h0 ⊢
  split
  · rfl
  · split
    · rfl
    · split
      · rfl
      · split
        · rfl
        · split
          · rfl
          · rename_i h1 h2 h3 _ _ h4 h5
            rw [if_neg h1, if_neg h2, if_neg h3, h4] at h0
            simp only [if_neg h5] at h0
            first | exact absurd rfl h0 | exact absurd trivial h0
end Go.Proofs.YtogphlnakdnchaaGreat

