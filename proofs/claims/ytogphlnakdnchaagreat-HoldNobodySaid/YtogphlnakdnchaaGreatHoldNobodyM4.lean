/- Texts of this claim, joined: hold: Stock, Count, Do; Plain: the first place where a test holds; count: none, Add (slices.IndexFunc, ContainsFunc at numbers); A region that draws its order, whose operations only read and whose calls may lay blocks, within a round of a range over a function: one walk in the text's order serves (the library's theorem on quiet regions asks for no round); items: sums; slices.Grow, slices.Concat at items; The keys of map[string]int, in order; items: Norm, Plus; items: Plus; slices.Clone on items; stock: Offer; stock, plainly: what Do and Count keep; what Do makes of a stock; what is done and undone; hold: Take (written by wip/tools/take08.py); hold: move at a closure (written by wip/tools/move08.py); hold: move at a closure (written by wip/tools/move08.py); hold: move at a closure (written by wip/tools/move08.py); hold: move at a closure (written by wip/tools/move08.py); A region that draws its order: all its operations but the last only read (its calls may draw), and the last one (a store) waits for all: one walk in the text's order serves. -/
import Derived.Test.YtogphlnakdnchaaGreatHoldNobodyM3
import Derived.Lib.Hide
import Derived.Test.YtogphlnakdnchaaGreatHoldNobodyM1
import Derived.Deep.QuietTactic
import Derived.Sort.QuietIn
import Derived.Test.YtogphlnakdnchaaGreatHoldNobodyM2
import Derived.Shelf.Abstract
import Derived.Deep.LoopGhost
import Derived.Test.YtogphlnakdnchaaGreatShelfN
import Derived.Lib.SliceRun
import Derived.Handy
import Derived.BigQuiet
import Derived.StillTail
namespace Go.Proofs.YtogphlnakdnchaaGreat
open Go.RowKit Go.Maps
section
variable {w : World} {g gs m : Nat} {T0 TB : Nat → Prop} {A : Stk} {l : List (Int × HV)}
theorem hStock (h : SB w g gs m T0 TB A l) : Calls Tryz.prog 22 #[.pointer (some ⟨g, 0, none⟩)] w fun e w' => ∃ g' TS', e = .returned (.pointer (some ⟨g', 0, none⟩)) ∧ SA w' g' TS' A ∧ Fr (fun _ => False) w w' ∧ ∀ b, TS' b → w.heap.size ≤ b := by
  obtain ⟨c0, c1⟩ := h.cells
  have hF := Lib.hid (sFork w gs T0 A h.stk)
  have hm := Lib.hid (hmade w g m c1)
  clear h
  go_enter Tryz.func22, Tryz.ntmps22
  go_wp2_with (first
    | (go_at_call 39; refine hm.out.mono ?_; rintro e w' ⟨rfl, rfl⟩)
    | (go_at_call 57; refine hF.out.mono ?_; rintro e w2 ⟨g', TS', rfl, h1, h2, h3⟩; have H1 := Lib.hid h1; have H2 := Lib.hid h2; have H3 := Lib.hid h3; clear h1 h2 h3))
  go_ret
  exact ⟨g', TS', rfl, H1.out, H2.out, H3.out⟩
def inDo (k : Int) : Prop := k = 1 ∨ k = 7 ∨ k = 8 ∨ k = 9 ∨ k = 10 ∨ k = 11
instance (k : Int) : Decidable (inDo k) := by unfold inDo; infer_instance
def doH (A : Stk) (k : Int) (L : Its) : Int × Stk := if inDo k then doS A k L else (1, A)
set_option maxRecDepth 100000 in
set_option maxHeartbeats 4000000 in
theorem hDo (k : Int) (v : Value) (L : Its) (h : SB w g gs m T0 TB A l) (hA : SOk A) (hv : Il w v L) : Calls Tryz.prog 14 #[.pointer (some ⟨g, 0, none⟩), .int .i64 k, v] w fun e w' => e = .returned (.int .i64 (doH A k L).1) ∧ ∃ T0', SB w' g gs m T0' TB (doH A k L).2 l ∧ Stp T0 w w' T0' := by
  obtain ⟨c0, c1⟩ := h.cells
  have hF := sDo w gs T0 A k v L h.stk hA hv
  have hm := Lib.hid (hmade w g m c1)
  have HH := Lib.hid h
  unfold doH
  by_cases hk : inDo k
  · rw [if_pos hk]
    obtain ⟨⟨R1, B⟩, hR⟩ : ∃ R, doS A k L = R := ⟨_, rfl⟩
    rw [hR] at hF ⊢
    have HF := Lib.hid hF
    clear h hF hR hv
    rcases hk with rfl | rfl | rfl | rfl | rfl | rfl
    all_goals
      go_enter Tryz.func14, Tryz.ntmps14
      go_wp2_with (first
        | (go_at_call 39; refine hm.out.mono ?_; rintro e w' ⟨rfl, rfl⟩)
        | (go_at_call 31; refine HF.out.mono ?_; rintro e w2 ⟨rfl, T0', h1, h2⟩; have H1 := Lib.hid h1; have H2 := Lib.hid h2; clear h1 h2))
      go_ret
      exact ⟨rfl, T0', HH.out.stock H1.out H2.out, H2.out⟩
  · rw [if_neg hk]
    unfold inDo at hk
    have d1 : (k == 1) = false := by simp; omega
    have d2 : (k == 7) = false := by simp; omega
    have d3 : (k == 8) = false := by simp; omega
    have d4 : (k == 9) = false := by simp; omega
    have d5 : (k == 10) = false := by simp; omega
    have d6 : (k == 11) = false := by simp; omega
    clear h hF hv hk
    go_enter Tryz.func14, Tryz.ntmps14
    go_wp2_with (go_at_call 39; refine hm.out.mono ?_; rintro e w' ⟨rfl, rfl⟩)
    go_ret
    exact ⟨rfl, T0, HH.out, Stp.refl (Fr.refl _ _)⟩
end
end Go.Proofs.YtogphlnakdnchaaGreat

namespace Go.Proofs.YtogphlnakdnchaaGreat
/-- The place of the first that is so; -1: none. -/
def idxOf {α : Type} (p : α → Bool) (L : List α) : Int := match L.findIdx? p with | some i => (i : Int) | none => -1
theorem idxOf_at {α : Type} {p : α → Bool} {L : List α} {j : Nat} {x : α} (h : L[j]? = some x) (hp : p x = true) (hno : ∀ q y, q < j → L[q]? = some y → p y = false) : idxOf p L = j := by
  have : L.findIdx? p = some j := by
    rw [List.findIdx?_eq_some_iff_getElem]
    obtain ⟨hj, e⟩ := List.getElem?_eq_some_iff.1 h
    refine ⟨hj, by rw [e]; exact hp, fun q hq => ?_⟩
    have := hno q _ hq (List.getElem?_eq_getElem (by omega))
    simp [this]
  unfold idxOf
  rw [this]
theorem idxOf_no {α : Type} {p : α → Bool} {L : List α} (h : ∀ (q : Nat) (y : α), L[q]? = some y → p y = false) : idxOf p L = -1 := by
  have : L.findIdx? p = none := by
    rw [List.findIdx?_eq_none_iff]
    intro x hx
    obtain ⟨q, hq⟩ := List.getElem?_of_mem hx
    exact h q x hq
  unfold idxOf
  rw [this]
end Go.Proofs.YtogphlnakdnchaaGreat

namespace Go.Proofs.YtogphlnakdnchaaGreat
open Go.RowKit Go.Maps
def nuC (n : Int) : Array Value := #[.int .i64 n]
def okNu (_ : World) (n : Int) : Prop := okI n
theorem okNuKeeps : Keeps okNu := fun _ _ _ _ h _ _ => h
theorem kNone1 (w : World) (n : Int) : Calls Tryz.prog 152 #[.int .i64 n] w fun e w' => e = .returned (.bool (!mayI n)) ∧ w = w' := by
  obtain ⟨b, hb⟩ : ∃ b, mayI n = b := ⟨_, rfl⟩
  have hm := kMay w n
  rw [hb] at hm ⊢
  have HM := Lib.hid hm
  clear hm
  go_enter Tryz.func152, Tryz.ntmps152
  go_wp2_with (go_at_call 68; refine HM.out.mono ?_; rintro e w' ⟨rfl, rfl⟩)
  go_ret
  exact ⟨rfl, rfl⟩
set_option maxRecDepth 100000 in
set_option maxHeartbeats 4000000 in
theorem ixNum (w : World) (v : Value) (L : List Int) (h : Sq 1 nuC okNu w v L) :
    Calls Tryz.prog 163 #[v, .func (.func 152) #[] #[]] w fun e w' => e = .returned (.int .i64 (idxOf (fun n => !mayI n) L)) ∧ Fr (fun _ => False) w w' := by
  obtain ⟨a, c, rfl⟩ := h.sl
  obtain ⟨N, hN⟩ : ∃ N, L.length = N := ⟨_, rfl⟩
  have hNb : (N : Int) ≤ 9223372036854775807 := by have := h.len; omega
  have HL := Lib.hid h; have HN := Lib.hid hN
  rw [hN] at HL ⊢
  obtain ⟨R, hR⟩ : ∃ R, idxOf (fun n => !mayI n) L = R := ⟨_, rfl⟩
  have HR := Lib.hid hR
  rw [hR]
  clear h hN hR
  go_enter Tryz.func163, Tryz.ntmps163
  go_wp2_with fail
  go_loopw [5, 8] (fun _ i wr => ∃ j : Nat, j ≤ N ∧ i = .int .i64 j ∧ Fr (fun _ => False) w wr ∧ ∀ q x, q < j → L[q]? = some x → (!mayI x) = false) (fun _ i _ => N - (intOf i).toNat)
  case atStart => exact ⟨0, Nat.zero_le _, rfl, Fr.refl _ _, fun q x hq => by omega⟩
  case round =>
    obtain ⟨j, hj, rfl, hfr, hno⟩ := hrel
    have HFR := Lib.hid hfr; have HNO := Lib.hid hno
    clear hno
    by_cases hlt : j < N
    · obtain ⟨x, hx⟩ : ∃ x, L[j]? = some x := ⟨L[j]'(by rw [HN.out]; exact hlt), List.getElem?_eq_getElem _⟩
      obtain ⟨ad, rfl, hok, z0, zs⟩ := (HL.out.fr0 okNuKeeps hfr).at_ hx
      have hC := kNone1 wr x
      obtain ⟨b, hb⟩ : ∃ b, (!mayI x) = b := ⟨_, rfl⟩
      rw [hb] at hC
      have HB := Lib.hid hb; have HX := Lib.hid hx
      have hjI : (j : Int) < N := by omega
      have x0 := z0 (.int .i64 x) rfl
      rw [Nat.mul_one] at x0
      have HC := Lib.hid hC
      clear hC hb hx hok z0 zs hfr
      cases b with
      | true =>
        have hres : Hid (R = (j : Int)) := Lib.hid (by rw [← HR.out]; exact idxOf_at HX.out HB.out HNO.out)
        go_wp2_with (go_at_call 152; refine HC.out.mono ?_; rintro e w1 ⟨rfl, rfl⟩)
        go_ret
        exact ⟨by rw [hres.out]; rfl, HFR.out⟩
      | false =>
        go_wp2_with (go_at_call 152; refine HC.out.mono ?_; rintro e w1 ⟨rfl, rfl⟩)
        go_roundw
        case rel =>
          refine ⟨j + 1, by omega, by go_num, HFR.out, fun q y hq hy => ?_⟩
          by_cases e : q = j
          · subst e
            have := HX.out
            rw [this] at hy
            injection hy with hy
            rw [← hy]
            exact HB.out
          · exact HNO.out q y (by omega) hy
        case measure => simp [intOf]; omega
    · obtain rfl : j = N := by omega
      have hres : Hid (R = -1) := Lib.hid (by rw [← HR.out]; exact idxOf_no (fun q x hx => HNO.out q x (by have := (List.getElem?_eq_some_iff.1 hx).1; have := HN.out; omega) hx))
      have hjI : ¬ (j : Int) < j := by omega
      clear hfr
      go_wp2_with fail
      go_ret
      exact ⟨by rw [hres.out]; rfl, HFR.out⟩
theorem kNone (w : World) (v : Value) (L : List Int) (h : Sq 1 nuC okNu w v L) : Calls Tryz.prog 131 #[v] w fun e w' => e = .returned (.bool (decide (0 ≤ idxOf (fun n => !mayI n) L))) ∧ Fr (fun _ => False) w w' := by
  have hI := ixNum w v L h
  obtain ⟨R, hR⟩ : ∃ R, idxOf (fun n => !mayI n) L = R := ⟨_, rfl⟩
  rw [hR] at hI ⊢
  have HI := Lib.hid hI
  have hC : Calls Tryz.prog 151 #[v, .func (.func 152) #[] #[]] w fun e w' => e = .returned (.bool (decide (0 ≤ R))) ∧ Fr (fun _ => False) w w' := by
    go_enter Tryz.func151, Tryz.ntmps151
    go_wp2_with (go_at_call 163; refine HI.out.mono ?_; rintro e w' ⟨rfl, hf⟩)
    go_ret
    exact ⟨rfl, hf⟩
  have HC := Lib.hid hC
  clear hC hI hR h
  go_enter Tryz.func131, Tryz.ntmps131
  go_wp2_with (go_at_call 151; refine HC.out.mono ?_; rintro e w' ⟨rfl, hf⟩)
  go_ret
  exact ⟨rfl, hf⟩
/-- A sum of counts. -/
def addK (a b : Int) : Int × Int := if mayI a = true ∧ mayI b = true then (if 1099511627776 < a + b then (0, 50) else (a + b, 0)) else (0, 1)
set_option maxRecDepth 100000 in
set_option maxHeartbeats 4000000 in
theorem kAdd (w : World) (a b : Int) (ha : okI a) (hb : okI b) : Calls Tryz.prog 122 #[.int .i64 a, .int .i64 b] w fun e w' => e = .returned (.tuple #[.int .i64 (addK a b).1, .int .i64 (addK a b).2]) ∧ Fr (fun _ => False) w w' := by
  obtain ⟨n0, hn0⟩ : ∃ n0, w.heap.size = n0 := ⟨_, rfl⟩
  have hsq : Sq 1 nuC okNu (w.alloc (.cells #[.int .i64 a, .int .i64 b] 3)) (.slice (some ⟨n0, 0, none⟩) 2 2) [a, b] := by
    refine ⟨by simp [maxLen], some ⟨n0, 0, none⟩, 2, rfl, fun i r hr => ?_⟩
    have h0 : (w.alloc (.cells #[.int .i64 a, .int .i64 b] 3)).heap[n0]? = some (.cells #[.int .i64 a, .int .i64 b] 3) := heap_at hn0.symm _
    match i, hr with
    | 0, hr => cases hr; exact ⟨ha, _, rfl, fun j u hu => by match j, hu with | 0, hu => cases hu; exact cell_obj h0 0 _ rfl⟩
    | 1, hr => cases hr; exact ⟨hb, _, rfl, fun j u hu => by match j, hu with | 0, hu => cases hu; exact cell_obj h0 1 _ rfl⟩
  have hN := kNone _ _ _ hsq
  have hid : decide (0 ≤ idxOf (fun n => !mayI n) [a, b]) = !(mayI a && mayI b) := by
    unfold idxOf
    cases h1 : mayI a <;> cases h2 : mayI b <;> simp [List.findIdx?_cons, h1, h2]
  rw [hid] at hN
  subst hn0
  unfold addK
  by_cases hm : mayI a = true ∧ mayI b = true
  · rw [if_pos hm]
    obtain ⟨a0, a1⟩ := mayI_iff.1 hm.1
    obtain ⟨b0, b1⟩ := mayI_iff.1 hm.2
    rw [hm.1, hm.2] at hN
    have HN := Lib.hid hN
    have hw : IntKind.i64.wrap (1099511627776 - a) = 1099511627776 - a := IntWalk.i64_in _ ⟨by omega, by omega⟩
    have hw2 : IntKind.i64.wrap (a + b) = a + b := IntWalk.i64_in _ ⟨by omega, by omega⟩
    clear hN hid hsq hm
    by_cases ho : 1099511627776 < a + b
    · rw [if_pos ho]
      have ho2 : 1099511627776 - a < b := by omega
      go_enter Tryz.func122, Tryz.ntmps122
      go_wp2_with (go_at_call 131; refine HN.out.mono ?_; rintro e w2 ⟨rfl, hf⟩)
      go_ret2
      exact ⟨rfl, ((Fr.refl _ w).alloc _).trans hf⟩
    · rw [if_neg ho]
      have ho2 : ¬ 1099511627776 - a < b := by omega
      go_enter Tryz.func122, Tryz.ntmps122
      go_wp2_with (go_at_call 131; refine HN.out.mono ?_; rintro e w2 ⟨rfl, hf⟩)
      go_ret2
      exact ⟨rfl, ((Fr.refl _ w).alloc _).trans hf⟩
  · rw [if_neg hm]
    have hf : (!(mayI a && mayI b)) = true := by
      cases h1 : mayI a <;> cases h2 : mayI b <;> simp_all
    rw [hf] at hN
    have HN := Lib.hid hN
    clear hN hid hsq hm hf
    go_enter Tryz.func122, Tryz.ntmps122
    go_wp2_with (go_at_call 131; refine HN.out.mono ?_; rintro e w2 ⟨rfl, hf⟩)
    go_ret2
    exact ⟨rfl, ((Fr.refl _ w).alloc _).trans hf⟩
end Go.Proofs.YtogphlnakdnchaaGreat

namespace Go.Proofs.YtogphlnakdnchaaGreat
open Go.RowKit
section
variable {F : Fence} {n : Nat} {P : Program} {ops : Array Oper} {Q : Exit → Act → World → Prop} {md : Region.Mode}
end
end Go.Proofs.YtogphlnakdnchaaGreat

namespace Go.Proofs.YtogphlnakdnchaaGreat
open Go.RowKit Go.Maps
attribute [local go_sem] Oper.semAt_some
theorem kSN : KO Tryz.prog 9 ktS := koS Tryz.underlying9
abbrev encN : Int → Value := .int .i64
/-- The call's own blocks: its two results, its map (block n0 + 2), the map's variable. -/
structure SmI (w0 W : World) (n0 : Nat) (rv : Value) (e : Int) (m : Its) : Prop where
  res : W.heap[n0]? = some (.cells #[rv] 90)
  err : W.heap[n0 + 1]? = some (.cells #[.int .i64 e] 30)
  out : W.heap[n0 + 3]? = some (.cells #[.map (some (n0 + 2))] 90)
  mp : Mp Tryz.prog W 9 ktS encN (n0 + 2) m
  fr : Fr (fun b => n0 ≤ b) w0 W
section
variable {w0 W W' : World} {n0 B : Nat} {rv : Value} {e : Int} {m : Its}
theorem SmI.fa (h : SmI w0 W n0 rv e m) (hf : Fa B W W') (hB : w0.heap.size ≤ B) : SmI w0 W' n0 rv e m :=
  ⟨Fa.cells hf h.res, Fa.cells hf h.err, Fa.cells hf h.out, Fa.mp hf h.mp, h.fr.trans' hf (fun b hb e => by have := e.1; omega)⟩
theorem SmI.keep (h : SmI w0 W n0 rv e m) (hf : Fr (fun _ => False) W W') : SmI w0 W' n0 rv e m :=
  ⟨hf.at_ h.res (fun h => h), hf.at_ h.err (fun h => h), hf.at_ h.out (fun h => h), hf.mp h.mp (fun h => h), h.fr.trans' hf (fun _ _ e => e.elim)⟩
theorem SmI.set (h : SmI w0 W n0 rv e m) (u : Value) (x : Int) : SmI w0 ((W.setCell ⟨n0, 0, none⟩ u).setCell ⟨n0 + 1, 0, none⟩ (.int .i64 x)) n0 u x m := by
  have hF : Fr (fun b => b = n0 ∨ b = n0 + 1) W ((W.setCell ⟨n0, 0, none⟩ u).setCell ⟨n0 + 1, 0, none⟩ (.int .i64 x)) := ((Fr.refl _ W).setCell (p := ⟨n0, 0, none⟩) (fun _ => .inl rfl) _).setCell (p := ⟨n0 + 1, 0, none⟩) (fun _ => .inr rfl) _
  have hF1 : Fr (fun b => b = n0) W (W.setCell ⟨n0, 0, none⟩ u) := (Fr.refl (fun b => b = n0) W).setCell (p := ⟨n0, 0, none⟩) (fun _ => rfl) _
  have hF2 : Fr (fun b => b = n0 + 1) (W.setCell ⟨n0, 0, none⟩ u) ((W.setCell ⟨n0, 0, none⟩ u).setCell ⟨n0 + 1, 0, none⟩ (.int .i64 x)) := (Fr.refl (fun b => b = n0 + 1) _).setCell (p := ⟨n0 + 1, 0, none⟩) (fun _ => rfl) _
  exact ⟨hF2.at_ (obj_set h.res 0 u) (by omega), obj_set (hF1.at_ h.err (by omega)) 0 _, hF.at_ h.out (by omega), hF.mp h.mp (by omega), h.fr.trans' hF (fun b _ e => by omega)⟩
theorem SmI.put {m' : Its} (h : SmI w0 W n0 rv e m) (hm : Mp Tryz.prog W' 9 ktS encN (n0 + 2) m') (ht : W.mapTurned W' (n0 + 2)) : SmI w0 W' n0 rv e m' := by
  have hF : Fr (fun b => b = n0 + 2) W W' := Fr.turned ht rfl
  exact ⟨hF.at_ h.res (by omega), hF.at_ h.err (by omega), hF.at_ h.out (by omega), hm, h.fr.trans' hF (fun b _ e => by omega)⟩
end
def Si1 (w : World) (n0 : Nat) (L : Its) (j : Nat) (_ : Nat → Prop) (W : World) : Prop := SmI w W n0 (.map none) 0 [] ∧ ∀ (i : Nat) (p : Str × Int), i < j → L[i]? = some p → badIt p = false
def Sx1 (w : World) (n0 : Nat) (L : Its) (c : Code) (_ : Nat) (_ : Nat → Prop) (W : World) : Prop := c = .ret ∧ (sumsF L).1 = 60 ∧ SmI w W n0 (.map none) 60 []
def Si2 (w : World) (n0 D : Nat) (L : Its) (j : Nat) (_ : Nat → Prop) (W : World) : Prop := ∃ m, SmI w W n0 (.map none) 0 m ∧ sumsM (L.take j) = some m ∧ W.heap[D]? = some (.deferred (some []))
def Sx2 (w : World) (n0 D : Nat) (L : Its) (c : Code) (_ : Nat) (_ : Nat → Prop) (W : World) : Prop := c = .ret ∧ (sumsF L).1 = 50 ∧ ∃ m, SmI w W n0 (.map none) 50 m ∧ W.heap[D]? = some (.deferred (some []))
theorem def_keep {B D : Nat} {W W' : World} (h : W.heap[D]? = some (.deferred (some []))) (hf : Fa B W W') (hD : D < B) : W'.heap[D]? = some (.deferred (some [])) :=
  hf.at_ h (fun e => by have := e.1; omega)
theorem sums_bad {L : Its} {j : Nat} {p : Str × Int} (h : L[j]? = some p) (hb : badIt p = true) : (sumsF L).1 = 60 := by
  unfold sumsF
  rw [if_pos (List.any_eq_true.2 ⟨p, List.mem_of_getElem? h, hb⟩)]
theorem sums_good {L : Its} (h : ∀ (i : Nat) (p : Str × Int), i < L.length → L[i]? = some p → badIt p = false) : sumsF L = match sumsM L with | some m => (0, m) | none => (50, []) := by
  unfold sumsF
  have : L.any badIt = false := List.any_eq_false.2 (fun p hp => by
    obtain ⟨i, hi, rfl⟩ := List.getElem_of_mem hp
    rw [h i _ hi (List.getElem?_eq_getElem hi)]; simp)
  rw [this, if_neg (by simp)]
  cases sumsM L <;> rfl
theorem sumStep_at {m L : Its} {p : Str × Int} (h : SumOk m L) (hp : badIt p = false) : sumStep (some m) p = (if (addK ((getS m p.1).getD 0) p.2).2 = 0 then some (putS ktS.lt m p.1 (addK ((getS m p.1).getD 0) p.2).1) else none) ∧ ((addK ((getS m p.1).getD 0) p.2).2 = 0 ∨ (addK ((getS m p.1).getD 0) p.2).2 = 50) := by
  have h1 := h.at_ p.1
  have hm : mayI ((getS m p.1).getD 0) = true := mayI_iff.2 h1
  have hp2 : mayI p.2 = true := by
    unfold badIt at hp
    have h3 : (goodB p.1 && mayI p.2) = true := by simpa using hp
    rw [Bool.and_eq_true] at h3
    exact h3.2
  have ha : addK ((getS m p.1).getD 0) p.2 = if 1099511627776 < (getS m p.1).getD 0 + p.2 then (0, 50) else ((getS m p.1).getD 0 + p.2, 0) := by
    unfold addK
    rw [if_pos ⟨hm, hp2⟩]
  rw [ha]
  show ((if 1099511627776 < (getS m p.1).getD 0 + p.2 then none else some (putS ktS.lt m p.1 ((getS m p.1).getD 0 + p.2))) = _) ∧ _
  by_cases hs : 1099511627776 < (getS m p.1).getD 0 + p.2
  · rw [if_pos hs, if_pos hs]
    exact ⟨rfl, .inr rfl⟩
  · rw [if_neg hs, if_neg hs]
    exact ⟨rfl, .inl rfl⟩
theorem sumsM_len : ∀ (B m m' : Its), B.foldl sumStep (some m) = some m' → m'.length ≤ m.length + B.length
  | [], m, m', e => by
    obtain rfl : m = m' := Option.some.inj e
    omega
  | p :: r, m, m', e => by
    rw [List.foldl_cons] at e
    by_cases hs : 1099511627776 < sumAt m p
    · have : sumStep (some m) p = none := by simp only [sumStep, if_pos hs]
      rw [this, sumStep_none] at e; cases e
    · have h1 : sumStep (some m) p = some (putS ktS.lt m p.1 (sumAt m p)) := by simp only [sumStep, if_neg hs]
      rw [h1] at e
      have h2 := sumsM_len r _ m' e
      have h3 := putK_len ktS.lt m p.1 (sumAt m p)
      rw [List.length_cons]
      omega
theorem lookN {m : Its} {W : World} {b : Nat} {g : Str} (h : Mp Tryz.prog W 9 ktS encN b m) (hg : okS g) : (Instr.lookup 90 (.map (some b)) (vS g) false).run Tryz.prog W = .ok (.int .i64 ((getS m g).getD 0)) W := by
  have h0 : (zeroValue 3).run Tryz.prog W = .ok (.int .i64 0) W := by kernel_rfl
  have := h.look kSN Tryz.underlying90 h0 (x := g) hg
  rw [show ktS.enc g = vS g from rfl] at this
  rw [this]
  cases getS m g <;> rfl
set_option maxRecDepth 100000 in
set_option maxHeartbeats 8000000 in
theorem iSums (w : World) (v : Value) (L : Its) (h : Il w v L) : Calls Tryz.prog 103 #[v] w fun e w' => ∃ mv, e = .returned (.tuple #[mv, .int .i64 (sumsF L).1]) ∧ ((sumsF L).1 ≠ 0 → mv = .map none) ∧
    ((sumsF L).1 = 0 → mv = .map (some (w.heap.size + 2)) ∧ Mp Tryz.prog w' 9 ktS encN (w.heap.size + 2) (sumsF L).2) ∧ Fr (fun _ => False) w w' := by
  obtain ⟨n0, hn0⟩ : ∃ n0, w.heap.size = n0 := ⟨_, rfl⟩
  have HS := Lib.hid hn0
  have HL := Lib.hid h
  have hob := h.lt
  have HOB := Lib.hid hob
  have hokl : Hid (∀ (j : Nat) (p : Str × Int), L[j]? = some p → okS p.1 ∧ okI p.2) := Lib.hid (fun j p hp => by obtain ⟨_, _, _, _, hx⟩ := h; exact ⟨(hx j p hp).1, (hx j p hp).2.1⟩)
  have hLb : (L.length : Int) ≤ 9223372036854775807 := by have := h.1; omega
  obtain ⟨a, c, rfl⟩ := h.sl
  obtain ⟨N, hN⟩ : ∃ N, L.length = N := ⟨_, rfl⟩
  have HN := Lib.hid hN
  rw [hN] at HL HOB hLb ⊢
  have HLB := Lib.hid hLb
  clear h hob hN hLb
  refine (callsIn_wide (n := 0)).1 ?_
  refine callsIn_of_wp_marks Tryz.func103 rfl trivial ?_ rfl
  simp only [Tryz.ntmps103, List.size_toArray, List.length_cons, List.length_nil, Nat.reduceAdd, Nat.reduceSub, Array.replicate_succ, Array.replicate_zero, List.push_toArray, List.append_toArray, List.nil_append, List.cons_append]
  have hfn : ∀ f, Fence.wide.fn f := fun _ => trivial
  have hmm := @run_makeMap Tryz.prog
  have hdp : Fence.wide.depth.isSome = false := rfl
  gi_wp2_with (gi_at_call 58; refine (callsIn_wide.2 (iAll _ _ _ _)).mono ?_; rintro e w1 ⟨rfl, rfl⟩)
  clear hmm
  rw [show n0 + 1 + 1 + 1 + 1 = n0 + 4 from rfl, show n0 + 1 + 1 + 1 = n0 + 3 from rfl, show n0 + 1 + 1 = n0 + 2 from rfl]
  obtain ⟨W0, hW0⟩ : ∃ W0, (((((w.alloc (.cells #[.map none] 90)).alloc (.cells #[.int .i64 0] 30)).alloc (.map #[] 0)).alloc (.cells #[.map (some (n0 + 2))] 90)).alloc (.cells #[.slice a N c] 27)) = W0 := ⟨_, rfl⟩
  have hI0 : SmI w W0 n0 (.map none) 0 [] := by
    have hm := Mp.made (κ := Str) (ν := Int) Tryz.prog ((w.alloc (.cells #[.map none] 90)).alloc (.cells #[.int .i64 0] 30)) 9 ktS encN
    rw [show ((w.alloc (.cells #[.map none] 90)).alloc (.cells #[.int .i64 0] 30)).heap.size = n0 + 2 by simp; omega] at hm
    rw [← hW0]
    exact ⟨heap_keep (heap_keep (heap_keep (heap_keep (heap_at hn0.symm _) _) _) _) _, heap_keep (heap_keep (heap_keep (heap_at (by simp; omega) _) _) _) _, heap_keep (heap_at (by simp; omega) _) _, (hm.alloc _).alloc _, (((((Fr.refl _ w).alloc _).alloc _).alloc _).alloc _).alloc _⟩
  have hB0 : Boxed W0 (n0 + 4) 27 (.slice a N c) := by rw [← hW0]; exact heap_at (by simp; omega) _
  have hs0 : W0.heap.size = n0 + 5 := by rw [← hW0]; simp; omega
  rw [hW0]
  have hL0 := HL.out.fr hI0.fr (fun b hb => by omega)
  have HI0 := Lib.hid hI0; have HS0 := Lib.hid hs0
  clear hW0 hI0
  refine rangeX (w0 := W0) (X := L) (S := fun b => b = n0 ∨ b = n0 + 1) rfl (enters_of Tryz.func95 (by kernel_rfl) rfl)
    (iAll1 _ W0 (n0 + 4) _ L hB0 hL0 (by omega) (fun hl b hb e => by have := HOB.out hl b e; omega)) (Below.refl _ _) (fun b hb => by omega) (fun _ => rfl)
    (Si1 w n0 L) (Sx1 w n0 L)
    (fun k C W W' hs hf => ⟨hs.1.fa hf (by omega), hs.2⟩) (fun c k C W W' hs hf => ⟨hs.1, hs.2.1, hs.2.2.fa hf (by omega)⟩)
    ⟨HI0.out, fun i p hi => by omega⟩ ?round ?done ?stop
  case round =>
    rintro lp j x C W hx hlp hi hr
    dsimp only [encIt]
    gi_wp2
    refine Took.mk (Fr.refl _ _) hi ?_
    rintro Wb ⟨hQ, hkn⟩ hrb hf hsz hsw hCC _
    have hok := hokl.out j x hx
    have hbad : Hid (badIt x = true → (sumsF L).1 = 60) := Lib.hid (fun e => sums_bad hx e)
    have hgood : Hid (badIt x = false → ∀ (i : Nat) (p : Str × Int), i < j + 1 → L[i]? = some p → badIt p = false) := Lib.hid (fun e i p hi hp => by
      by_cases e2 : i = j
      · subst e2
        rw [hx] at hp
        cases hp
        exact e
      · exact hkn i p (by omega) hp)
    obtain ⟨gd, n⟩ := x
    dsimp only at hok ⊢
    unfold badIt at hbad hgood
    dsimp only at hbad hgood
    have HQ := Lib.hid hQ; have HOK := Lib.hid hok
    clear hi hr hf hrb hx hQ hkn hok
    cases hg : goodB gd with
    | false =>
      rw [hg] at hbad
      have h60 := Lib.hid (hbad.out rfl)
      gi_wp2_with (first
        | (gi_at_call 67; refine (callsIn_wide.2 (iGood _ gd HOK.out.1)).mono ?_; rw [hg]; rintro e w2 ⟨rfl, hf2⟩; have hM2 := HQ.out.keep hf2; have HM2 := Lib.hid hM2; have HF2 := Lib.hid hf2; have c0 := cell_obj hM2.res 0 (.map none) rfl; have f0 := obj_frozen hM2.res 0; have c1 := cell_obj hM2.err 0 (.int .i64 0) rfl; have f1 := obj_frozen hM2.err 0; clear hM2 hf2))
      exact ⟨((HF2.out.mono (fun _ _ e => e.elim)).setCell (p := ⟨n0, 0, none⟩) (fun _ => .inl (.inl rfl)) _).setCell (p := ⟨n0 + 1, 0, none⟩) (fun _ => .inl (.inr rfl)) _, rfl, h60.out, HM2.out.set _ _⟩
    | true =>
      rw [hg] at hbad hgood
      cases hm : mayI n with
      | false =>
        rw [hm] at hbad
        have h60 := Lib.hid (hbad.out rfl)
        gi_wp2_with (first
          | (gi_at_call 67; refine (callsIn_wide.2 (iGood _ gd HOK.out.1)).mono ?_; rw [hg]; rintro e w2 ⟨rfl, hf2⟩; have hM2 := HQ.out.keep hf2; have HM2 := Lib.hid hM2; have HF2 := Lib.hid hf2; have c0 := cell_obj hM2.res 0 (.map none) rfl; have f0 := obj_frozen hM2.res 0; have c1 := cell_obj hM2.err 0 (.int .i64 0) rfl; have f1 := obj_frozen hM2.err 0; clear hM2 hf2)
          | (gi_at_call 68; refine (callsIn_wide.2 (kMay _ n)).mono ?_; rw [hm]; rintro e w3 ⟨rfl, rfl⟩))
        exact ⟨((HF2.out.mono (fun _ _ e => e.elim)).setCell (p := ⟨n0, 0, none⟩) (fun _ => .inl (.inl rfl)) _).setCell (p := ⟨n0 + 1, 0, none⟩) (fun _ => .inl (.inr rfl)) _, rfl, h60.out, HM2.out.set _ _⟩
      | true =>
        rw [hm] at hgood
        have hok := Lib.hid (hgood.out rfl)
        gi_wp2_with (first
          | (gi_at_call 67; refine (callsIn_wide.2 (iGood _ gd HOK.out.1)).mono ?_; rw [hg]; rintro e w2 ⟨rfl, hf2⟩; have hM2 := HQ.out.keep hf2; have HM2 := Lib.hid hM2; have HF2 := Lib.hid hf2; clear hM2 hf2)
          | (gi_at_call 68; refine (callsIn_wide.2 (kMay _ n)).mono ?_; rw [hm]; rintro e w3 ⟨rfl, rfl⟩))
        exact ⟨HF2.out.mono (fun _ _ e => e.elim), HM2.out, hok.out⟩
  case stop =>
    rintro D c j C W hD hk ⟨rfl, h60, hQ⟩ hr hK
    have HQ := Lib.hid hQ; have H60 := Lib.hid h60
    have c0 := cell_obj (Fa.cells (frPut (B := n0) (.deferred none) (by omega) hK rfl) hQ.res) 0 (.map none) rfl
    have c1 := cell_obj (Fa.cells (frPut (B := n0) (.deferred none) (by omega) hK rfl) hQ.err) 0 (.int .i64 60) rfl
    clear hQ h60 hr
    gi_wp2_with fail
    refine ⟨by simp, .inl ⟨_, _, rfl, run_takeDeferred hK, ?_⟩⟩
    refine ⟨.tuple #[.map none, .int .i64 60], by simp [results, Tryz.results103, go_sem, c0, c1], ?_⟩
    rw [H60.out]
    exact ⟨_, rfl, fun _ => rfl, fun e => absurd e (by omega), (HQ.out.fr.putObj (l := D) (fun _ => by omega) _).mono (fun b hb e => by omega)⟩
  case done =>
    rintro D C W hD ⟨hQ, hkn⟩ hr hK
    have hsg := sums_good (L := L) (fun i p hi hp => hkn i p hi hp)
    have HSG := Lib.hid hsg; have HKN := Lib.hid hkn; have HQ := Lib.hid hQ
    have hDl := (Array.getElem?_eq_some_iff.1 hK).1
    clear hsg hkn hQ hr hB0 hL0
    gi_wp2_with (gi_at_call 58; refine (callsIn_wide.2 (iAll _ _ _ _)).mono ?_; rintro e w2 ⟨rfl, rfl⟩)
    have hQ2 := HQ.out.keep ((Fr.refl (fun _ => False) W).alloc (.cells #[.slice a N c] 27))
    have hB2 := Boxed.new W 27 (.slice a N c)
    have hK2 := heap_keep hK (.cells #[.slice a N c] 27)
    obtain ⟨W2, hW2⟩ : ∃ W2, W.alloc (.cells #[.slice a N c] 27) = W2 := ⟨_, rfl⟩
    have hs2 : W2.heap.size = W.heap.size + 1 := by rw [← hW2]; simp
    rw [hW2] at hQ2 hB2 hK2 ⊢
    have hL2 := HL.out.fr hQ2.fr (fun b hb => by omega)
    have HQ2 := Lib.hid hQ2; have HK2 := Lib.hid hK2
    have hnD : n0 + 5 ≤ D := by have := HS0.out; omega
    clear hW2 hQ2 hK2 HQ hK
    refine rangeX (w0 := W2) (X := L) (S := fun b => b = n0 ∨ b = n0 + 1 ∨ b = n0 + 2) rfl (enters_of Tryz.func95 (by kernel_rfl) rfl)
      (iAll1 _ W2 _ _ L hB2 hL2 (by omega) (fun hl b hb e => by have := HOB.out hl b e; omega)) (Below.refl _ _) (fun b hb => by omega) (fun _ => rfl)
      (Si2 w n0 D L) (Sx2 w n0 D L)
      (fun k C W W' hs hf => by obtain ⟨m, h1, h2, h3⟩ := hs; exact ⟨m, h1.fa hf (by omega), h2, def_keep h3 hf (by omega)⟩) (fun c k C W W' hs hf => by obtain ⟨e1, e2, m, h1, h3⟩ := hs; exact ⟨e1, e2, m, h1.fa hf (by omega), def_keep h3 hf (by omega)⟩)
      ⟨[], HQ2.out, rfl, HK2.out⟩ ?round2 ?done2 ?stop2
    case round2 =>
      rintro lp j x C3 W3 hx hlp hi hr
      dsimp only [encIt]
      gi_wp2
      refine Took.mk (Fr.refl _ _) hi ?_
      rintro Wb ⟨m, hQ, hm, hKb⟩ hrb hf hsz hsw hCC _
      have hok := hokl.out j x hx
      have hjl := (List.getElem?_eq_some_iff.1 hx).1
      have hb := HKN.out j x hjl hx
      have hsum := sumsM_ok (L.take j) [] [] m SumOk.nil (fun p hp => by
        obtain ⟨i, hi, rfl⟩ := List.getElem_of_mem hp
        rw [List.length_take] at hi
        exact HKN.out i _ (by omega) (by rw [List.getElem_take]; exact List.getElem?_eq_getElem _)) hm
      have hst := sumStep_at hsum hb
      have hat := hsum.at_ x.1
      have hml : m.length < 9223372036854775807 := by
        have h1 := sumsM_len (L.take j) [] m hm
        rw [List.length_take] at h1
        have := HLB.out; have := HN.out
        simp only [List.length_nil] at h1
        omega
      have htk := sumsM_take hx
      rw [hm] at htk
      obtain ⟨gd, n⟩ := x
      dsimp only at hok hst hat ⊢
      obtain ⟨u, hu⟩ : ∃ u, (getS m gd).getD 0 = u := ⟨_, rfl⟩
      rw [hu] at hst hat
      have hlk := lookN hQ.mp hok.1
      rw [hu] at hlk
      obtain ⟨⟨s, e⟩, hR⟩ : ∃ R, addK u n = R := ⟨_, rfl⟩
      rw [hR] at hst
      have hA := fun W => kAdd W u n (by unfold okI; omega) hok.2
      rw [hR] at hA
      have co := cell_obj hQ.out 0 (.map (some (n0 + 2))) rfl
      have HQ := Lib.hid hQ; have HOK := Lib.hid hok; have HKB := Lib.hid hKb; have HST := Lib.hid hst; have HTK := Lib.hid htk; have HA := Lib.hid hA; have HX := Lib.hid hx; have HML := Lib.hid hml
      clear hi hr hf hrb hx hQ hok hKb hst htk hA hsum hb hR hu hat hm hml hjl
      by_cases he : e = 0
      · have hst := HST.out.1
        dsimp only at hst
        rw [if_pos he] at hst
        have HST2 := Lib.hid hst
        have HE := Lib.hid he
        have hsto : Hid (∀ W, Fr (fun _ => False) Wb W → ∃ w', (Instr.mapUpdate 90 (.map (some (n0 + 2))) (vS gd) (.int .i64 s)).run Tryz.prog W = .ok () w' ∧ Mp Tryz.prog w' 9 ktS encN (n0 + 2) (putS ktS.lt m gd s) ∧ W.mapTurned w' (n0 + 2)) := Lib.hid (fun W hf => (hf.mp HQ.out.mp (fun e => e)).store kSN Tryz.underlying90 HML.out HOK.out.1 s)
        subst he
        clear hst
        gi_wp2_with (gi_at_call 122; refine (callsIn_wide.2 (HA.out _)).mono ?_; rintro e w4 ⟨rfl, hf4⟩; have HF4 := Lib.hid hf4; obtain ⟨w5, hst5, hm5, ht5⟩ := hsto.out w4 hf4; have HM5 := Lib.hid hm5; have HT5 := Lib.hid ht5; have co2 := hf4.cell co (fun e => e); clear hf4 hm5 ht5)
        refine ⟨(HF4.out.mono (fun _ _ e => e.elim)).trans (Fr.turned HT5.out (.inl (.inr (.inr rfl)))), _, (HQ.out.keep HF4.out).put HM5.out HT5.out, ?_, ?_⟩
        · rw [HTK.out]; exact HST2.out
        · exact (Fr.turned (S := fun b => b = n0 + 2) HT5.out rfl).at_ (HF4.out.at_ HKB.out (fun e => e)) (by omega)
      · have hst := HST.out
        dsimp only at hst
        rw [if_neg he] at hst
        have he50 : e = 50 := hst.2.elim (fun h => absurd h he) id
        have hno := HTK.out.trans hst.1
        have H50 : Hid ((sumsF L).1 = 50) := Lib.hid (by rw [HSG.out, sumsM_no hno])
        subst he50
        have hns : ((50 : Int) != 0) = true := rfl
        clear hst hno he
        gi_wp2_with (gi_at_call 122; refine (callsIn_wide.2 (HA.out _)).mono ?_; rintro e w4 ⟨rfl, hf4⟩; have HF4 := Lib.hid hf4; have hM2 := HQ.out.keep hf4; have HM2 := Lib.hid hM2; have c0 := cell_obj hM2.res 0 (.map none) rfl; have f0 := obj_frozen hM2.res 0; have c1 := cell_obj hM2.err 0 (.int .i64 0) rfl; have f1 := obj_frozen hM2.err 0; clear hf4 hM2)
        have hF5 : Fr (fun b => b = n0 ∨ b = n0 + 1) Wb ((w4.setCell ⟨n0, 0, none⟩ (.map none)).setCell ⟨n0 + 1, 0, none⟩ (.int .i64 50)) := ((HF4.out.mono (fun _ _ e => e.elim)).setCell (p := ⟨n0, 0, none⟩) (fun _ => .inl rfl) _).setCell (p := ⟨n0 + 1, 0, none⟩) (fun _ => .inr rfl) _
        exact ⟨hF5.mono (fun b _ e => .inl (e.elim .inl (fun e => .inr (.inl e)))), rfl, H50.out, m, HM2.out.set _ _, hF5.at_ HKB.out (by omega)⟩
    case stop2 =>
      rintro D2 c j C3 W3 hD2 hk ⟨rfl, h50, m, hQ, hK1⟩ hr hK
      have HQ := Lib.hid hQ; have H50 := Lib.hid h50
      have hK1' := (World.putObj_heap_other (w := W3) (r := D2) (o := .deferred none) (k := D) (by omega)).trans hK1
      have hFx : Fa n0 W3 ((W3.putObj D2 (.deferred none)).putObj D (.deferred none)) := (frPut (B := n0) (.deferred none) (by omega) hK rfl).trans' (frPut (B := n0) (.deferred none) (by omega) hK1' rfl) (fun b hb e => ⟨e.1, by
        obtain ⟨-, o, ho, hx⟩ := e
        by_cases hbD : b = D2
        · subst hbD; exact ⟨_, hK, rfl⟩
        · exact ⟨o, (World.putObj_heap_other hbD).symm.trans ho, hx⟩⟩)
      have c0 := cell_obj (Fa.cells hFx hQ.res) 0 (.map none) rfl
      have c1 := cell_obj (Fa.cells hFx hQ.err) 0 (.int .i64 50) rfl
      clear hQ h50 hr
      gi_wp2_with fail
      refine ⟨by simp, .inl ⟨_, _, rfl, run_takeDeferred hK, ?_⟩⟩
      refine ⟨by simp, .inl ⟨_, _, rfl, run_takeDeferred hK1', ?_⟩⟩
      refine ⟨.tuple #[.map none, .int .i64 50], by simp [results, Tryz.results103, go_sem, c0, c1], ?_⟩
      rw [H50.out]
      exact ⟨_, rfl, fun _ => rfl, fun e => absurd e (by omega), ((HQ.out.fr.putObj (l := D2) (fun _ => by omega) _).putObj (l := D) (fun _ => by omega) _).mono (fun b hb e => by omega)⟩
    case done2 =>
      rintro D2 C3 W3 hD2 ⟨m, hQ, hm, hK1⟩ hr hK
      have hsm : Hid (sumsF L = (0, m)) := Lib.hid (by rw [List.take_length] at hm; rw [HSG.out, hm])
      have HQ := Lib.hid hQ
      have co := cell_obj hQ.out 0 (.map (some (n0 + 2))) rfl
      have c0 := cell_obj hQ.res 0 (.map none) rfl
      have f0 := obj_frozen hQ.res 0
      have c1 := cell_obj hQ.err 0 (.int .i64 0) rfl
      have f1 := obj_frozen hQ.err 0
      clear hQ hm hr
      have hQs := (HQ.out.set (.map (some (n0 + 2))) 0)
      obtain ⟨W4, hW4⟩ : ∃ W4, (W3.setCell ⟨n0, 0, none⟩ (.map (some (n0 + 2)))).setCell ⟨n0 + 1, 0, none⟩ (.int .i64 0) = W4 := ⟨_, rfl⟩
      have hFs : Fr (fun b => b = n0 ∨ b = n0 + 1) W3 W4 := by rw [← hW4]; exact ((Fr.refl _ _).setCell (p := ⟨n0, 0, none⟩) (fun _ => .inl rfl) _).setCell (p := ⟨n0 + 1, 0, none⟩) (fun _ => .inr rfl) _
      have hKs := hFs.at_ hK (by omega)
      have hK1s := hFs.at_ hK1 (by omega)
      gi_wp2_with fail
      rw [hW4] at hQs
      (try rw [hW4])
      have hK1' := (World.putObj_heap_other (w := W4) (r := D2) (o := .deferred none) (k := D) (by omega)).trans hK1s
      have hFx : Fa n0 W4 ((W4.putObj D2 (.deferred none)).putObj D (.deferred none)) := (frPut (B := n0) (.deferred none) (by omega) hKs rfl).trans' (frPut (B := n0) (.deferred none) (by omega) hK1' rfl) (fun b hb e => ⟨e.1, by
        obtain ⟨-, o, ho, hx⟩ := e
        by_cases hbD : b = D2
        · subst hbD; exact ⟨_, hKs, rfl⟩
        · exact ⟨o, (World.putObj_heap_other hbD).symm.trans ho, hx⟩⟩)
      have d0 := cell_obj (Fa.cells hFx hQs.res) 0 (.map (some (n0 + 2))) rfl
      have d1 := cell_obj (Fa.cells hFx hQs.err) 0 (.int .i64 0) rfl
      refine ⟨by simp, .inl ⟨_, _, rfl, run_takeDeferred hKs, ?_⟩⟩
      refine ⟨by simp, .inl ⟨_, _, rfl, run_takeDeferred hK1', ?_⟩⟩
      refine ⟨.tuple #[.map (some (n0 + 2)), .int .i64 0], by simp [results, Tryz.results103, go_sem, d0, d1], ?_⟩
      rw [hsm.out]
      refine ⟨_, rfl, fun e => absurd rfl e, fun _ => ⟨by rw [HS.out], ?_⟩, ((hQs.fr.putObj (l := D2) (fun _ => by omega) _).putObj (l := D) (fun _ => by omega) _).mono (fun b hb e => by omega)⟩
      rw [HS.out]
      exact Fa.mp hFx hQs.mp
end Go.Proofs.YtogphlnakdnchaaGreat

namespace Go.Proofs.YtogphlnakdnchaaGreat
open Go.RowKit Go.Maps
theorem run_append_zeros2 {P : Program} (w : World) (t ty e ti : TypeId) (i : TypeInfo) (z : Value) (ht : P.underlying t = some (.slice e)) (hti : P.underlying ti = some (.int .i64)) (hi : P.info? e = some i) (hz : i.zero = some z) (hby : i.bytes = 24) (hsz : i.size = 2)
    (n : Nat) (h0 : 0 < n) (h63 : n ≤ 1000000) :
    (Builtin.append_ #[t, ti] ty #[.slice none 0 0, .int .i64 n]).run P w =
      .ok (.slice (some ⟨w.heap.size, 0, none⟩) n (grownCap w n 0 e)) (w.drew.alloc (.cells (Builtin.zeroCells z.cells n ++ Builtin.zeroCells z.cells (grownCap w n 0 e - n)) e)) := by
  have hn : n ≠ 0 := by omega
  have h63' : ¬ (9223372036854775807 < (n : Int)) := by omega
  have h48' : ¬ (281474976710656 < Builtin.nextslicecap n 0 * 24) := by rw [nextslicecap_zero h0]; omega
  have hw : IntKind.i64.wrap (n : Int) = n := by rw [IntKind.wrap_i64]; omega
  have hl : ¬ ((n : Int) < 0) := by omega
  have hl2 : ¬ (281474976710656 < (n : Int) * 24) := by omega
  simp [Builtin.append_, run_underlying ht, run_underlying hti, sizeOf, typeInfo, zeroValue, hi, hz, hby, hsz, asInt, asIntOf, hw, hl, hl2, hn, h63', h48', Question.forced, run_firstCells_none, newRow, grownCap]
  intro h; omega
theorem wpList_append_zeros2 {P : Program} (w : World) {ops : Array Oper} {rest : List Oper} {o : Oper} {a : Act} {Q : Exit → Act → World → Prop} (hgd : o.guard = none) (s x : Operand) (t e ti : TypeId)
    (ho : o.op = .call { callee := .builtin .append, args := #[s, x], argTypes := #[t, ti] }) (i : TypeInfo) (z : Value) (ht : P.underlying t = some (.slice e)) (hti : P.underlying ti = some (.int .i64)) (hi : P.info? e = some i) (hz : i.zero = some z) (hby : i.bytes = 24) (hsz : i.size = 2)
    (n : Nat) (h0 : 0 < n) (h63 : n ≤ 1000000) (hs : a.eval s = .slice none 0 0) (hx : a.eval x = .int .i64 n)
    (h : wpList P ops Q rest (a.put o.dst (.slice (some ⟨w.heap.size, 0, none⟩) n (grownCap w n 0 e))) (w.drew.alloc (.cells (Builtin.zeroCells z.cells n ++ Builtin.zeroCells z.cells (grownCap w n 0 e - n)) e))) :
    wpList P ops Q (o :: rest) a w := by
  refine wpList_plain hgd fun K hK => ?_
  have hr := run_append_zeros2 (P := P) w t o.type e ti i z ht hti hi hz hby hsz n h0 h63
  unfold Oper.wp execOp
  simp only [ho, resolve, invoke, builtin, Sem.run_bind, Sem.run_pure, Result.andThen_ok, List.map_toArray, List.map_cons, List.map_nil, hs, hx, hr]
  exact hK _ _ h
theorem zeroCells_size2 (z : Array Value) (hz : z.size = 2) (n : Nat) : (Builtin.zeroCells z n).size = n * 2 := by simp [Builtin.zeroCells, hz]
set_option maxRecDepth 100000 in
theorem iGrow (w : World) (n : Nat) (hn : (n : Int) ≤ 1000000) : Calls Tryz.prog 105 #[.slice none 0 0, .int .i64 n] w fun e w' =>
    ∃ v, e = .returned v ∧ w'.ownsRow w.heap.size 65 2 v 0 [] ∧ Fr (fun _ => False) w w' := by
  obtain ⟨i0, hi', hz0, hz1, hz2⟩ := info_parts infoItem
  by_cases h0 : n = 0
  · subst h0
    go_enter Tryz.func105, Tryz.ntmps105
    go_wp2
    go_ret
    exact ⟨_, rfl, World.ownsRow_nil _ _ _ _, Fr.refl _ _⟩
  · have hpos : 0 < n := by omega
    have hcap := Lib.hid (grownCap_ge w n 0 65)
    have hcm := Lib.hid (grownCap_le_maxLen w n 0 65 (by unfold maxLen; omega))
    go_enter Tryz.func105, Tryz.ntmps105
    go_wp2_with (at_builtin; refine wpList_append_zeros2 _ rfl _ _ 27 65 3 rfl i0 (.agg #[.string ⟨#[]⟩, .int .i64 0]) Tryz.underlying27 Tryz.underlying3 hi' hz0 hz2 hz1 n hpos (by omega) rfl rfl ?_)
    go_ret
    refine ⟨_, rfl, World.ownsRow_made (w := w.drew) _ _ (Nat.le_refl _) hcm.out ?_, (Fr.refl _ w).drew.alloc _⟩
    rw [Array.size_append, zeroCells_size2 _ rfl, zeroCells_size2 _ rfl]
    have := hcap.out
    omega
/-- Slices of items, side by side. -/
def PartsI (w : World) (v : Value) (L : List (Value × Its)) : Prop := ∃ a c, v = .slice (some a) L.length c ∧ ∀ i p, L[i]? = some p → w.cell? (a.add i) = some p.1 ∧ Il w p.1 p.2
def catI (L : List (Value × Its)) : Its := L.flatMap (·.2)
theorem catI_take {L : List (Value × Its)} {k : Nat} {p : Value × Its} (h : L[k]? = some p) : catI (L.take (k + 1)) = catI (L.take k) ++ p.2 := by
  unfold catI
  rw [List.take_add_one, h]; simp
theorem catI_le (L : List (Value × Its)) (k : Nat) : (catI (L.take k)).length ≤ (catI L).length := by
  have : catI L = catI (L.take k) ++ catI (L.drop k) := by
    unfold catI
    rw [← List.flatMap_append, List.take_append_drop]
  rw [this, List.length_append]; omega
theorem il_rd {w : World} {a : Option Addr} {n c : Nat} {L : Its} (h : Il w (.slice a n c) L) : Rd w 2 a L.length (itCs L) := by
  obtain ⟨_, a', c', e, h1⟩ := h
  injection e with e1 _ _
  refine ⟨itCs_len L, fun hm => ?_⟩
  obtain ⟨p0, hp0⟩ : ∃ p, L[0]? = some p := ⟨L[0], List.getElem?_eq_getElem hm⟩
  obtain ⟨-, -, ad, ha, -, -⟩ := h1 0 p0 hp0
  refine ⟨ad, by rw [e1, ha], fun j u hu => ?_⟩
  have hj := (List.getElem?_eq_some_iff.1 hu).1
  rw [itCs_len] at hj
  obtain ⟨i, hi⟩ : ∃ i, j = i * 2 ∨ j = i * 2 + 1 := ⟨j / 2, by omega⟩
  have hil : i < L.length := by omega
  obtain ⟨p, hp⟩ : ∃ p, L[i]? = some p := ⟨L[i], List.getElem?_eq_getElem hil⟩
  obtain ⟨-, -, ad', ha', k0, k1⟩ := h1 i p hp
  have : ad' = ad := by rw [ha] at ha'; exact (Option.some.inj ha').symm
  subst this
  obtain ⟨c0, c1⟩ := itCs_at hp
  rcases hi with rfl | rfl
  · rw [c0] at hu; cases hu; exact k0
  · rw [c1] at hu; cases hu
    rw [show (ad'.add (i * 2 + 1)) = ⟨(ad'.add (i * 2)).block, (ad'.add (i * 2)).off + 1, none⟩ from add_field ad' (i * 2) 0]
    exact k1
set_option maxRecDepth 100000 in
set_option maxHeartbeats 2000000 in
theorem iConcat (w : World) (v : Value) (L : List (Value × Its)) (h : PartsI w v L) (hl : (L.length : Int) ≤ 1000) (hn : ((catI L).length : Int) ≤ 1000000) : Calls Tryz.prog 71 #[v] w fun e w' =>
    ∃ v', e = .returned v' ∧ w'.ownsRow w.heap.size 65 2 v' (catI L).length (itCs (catI L)) ∧ Fr (fun _ => False) w w' := by
  obtain ⟨i0, hi', hz0, hz1, hz2⟩ := info_parts infoItem
  obtain ⟨a, c, rfl, -⟩ := id h
  have HP := Lib.hid h
  clear h
  obtain ⟨ln, hln⟩ : ∃ ln, L.length = ln := ⟨_, rfl⟩
  have HLN := Lib.hid hln
  rw [hln] at hl HP ⊢
  clear hln
  have hle := fun k => catI_le L k
  obtain ⟨tot, htot⟩ : ∃ t, (catI L).length = t := ⟨_, rfl⟩
  have HTOT := Lib.hid htot
  rw [htot] at hn hle ⊢
  have HLE := Lib.hid hle
  clear htot hle
  go_enter Tryz.func71, Tryz.ntmps71
  go_wp2
  go_loopw [3, 11] (fun z i wr => ∃ k : Nat, (k : Int) ≤ ln ∧ z = .int .i64 ((catI (L.take k)).length : Nat) ∧ i = .int .i64 k ∧ wr = w) (fun _ i _ => ln - (intOf i).toNat)
  case atStart => exact ⟨0, by omega, by simp [catI], rfl, rfl⟩
  case round =>
    obtain ⟨k, hk, rfl, rfl, rfl⟩ := hrel
    by_cases hkl : (k : Int) < ln
    · obtain ⟨p, hp⟩ : ∃ p, L[k]? = some p := ⟨L[k]'(by have := HLN.out; omega), List.getElem?_eq_getElem _⟩
      obtain ⟨a', c', e, h1⟩ := HP.out
      have hc := (h1 k p hp).1
      obtain ⟨ba, bc, hbe⟩ := (h1 k p hp).2.sl
      injection e with e1 e2 e3
      cases e1
      have e3 := e3.symm
      subst e3
      have HT := Lib.hid (congrArg List.length (catI_take hp))
      have HLE1 := HLE.out (k + 1)
      rw [HT.out, List.length_append] at HLE1
      rw [hbe] at hc
      obtain ⟨pl, hpl⟩ : ∃ n, p.2.length = n := ⟨_, rfl⟩
      rw [hpl] at hc HLE1
      obtain ⟨z, hz⟩ : ∃ z, (catI (L.take k)).length = z := ⟨_, rfl⟩
      rw [hz] at HLE1 ⊢
      have HZ := Lib.hid hz; have HPL := Lib.hid hpl
      clear h1 hp hz hpl e2 hbe
      go_wp2
      go_roundw
      case rel => exact ⟨k + 1, by omega, val_int (by rw [HT.out, List.length_append, HZ.out, HPL.out]; omega), by go_num, by trivial⟩
      case measure => simp [intOf]; omega
    · have hke : k = ln := by omega
      have hz : (catI (L.take k)).length = tot := by rw [List.take_of_length_le (by have := HLN.out; omega)]; exact HTOT.out
      rw [hz]
      subst hke
      clear hz
      go_wp2_with fail
      refine (iGrow _ _ hn).mono ?_
      rintro e w1 ⟨v1, rfl, hown, hB⟩
      have HOW := Lib.hid hown; have HBB := Lib.hid hB
      clear hown hB
      go_wp2_with fail
      obtain ⟨W0, rfl⟩ : ∃ W0 : World, W0 = wr := ⟨_, rfl⟩
      go_loopw [6, 27] (fun o i w2 => ∃ j : Nat, (j : Int) ≤ k ∧ i = .int .i64 j ∧ w2.ownsRow W0.heap.size 65 2 o (catI (L.take j)).length (itCs (catI (L.take j))) ∧ Fr (fun _ => False) W0 w2) (fun _ i _ => k - (intOf i).toNat)
      case atStart => exact ⟨0, by omega, rfl, HOW.out, HBB.out⟩
      case round =>
        obtain ⟨j, hj, rfl, hown2, hB2⟩ := hrel
        by_cases hjl : (j : Int) < k
        · obtain ⟨p, hp⟩ : ∃ p, L[j]? = some p := ⟨L[j]'(by have := HLN.out; omega), List.getElem?_eq_getElem _⟩
          obtain ⟨a', c', e, h1⟩ := HP.out
          have hc := (h1 j p hp).1
          have hil := (h1 j p hp).2
          obtain ⟨ba, bc, hbe⟩ := hil.sl
          have hil2 := hil.keep hB2 (fun _ _ _ e => e)
          injection e with e1 e2 e3
          cases e1
          have e3 := e3.symm
          subst e3
          rw [hbe] at hc hil2
          have hc2 := hB2.cell hc (fun e => e)
          have hrd := il_rd hil2
          have hT := catI_take hp
          have hLE1 := HLE.out (j + 1)
          rw [hT, List.length_append] at hLE1
          have hall : ∀ u ∈ itCs p.2, u.oneCell' = true := fun u hu => itCs_one hu
          have HALL := Lib.hid hall; have HT := Lib.hid hT; have HO2 := Lib.hid hown2; have HB2 := Lib.hid hB2
          obtain ⟨pl, hpl⟩ : ∃ n, p.2.length = n := ⟨_, rfl⟩
          obtain ⟨z, hz⟩ : ∃ z, (catI (L.take j)).length = z := ⟨_, rfl⟩
          have hBs := hB2.size
          rw [hpl] at hc2 hLE1 hrd
          rw [hz] at hLE1 HO2
          have HPL := Lib.hid hpl; have HZ := Lib.hid hz; have HRD := Lib.hid hrd
          clear hall hT hown2 hB2 h1 hp hc e2 hpl hz hbe hil hil2 hrd
          go_wp2_with (at_builtin; refine wpList_append_src rfl _ _ 27 rfl W0.heap.size 65 i0 _ 24 Tryz.underlying27 hi' hz0 hz1 hz2 rfl (by decide) _ z _ rfl HO2.out _ rfl HRD.out HALL.out (by unfold maxLen; omega) (by omega) hBs ?_; intro v' w5 hown' hgrow _)
          go_roundw
          case rel =>
            refine ⟨j + 1, by omega, by go_num, ?_, HB2.out.trans' (Fr.grown (S := fun b => W0.heap.size ≤ b) hgrow (fun r hr _ => (HO2.out.lt r hr).1)) (fun b hb e => by have e : W0.heap.size ≤ b := e; omega)⟩
            rw [HT.out, List.length_append, HZ.out, HPL.out, itCs_app]
            exact hown'
          case measure => simp [intOf]; omega
        · have hje : j = k := by omega
          subst hje
          rw [List.take_of_length_le (by have := HLN.out; omega), HTOT.out] at hown2
          go_wp2_with fail
          go_ret
          exact ⟨_, rfl, hown2, hB2⟩
end Go.Proofs.YtogphlnakdnchaaGreat

namespace Go.Proofs.YtogphlnakdnchaaGreat
open Go.RowKit Go.Maps Go.Sort Go.Shelf Go.Proofs
theorem sortsN (m : Nat) : AnyZ.SortsIn Tryz.prog Tryz.laysSortedN_ren Fence.wide m :=
  ⟨fun blk off cap ss W hH hblk hsz => callsIn_wide.2 (AnyM.slices_Sort_string Tryz.laysSortN blk off cap ss W hH hblk hsz),
   fun p cap W => callsIn_wide.2 (AnyM.slices_Sort_string_none Tryz.laysSortN p cap W)⟩
/-- A map's keys as an iterator, and its sorted row: both contracts, at a map of strings. -/
theorem keysSortedN {ν : Type} (w : World) (b : Nat) (enc : ν → Value) (l : List (Str × ν)) (h : Mp Tryz.prog w 9 ktS enc b l) (hl : (l.length : Int) ≤ 1099511627776) :
    CallsIn Fence.wide 5 Tryz.prog 104 #[.map (some b)] w (fun e w' => e = .returned (.func (.func 123) #[] #[.pointer (some ⟨w.heap.size, 0, none⟩)]) ∧ w' = w.alloc (.cells #[.map (some b)] 90)) ∧
    CallsIn Fence.wide 5 Tryz.prog 97 #[.func (.func 123) #[] #[.pointer (some ⟨w.heap.size, 0, none⟩)]] (w.alloc (.cells #[.map (some b)] 90)) (fun e w' => ∃ v, e = .returned v ∧ w'.ownsRow w.heap.size 9 1 v l.length (l.map fun p => vS p.1) ∧ Below w.heap.size w w') := by
  obtain ⟨nn, hown⟩ := id h
  have hord := riseS_of (h.ok (koS Tryz.underlying9)).2
  have hsz : Maps.size (ktS.dat enc l) = l.length := dat_size ktS enc l
  have hk : strKeys (ktS.dat enc l) = l.map (·.1) := strKeys_dat enc l
  have hsort : ∀ ss : List Str, ss.Perm (l.map (·.1)) → ss.mergeSort (fun x y => decide (x ≤ y)) = l.map (·.1) := fun ss hp => strs_sorted hord hp
  have hbl := hown.lt
  have hseq : SeqGives Fence.wide 2 Tryz.prog 123 #[.pointer (some ⟨w.heap.size, 0, none⟩)] encStr (fun ss => ss.Perm (strKeys (ktS.dat enc l))) (Maps.size (ktS.dat enc l)) (w.alloc (.cells #[.map (some b)] 90)) :=
    AnyZ.keys_gives (ρ := Tryz.laysKeysN_ren) { Tryz.laysKeysN with } Fence.wide _ trivial rfl (by omega) w.heap.size b nn _ _ (by simp) (by simp) (by
      obtain ⟨es, clock, hb, Ft, hs, hD⟩ := hown
      exact ⟨es, clock, (Below.heap_alloc _ _ b hbl).trans hb, Ft, hs, hD⟩)
  refine ⟨AnyZ.keys_in Tryz.laysKeysN Fence.wide 5 trivial rfl (some b) w, ?_⟩
  have cS := AnyZ.sorted_in Tryz.laysSortedN Fence.wide 5 trivial trivial trivial trivial rfl (by omega) (sortsN _) (enters_of Tryz.func120 (by kernel_rfl) rfl) 123 #[.pointer (some ⟨w.heap.size, 0, none⟩)] trivial (enters_of Tryz.func123 (by kernel_rfl) rfl) _ _ (by rw [hsz]; unfold maxLen; omega) (by rw [hsz]; omega) _ hseq
  change CallsIn _ _ Tryz.prog 97 _ _ _ at cS
  refine cS.mono ?_
  rintro e w' ⟨v, ss, rfl, hS, hrow, hnil, hb⟩
  rw [hk] at hS
  rw [hsort ss hS] at hrow
  have hlen : ss.length = l.length := by rw [hS.length_eq]; simp
  rw [hlen, List.map_map] at hrow
  exact ⟨v, rfl, ownsRow_base_a hrow (by simp), ((Below.refl _ w).alloc (Nat.le_refl _) _).trans (hb.mono (by simp))⟩
end Go.Proofs.YtogphlnakdnchaaGreat

namespace Go.Proofs.YtogphlnakdnchaaGreat
open Go.RowKit Go.Maps
theorem il_okm' {w : World} {v : Value} {L : Its} (h : Il w v L) {p : Str × Int} (hp : p ∈ L) : okS p.1 ∧ okI p.2 := by
  obtain ⟨i, hi⟩ := List.getElem?_of_mem hp
  obtain ⟨_, _, _, _, hx⟩ := h
  exact ⟨(hx i p hi).1, (hx i p hi).2.1⟩
theorem cell_two' (w : World) (x y : Value) (t : TypeId) : ∀ j u, [x, y][j]? = some u → (w.alloc (.cells #[x, y] t)).cell? ((⟨w.heap.size, 0, none⟩ : Addr).add j) = some u := by
  intro j u h
  have h0 : (w.alloc (.cells #[x, y] t)).heap[w.heap.size]? = some (.cells #[x, y] t) := heap_at rfl _
  match j, h with
  | 0, h => cases h; exact cell_obj h0 0 _ rfl
  | 1, h => cases h; exact cell_obj h0 1 _ rfl
theorem posF_take {m : Its} {k : Nat} {p : Str × Int} (h : m[k]? = some p) : posF (m.take (k + 1)) = posF (m.take k) ++ (if 0 < p.2 then [p] else []) := by
  unfold posF
  rw [List.take_add_one, h, List.filter_append]
  congr 1
  by_cases e : 0 < p.2
  · rw [if_pos e]; simp [e]
  · rw [if_neg e]; simp [e]
theorem posF_le (m : Its) (k : Nat) : (posF (m.take k)).length ≤ k := by
  unfold posF
  refine Nat.le_trans (List.length_filter_le _ _) ?_
  rw [List.length_take]; omega
set_option maxRecDepth 100000 in
set_option maxHeartbeats 8000000 in
theorem iNorm (w : World) (v : Value) (L : Its) (h : Il w v L) (hl : L.length ≤ 100000) : Calls Tryz.prog 70 #[v] w fun e w' => ∃ v', e = .returned (.tuple #[v', .int .i64 (normF L).2]) ∧ w'.ownsRow w.heap.size 65 2 v' (normF L).1.length (itCs (normF L).1) ∧ Fr (fun _ => False) w w' := by
  obtain ⟨i0, hi', hz0, hz1, hz2⟩ := info_parts infoItem
  obtain ⟨n0, hn0⟩ : ∃ n0, w.heap.size = n0 := ⟨_, rfl⟩
  have HN0 := Lib.hid hn0
  have hS := iSums w v L h
  obtain ⟨⟨E, m⟩, hR⟩ : ∃ R, sumsF L = R := ⟨_, rfl⟩
  have hnf : normF L = if E = 0 then (if 16 < (posF m).length then ([], 3) else (posF m, 0)) else ([], E) := by unfold normF; rw [hR]
  obtain ⟨NF, hNF⟩ : ∃ R, normF L = R := ⟨_, rfl⟩
  rw [hNF] at hnf ⊢
  have HNF := Lib.hid hnf
  rw [hR] at hS
  obtain ⟨a, c, rfl⟩ := h.sl
  by_cases hE : E = 0
  · subst hE
    rw [if_pos rfl] at hnf
    have HNF2 := Lib.hid hnf
    have hso := sumsF_ok hR
    have hml : m.length ≤ 100000 := by
      have h1 : sumsM L = some m := by
        unfold sumsF at hR
        split at hR
        · cases hR
        · split at hR
          · rename_i m' hm
            injection hR with _ hR
            rw [hm, hR]
          · cases hR
      have h2 := sumsM_len L [] m h1
      simp only [List.length_nil] at h2
      omega
    have hrow : Hid (∀ p ∈ m, okS p.1 ∧ okI p.2) := Lib.hid (fun p hp => by
      have h1 := hso.row p hp
      have h2 := h1.1
      unfold goodB at h2
      simp only [Bool.and_eq_true, decide_eq_true_eq] at h2
      exact ⟨by unfold okS maxLen; omega, by unfold okI; omega⟩)
    have hnd := Lib.hid hso.nd
    have hS2 : Calls Tryz.prog 103 #[.slice a L.length c] w fun e w' => e = .returned (.tuple #[.map (some (n0 + 2)), .int .i64 0]) ∧ Mp Tryz.prog w' 9 ktS encN (n0 + 2) m ∧ Fr (fun _ => False) w w' := by
      refine hS.mono ?_
      rintro e w' ⟨mv, rfl, -, h2, h3⟩
      obtain ⟨rfl, h4⟩ := h2 rfl
      rw [hn0] at h4 ⊢
      exact ⟨rfl, h4, h3⟩
    have HS2 := Lib.hid hS2
    obtain ⟨N, hN⟩ : ∃ N, m.length = N := ⟨_, rfl⟩
    have HN := Lib.hid hN
    have hkeys : Hid (∀ W, Mp Tryz.prog W 9 ktS encN (n0 + 2) m → _ ∧ _) := Lib.hid (fun W hm => (⟨callsIn_wide.1 (keysSortedN W (n0 + 2) encN m hm (by omega)).1, callsIn_wide.1 (keysSortedN W (n0 + 2) encN m hm (by omega)).2⟩))
    clear h hS hnf hR hso hS2 hNF
    rw [hN] at hml
    clear hN
    go_enter Tryz.func70, Tryz.ntmps70
    go_wp2_with (first
      | (go_at_call 103; refine HS2.out.mono ?_; rintro e w1 ⟨rfl, hm1, hf1⟩; have HM1 := Lib.hid hm1; have HF1 := Lib.hid hf1; have hK := hkeys.out w1 hm1; have HK1 := Lib.hid hK.1; have HK2 := Lib.hid hK.2; clear hm1 hf1 hK)
      | (go_at_call 104; refine HK1.out.mono ?_; rintro e w2 ⟨rfl, rfl⟩)
      | (go_at_call 97; refine HK2.out.mono ?_; rintro e w3 ⟨v3, rfl, ho3, hb3⟩; rw [HN.out] at ho3; obtain ⟨ra, rc, rfl⟩ := row_slice ho3; have HO3 := Lib.hid ho3; have HB3 := Lib.hid hb3; clear ho3 hb3))
    have hf3 : Fr (fun _ => False) w w3 := HF1.out.trans' (Fr.below (S := fun _ => False) HB3.out) (fun _ _ e => e)
    have hm3 := (Fr.below (S := fun _ => False) HB3.out).mp HM1.out (fun e => e)
    have HF3 := Lib.hid hf3; have HM3 := Lib.hid hm3
    clear hf3 hm3
    have hNl : Hid (m.length = N) := HN
    go_loopw [6, 22] (fun o i wr => ∃ k : Nat, k ≤ N ∧ i = .int .i64 k ∧ wr.ownsRow w3.heap.size 65 2 o (posF (m.take k)).length (itCs (posF (m.take k))) ∧ Fr (fun _ => False) w3 wr) (fun _ i _ => N - (intOf i).toNat)
    case atStart => exact ⟨0, Nat.zero_le _, rfl, World.ownsRow_nil _ _ _ _, Fr.refl _ _⟩
    case round =>
      obtain ⟨k, hk, rfl, ho, hfr⟩ := hrel
      have hple := posF_le m k
      obtain ⟨g1, hg1⟩ : ∃ x, posF (m.take k) = x := ⟨_, rfl⟩
      rw [hg1] at ho hple
      have HO := Lib.hid ho; have HFR := Lib.hid hfr; have HG1 := Lib.hid hg1
      obtain ⟨oa, oc, rfl⟩ := row_slice ho
      clear ho hg1
      by_cases hlt : k < N
      · obtain ⟨p, hp⟩ : ∃ p, m[k]? = some p := ⟨m[k]'(by rw [HN.out]; exact hlt), List.getElem?_eq_getElem _⟩
        obtain ⟨g', rfl, hg1, hg2⟩ := row_addr HO3.out (by omega)
        have hcx : wr.cell? ⟨g', k, none⟩ = some (vS p.1) := by
          have := (hfr.row HO3.out (fun b _ e => e)).cellAt (g := g') (j := k) (by omega)
          rw [this]; simp [hp]
        have hok := hrow.out p (List.mem_of_getElem? hp)
        have hlk := lookN (hfr.mp HM3.out (fun e => e)) hok.1
        have hget : getS m p.1 = some p.2 := getK_of hnd.out (x := p.1) (v := p.2) (List.mem_of_getElem? hp)
        rw [hget] at hlk
        have HT := Lib.hid (posF_take hp)
        rw [HG1.out] at HT
        have hlI : (k : Int) < N := by omega
        have HOK := Lib.hid hok
        have hws := hfr.size
        obtain ⟨gd, n⟩ := p
        dsimp only [Option.getD] at hcx hlk HT
        clear hp hok hget hg1 hg2
        by_cases hn : 0 < n
        · go_wp2_with (at_builtin; refine wpList_append_own_at _ rfl _ _ 27 rfl w3.heap.size 65 i0 (.agg #[.string ⟨#[]⟩, .int .i64 0]) 2 24 Tryz.underlying27 hi' hz0 hz1 hz2 rfl (by decide) _ _ _ rfl (((Fr.refl (fun _ => False) _).alloc _).row HO.out (fun _ _ e => e)) ⟨wr.heap.size, 0, none⟩ 1 1 [vS gd, .int .i64 n] rfl rfl (cell_two' _ _ _ _) (by intro u hu; simp only [List.mem_cons, List.not_mem_nil, or_false] at hu; rcases hu with rfl | rfl <;> rfl) (by unfold maxLen; omega) (by omega) (by simp; omega) ?_; intro v' w5 hown' hgrow _ hat; obtain ⟨na, nc, rfl⟩ := row_slice hown'; have HOWN := Lib.hid hown'; have HGR := Lib.hid hgrow; clear hown' hgrow hat)
          go_roundw
          case rel =>
            refine ⟨k + 1, by omega, by go_num, ?_, ?_⟩
            · rw [HT.out, if_pos hn, List.length_append, itCs_app]
              exact HOWN.out
            · exact (HFR.out.alloc _).trans' (Fr.grown (S := fun b => w3.heap.size ≤ b) HGR.out (fun r hr _ => (HO.out.lt r hr).1)) (fun b hb e => by have e : w3.heap.size ≤ b := e; omega)
          case measure => simp [intOf]; omega
        · go_wp2_with fail
          go_roundw
          case rel =>
            refine ⟨k + 1, by omega, by go_num, ?_, HFR.out⟩
            rw [HT.out, if_neg hn, List.append_nil]
            exact HO.out
          case measure => simp [intOf]; omega
      · obtain rfl : k = N := by omega
        have hpm : Hid (g1 = posF m) := Lib.hid (by rw [← HG1.out, List.take_of_length_le (by have := HN.out; omega)])
        have hlI : ¬ (k : Int) < k := by omega
        obtain ⟨M, hM⟩ : ∃ M, List.length g1 = M := ⟨_, rfl⟩
        have HMM := Lib.hid hM
        rw [hM]
        have hfin : Hid (Fr (fun _ => False) w wr) := Lib.hid (HF3.out.trans HFR.out)
        have hsz := HF3.out.size
        have HSZ := Lib.hid hsz
        clear hfr hM hple hsz
        by_cases h16 : 16 < M
        · have hI : (16 : Int) < M := by omega
          go_wp2_with fail
          go_ret2
          have e : NF = ([], 3) := by rw [HNF2.out, ← hpm.out, if_pos (by rw [HMM.out]; exact h16)]
          rw [e]
          exact ⟨_, rfl, World.ownsRow_nil _ _ _ _, hfin.out⟩
        · have hI : ¬ (16 : Int) < M := by omega
          go_wp2_with fail
          go_ret2
          have e : NF = (g1, 0) := by rw [HNF2.out, ← hpm.out, if_neg (by rw [HMM.out]; exact h16)]
          rw [e]
          refine ⟨_, rfl, ?_, hfin.out⟩
          have := HO.out
          have hsz := HSZ.out
          rw [HMM.out] at this ⊢
          have hn := HN0.out
          exact own_base this (by omega)
  · rw [if_neg hE] at hnf
    have hS2 : Calls Tryz.prog 103 #[.slice a L.length c] w fun e w' => e = .returned (.tuple #[.map none, .int .i64 E]) ∧ Fr (fun _ => False) w w' := by
      refine hS.mono ?_
      rintro e w' ⟨mv, rfl, h1, -, h3⟩
      obtain rfl := h1 hE
      exact ⟨rfl, h3⟩
    have HS2 := Lib.hid hS2
    have hE2 : (E != 0) = true := by simpa using hE
    clear h hS hR hS2 hNF hE
    go_enter Tryz.func70, Tryz.ntmps70
    go_wp2_with (go_at_call 103; refine HS2.out.mono ?_; rintro e w1 ⟨rfl, hf1⟩; have HF1 := Lib.hid hf1; clear hf1)
    go_ret2
    rw [hnf]
    exact ⟨_, rfl, World.ownsRow_nil _ _ _ _, HF1.out⟩
end Go.Proofs.YtogphlnakdnchaaGreat

namespace Go.Proofs.YtogphlnakdnchaaGreat
open Go.RowKit Go.Maps
set_option maxRecDepth 100000 in
set_option maxHeartbeats 8000000 in
theorem iPlus (w : World) (va vb : Value) (A B : Its) (hA : Il w va A) (hB : Il w vb B) : Calls Tryz.prog 30 #[va, vb] w fun e w' => ∃ v', e = .returned (.tuple #[v', .int .i64 (plusF A B).2]) ∧ w'.ownsRow w.heap.size 65 2 v' (plusF A B).1.length (itCs (plusF A B).1) ∧ Fr (fun _ => False) w w' := by
  obtain ⟨P, hP⟩ : ∃ P, plusF A B = P := ⟨_, rfl⟩
  have hPd : P = if mayL A = true ∧ mayL B = true then normF (A ++ B) else ([], 60) := by rw [← hP]; rfl
  rw [hP]
  obtain ⟨a1, c1, rfl⟩ := hA.sl
  obtain ⟨a2, c2, rfl⟩ := hB.sl
  have hMA := Lib.hid (fun W (hf : Fr (fun _ => False) w W) => iMay W _ A (hA.keep hf (fun _ _ _ e => e)))
  have hMB := Lib.hid (fun W (hf : Fr (fun _ => False) w W) => iMay W _ B (hB.keep hf (fun _ _ _ e => e)))
  have HA := Lib.hid hA; have HB := Lib.hid hB
  clear hP
  cases hm1 : mayL A with
  | false =>
    rw [hm1, if_neg (by simp)] at hPd
    rw [hm1] at hMA
    have HP := Lib.hid hPd
    clear hA hB hm1 hPd
    go_enter Tryz.func30, Tryz.ntmps30
    go_wp2_with (go_at_call 28; refine (hMA.out _ (Fr.refl _ _)).mono ?_; rintro e w1 ⟨rfl, hf1⟩; have HF1 := Lib.hid hf1; clear hf1)
    go_ret2
    rw [HP.out]
    exact ⟨_, rfl, World.ownsRow_nil _ _ _ _, HF1.out⟩
  | true =>
    rw [hm1] at hMA
    cases hm2 : mayL B with
    | false =>
      rw [hm1, hm2, if_neg (by simp)] at hPd
      rw [hm2] at hMB
      have HP := Lib.hid hPd
      have hnx : True := trivial
      clear hA hB hm1 hm2 hPd
      go_enter Tryz.func30, Tryz.ntmps30
      go_wp2_with (first
        | (go_at_call 28; refine (hMB.out _ HF1.out).mono ?_; rintro e w2 ⟨rfl, hf2⟩; have HF2 := Lib.hid hf2; clear hf2)
        | (go_at_call 28; refine (hMA.out _ (Fr.refl _ _)).mono ?_; rintro e w1 ⟨rfl, hf1⟩; have HF1 := Lib.hid hf1; clear hf1))
      go_ret2
      rw [HP.out]
      exact ⟨_, rfl, World.ownsRow_nil _ _ _ _, HF1.out.trans HF2.out⟩
    | true =>
      rw [hm1, hm2, if_pos ⟨rfl, rfl⟩] at hPd
      rw [hm2] at hMB
      have HP := Lib.hid hPd
      have hl1 := (mayL_all hm1).len; have hl2 := (mayL_all hm2).len
      have hcat : ∀ W : World, Fr (fun _ => False) w W → Calls Tryz.prog 71 #[.slice (some ⟨W.heap.size, 0, none⟩) 2 2] (W.alloc (.cells #[.slice a1 A.length c1, .slice a2 B.length c2] 27)) fun e w' => ∃ v', e = .returned v' ∧ Il w' v' (A ++ B) ∧ Fr (fun _ => False) w w' := fun W hf => by
        have hf2 := hf.alloc (.cells #[.slice a1 A.length c1, .slice a2 B.length c2] 27)
        have hh := heap_at (w := W) rfl (.cells #[.slice a1 A.length c1, .slice a2 B.length c2] 27)
        have := iConcat _ _ [(.slice a1 A.length c1, A), (.slice a2 B.length c2, B)] ⟨⟨W.heap.size, 0, none⟩, 2, rfl, fun i p hp => by
          match i, hp with
          | 0, hp => cases hp; exact ⟨cell_obj hh 0 _ rfl, HA.out.keep hf2 (fun _ _ _ e => e)⟩
          | 1, hp => cases hp; exact ⟨cell_obj hh 1 _ rfl, HB.out.keep hf2 (fun _ _ _ e => e)⟩⟩ (by simp) (by simp [catI]; omega)
        refine this.mono ?_
        rintro e w' ⟨v', rfl, h1, h2⟩
        rw [show catI [(Value.slice a1 A.length c1, A), (.slice a2 B.length c2, B)] = A ++ B by simp [catI]] at h1
        refine ⟨v', rfl, (Il.own h1 (fun p hp => ?_)).1, hf2.trans h2⟩
        rcases List.mem_append.1 hp with hp | hp
        · exact il_okm' HA.out hp
        · exact il_okm' HB.out hp
      have HCAT := Lib.hid hcat
      have hll : (A ++ B).length ≤ 100000 := by rw [List.length_append]; omega
      have HLL := Lib.hid hll
      clear hA hB hm1 hm2 hPd hcat hll hl1 hl2
      obtain ⟨LL, hLL⟩ : ∃ l, A ++ B = l := ⟨_, rfl⟩
      rw [hLL] at HCAT HLL HP
      clear hLL
      obtain ⟨NF, hNF⟩ : ∃ R, normF LL = R := ⟨_, rfl⟩
      rw [hNF] at HP
      have hno := Lib.hid (fun W v h => iNorm W v LL h HLL.out)
      rw [hNF] at hno
      obtain ⟨n1, hn1⟩ : ∃ n, A.length = n := ⟨_, rfl⟩
      obtain ⟨n2, hn2⟩ : ∃ n, B.length = n := ⟨_, rfl⟩
      rw [hn1, hn2] at HCAT
      rw [hn1] at hMA ⊢
      rw [hn2] at hMB ⊢
      clear hNF hn1 hn2 HA HB
      go_enter Tryz.func30, Tryz.ntmps30
      go_wp2_with (first
        | (go_at_call 70; refine (hno.out _ _ HI3.out).mono ?_; rintro e w4 ⟨v4, rfl, ho4, hf4⟩; obtain ⟨ra, rc, rfl⟩ := row_slice ho4; have HO4 := Lib.hid ho4; have HF4 := Lib.hid hf4; clear ho4 hf4)
        | (go_at_call 71; refine (HCAT.out _ (HF1.out.trans HF2.out)).mono ?_; rintro e w3 ⟨v3, rfl, hi3, hf3⟩; have HI3 := Lib.hid hi3; obtain ⟨sa, sc, rfl⟩ := hi3.sl; have HF3 := Lib.hid hf3; clear hi3 hf3)
        | (go_at_call 28; refine (hMB.out _ HF1.out).mono ?_; rintro e w2 ⟨rfl, hf2⟩; have HF2 := Lib.hid hf2; clear hf2)
        | (go_at_call 28; refine (hMA.out _ (Fr.refl _ _)).mono ?_; rintro e w1 ⟨rfl, hf1⟩; have HF1 := Lib.hid hf1; clear hf1))
      go_ret2
      rw [HP.out]
      exact ⟨_, rfl, own_base HO4.out HF3.out.size, HF3.out.trans HF4.out⟩
end Go.Proofs.YtogphlnakdnchaaGreat

namespace Go.Proofs.YtogphlnakdnchaaGreat
open Go.RowKit Go.Maps
set_option maxRecDepth 100000 in
theorem itClone (w : World) (v : Value) (bs : Its) (h : Il w v bs) (hl : (bs.length : Int) ≤ 1000) : Calls Tryz.prog 33 #[v] w fun e w' =>
    ∃ v', e = .returned v' ∧ w'.ownsRow w.heap.size 65 2 v' bs.length (itCs bs) ∧ Fr (fun _ => False) w w' := by
  obtain ⟨i0, hi', hz0, hz1, hz2⟩ := info_parts infoItem
  obtain ⟨hb1, a, c, rfl, hbx⟩ := id h
  obtain ⟨n, hn⟩ : ∃ n, bs.length = n := ⟨_, rfl⟩
  have HN := Lib.hid hn
  rw [hn] at hl hb1 ⊢
  clear hn
  have hq := fun (w : World) (a : Option Addr) (n c n' c' : Nat) => Lib.run_eql_slice_nil (P := Tryz.prog) w 27 _ a n c n' c' Tryz.underlying27
  cases a with
  | none =>
    have h0 : n = 0 := by
      rcases Nat.eq_zero_or_pos n with h0 | h0
      · exact h0
      · obtain ⟨x, hx⟩ : ∃ x, bs[0]? = some x := ⟨bs[0]'(by have := HN.out; omega), List.getElem?_eq_getElem _⟩
        obtain ⟨-, -, ad', e, -⟩ := hbx 0 x hx
        cases e
    subst h0
    have hbe : bs = [] := List.eq_nil_of_length_eq_zero HN.out
    subst hbe
    clear h hbx
    go_enter Tryz.func33, Tryz.ntmps33
    go_wp2_with fail
    go_ret
    exact ⟨_, rfl, World.ownsRow_nil _ _ _ _, Fr.refl _ _⟩
  | some ad =>
    have hown : (w.alloc (.cells #[] 65)).ownsRow w.heap.size 65 2 (.slice (some ⟨w.heap.size, 0, none⟩) 0 0) 0 [] := World.ownsRow_made w #[] 0 (Nat.le_refl _) (Nat.zero_le _) rfl
    have hnews : ∀ (i : Nat) (u : Value), (itCs bs)[i]? = some u → (w.alloc (.cells #[] 65)).cell? (ad.add i) = some u := fun i u hu => by
      have hi := (List.getElem?_eq_some_iff.1 hu).1
      rw [itCs_len] at hi
      obtain ⟨x, hx⟩ : ∃ x, bs[i / 2]? = some x := ⟨bs[i / 2]'(by omega), List.getElem?_eq_getElem _⟩
      obtain ⟨-, -, ad', e, c0, c1⟩ := hbx (i / 2) x hx
      cases e
      obtain ⟨d0, d1⟩ := itCs_at hx
      rcases (by omega : i = i / 2 * 2 ∨ i = i / 2 * 2 + 1) with e | e
      · rw [e] at hu ⊢
        rw [d0] at hu
        rw [← hu]
        exact ((Fr.refl (fun _ => False) w).alloc _).cell c0 (fun h => h)
      · rw [e] at hu ⊢
        rw [d1] at hu
        rw [← hu, add_field]
        exact ((Fr.refl (fun _ => False) w).alloc _).cell c1 (fun h => h)
    have hall : ∀ u ∈ itCs bs, u.oneCell' = true := fun u hu => itCs_one hu
    have hul : (itCs bs).length = n * 2 := by have := HN.out; rw [itCs_len, this]
    have HNEWS := Lib.hid hnews; have HALL := Lib.hid hall; have HUL := Lib.hid hul; have HO := Lib.hid hown
    clear hnews hall hul hown hbx h
    go_enter Tryz.func33, Tryz.ntmps33
    go_wp2_with (at_builtin; refine wpList_append_own_at _ rfl _ _ 27 rfl w.heap.size 65 i0 _ 2 24 Tryz.underlying27 hi' hz0 hz1 hz2 rfl (by decide) (.slice (some ⟨w.heap.size, 0, none⟩) 0 0) 0 [] rfl HO.out ad n _ (itCs bs) rfl HUL.out HNEWS.out HALL.out (by unfold maxLen; omega) (by omega) (by simp) ?_; intro v' w5 hown' hgrow _ hat)
    go_ret
    refine ⟨_, rfl, by simpa using hown', ((Fr.refl (fun _ => False) w).alloc _).trans' (Fr.grown (S := fun b => b = w.heap.size) hgrow (fun r hr _ => by cases hr; rfl)) (fun b hb e => by omega)⟩
end Go.Proofs.YtogphlnakdnchaaGreat

namespace Go.Proofs.YtogphlnakdnchaaGreat
open Go.RowKit Go.Maps
attribute [local go_sem] Oper.semAt_some
theorem offerS_app (A : Stk) (L M : Its) : offerS A (L ++ M) = offerS A L ++ offerS A M := by simp [offerS]
theorem offerS_len (A : Stk) (L : Its) : (offerS A L).length ≤ L.length := List.length_filterMap_le _ _
theorem offerS_ok {A : Stk} {L : Its} (hL : ∀ p ∈ L, okS p.1 ∧ 0 ≤ p.2 ∧ p.2 ≤ 1099511627776) : ∀ p ∈ offerS A L, okS p.1 ∧ okI p.2 := by
  intro p hp
  unfold offerS at hp
  obtain ⟨q, hq, e⟩ := List.mem_filterMap.1 hp
  have := hL q hq
  split at e
  · injection e with e
    subst e
    refine ⟨this.1, ?_⟩
    unfold okI
    dsimp only
    omega
  · cases e
theorem cell_two (w : World) (x y : Value) (t : TypeId) : ∀ j u, [x, y][j]? = some u → (w.alloc (.cells #[x, y] t)).cell? ((⟨w.heap.size, 0, none⟩ : Addr).add j) = some u := by
  intro j u hj
  match j, hj with
  | 0, hj => simp at hj; subst hj; simp [Addr.add]
  | 1, hj => simp at hj; subst hj; simp [Addr.add]
  | (j + 2), hj => simp at hj
theorem Col.congr {W : World} {base B : Nat} {t e : TypeId} {size : Nat} {C : Nat → Prop} {v : Value} {n n' : Nat} {xs xs' : List Value} (h : Col W base B t e size C v n xs) (h1 : n = n') (h2 : xs = xs') : Col W base B t e size C v n' xs' := h1 ▸ h2 ▸ h
def OfJ (w w5 : World) (n0 ob g : Nat) (A : Stk) (L : Its) (k : Nat) (C : Nat → Prop) (W : World) : Prop :=
  W.heap[n0]? = some (.cells #[.pointer (some ⟨g, 0, none⟩)] 58) ∧ (∃ v, Col W (ob + 2) ob 27 65 2 C v (offerS A (L.take k)).length (itCs (offerS A (L.take k)))) ∧ Fr (fun b => n0 ≤ b) w W ∧ Fr (fun b => b = ob) w5 W
theorem OfJ.fa {B : Nat} {w w5 W W' : World} {n0 ob g k : Nat} {C : Nat → Prop} {A : Stk} {L : Its} (h : OfJ w w5 n0 ob g A L k C W) (hf : Fa B W W') (hB : w.heap.size ≤ B ∧ w5.heap.size ≤ B) : OfJ w w5 n0 ob g A L k C W' :=
  ⟨Fa.cells hf h.1, h.2.1.elim fun v hv => ⟨v, hv.fa hf⟩, h.2.2.1.trans' hf (fun b hb e => by have := e.1; omega), h.2.2.2.trans' hf (fun b hb e => by have := e.1; omega)⟩
set_option maxRecDepth 100000 in
set_option maxHeartbeats 8000000 in
theorem sOffer (w : World) (g : Nat) (TS : Nat → Prop) (A : Stk) (v : Value) (L : Its) (h : SA w g TS A) (hA : SOk A) (hv : Il w v L) :
    Calls Tryz.prog 29 #[.pointer (some ⟨g, 0, none⟩), v] w fun e w' => ∃ v', e = .returned v' ∧ Il w' v' (if mayL L = true then offerS A L else []) ∧ (∀ b, v'.ownBlock = some b → w.heap.size ≤ b ∧ b < w'.heap.size) ∧ Fr (fun _ => False) w w' := by
  obtain ⟨i0, hi', hz0, hz1, hz2⟩ := info_parts infoItem
  obtain ⟨n0, hn0⟩ : ∃ n0, w.heap.size = n0 := ⟨_, rfl⟩
  have HS := Lib.hid hn0
  have HL := Lib.hid hv
  have hob := hv.lt
  have HOB := Lib.hid hob
  have hokl : Hid (∀ (j : Nat) (p : Str × Int), L[j]? = some p → okS p.1) := Lib.hid (fun j p hp => by obtain ⟨_, _, _, _, hx⟩ := hv; exact (hx j p hp).1)
  obtain ⟨a, c, rfl⟩ := hv.sl
  obtain ⟨N, hN⟩ : ∃ N, L.length = N := ⟨_, rfl⟩
  have HN := Lib.hid hN
  rw [hN] at HL HOB ⊢
  have HSA := Lib.hid h
  have HAA := Lib.hid hA
  have HGL : Hid (g < w.heap.size) := Lib.hid (h.lt g h.own)
  obtain ⟨m, hc, hm, hTm⟩ := h.cell
  obtain ⟨W0, hW0⟩ : ∃ W0, w.alloc (.cells #[.pointer (some ⟨g, 0, none⟩)] 58) = W0 := ⟨_, rfl⟩
  have hF0 : Fr (fun _ => False) w W0 := by rw [← hW0]; exact (Fr.refl _ w).alloc _
  have hs0 : W0.heap.size = n0 + 1 := by rw [← hW0]; simp; omega
  have hb0 : W0.heap[n0]? = some (.cells #[.pointer (some ⟨g, 0, none⟩)] 58) := by rw [← hW0]; exact heap_at hn0.symm _
  have HF0 := Lib.hid hF0; have HS0 := Lib.hid hs0; have HB0 := Lib.hid hb0
  have hmd := Lib.hid (callsIn_wide (n := 0) |>.2 (smade W0 g m (hF0.cell hc (fun h => h))))
  have hIM := Lib.hid (callsIn_wide (n := 0) |>.2 (iMay W0 (.slice a N c) L (HL.out.fr hF0 (fun b hb => hb.elim))))
  have hcs := cell_obj hb0 0 (.pointer (some ⟨g, 0, none⟩)) rfl
  clear hv hob hN h hm hTm hA hF0 hb0 hc
  refine (callsIn_wide (n := 0)).1 ?_
  refine callsIn_of_wp_marks Tryz.func29 rfl trivial ?_ rfl
  simp only [Tryz.ntmps29, List.size_toArray, List.length_cons, List.length_nil, Nat.reduceAdd, Nat.reduceSub, Array.replicate_succ, Array.replicate_zero, List.push_toArray, List.append_toArray, List.nil_append, List.cons_append]
  have hfn : ∀ f, Fence.wide.fn f := fun _ => trivial
  have hdp : Fence.wide.depth.isSome = false := rfl
  cases hml : mayL L with
  | false =>
    rw [hml] at hIM
    simp only [Bool.false_eq_true, if_false]
    gi_wp2_with (first
      | (gi_at_call 69; refine hmd.out.mono ?_; rintro e w1 ⟨rfl, rfl⟩)
      | (gi_at_call 28; refine hIM.out.mono ?_; rintro e w2 ⟨rfl, hf2⟩; have HF2 := Lib.hid (HF0.out.trans hf2); clear hf2))
    refine ⟨.slice none 0 0, by simp [results, Tryz.results29, go_sem], _, rfl, ⟨by simp, none, 0, rfl, fun i p hp => by simp at hp⟩, (fun b hb => by cases hb), HF2.out⟩
  | true =>
    rw [hml] at hIM
    simp only [if_true]
    have hpos : Hid (∀ p ∈ L, 0 ≤ p.2 ∧ p.2 ≤ 1099511627776) := Lib.hid (mayL_pos hml)
    have h16 : Hid (L.length ≤ 16) := Lib.hid (by unfold mayL at hml; simp at hml; exact hml.2)
    clear hml
    gi_wp2_with (first
      | (gi_at_call 69; refine hmd.out.mono ?_; rintro e w1 ⟨rfl, rfl⟩)
      | (gi_at_call 28; refine hIM.out.mono ?_; rintro e w2 ⟨rfl, hf2⟩; have HF2 := Lib.hid (HF0.out.trans hf2); have HB2 := Lib.hid (hf2.at_ HB0.out (fun h => h)); clear hf2)
      | (gi_at_call 58; refine (callsIn_wide.2 (iAll _ _ _ _)).mono ?_; rintro e w5 ⟨rfl, rfl⟩))
    have hsz2 := HF2.out.size
    obtain ⟨ob, hob⟩ : ∃ ob, w2.heap.size = ob := ⟨_, rfl⟩
    have hcb : Boxed ((w2.alloc (.cells #[.slice none 0 0] 27)).alloc (.cells #[.slice a N c] 27)) ob 27 (.slice none 0 0) := heap_keep (heap_at hob.symm _) _
    have hBx : Boxed ((w2.alloc (.cells #[.slice none 0 0] 27)).alloc (.cells #[.slice a N c] 27)) (ob + 1) 27 (.slice a N c) := heap_at (by simp; omega) _
    have hsb : ((w2.alloc (.cells #[.slice none 0 0] 27)).alloc (.cells #[.slice a N c] 27)).heap[n0]? = some (.cells #[.pointer (some ⟨g, 0, none⟩)] 58) := heap_keep (heap_keep HB2.out _) _
    have hF5 : Fr (fun _ => False) w ((w2.alloc (.cells #[.slice none 0 0] 27)).alloc (.cells #[.slice a N c] 27)) := (HF2.out.alloc _).alloc _
    have hs5 : ((w2.alloc (.cells #[.slice none 0 0] 27)).alloc (.cells #[.slice a N c] 27)).heap.size = ob + 2 := by simp; omega
    have hnob : n0 < ob := by have := (Array.getElem?_eq_some_iff.1 HB2.out).1; omega
    obtain ⟨W5, hW5⟩ : ∃ W5, (w2.alloc (.cells #[.slice none 0 0] 27)).alloc (.cells #[.slice a N c] 27) = W5 := ⟨_, rfl⟩
    rw [hW5] at hcb hBx hsb hF5 hs5 ⊢
    rw [hob]
    have hL5 := HL.out.fr hF5 (fun b hb => hb.elim)
    have HCB := Lib.hid hcb; have HSB := Lib.hid hsb; have HF5 := Lib.hid hF5; have HS5 := Lib.hid hs5
    clear hW5 hob hsz2 hF5 hcb hsb HF2 HB2
    refine rangeX (w0 := W5) (X := L) (S := fun b => b = ob) rfl (enters_of Tryz.func95 (by kernel_rfl) rfl)
      (iAll1 _ W5 _ _ L hBx hL5 (by omega) (fun hl b hb e => by have := HOB.out hl b e; omega)) (Below.refl _ _) (fun b hb => by omega) (fun _ => rfl)
      (OfJ w W5 n0 ob g A L) (fun _ _ _ _ => False)
      (fun k C W W' hs hf => hs.fa hf (by omega)) (fun c k C W W' hs hf => hs)
      ⟨HSB.out, ⟨_, HCB.out, World.ownsRow_nil _ _ _ _, fun b hb => by cases hb⟩, HF5.out.mono (fun _ _ h => h.elim), Fr.refl _ _⟩ ?round ?done ?stop
    case stop => intro D c k C W hD hk hX; exact hX.elim
    case round =>
      rintro lp j x C W hx hlp hi hr
      dsimp only [encIt]
      gi_wp2
      refine Took.mk (Fr.refl _ _) hi ?_
      rintro Wb ⟨hQ, ⟨v, hcol⟩, hFw, hF5w⟩ hrb hf hsz hsw hCC _
      have hok := hokl.out j x hx
      have hpos := hpos.out x (List.mem_of_getElem? hx)
      have hjl := (List.getElem?_eq_some_iff.1 hx).1
      have htk : offerS A (L.take (j + 1)) = offerS A (L.take j) ++ offerS A [x] := by rw [List.take_add_one, hx, offerS_app]; rfl
      have hol : (offerS A (L.take j)).length ≤ 16 := by have h1 := offerS_len A (L.take j); have h2 := h16.out; rw [List.length_take] at h1; omega
      obtain ⟨gd, n⟩ := x
      dsimp only at hok hpos ⊢
      have cs := cell_obj hQ 0 (.pointer (some ⟨g, 0, none⟩)) rfl
      have hSW : SA Wb g TS A := HSA.out.fr hFw (fun b hb e => by have := HSA.out.lt b hb; omega)
      have hLv := Lib.hid (callsIn_wide (n := 0) |>.2 (sLevel Wb g TS A gd hSW hok))
      have hRok := (HAA.out.at_ gd).b.a0
      obtain ⟨R, hRR⟩ : ∃ R, rowAt A gd = R := ⟨_, rfl⟩
      rw [hRR] at hLv hRok
      have hof : Hid (offerS A [(gd, n)] = if 0 < min n R.free then [(gd, min n R.free)] else []) := Lib.hid (by
        unfold offerS
        simp only [List.filterMap_cons, List.filterMap_nil, hRR]
        split <;> split <;> simp_all)
      unfold SR.lev at hLv
      clear hRR
      obtain ⟨f0, f1, f2, f3, f4, f5, f6, f7, f8, f9, f10⟩ := R
      dsimp only at hLv hRok hof
      have hfl : ∀ W, (Instr.field 98 (.agg #[.int .i64 f0, .int .i64 f1, .int .i64 f2, .int .i64 f3]) 0).run Tryz.prog W = .ok (.int .i64 f0) W := fun W => by kernel_rfl
      have HQ := Lib.hid hQ; have HFW := Lib.hid hFw; have HF5W := Lib.hid hF5w; have HCOL := Lib.hid hcol; have HTK := Lib.hid htk; have HCC := Lib.hid hCC; have HX := Lib.hid hx; have HOK := Lib.hid hok
      clear hi hr hf hrb hQ hFw hF5w htk hx hok hSW hCC
      have hIG : okI (min n f0) := by unfold okI; have := hRok; omega
      have hIG := Lib.hid hIG
      by_cases hpm : 0 < min n f0
      · obtain ⟨M, hM⟩ : ∃ M, min n f0 = M := ⟨_, rfl⟩
        have HM := Lib.hid hM
        have hof1 : Hid (offerS A [(gd, n)] = [(gd, M)]) := Lib.hid (by rw [hof.out, if_pos hpm, hM])
        clear hof
        gi_wp2_with (first
          | (gi_at_call 60; refine hLv.out.mono ?_; rintro e w6 ⟨rfl, hf6⟩; have HF6 := Lib.hid hf6; have hcol6 : Col w6 (ob + 2) ob 27 65 2 C v _ _ := ⟨hf6.box HCOL.out.box (fun h => h), hf6.row HCOL.out.row (fun _ _ h => h), HCOL.out.mine⟩; have hco := hcol6.box.cell; clear hf6)
          | (gi_at_builtin; refine wpListIn_append_own_at _ rfl _ _ 27 rfl (ob + 2) 65 i0 (.agg #[.string ⟨#[]⟩, .int .i64 0]) 2 24 Tryz.underlying27 hi' hz0 hz1 hz2 rfl (by decide) _ _ _ rfl (hcol6.row.alloc _) ⟨w6.heap.size, 0, none⟩ 1 1 [vS gd, .int .i64 M] rfl rfl (cell_two _ _ _ _) (by intro u hu; simp only [List.mem_cons, List.not_mem_nil, or_false] at hu; rcases hu with rfl | rfl <;> rfl) (by unfold maxLen; omega) (by omega) (by have := HF6.out.size; simp; omega) ?_; intro v' w1 hown' hgrow _ hat; obtain ⟨g', cap', rfl⟩ := ownsRow_succ hown'; obtain ⟨hv1, hc1, hf1⟩ := hcol6.appended (W0 := W) (S := fun b => b = ob) (by decide) rfl (Nat.le_trans hsz HF6.out.size) hown' hgrow hat; have hcc := hv1.cell; have hcf := hv1.frozen; have HC1 := Lib.hid hc1; have HF1 := Lib.hid hf1; clear hc1 hf1 hat hgrow hown' hcol6))
        have hfA := (HF6.out.mono (fun _ _ e => e.elim)).trans HF1.out
        have hsz0 := HF5W.out.size
        have hcc0 : ∀ b, b < Wb.heap.size → (b = ob ∨ CC C W w6 b) → b = ob ∨ ob + 2 ≤ b := by
          rintro b hb (e | e | e)
          · exact .inl e
          · have := HCC.out b e; omega
          · have := e.1; omega
        have eLn : (offerS A (L.take j)).length + 1 = (offerS A (L.take (j + 1))).length := by rw [HTK.out, hof1.out, List.length_append]; rfl
        have eCs : itCs (offerS A (L.take j)) ++ [vS gd, .int .i64 M] = itCs (offerS A (L.take (j + 1))) := by rw [HTK.out, hof1.out, itCs_app]; rfl
        refine ⟨hfA.mono (fun b hb e => e.imp_right (fun e => e.elim .inl (fun e => .inr ⟨e.1, hb⟩))), hfA.at_ HQ.out (fun e => ?_), ⟨_, HC1.out.congr eLn eCs⟩, HFW.out.trans' hfA (fun b hb e => ?_), HF5W.out.trans' hfA (fun b hb e => ?_)⟩
        · have := hcc0 _ (Array.getElem?_eq_some_iff.1 HQ.out).1 e; omega
        · have := HFW.out.size; have := hcc0 _ (by omega) e; have := HS.out; omega
        · have := hcc0 _ (by omega) e; omega
      · have hof1 : Hid (offerS A [(gd, n)] = []) := Lib.hid (by rw [hof.out, if_neg hpm])
        clear hof
        gi_wp2_with (gi_at_call 60; refine hLv.out.mono ?_; rintro e w6 ⟨rfl, hf6⟩; have HF6 := Lib.hid hf6; clear hf6)
        have h6 := HF6.out
        refine ⟨h6.mono (fun _ _ e => e.elim), h6.at_ HQ.out (fun e => e), ⟨v, ?_⟩, HFW.out.trans (h6.mono fun _ _ e => e.elim), HF5W.out.trans (h6.mono fun _ _ e => e.elim)⟩
        rw [HTK.out, hof1.out, List.append_nil]
        exact ⟨h6.box HCOL.out.box (fun h => h), h6.row HCOL.out.row (fun _ _ h => h), fun b hb => .inl (HCOL.out.mine b hb)⟩
    case done =>
      rintro D C W hD ⟨hQ, ⟨v, hcol⟩, hFw, hF5w⟩ hr hK
      have hco := hcol.box.cell
      rw [show L.take L.length = L from List.take_length] at hcol
      have hown := hcol.row
      have HFW := Lib.hid hFw; have HCOL := Lib.hid hcol; have HKK := Lib.hid hK; have HR := Lib.hid hr; have HD := Lib.hid hD
      clear hcol hFw hK hF5w hQ hr hD hown
      gi_wp2
      refine ⟨by simp, .inl ⟨_, _, rfl, run_takeDeferred HKK.out, ?_⟩⟩
      refine ⟨_, results_tmp rfl _ _ _, v, rfl, ?_, ?_, ?_⟩
      · exact (Il.own (ownsRow_putObj HCOL.out.row _ HKK.out rfl) (offerS_ok fun p hp => ⟨by obtain ⟨i, hi⟩ := List.mem_iff_getElem?.1 hp; exact hokl.out i p hi, hpos.out p hp⟩)).1
      · intro b hb
        have := HCOL.out.row.lt b hb
        have e2 : (W.putObj D (.deferred none)).heap.size = W.heap.size := by simp
        omega
      · have := HS.out; have := HS5.out
        exact (HFW.out.putObj (l := D) (fun h => by have := HD.out; omega) _).mono (fun b hb e => by omega)
end Go.Proofs.YtogphlnakdnchaaGreat

namespace Go.Proofs.YtogphlnakdnchaaGreat
open Go.RowKit Go.Maps
/-- What a fold of moves makes of a stock. -/
def MoveOf (k : Int) (A : Stk) (L : Its) (B : Stk) : Prop := RiseS B ∧ ∀ g, getS B g = match getS L g with | some n => some ((rowAt A g).move k n) | none => getS A g
/-- What is said of a stock by its rows, from MoveOf. -/
theorem MoveOf.rows {k : Int} {A B : Stk} {L : Its} (h : MoveOf k A L B) (hA : SOk A) (hL : ∀ p ∈ L, goodB p.1 = true) (hr : ∀ p ∈ L, ((rowAt A p.1).move k p.2).right = true) : ∀ p ∈ B, goodB p.1 = true ∧ SRok p.2 := by
  have key : ∀ g n, (g, n) ∈ L → SRok ((rowAt A g).move k n) := fun g n hm => SRok.ofR (hr (g, n) hm) (SR.move_bal (hA.at_ g).bal k n)
  intro p hp
  have hg := getK_of (riseS_nd h.1) (x := p.1) (v := p.2) hp
  rw [h.2 p.1] at hg
  cases hl : getS L p.1 with
  | none =>
    rw [hl] at hg
    have := getK_mem hg
    exact ⟨hA.good _ this, hA.row _ this⟩
  | some n =>
    rw [hl] at hg
    have hm := getK_mem hl
    simp only [Option.some.injEq] at hg
    refine ⟨hL _ hm, ?_⟩
    rw [← hg]
    exact key _ _ hm
theorem doS_no {A : Stk} {k : Int} {L : Its} (h0 : (doS A k L).1 ≠ 0) : (doS A k L).2 = A := by
  unfold doS at h0 ⊢
  split
  · rfl
  · split
    · rfl
    · split
      · rfl
      · split
        · rfl
        · split
          · rfl
          · rename_i h1 h2 h3 _ _ h4 h5
            rw [if_neg h1, if_neg h2, if_neg h3, h4] at h0
            simp only [if_neg h5] at h0
            first | exact absurd rfl h0 | exact absurd trivial h0
end Go.Proofs.YtogphlnakdnchaaGreat

namespace Go.Proofs.YtogphlnakdnchaaGreat
open Go.RowKit Go.Maps
theorem il_nil (w : World) : Il w (.slice none 0 0) [] := ⟨by simp, none, 0, rfl, fun i p hp => by simp at hp⟩
/-- What a step of a shelf leaves: its stock, its lists' blocks. -/
def Shs (w w' : World) (m : Nat) (T0 TB T0' TB' : Nat → Prop) : Prop := Fr (fun b => T0 b ∨ b = m) w w' ∧ (∀ b, T0' b → T0 b ∨ w.heap.size ≤ b) ∧ (∀ b, TB' b → TB b ∨ w.heap.size ≤ b)
set_option maxRecDepth 100000 in
set_option maxHeartbeats 16000000 in
theorem hTake (w : World) (g gs m : Nat) (T0 TB : Nat → Prop) (A : Stk) (l : List (Int × HV)) (o : Int) (v : Value) (L : Its) (h : SB w g gs m T0 TB A l) (hA : SOk A) (ho : okI o) (hv : Il w v L) (hll : l.length ≤ 1000000) (hk : ∀ p ∈ mapE l, HEok p.1 p.2) :
    Calls Tryz.prog 8 #[.pointer (some ⟨g, 0, none⟩), .int .i64 o, v] w fun e w' => ∃ v' T0' TB' l', e = .returned (.tuple #[v', .int .i64 (takeE A (mapE l) o L).1.2]) ∧ SB w' g gs m T0' TB' (takeE A (mapE l) o L).2.1 l' ∧ mapE l' = (takeE A (mapE l) o L).2.2 ∧
      Il w' v' (takeE A (mapE l) o L).1.1 ∧ (∀ b, v'.ownBlock = some b → w.heap.size ≤ b ∧ b < w'.heap.size ∧ ¬ T0' b ∧ ¬ TB' b) ∧ Shs w w' m T0 TB T0' TB' := by
  obtain ⟨R, hR'⟩ : ∃ R, takeE A (mapE l) o L = R := ⟨_, rfl⟩
  have hRd : R = takeE A (mapE l) o L := hR'.symm
  rw [hR']
  unfold takeE at hRd
  obtain ⟨va, vc, rfl⟩ := hv.sl
  have HSB := Lib.hid h; have HVV := Lib.hid hv
  obtain ⟨c0, c1⟩ := h.cells
  have hm := Lib.hid (hmay w g m o c1)
  have hgc : Hid (∀ W, Fr (fun _ => False) w W → W.cell? ⟨g, 0, none⟩ = some (.pointer (some ⟨gs, 0, none⟩)) ∧ W.cell? ⟨g, 1, none⟩ = some (.map (some m))) := Lib.hid (fun W hf => (HSB.out.keep hf (fun _ _ e => e)).cells)
  have hMay := Lib.hid (fun W (hf : Fr (fun _ => False) w W) => iMay W _ L (hv.keep hf (fun _ _ _ e => e)))
  have hhd := h.hold ho
  have hln0 := heOf_len hk o
  have hmy0 := heOf_may hk o
  rw [heOf_map] at hRd hln0 hmy0
  have hh := hhold w g gs m T0 TB A l o h ho
  have hlook0 : ∀ W, Fr (fun _ => False) w W → (Instr.lookup 61 (.map (some m)) (.int .i64 o) true).run Tryz.prog W = .ok (.tuple #[((getS l o).getD ⟨0, .slice none 0 0, .slice none 0 0, .slice none 0 0, [], [], []⟩).enc, .bool (getS l o).isSome]) W := fun W hf => by
    have := (hf.mp h.mp (fun e => e)).look_ok (t := 61) kHI Tryz.underlying61 (z := .agg #[.int .i64 0, .slice none 0 0, .slice none 0 0, .slice none 0 0]) (by kernel_rfl) ho
    rw [show ktI.enc o = .int .i64 o from rfl] at this
    rw [this]
    cases getS l o <;> rfl
  have hlen : Hid (∀ W, Fr (fun _ => False) w W → ∀ ty, (Builtin.len_ #[61] ty #[.map (some m)]).run Tryz.prog W = .ok (.int .i64 l.length) W) := Lib.hid (fun W hf ty => (hf.mp h.mp (fun e => e)).len Tryz.underlying61 ty)
  obtain ⟨⟨lo, lv1, lv2, lv3, le1, le2, le3⟩, hlv⟩ : ∃ x, (getS l o).getD (⟨0, .slice none 0 0, .slice none 0 0, .slice none 0 0, [], [], []⟩ : HV) = x := ⟨_, rfl⟩
  have hlsl : (∃ b1 k1 d1, lv1 = .slice b1 k1 d1) ∧ (∃ b2 k2 d2, lv2 = .slice b2 k2 d2) ∧ (∃ b3 k3 d3, lv3 = .slice b3 k3 d3) := by
    cases e : getS l o with
    | none => rw [e] at hlv; cases hlv; exact ⟨⟨_, _, _, rfl⟩, ⟨_, _, _, rfl⟩, ⟨_, _, _, rfl⟩⟩
    | some x =>
      rw [e] at hlv
      obtain ⟨-, hx⟩ := h.rows _ (getS_mem e)
      have hlv : x = _ := hlv
      rw [hlv] at hx
      obtain ⟨q1, q2, q3⟩ := hx.lh.1.sl
      obtain ⟨r1, r2, r3⟩ := hx.lp.1.sl
      obtain ⟨s1, s2, s3⟩ := hx.ls.1.sl
      exact ⟨⟨_, _, _, q3⟩, ⟨_, _, _, r3⟩, ⟨_, _, _, s3⟩⟩
  rw [hlv] at hlook0
  obtain ⟨⟨b1, k1, d1, rfl⟩, ⟨b2, k2, d2, rfl⟩, ⟨b3, k3, d3, rfl⟩⟩ := hlsl
  dsimp only [HV.enc] at hlook0
  have hlook := Lib.hid hlook0
  have hno := getE_none l o
  have hmlen := mapE_len l
  rw [hno, hmlen] at hRd
  have hsm : (getS l o).isSome = !(getS l o).isNone := by cases getS l o <;> rfl
  obtain ⟨isn, hisn⟩ : ∃ b, (getS l o).isNone = b := ⟨_, rfl⟩
  rw [hisn] at hRd hsm
  rw [hsm] at hlook
  obtain ⟨ll, hllen⟩ : ∃ n, l.length = n := ⟨_, rfl⟩
  rw [hllen] at hRd hlen hll
  have HLLEN := Lib.hid hllen
  obtain ⟨⟨xo, xh, xp, xs, he, pi, sh⟩, hX⟩ : ∃ X, holdOf l o = X := ⟨_, rfl⟩
  rw [hX] at hhd hh hRd hln0 hmy0
  obtain ⟨a1, d1', e1⟩ := hhd.1.lh.1.sl
  obtain ⟨a2, d2', e2⟩ := hhd.1.lp.1.sl
  obtain ⟨a3, d3', e3⟩ := hhd.1.ls.1.sl
  have hxo := hhd.2.symm
  dsimp only at e1 e2 e3 hxo
  subst e1 e2 e3 hxo
  dsimp only [HV.enc, HV.e] at hh hRd hln0 hmy0
  obtain ⟨n1, hn1⟩ : ∃ n, he.length = n := ⟨_, rfl⟩
  obtain ⟨n2, hn2⟩ : ∃ n, pi.length = n := ⟨_, rfl⟩
  obtain ⟨n3, hn3⟩ : ∃ n, sh.length = n := ⟨_, rfl⟩
  have HHD := Lib.hid hhd.1
  rw [hn1, hn2, hn3] at HHD hh hln0
  simp only [hn2, hn3] at hRd
  have hOf0 := fun W (hf : Fr (fun _ => False) w W) => sOffer W gs T0 A _ L (h.stk.fr hf (fun _ _ e => e)) hA (hv.keep hf (fun _ _ _ e => e))
  have hFl := offer_len A L
  obtain ⟨F, hF⟩ : ∃ F, offerS A L = F := ⟨_, rfl⟩
  rw [hF] at hOf0 hRd hFl
  obtain ⟨nF, hnF⟩ : ∃ n, F.length = n := ⟨_, rfl⟩
  have hFN := Lib.hid hnF
  have hPl0 := fun W v' (hf : Fr (fun _ => False) w W) (hi : Il W v' F) => iPlus W (.slice a1 n1 d1') v' he F (HHD.out.lh.1.keep hf (fun _ _ _ e => e)) hi
  obtain ⟨⟨P, pe⟩, hP⟩ : ∃ P, plusF he F = P := ⟨_, rfl⟩
  rw [hP] at hPl0
  simp only [hP] at hRd
  have HP := Lib.hid hP
  obtain ⟨nP, hnP⟩ : ∃ n, P.length = n := ⟨_, rfl⟩
  have hPN := Lib.hid hnP
  have hDo0 : ∀ W v', Fr (fun _ => False) w W → Il W v' F → Calls Tryz.prog 31 #[.pointer (some ⟨gs, 0, none⟩), .int .i64 2, v'] W fun e w' => e = .returned (.int .i64 (doS A 2 F).1) ∧ ∃ T0', SB w' g gs m T0' TB (doS A 2 F).2 l ∧ Stp T0 W w' T0' := fun W v' hf hi => by
    have hW := HSB.out.keep hf (fun _ _ e => e)
    refine (sDo W gs T0 A 2 v' F hW.stk hA hi).mono ?_
    rintro e w' ⟨rfl, T0', h1, h2⟩
    exact ⟨rfl, T0', hW.stock h1 h2, h2⟩
  obtain ⟨⟨de, D⟩, hD⟩ : ∃ D, doS A 2 F = D := ⟨_, rfl⟩
  rw [hD] at hDo0
  simp only [hD] at hRd
  have hDA0 : de ≠ 0 → D = A := by
    have := doS_no (A := A) (k := 2) (L := F)
    rw [hD] at this
    exact this
  have hnbT : Hid (∀ b, w.heap.size ≤ b → ¬ T0 b) := Lib.hid (fun b hb e => by have := h.stk.lt b e; omega)
  have hh := Lib.hid hh
  have HMY := Lib.hid hmy0
  (try dsimp only at hRd)
  have HLN := Lib.hid hln0; have HN2 := Lib.hid hn2; have HN3 := Lib.hid hn3
  clear h hv c0 c1 hR' hhd hlook0 hno hmlen hlv hX hF hP hD hisn hsm hllen hmy0 hk
  by_cases hq1 : mayO o = 0
  case neg =>
    rw [if_pos hq1] at hRd
    have hR := Lib.hid hRd
    have q1 : (mayO o != 0) = true := by simpa using hq1
    clear hRd
    go_enter Tryz.func8, Tryz.ntmps8
    go_wp2_with (go_at_call 26; refine hm.out.mono ?_; rintro e w0 ⟨rfl, rfl⟩)
    go_ret2
    rw [hR.out]
    exact ⟨_, T0, TB, l, rfl, HSB.out, rfl, il_nil _, fun b hb => (by cases hb), Fr.refl _ _, fun b hb => .inl hb, fun b hb => .inl hb⟩
  rw [if_neg (by simpa using hq1)] at hRd
  rw [hq1] at hm
  clear hq1
  cases hq2 : mayL L with
  | false =>
    rw [if_pos hq2] at hRd
    have hR := Lib.hid hRd
    rw [hq2] at hMay
    clear hRd hq2
    go_enter Tryz.func8, Tryz.ntmps8
    go_wp2_with (first
      | (go_at_call 26; refine hm.out.mono ?_; rintro e w0 ⟨rfl, rfl⟩)
      | (go_at_call 27; refine hh.out.mono ?_; rintro e w1 ⟨rfl, hf1⟩; have HF1 := Lib.hid hf1; have HW1 := Lib.hid hf1.size; clear hf1)
      | (go_at_call 28; refine (hMay.out _ (HF1.out.alloc _)).mono ?_; rintro e w2 ⟨rfl, hf2⟩; have hb2 := hf2.at_ (heap_at (w := w1) rfl (.cells #[.int .i64 o, .slice a1 n1 d1', .slice a2 n2 d2', .slice a3 n3 d3'] 37)) (fun e => e); have HB2 := Lib.hid hb2; have y0 := cell_obj hb2 0 (.int .i64 o) rfl; have y1 := cell_obj hb2 1 (.slice a1 n1 d1') rfl; have y2 := cell_obj hb2 2 (.slice a2 n2 d2') rfl; have y3 := cell_obj hb2 3 (.slice a3 n3 d3') rfl; have HF2 := Lib.hid ((HF1.out.alloc _).trans hf2); have HZ12 : Hid (w1.heap.size + 1 ≤ w2.heap.size) := Lib.hid (by have := hf2.size; rw [World.size_alloc] at this; exact this); obtain ⟨g0, g1⟩ := hgc.out _ HF2.out; clear hf2 hb2))
    go_ret2
    rw [hR.out]
    exact ⟨_, T0, TB, l, rfl, HSB.out.keep HF2.out (fun _ _ e => e), rfl, il_nil _, fun b hb => (by cases hb), HF2.out.mono (fun _ _ e => e.elim), fun b hb => .inl hb, fun b hb => .inl hb⟩
  | true =>
  rw [if_neg (by rw [hq2]; simp)] at hRd
  rw [hq2] at hMay
  have hLl := (mayL_iff.1 hq2).2
  rw [if_pos hq2] at hOf0
  have hOf := Lib.hid hOf0
  have hPl := Lib.hid hPl0; have hDo2 := Lib.hid hDo0
  clear hq2 hOf0 hPl0 hDo0
  have hw1 : IntKind.i64.wrap ((n2 : Int) + n3) = (n2 : Int) + n3 := IntWalk.i64_in _ ⟨by omega, by omega⟩
  by_cases hq3 : 0 < n2 + n3
  case pos =>
    rw [if_pos hq3] at hRd
    have hR := Lib.hid hRd
    have hI : (0 : Int) < (n2 : Int) + n3 := by omega
    clear hRd hq3
    go_enter Tryz.func8, Tryz.ntmps8
    go_wp2_with (first
      | (go_at_call 26; refine hm.out.mono ?_; rintro e w0 ⟨rfl, rfl⟩)
      | (go_at_call 27; refine hh.out.mono ?_; rintro e w1 ⟨rfl, hf1⟩; have HF1 := Lib.hid hf1; have HW1 := Lib.hid hf1.size; clear hf1)
      | (go_at_call 28; refine (hMay.out _ (HF1.out.alloc _)).mono ?_; rintro e w2 ⟨rfl, hf2⟩; have hb2 := hf2.at_ (heap_at (w := w1) rfl (.cells #[.int .i64 o, .slice a1 n1 d1', .slice a2 n2 d2', .slice a3 n3 d3'] 37)) (fun e => e); have HB2 := Lib.hid hb2; have y0 := cell_obj hb2 0 (.int .i64 o) rfl; have y1 := cell_obj hb2 1 (.slice a1 n1 d1') rfl; have y2 := cell_obj hb2 2 (.slice a2 n2 d2') rfl; have y3 := cell_obj hb2 3 (.slice a3 n3 d3') rfl; have HF2 := Lib.hid ((HF1.out.alloc _).trans hf2); have HZ12 : Hid (w1.heap.size + 1 ≤ w2.heap.size) := Lib.hid (by have := hf2.size; rw [World.size_alloc] at this; exact this); obtain ⟨g0, g1⟩ := hgc.out _ HF2.out; clear hf2 hb2))
    go_ret2
    rw [hR.out]
    exact ⟨_, T0, TB, l, rfl, HSB.out.keep HF2.out (fun _ _ e => e), rfl, il_nil _, fun b hb => (by cases hb), HF2.out.mono (fun _ _ e => e.elim), fun b hb => .inl hb, fun b hb => .inl hb⟩
  rw [if_neg hq3] at hRd
  have hI3 : ¬ (0 : Int) < (n2 : Int) + n3 := by omega
  by_cases hq4 : F = []
  case pos =>
    rw [if_pos hq4] at hRd
    have hR := Lib.hid hRd
    obtain rfl : nF = 0 := by rw [← hnF, hq4]; rfl
    clear hRd hq3 hnF hq4
    go_enter Tryz.func8, Tryz.ntmps8
    go_wp2_with (first
      | (go_at_call 26; refine hm.out.mono ?_; rintro e w0 ⟨rfl, rfl⟩)
      | (go_at_call 27; refine hh.out.mono ?_; rintro e w1 ⟨rfl, hf1⟩; have HF1 := Lib.hid hf1; have HW1 := Lib.hid hf1.size; clear hf1)
      | (go_at_call 28; refine (hMay.out _ (HF1.out.alloc _)).mono ?_; rintro e w2 ⟨rfl, hf2⟩; have hb2 := hf2.at_ (heap_at (w := w1) rfl (.cells #[.int .i64 o, .slice a1 n1 d1', .slice a2 n2 d2', .slice a3 n3 d3'] 37)) (fun e => e); have HB2 := Lib.hid hb2; have y0 := cell_obj hb2 0 (.int .i64 o) rfl; have y1 := cell_obj hb2 1 (.slice a1 n1 d1') rfl; have y2 := cell_obj hb2 2 (.slice a2 n2 d2') rfl; have y3 := cell_obj hb2 3 (.slice a3 n3 d3') rfl; have HF2 := Lib.hid ((HF1.out.alloc _).trans hf2); have HZ12 : Hid (w1.heap.size + 1 ≤ w2.heap.size) := Lib.hid (by have := hf2.size; rw [World.size_alloc] at this; exact this); obtain ⟨g0, g1⟩ := hgc.out _ HF2.out; clear hf2 hb2)
      | (go_at_call 29; refine (hOf.out _ HF2.out).mono ?_; rintro e w3 ⟨v3, rfl, hi3, ho3, hf3⟩; obtain ⟨fa, fc, rfl⟩ := hi3.sl; rw [hFN.out] at hi3 ho3; (try rw [hFN.out]); have HF3 := Lib.hid (HF2.out.trans hf3); clear hi3 ho3 hf3))
    go_ret2
    rw [hR.out]
    exact ⟨_, T0, TB, l, rfl, HSB.out.keep HF3.out (fun _ _ e => e), rfl, il_nil _, fun b hb => (by cases hb), HF3.out.mono (fun _ _ e => e.elim), fun b hb => .inl hb, fun b hb => .inl hb⟩
  rw [if_neg hq4] at hRd
  have hF0 : 0 < nF := by
    rcases Nat.eq_zero_or_pos nF with h0 | h0
    · exact absurd (List.eq_nil_of_length_eq_zero (hnF.trans h0)) hq4
    · exact h0
  have hF1 : ((nF : Int) == 0) = false := by simp; omega
  have hFl2 : nF ≤ 16 := by omega
  clear hnF hq3 hq4 hFl
  by_cases hq5 : isn = true ∧ 256 ≤ ll
  case pos =>
    rw [if_pos hq5] at hRd
    have hR := Lib.hid hRd
    obtain ⟨rfl, hq5⟩ := hq5
    have hI : (256 : Int) ≤ ll := by omega
    clear hRd
    go_enter Tryz.func8, Tryz.ntmps8
    go_wp2_with (first
      | (go_at_call 26; refine hm.out.mono ?_; rintro e w0 ⟨rfl, rfl⟩)
      | (go_at_call 27; refine hh.out.mono ?_; rintro e w1 ⟨rfl, hf1⟩; have HF1 := Lib.hid hf1; have HW1 := Lib.hid hf1.size; clear hf1)
      | (go_at_call 28; refine (hMay.out _ (HF1.out.alloc _)).mono ?_; rintro e w2 ⟨rfl, hf2⟩; have hb2 := hf2.at_ (heap_at (w := w1) rfl (.cells #[.int .i64 o, .slice a1 n1 d1', .slice a2 n2 d2', .slice a3 n3 d3'] 37)) (fun e => e); have HB2 := Lib.hid hb2; have y0 := cell_obj hb2 0 (.int .i64 o) rfl; have y1 := cell_obj hb2 1 (.slice a1 n1 d1') rfl; have y2 := cell_obj hb2 2 (.slice a2 n2 d2') rfl; have y3 := cell_obj hb2 3 (.slice a3 n3 d3') rfl; have HF2 := Lib.hid ((HF1.out.alloc _).trans hf2); have HZ12 : Hid (w1.heap.size + 1 ≤ w2.heap.size) := Lib.hid (by have := hf2.size; rw [World.size_alloc] at this; exact this); obtain ⟨g0, g1⟩ := hgc.out _ HF2.out; clear hf2 hb2)
      | (go_at_call 29; refine (hOf.out _ HF2.out).mono ?_; rintro e w3 ⟨v3, rfl, hi3, ho3, hf3⟩; obtain ⟨fa, fc, rfl⟩ := hi3.sl; rw [hFN.out] at hi3 ho3; (try rw [hFN.out]); have HI3 := Lib.hid hi3; have HO3 := Lib.hid ho3; have hb3 := hf3.at_ HB2.out (fun e => e); have HB3 := Lib.hid hb3; have z0 := cell_obj hb3 0 (.int .i64 o) rfl; have z1 := cell_obj hb3 1 (.slice a1 n1 d1') rfl; have z2 := cell_obj hb3 2 (.slice a2 n2 d2') rfl; have z3 := cell_obj hb3 3 (.slice a3 n3 d3') rfl; have HF3 := Lib.hid (HF2.out.trans hf3); have HZ3 := Lib.hid hf3.size; have HZ13 := Lib.hid (Nat.le_trans HZ12.out hf3.size); obtain ⟨g2, g3⟩ := hgc.out _ HF3.out; have hlk := hlook.out _ HF3.out; obtain ⟨g4, g5⟩ := hgc.out _ (HF3.out.alloc (.cells #[.int .i64 lo, .slice b1 k1 d1, .slice b2 k2 d2, .slice b3 k3 d3] 37)); have hln := hlen.out _ (HF3.out.alloc (.cells #[.int .i64 lo, .slice b1 k1 d1, .slice b2 k2 d2, .slice b3 k3 d3] 37)); have hb4 := heap_keep hb3 (.cells #[.int .i64 lo, .slice b1 k1 d1, .slice b2 k2 d2, .slice b3 k3 d3] 37); have u0 := cell_obj hb4 0 (.int .i64 o) rfl; have u1 := cell_obj hb4 1 (.slice a1 n1 d1') rfl; have u2 := cell_obj hb4 2 (.slice a2 n2 d2') rfl; have u3 := cell_obj hb4 3 (.slice a3 n3 d3') rfl; clear hi3 ho3 hf3 hb3 hb4))
    go_ret2
    rw [hR.out]
    exact ⟨_, T0, TB, l, rfl, HSB.out.keep (HF3.out.alloc _) (fun _ _ e => e), rfl, il_nil _, fun b hb => (by cases hb), (HF3.out.alloc _).mono (fun _ _ e => e.elim), fun b hb => .inl hb, fun b hb => .inl hb⟩
  rw [if_neg hq5] at hRd
  have hI5 : isn = false ∨ (isn = true ∧ ¬ (256 : Int) ≤ ll) := by
    cases isn with
    | false => exact .inl rfl
    | true => exact .inr ⟨rfl, fun e => hq5 ⟨rfl, by omega⟩⟩
  clear hq5
  by_cases hq6 : pe = 0
  case neg =>
    rw [if_pos hq6] at hRd
    have hR := Lib.hid hRd
    have q6 : (pe == 0) = false := by simpa using hq6
    have q7 : (pe != 0) = true := by simpa using hq6
    clear hRd hq6
    rcases hI5 with rfl | ⟨rfl, hI5⟩
    all_goals
      go_enter Tryz.func8, Tryz.ntmps8
      go_wp2_with (first
        | (go_at_call 26; refine hm.out.mono ?_; rintro e w0 ⟨rfl, rfl⟩)
        | (go_at_call 27; refine hh.out.mono ?_; rintro e w1 ⟨rfl, hf1⟩; have HF1 := Lib.hid hf1; have HW1 := Lib.hid hf1.size; clear hf1)
        | (go_at_call 28; refine (hMay.out _ (HF1.out.alloc _)).mono ?_; rintro e w2 ⟨rfl, hf2⟩; have hb2 := hf2.at_ (heap_at (w := w1) rfl (.cells #[.int .i64 o, .slice a1 n1 d1', .slice a2 n2 d2', .slice a3 n3 d3'] 37)) (fun e => e); have HB2 := Lib.hid hb2; have y0 := cell_obj hb2 0 (.int .i64 o) rfl; have y1 := cell_obj hb2 1 (.slice a1 n1 d1') rfl; have y2 := cell_obj hb2 2 (.slice a2 n2 d2') rfl; have y3 := cell_obj hb2 3 (.slice a3 n3 d3') rfl; have HF2 := Lib.hid ((HF1.out.alloc _).trans hf2); have HZ12 : Hid (w1.heap.size + 1 ≤ w2.heap.size) := Lib.hid (by have := hf2.size; rw [World.size_alloc] at this; exact this); obtain ⟨g0, g1⟩ := hgc.out _ HF2.out; clear hf2 hb2)
        | (go_at_call 29; refine (hOf.out _ HF2.out).mono ?_; rintro e w3 ⟨v3, rfl, hi3, ho3, hf3⟩; obtain ⟨fa, fc, rfl⟩ := hi3.sl; rw [hFN.out] at hi3 ho3; (try rw [hFN.out]); have HI3 := Lib.hid hi3; have HO3 := Lib.hid ho3; have hb3 := hf3.at_ HB2.out (fun e => e); have HB3 := Lib.hid hb3; have z0 := cell_obj hb3 0 (.int .i64 o) rfl; have z1 := cell_obj hb3 1 (.slice a1 n1 d1') rfl; have z2 := cell_obj hb3 2 (.slice a2 n2 d2') rfl; have z3 := cell_obj hb3 3 (.slice a3 n3 d3') rfl; have HF3 := Lib.hid (HF2.out.trans hf3); have HZ3 := Lib.hid hf3.size; have HZ13 := Lib.hid (Nat.le_trans HZ12.out hf3.size); obtain ⟨g2, g3⟩ := hgc.out _ HF3.out; have hlk := hlook.out _ HF3.out; obtain ⟨g4, g5⟩ := hgc.out _ (HF3.out.alloc (.cells #[.int .i64 lo, .slice b1 k1 d1, .slice b2 k2 d2, .slice b3 k3 d3] 37)); have hln := hlen.out _ (HF3.out.alloc (.cells #[.int .i64 lo, .slice b1 k1 d1, .slice b2 k2 d2, .slice b3 k3 d3] 37)); have hb4 := heap_keep hb3 (.cells #[.int .i64 lo, .slice b1 k1 d1, .slice b2 k2 d2, .slice b3 k3 d3] 37); have u0 := cell_obj hb4 0 (.int .i64 o) rfl; have u1 := cell_obj hb4 1 (.slice a1 n1 d1') rfl; have u2 := cell_obj hb4 2 (.slice a2 n2 d2') rfl; have u3 := cell_obj hb4 3 (.slice a3 n3 d3') rfl; clear hi3 ho3 hf3 hb3 hb4)
        | (go_at_call 30; refine (hPl.out _ _ (HF3.out.alloc _) (HI3.out.keep ((Fr.refl (fun _ => False) _).alloc _) (fun _ _ _ e => e))).mono ?_; rintro e w4 ⟨v4, rfl, ho4, hf4⟩; obtain ⟨pa, pc, rfl⟩ := row_slice ho4; (try rw [hPN.out]); have HO4 := Lib.hid ho4; have HG4 := Lib.hid (((Fr.refl (fun _ => False) w3).alloc (.cells #[.int .i64 lo, .slice b1 k1 d1, .slice b2 k2 d2, .slice b3 k3 d3] 37)).trans hf4); have HF4 := Lib.hid (HF3.out.trans HG4.out); have HZ4 := Lib.hid hf4.size; have HI4 := Lib.hid (HI3.out.keep HG4.out (fun _ _ _ e => e)); obtain ⟨g6, g7⟩ := hgc.out _ HF4.out; clear ho4 hf4))
      go_ret2
      rw [hR.out]
      exact ⟨_, T0, TB, l, rfl, HSB.out.keep HF4.out (fun _ _ e => e), rfl, il_nil _, fun b hb => (by cases hb), HF4.out.mono (fun _ _ e => e.elim), fun b hb => .inl hb, fun b hb => .inl hb⟩
  rw [if_neg (by simpa using hq6)] at hRd
  subst hq6
  by_cases hq7 : de = 0
  case neg =>
    rw [if_pos hq7] at hRd
    have hR := Lib.hid hRd
    have q7 : (de != 0) = true := by simpa using hq7
    have hDA : Hid (D = A) := Lib.hid (hDA0 hq7)
    clear hRd
    rcases hI5 with rfl | ⟨rfl, hI5⟩
    all_goals
      go_enter Tryz.func8, Tryz.ntmps8
      go_wp2_with (first
        | (go_at_call 26; refine hm.out.mono ?_; rintro e w0 ⟨rfl, rfl⟩)
        | (go_at_call 27; refine hh.out.mono ?_; rintro e w1 ⟨rfl, hf1⟩; have HF1 := Lib.hid hf1; have HW1 := Lib.hid hf1.size; clear hf1)
        | (go_at_call 28; refine (hMay.out _ (HF1.out.alloc _)).mono ?_; rintro e w2 ⟨rfl, hf2⟩; have hb2 := hf2.at_ (heap_at (w := w1) rfl (.cells #[.int .i64 o, .slice a1 n1 d1', .slice a2 n2 d2', .slice a3 n3 d3'] 37)) (fun e => e); have HB2 := Lib.hid hb2; have y0 := cell_obj hb2 0 (.int .i64 o) rfl; have y1 := cell_obj hb2 1 (.slice a1 n1 d1') rfl; have y2 := cell_obj hb2 2 (.slice a2 n2 d2') rfl; have y3 := cell_obj hb2 3 (.slice a3 n3 d3') rfl; have HF2 := Lib.hid ((HF1.out.alloc _).trans hf2); have HZ12 : Hid (w1.heap.size + 1 ≤ w2.heap.size) := Lib.hid (by have := hf2.size; rw [World.size_alloc] at this; exact this); obtain ⟨g0, g1⟩ := hgc.out _ HF2.out; clear hf2 hb2)
        | (go_at_call 29; refine (hOf.out _ HF2.out).mono ?_; rintro e w3 ⟨v3, rfl, hi3, ho3, hf3⟩; obtain ⟨fa, fc, rfl⟩ := hi3.sl; rw [hFN.out] at hi3 ho3; (try rw [hFN.out]); have HI3 := Lib.hid hi3; have HO3 := Lib.hid ho3; have hb3 := hf3.at_ HB2.out (fun e => e); have HB3 := Lib.hid hb3; have z0 := cell_obj hb3 0 (.int .i64 o) rfl; have z1 := cell_obj hb3 1 (.slice a1 n1 d1') rfl; have z2 := cell_obj hb3 2 (.slice a2 n2 d2') rfl; have z3 := cell_obj hb3 3 (.slice a3 n3 d3') rfl; have HF3 := Lib.hid (HF2.out.trans hf3); have HZ3 := Lib.hid hf3.size; have HZ13 := Lib.hid (Nat.le_trans HZ12.out hf3.size); obtain ⟨g2, g3⟩ := hgc.out _ HF3.out; have hlk := hlook.out _ HF3.out; obtain ⟨g4, g5⟩ := hgc.out _ (HF3.out.alloc (.cells #[.int .i64 lo, .slice b1 k1 d1, .slice b2 k2 d2, .slice b3 k3 d3] 37)); have hln := hlen.out _ (HF3.out.alloc (.cells #[.int .i64 lo, .slice b1 k1 d1, .slice b2 k2 d2, .slice b3 k3 d3] 37)); have hb4 := heap_keep hb3 (.cells #[.int .i64 lo, .slice b1 k1 d1, .slice b2 k2 d2, .slice b3 k3 d3] 37); have u0 := cell_obj hb4 0 (.int .i64 o) rfl; have u1 := cell_obj hb4 1 (.slice a1 n1 d1') rfl; have u2 := cell_obj hb4 2 (.slice a2 n2 d2') rfl; have u3 := cell_obj hb4 3 (.slice a3 n3 d3') rfl; clear hi3 ho3 hf3 hb3 hb4)
        | (go_at_call 30; refine (hPl.out _ _ (HF3.out.alloc _) (HI3.out.keep ((Fr.refl (fun _ => False) _).alloc _) (fun _ _ _ e => e))).mono ?_; rintro e w4 ⟨v4, rfl, ho4, hf4⟩; obtain ⟨pa, pc, rfl⟩ := row_slice ho4; (try rw [hPN.out]); have HO4 := Lib.hid ho4; have HG4 := Lib.hid (((Fr.refl (fun _ => False) w3).alloc (.cells #[.int .i64 lo, .slice b1 k1 d1, .slice b2 k2 d2, .slice b3 k3 d3] 37)).trans hf4); have HF4 := Lib.hid (HF3.out.trans HG4.out); have HZ4 := Lib.hid hf4.size; have HI4 := Lib.hid (HI3.out.keep HG4.out (fun _ _ _ e => e)); obtain ⟨g6, g7⟩ := hgc.out _ HF4.out; clear ho4 hf4)
        | (go_at_call 31; refine (hDo2.out _ _ HF4.out HI4.out).mono ?_; rintro e w5 ⟨rfl, T0', hS5, hs5⟩; have HS5 := Lib.hid hS5; have Hs5 := Lib.hid hs5; clear hS5 hs5))
      go_ret2
      rw [hR.out]
      have hS5 := HS5.out
      rw [hDA.out] at hS5
      exact ⟨_, T0', TB, l, rfl, hS5, rfl, il_nil _, fun b hb => (by cases hb), (HF4.out.mono (fun _ _ e => e.elim)).trans' (Hs5.out.1.mono (fun _ _ e => .inl e)) (fun _ _ e => e), fun b hb => (Hs5.out.2 b hb).imp id (fun e => Nat.le_trans HF4.out.size e), fun b hb => .inl hb⟩
  rw [if_neg (by simpa using hq7)] at hRd
  subst hq7
  have hPk : mayL P = true := (plusF_ok HP.out).1
  have hPr := mayL_all hPk
  have hPok : ∀ p ∈ P, okS p.1 ∧ okI p.2 := fun p hp => by
    have h1 := hPr.row p hp
    have h2 := h1.1
    unfold goodB at h2
    simp only [Bool.and_eq_true, decide_eq_true_eq] at h2
    exact ⟨by unfold okS maxLen; omega, by unfold okI; omega⟩
  have hfinS : Hid (∀ (w1 w3 w4 w5 W5 : World) (T0' : Nat → Prop) (pa : Option Addr) (pc : Nat), Fr (fun _ => False) w3 w4 → Fr (fun _ => False) w w1 → w1.heap.size + 1 ≤ w3.heap.size → Fr (fun _ => False) w w4 → w4.ownsRow (w3.alloc (.cells #[.int .i64 lo, .slice b1 k1 d1, .slice b2 k2 d2, .slice b3 k3 d3] 37)).heap.size 65 2 (.slice pa P.length pc) P.length (itCs P) → SB w5 g gs m T0' TB D l → Stp T0 w4 w5 T0' → Fr (fun b => b = w1.heap.size) w5 W5 →
      Calls Tryz.prog 32 #[.pointer (some ⟨g, 0, none⟩), .agg #[.int .i64 o, .slice pa nP pc, .slice a2 n2 d2', .slice a3 n3 d3']] W5 fun e w6 => e = .returned (.tuple #[]) ∧ SB w6 g gs m T0' (fun b => TB b ∨ (w3.heap.size ≤ b ∧ b < w4.heap.size)) D (setH l ⟨o, .slice pa nP pc, .slice a2 n2 d2', .slice a3 n3 d3', P, pi, sh⟩) ∧ Fr (fun b => b = m) W5 w6) := Lib.hid (fun w1 w3 w4 w5 W5 T0' pa pc h34 hf1 hz hf4 ho hs hst hf5 => by
    have hsb := HSB.out
    have hlt := hsb.lt
    have z1 := hf1.size; have z4 := hf4.size; have z5 := hst.1.size; have z6 := hf5.size
    have hin : ∀ b, (b = g ∨ b = m ∨ T0' b ∨ TB b) → ¬ b = w1.heap.size := fun b hb e => by
      rcases hb with hb | hb | hb | hb
      · have := hlt b (.inl hb); omega
      · have := hlt b (.inr (.inl hb)); omega
      · rcases hst.2 b hb with hb | hb
        · have := hlt b (.inr (.inr (.inl hb))); omega
        · have := h34.size; omega
      · have := hlt b (.inr (.inr (.inr hb))); omega
    have hS5 := hs.keep hf5 hin
    have hF : Fr (fun b => T0 b ∨ b = w1.heap.size) w W5 := ((hf4.mono (fun _ _ e => e.elim)).trans' (hst.1.mono (fun _ _ e => .inl e)) (fun _ _ e => e)).trans' (hf5.mono (fun _ _ e => .inr e)) (fun _ _ e => e)
    have hi4 := (Il.own ho hPok)
    have hk1 : HOk W5 TB ⟨o, .slice a1 n1 d1', .slice a2 n2 d2', .slice a3 n3 d3', he, pi, sh⟩ := HHD.out.keep hF (fun b hb e => by
      rcases e with e | e
      · exact hsb.nb b hb e
      · exact hin b (.inr (.inr (.inr hb))) e)
    have hlP : Lb W5 (fun b => TB b ∨ (w3.heap.size ≤ b ∧ b < w4.heap.size)) (.slice pa nP pc) P := by
      have hfa : Fr (fun b => T0 b ∨ b = w1.heap.size) w4 W5 := (hst.1.mono (fun _ _ e => .inl e)).trans' (hf5.mono (fun _ _ e => .inr e)) (fun _ _ e => e)
      have h1 := hi4.1.keep hfa (fun _ b hb e => by
        have := hi4.2 b hb
        rw [World.size_alloc] at this
        rcases e with e | e
        · have := hlt b (.inr (.inr (.inl e))); omega
        · omega)
      rw [hPN.out] at h1
      refine ⟨h1, fun _ b hb => .inr ?_⟩
      have := hi4.2 b (by rw [hPN.out]; exact hb)
      rw [World.size_alloc] at this
      omega
    have hln := hPr.len
    refine hset W5 g gs m T0' TB _ D l ⟨o, .slice pa nP pc, .slice a2 n2 d2', .slice a3 n3 d3', P, pi, sh⟩ hS5 (fun b hb => .inl hb) ⟨hk1.o, hlP, hk1.lp.mono (fun b hb => .inl hb), hk1.ls.mono (fun b hb => .inl hb)⟩ (fun b hb => ?_) (by rw [HLLEN.out]; exact hll) ⟨by dsimp only; omega, by dsimp only; have := HLN.out.2.1; have := HN2.out; omega, by dsimp only; have := HLN.out.2.2; have := HN3.out; omega⟩
    rcases hb with hb | hb
    · have hb1 := hsb.ltb b hb
      refine ⟨by omega, fun e => ?_, fun e => hsb.ng.2.1 (e ▸ hb), fun e => hsb.nm.2 (e ▸ hb)⟩
      rcases hst.2 b e with e | e
      · exact hsb.nb b hb e
      · omega
    · have hg := hlt g (.inl rfl); have hm' := hlt m (.inr (.inl rfl))
      refine ⟨by omega, fun e => ?_, fun e => by omega, fun e => by omega⟩
      rcases hst.2 b e with e | e
      · have := hlt b (.inr (.inr (.inl e))); omega
      · omega)
  have hfinC : Hid (∀ (w1 w2 w3 w4 w5 W5 w6 : World) (T0' : Nat → Prop) (fa : Option Addr) (fc : Nat), Fr (fun _ => False) w w1 → w1.heap.size + 1 ≤ w2.heap.size → Fr (fun _ => False) w w2 → w2.heap.size ≤ w3.heap.size → Il w4 (.slice fa nF fc) F → (∀ b, (Value.slice fa nF fc).ownBlock = some b → w2.heap.size ≤ b ∧ b < w3.heap.size) → Fr (fun _ => False) w w4 → Stp T0 w4 w5 T0' → Fr (fun b => b = w1.heap.size) w5 W5 → Fr (fun b => b = m) W5 w6 →
      Calls Tryz.prog 33 #[.slice fa nF fc] w6 fun e w' => ∃ v', e = .returned v' ∧ w'.ownsRow w6.heap.size 65 2 v' nF (itCs F) ∧ Fr (fun _ => False) w6 w') := Lib.hid (fun w1 w2 w3 w4 w5 W5 w6 T0' fa fc hf1 hz hf2 hz3 hi ho hf4 hst hf5 hf6 => by
    have hlt := HSB.out.lt
    have z1 := hf1.size; have z2 := hf2.size
    have hfa : Fr (fun b => T0 b ∨ b = w1.heap.size ∨ b = m) w4 w6 := ((hst.1.mono (fun _ _ e => .inl e)).trans' (hf5.mono (fun _ _ e => .inr (.inl e))) (fun _ _ e => e)).trans' (hf6.mono (fun _ _ e => .inr (.inr e))) (fun _ _ e => e)
    have hi6 := hi.keep hfa (fun _ b hb e => by
      have := ho b hb
      rcases e with e | e | e
      · have := hlt b (.inr (.inr (.inl e))); omega
      · omega
      · have := hlt m (.inr (.inl rfl)); omega)
    have := itClone w6 _ F hi6 (by rw [hFN.out]; omega)
    rw [hFN.out] at this
    exact this)
  have hR := Lib.hid hRd
  clear hRd hPk hPr hPok hDA0
  rcases hI5 with rfl | ⟨rfl, hI5⟩
  all_goals
    go_enter Tryz.func8, Tryz.ntmps8
    go_wp2_with (first
      | (go_at_call 26; refine hm.out.mono ?_; rintro e w0 ⟨rfl, rfl⟩)
      | (go_at_call 27; refine hh.out.mono ?_; rintro e w1 ⟨rfl, hf1⟩; have HF1 := Lib.hid hf1; have HW1 := Lib.hid hf1.size; clear hf1)
      | (go_at_call 28; refine (hMay.out _ (HF1.out.alloc _)).mono ?_; rintro e w2 ⟨rfl, hf2⟩; have hb2 := hf2.at_ (heap_at (w := w1) rfl (.cells #[.int .i64 o, .slice a1 n1 d1', .slice a2 n2 d2', .slice a3 n3 d3'] 37)) (fun e => e); have HB2 := Lib.hid hb2; have y0 := cell_obj hb2 0 (.int .i64 o) rfl; have y1 := cell_obj hb2 1 (.slice a1 n1 d1') rfl; have y2 := cell_obj hb2 2 (.slice a2 n2 d2') rfl; have y3 := cell_obj hb2 3 (.slice a3 n3 d3') rfl; have HF2 := Lib.hid ((HF1.out.alloc _).trans hf2); have HZ12 : Hid (w1.heap.size + 1 ≤ w2.heap.size) := Lib.hid (by have := hf2.size; rw [World.size_alloc] at this; exact this); obtain ⟨g0, g1⟩ := hgc.out _ HF2.out; clear hf2 hb2)
      | (go_at_call 29; refine (hOf.out _ HF2.out).mono ?_; rintro e w3 ⟨v3, rfl, hi3, ho3, hf3⟩; obtain ⟨fa, fc, rfl⟩ := hi3.sl; rw [hFN.out] at hi3 ho3; (try rw [hFN.out]); have HI3 := Lib.hid hi3; have HO3 := Lib.hid ho3; have hb3 := hf3.at_ HB2.out (fun e => e); have HB3 := Lib.hid hb3; have z0 := cell_obj hb3 0 (.int .i64 o) rfl; have z1 := cell_obj hb3 1 (.slice a1 n1 d1') rfl; have z2 := cell_obj hb3 2 (.slice a2 n2 d2') rfl; have z3 := cell_obj hb3 3 (.slice a3 n3 d3') rfl; have HF3 := Lib.hid (HF2.out.trans hf3); have HZ3 := Lib.hid hf3.size; have HZ13 := Lib.hid (Nat.le_trans HZ12.out hf3.size); obtain ⟨g2, g3⟩ := hgc.out _ HF3.out; have hlk := hlook.out _ HF3.out; obtain ⟨g4, g5⟩ := hgc.out _ (HF3.out.alloc (.cells #[.int .i64 lo, .slice b1 k1 d1, .slice b2 k2 d2, .slice b3 k3 d3] 37)); have hln := hlen.out _ (HF3.out.alloc (.cells #[.int .i64 lo, .slice b1 k1 d1, .slice b2 k2 d2, .slice b3 k3 d3] 37)); have hb4 := heap_keep hb3 (.cells #[.int .i64 lo, .slice b1 k1 d1, .slice b2 k2 d2, .slice b3 k3 d3] 37); have u0 := cell_obj hb4 0 (.int .i64 o) rfl; have u1 := cell_obj hb4 1 (.slice a1 n1 d1') rfl; have u2 := cell_obj hb4 2 (.slice a2 n2 d2') rfl; have u3 := cell_obj hb4 3 (.slice a3 n3 d3') rfl; clear hi3 ho3 hf3 hb3 hb4)
      | (go_at_call 30; refine (hPl.out _ _ (HF3.out.alloc _) (HI3.out.keep ((Fr.refl (fun _ => False) _).alloc _) (fun _ _ _ e => e))).mono ?_; rintro e w4 ⟨v4, rfl, ho4, hf4⟩; obtain ⟨pa, pc, rfl⟩ := row_slice ho4; (try rw [hPN.out]); have HO4 := Lib.hid ho4; have HG4 := Lib.hid (((Fr.refl (fun _ => False) w3).alloc (.cells #[.int .i64 lo, .slice b1 k1 d1, .slice b2 k2 d2, .slice b3 k3 d3] 37)).trans hf4); have HF4 := Lib.hid (HF3.out.trans HG4.out); have HZ4 := Lib.hid hf4.size; have HI4 := Lib.hid (HI3.out.keep HG4.out (fun _ _ _ e => e)); obtain ⟨g6, g7⟩ := hgc.out _ HF4.out; clear ho4 hf4)
      | (go_at_call 31; refine (hDo2.out _ _ HF4.out HI4.out).mono ?_; rintro e w5 ⟨rfl, T0', hS5, hs5⟩; have HS5 := Lib.hid hS5; have Hs5 := Lib.hid hs5; have hb5 := hs5.1.at_ (HG4.out.at_ HB3.out (fun e => e)) (hnbT.out _ (by have := HW1.out; omega)); have f5 := obj_frozen hb5 1; have q0 := cell_obj hb5 0 (.int .i64 o) rfl; have q1 := cell_obj hb5 1 (.slice a1 n1 d1') rfl; have q2 := cell_obj hb5 2 (.slice a2 n2 d2') rfl; have q3 := cell_obj hb5 3 (.slice a3 n3 d3') rfl; obtain ⟨W5, hW5⟩ : ∃ W5, w5.setCell ⟨w1.heap.size, 1, none⟩ (.slice pa nP pc) = W5 := ⟨_, rfl⟩; have hb6 := obj_set hb5 1 (.slice pa nP pc); rw [hW5] at hb6; have hf56 : Fr (fun b => b = w1.heap.size) w5 W5 := (by rw [← hW5]; exact (Fr.refl (fun b => b = w1.heap.size) _).setCell (p := ⟨w1.heap.size, 1, none⟩) (fun _ => rfl) _); have HF56 := Lib.hid hf56; have HB6 := Lib.hid hb6; have p0 := cell_obj hb6 0 (.int .i64 o) rfl; have p1 := cell_obj hb6 1 (.slice pa nP pc) rfl; have p2 := cell_obj hb6 2 (.slice a2 n2 d2') rfl; have p3 := cell_obj hb6 3 (.slice a3 n3 d3') rfl; have hset5 := Lib.hid (hfinS.out w1 w3 w4 w5 W5 T0' pa pc HG4.out HF1.out HZ13.out HF4.out HO4.out HS5.out Hs5.out HF56.out); clear hf56 hb6 hS5 hs5 hb5)
      | (go_at_call 32; refine hset5.out.mono ?_; rintro e w6 ⟨rfl, hS6, hf6⟩; have HS6 := Lib.hid hS6; have HF6 := Lib.hid hf6; clear hS6 hf6)
      | (go_at_call 33; refine (hfinC.out w1 w2 w3 w4 w5 W5 w6 T0' fa fc HF1.out HZ12.out HF2.out HZ3.out HI4.out HO3.out HF4.out Hs5.out HF56.out HF6.out).mono ?_; rintro e w7 ⟨v7, rfl, ho7, hf7⟩; obtain ⟨ra, rc, rfl⟩ := row_slice ho7; have HO7 := Lib.hid ho7; have HF7 := Lib.hid hf7; clear ho7 hf7))
    go_ret2
    rw [hR.out]
    have hlt := HSB.out.lt
    have z1 := HF1.out.size; have z12 := HZ12.out; have z3 := HZ3.out; have z4 := HF4.out.size; have z5 := Hs5.out.1.size; have z6 := HF56.out.size; have z7 := HF6.out.size; have z13 := HZ13.out
    have hS7 := HS6.out.keep HF7.out (fun _ _ e => e)
    have hFk : ∀ p ∈ F, okS p.1 ∧ okI p.2 := fun p hp => il_okm' HI4.out hp
    have ho7 := HO7.out
    rw [← hFN.out] at ho7
    have hi7 := Il.own ho7 hFk
    have hlt6 := HS6.out.lt
    refine ⟨_, T0', _, _, rfl, hS7, setE_map _ _, by rw [hFN.out] at hi7; exact hi7.1, fun b hb => ?_, ?_, fun b hb => ?_, fun b hb => ?_⟩
    · have := hi7.2 b (by rw [hFN.out]; exact hb)
      exact ⟨by omega, this.2, fun e => by have := hlt6 b (.inr (.inr (.inl e))); omega, fun e => by have := hlt6 b (.inr (.inr (.inr e))); omega⟩
    · exact (((HF4.out.mono (fun _ _ e => e.elim)).trans' (Hs5.out.1.mono (fun _ _ e => .inl e)) (fun _ _ e => e)).trans' (HF56.out.mono (S' := fun b => b = w1.heap.size) (fun _ _ e => e)) (fun b hb e => by omega)).trans' ((HF6.out.mono (fun _ _ e => .inr e)).trans (HF7.out.mono (fun _ _ e => e.elim))) (fun _ _ e => e)
    · rcases Hs5.out.2 b hb with e | e
      · exact .inl e
      · exact .inr (by omega)
    · rcases hb with e | e
      · exact .inl e
      · exact .inr (by omega)
end Go.Proofs.YtogphlnakdnchaaGreat

namespace Go.Proofs.YtogphlnakdnchaaGreat
open Go.RowKit Go.Maps
theorem hmvF_of (W : World) (b : Nat) : Calls Tryz.prog 35 #[.pointer (some ⟨b, 0, none⟩)] W fun e w' => e = .returned (.tuple #[.pointer (some ⟨b, 1, none⟩), .pointer none]) ∧ Fr (fun _ => False) W w' := by
  go_enter Tryz.func35, Tryz.ntmps35
  go_wp2_with fail
  go_ret2
  exact ⟨rfl, Fr.refl _ _⟩
set_option maxRecDepth 100000 in
set_option maxHeartbeats 16000000 in
theorem hmvF (w : World) (g gs m : Nat) (T0 TB : Nat → Prop) (A : Stk) (l : List (Int × HV)) (o : Int) (h : SB w g gs m T0 TB A l) (hA : SOk A) (ho : okI o) (hll : l.length ≤ 1000000) (hk : ∀ p ∈ mapE l, HEok p.1 p.2) :
    Calls Tryz.prog 34 #[.pointer (some ⟨g, 0, none⟩), .int .i64 o, .int .i64 3, .func (.func 35) #[] #[]] w fun e w' => ∃ v' T0' TB' l', e = .returned (.tuple #[v', .int .i64 (moveS A (mapE l) o 3 0 none).1.2]) ∧ SB w' g gs m T0' TB' (moveS A (mapE l) o 3 0 none).2.1 l' ∧ mapE l' = (moveS A (mapE l) o 3 0 none).2.2 ∧
      Il w' v' (moveS A (mapE l) o 3 0 none).1.1 ∧ (∀ b, v'.ownBlock = some b → w.heap.size ≤ b ∧ b < w'.heap.size ∧ ¬ T0' b ∧ ¬ TB' b) ∧ Shs w w' m T0 TB T0' TB' := by
  obtain ⟨R, hR'⟩ : ∃ R, moveS A (mapE l) o 3 0 none = R := ⟨_, rfl⟩
  have hRd : R = moveS A (mapE l) o 3 0 none := hR'.symm
  rw [hR']
  unfold moveS at hRd
  have HSB := Lib.hid h
  obtain ⟨c0, c1⟩ := h.cells
  have hm := Lib.hid (hmay w g m o c1)
  have hgc : Hid (∀ W, Fr (fun _ => False) w W → W.cell? ⟨g, 0, none⟩ = some (.pointer (some ⟨gs, 0, none⟩)) ∧ W.cell? ⟨g, 1, none⟩ = some (.map (some m))) := Lib.hid (fun W hf => (HSB.out.keep hf (fun _ _ e => e)).cells)
  have hhd := h.hold ho
  have hln0 := heOf_len hk o
  have hmy0 := heOf_may hk o
  rw [heOf_map] at hRd hln0 hmy0
  have hh := hhold w g gs m T0 TB A l o h ho
  obtain ⟨⟨xo, xh, xp, xs, he, pi, sh⟩, hX⟩ : ∃ X, holdOf l o = X := ⟨_, rfl⟩
  rw [hX] at hhd hh hRd hln0 hmy0
  obtain ⟨a1, d1, e1⟩ := hhd.1.lh.1.sl
  obtain ⟨a2, d2, e2⟩ := hhd.1.lp.1.sl
  obtain ⟨a3, d3, e3⟩ := hhd.1.ls.1.sl
  have hxo := hhd.2.symm
  dsimp only at e1 e2 e3 hxo
  subst e1 e2 e3 hxo
  simp only [HV.enc, HV.e, HE.get, HE.set] at hh hRd hln0 hmy0
  obtain ⟨n1, hn1⟩ : ∃ n, he.length = n := ⟨_, rfl⟩
  obtain ⟨n2, hn2⟩ : ∃ n, pi.length = n := ⟨_, rfl⟩
  obtain ⟨n3, hn3⟩ : ∃ n, sh.length = n := ⟨_, rfl⟩
  have HN1 := Lib.hid hn1; have HN2 := Lib.hid hn2; have HN3 := Lib.hid hn3; have HLN := Lib.hid hln0
  have HHD0 := hhd.1
  rw [hn1, hn2, hn3] at HHD0 hh
  have HHD := Lib.hid HHD0
  have HLL : Hid (l.length ≤ 1000000) := Lib.hid hll
  have hDo0 : ∀ W, Fr (fun _ => False) w W → Calls Tryz.prog 31 #[.pointer (some ⟨gs, 0, none⟩), .int .i64 3, .slice a1 n1 d1] W fun e w' => e = .returned (.int .i64 (doS A 3 he).1) ∧ ∃ T0', SB w' g gs m T0' TB (doS A 3 he).2 l ∧ Stp T0 W w' T0' := fun W hf => by
    have hW := HSB.out.keep hf (fun _ _ e => e)
    refine (sDo W gs T0 A 3 _ he hW.stk hA (HHD.out.lh.1.keep hf (fun _ _ _ e => e))).mono ?_
    rintro e w' ⟨rfl, T0', h1, h2⟩
    exact ⟨rfl, T0', hW.stock h1 h2, h2⟩
  have hDA1 := doS_no (A := A) (k := 3) (L := he)
  obtain ⟨⟨de, D⟩, hD⟩ : ∃ D, doS A 3 he = D := ⟨_, rfl⟩
  rw [hD] at hDo0 hDA1
  simp only [hD] at hRd
  have hDA0 : de ≠ 0 → D = A := hDA1
  have hnbT : Hid (∀ b, w.heap.size ≤ b → ¬ T0 b) := Lib.hid (fun b hb e => by have := h.stk.lt b e; omega)
  have hh := Lib.hid hh
  have hDo2 := Lib.hid hDo0
  clear h c0 c1 hR' hhd hX hD hmy0 hk hDo0 HHD0 hDA1 hln0 hll
  by_cases hq1 : mayO o = 0
  case neg =>
    rw [if_pos hq1] at hRd
    have hR := Lib.hid hRd
    have q1 : (mayO o != 0) = true := by simpa using hq1
    clear hRd
    go_enter Tryz.func34, Tryz.ntmps34
    go_wp2_with (go_at_call 26; refine hm.out.mono ?_; rintro e w0 ⟨rfl, rfl⟩)
    go_ret2
    rw [hR.out]
    exact ⟨_, T0, TB, l, rfl, HSB.out, rfl, il_nil _, fun b hb => (by cases hb), Fr.refl _ _, fun b hb => .inl hb, fun b hb => .inl hb⟩
  rw [if_neg (by simpa using hq1)] at hRd
  rw [hq1] at hm
  clear hq1
  by_cases hq4 : he = []
  case pos =>
    rw [if_pos hq4] at hRd
    have hR := Lib.hid hRd
    have hz0 : n1 = 0 := by rw [← hn1, hq4]; rfl
    have hz1 : ((n1 : Int) == 0) = true := by simp; omega
    clear hRd hn1 hq4 hz0
    go_enter Tryz.func34, Tryz.ntmps34
    go_wp2_with (first
      | (go_at_call 26; refine hm.out.mono ?_; rintro e w0 ⟨rfl, rfl⟩)
      | (go_at_call 27; refine hh.out.mono ?_; rintro e w1 ⟨rfl, hf1⟩; have HF1 := Lib.hid hf1; clear hf1)
      | (go_at_call 35; refine (hmvF_of _ _).mono ?_; rintro e w2 ⟨rfl, hf2⟩; have hb2 := hf2.at_ (heap_at (w := w1) rfl (.cells #[.int .i64 o, .slice a1 n1 d1, .slice a2 n2 d2, .slice a3 n3 d3] 37)) (fun e => e); have HB2 := Lib.hid hb2; have y0 := cell_obj hb2 0 (.int .i64 o) rfl; have y1 := cell_obj hb2 1 (.slice a1 n1 d1) rfl; have y2 := cell_obj hb2 2 (.slice a2 n2 d2) rfl; have y3 := cell_obj hb2 3 (.slice a3 n3 d3) rfl; have HZ12 : Hid (w1.heap.size + 1 ≤ w2.heap.size) := Lib.hid (by have := hf2.size; rw [World.size_alloc] at this; exact this); have HF2 := Lib.hid ((HF1.out.alloc _).trans hf2); obtain ⟨g0, g1⟩ := hgc.out _ HF2.out; clear hf2 hb2))
    go_ret2
    rw [hR.out]
    exact ⟨_, T0, TB, l, rfl, HSB.out.keep HF2.out (fun _ _ e => e), rfl, il_nil _, fun b hb => (by cases hb), HF2.out.mono (fun _ _ e => e.elim), fun b hb => .inl hb, fun b hb => .inl hb⟩
  rw [if_neg hq4] at hRd
  have hF0 : 0 < n1 := by
    rcases Nat.eq_zero_or_pos n1 with h0 | h0
    · exact absurd (List.eq_nil_of_length_eq_zero (hn1.trans h0)) hq4
    · exact h0
  have hF1 : ((n1 : Int) == 0) = false := by simp; omega
  clear hn1 hn2 hn3 hq4
  (try dsimp only at hRd)
  by_cases hq7 : de = 0
  case neg =>
    rw [if_pos hq7] at hRd
    have hR := Lib.hid hRd
    have q7 : (de != 0) = true := by simpa using hq7
    have hDA : Hid (D = A) := Lib.hid (hDA0 hq7)
    clear hRd
    go_enter Tryz.func34, Tryz.ntmps34
    go_wp2_with (first
      | (go_at_call 26; refine hm.out.mono ?_; rintro e w0 ⟨rfl, rfl⟩)
      | (go_at_call 27; refine hh.out.mono ?_; rintro e w1 ⟨rfl, hf1⟩; have HF1 := Lib.hid hf1; clear hf1)
      | (go_at_call 35; refine (hmvF_of _ _).mono ?_; rintro e w2 ⟨rfl, hf2⟩; have hb2 := hf2.at_ (heap_at (w := w1) rfl (.cells #[.int .i64 o, .slice a1 n1 d1, .slice a2 n2 d2, .slice a3 n3 d3] 37)) (fun e => e); have HB2 := Lib.hid hb2; have y0 := cell_obj hb2 0 (.int .i64 o) rfl; have y1 := cell_obj hb2 1 (.slice a1 n1 d1) rfl; have y2 := cell_obj hb2 2 (.slice a2 n2 d2) rfl; have y3 := cell_obj hb2 3 (.slice a3 n3 d3) rfl; have HZ12 : Hid (w1.heap.size + 1 ≤ w2.heap.size) := Lib.hid (by have := hf2.size; rw [World.size_alloc] at this; exact this); have HF2 := Lib.hid ((HF1.out.alloc _).trans hf2); obtain ⟨g0, g1⟩ := hgc.out _ HF2.out; clear hf2 hb2)
      | (go_at_call 31; refine (hDo2.out _ HF2.out).mono ?_; rintro e w5 ⟨rfl, T0', hS5, hs5⟩; have HS5 := Lib.hid hS5; have Hs5 := Lib.hid hs5; clear hS5 hs5))
    go_ret2
    rw [hR.out]
    have hS5 := HS5.out
    rw [hDA.out] at hS5
    exact ⟨_, T0', TB, l, rfl, hS5, rfl, il_nil _, fun b hb => (by cases hb), (HF2.out.mono (fun _ _ e => e.elim)).trans' (Hs5.out.1.mono (fun _ _ e => .inl e)) (fun _ _ e => e), fun b hb => (Hs5.out.2 b hb).imp id (fun e => Nat.le_trans HF2.out.size e), fun b hb => .inl hb⟩
  rw [if_neg (by simpa using hq7)] at hRd
  subst hq7
  have hfinS : Hid (∀ (w1 w2 w5 W7 : World) (T0' : Nat → Prop), Fr (fun _ => False) w w1 → w1.heap.size + 1 ≤ w2.heap.size → Fr (fun _ => False) w w2 → SB w5 g gs m T0' TB D l → Stp T0 w2 w5 T0' → Fr (fun b => b = w1.heap.size) w5 W7 →
      Calls Tryz.prog 32 #[.pointer (some ⟨g, 0, none⟩), .agg #[.int .i64 o, .slice none 0 0, .slice a2 n2 d2, .slice a3 n3 d3]] W7 fun e w6 => e = .returned (.tuple #[]) ∧ SB w6 g gs m T0' TB D (setH l ⟨o, .slice none 0 0, .slice a2 n2 d2, .slice a3 n3 d3, [], pi, sh⟩) ∧ Fr (fun b => b = m) W7 w6) := Lib.hid (fun w1 w2 w5 W7 T0' hf1 hz hf4 hs hst hf5 => by
    have hsb := HSB.out
    have hlt := hsb.lt
    have z1 := hf1.size; have z4 := hf4.size; have z5 := hst.1.size; have z6 := hf5.size
    have hin : ∀ b, (b = g ∨ b = m ∨ T0' b ∨ TB b) → ¬ b = w1.heap.size := fun b hb e => by
      rcases hb with hb | hb | hb | hb
      · have := hlt b (.inl hb); omega
      · have := hlt b (.inr (.inl hb)); omega
      · rcases hst.2 b hb with hb | hb
        · have := hlt b (.inr (.inr (.inl hb))); omega
        · omega
      · have := hlt b (.inr (.inr (.inr hb))); omega
    have hS5 := hs.keep hf5 hin
    have hF : Fr (fun b => T0 b ∨ b = w1.heap.size) w W7 := ((hf4.mono (fun _ _ e => e.elim)).trans' (hst.1.mono (fun _ _ e => .inl e)) (fun _ _ e => e)).trans' (hf5.mono (fun _ _ e => .inr e)) (fun _ _ e => e)
    have hk1 : HOk W7 TB ⟨o, .slice a1 n1 d1, .slice a2 n2 d2, .slice a3 n3 d3, he, pi, sh⟩ := HHD.out.keep hF (fun b hb e => by
      rcases e with e | e
      · exact hsb.nb b hb e
      · exact hin b (.inr (.inr (.inr hb))) e)
    have hnil : ∀ TB : Nat → Prop, Lb W7 TB (.slice none 0 0) [] := fun TB => ⟨il_nil _, fun e => absurd rfl e⟩
    have hl0 := HLN.out; have hl1 := HN1.out; have hl2 := HN2.out; have hl3 := HN3.out
    have HTB : ∀ b, TB b → TB b := fun b hb => hb
    refine hset W7 g gs m T0' TB _ D l ⟨o, .slice none 0 0, .slice a2 n2 d2, .slice a3 n3 d3, [], pi, sh⟩ hS5 HTB ⟨hk1.o, hnil _, hk1.lp.mono HTB, hk1.ls.mono HTB⟩ (fun b hb => ?_) HLL.out (by dsimp only [List.length_nil]; omega)
    have hb1 := hsb.ltb b hb
    refine ⟨by omega, fun e => ?_, fun e => hsb.ng.2.1 (e ▸ hb), fun e => hsb.nm.2 (e ▸ hb)⟩
    rcases hst.2 b e with e | e
    · exact hsb.nb b hb e
    · omega)
  have hfinC : Hid (∀ (w1 w4 w5 W7 w6 : World) (T0' : Nat → Prop), Fr (fun _ => False) w w1 → Fr (fun _ => False) w w4 → Stp T0 w4 w5 T0' → Fr (fun b => b = w1.heap.size) w5 W7 → Fr (fun b => b = m) W7 w6 →
      Calls Tryz.prog 33 #[.slice a1 n1 d1] w6 fun e w' => ∃ v', e = .returned v' ∧ w'.ownsRow w6.heap.size 65 2 v' n1 (itCs he) ∧ Fr (fun _ => False) w6 w') := Lib.hid (fun w1 w4 w5 W7 w6 T0' hf1 hf4 hst hf5 hf6 => by
    have hsb := HSB.out
    have hlt := hsb.lt
    have z1 := hf1.size
    have hfa : Fr (fun b => T0 b ∨ b = w1.heap.size ∨ b = m) w w6 := (((hf4.mono (fun _ _ e => e.elim)).trans' (hst.1.mono (fun _ _ e => .inl e)) (fun _ _ e => e)).trans' (hf5.mono (fun _ _ e => .inr (.inl e))) (fun _ _ e => e)).trans' (hf6.mono (fun _ _ e => .inr (.inr e))) (fun _ _ e => e)
    have hi6 := HHD.out.lh.keep hfa (fun b hb e => by
      rcases e with e | e | e
      · exact hsb.nb b hb e
      · have := hsb.ltb b hb; omega
      · exact hsb.nm.2 (e ▸ hb))
    have hl0 := HLN.out; have hl1 := HN1.out; have hl2 := HN2.out; have hl3 := HN3.out
    have := itClone w6 _ he hi6.1 (by omega)
    dsimp only at this
    rw [HN1.out] at this
    exact this)
  have hR := Lib.hid hRd
  clear hRd hDA0
  go_enter Tryz.func34, Tryz.ntmps34
  go_wp2_with (first
    | (go_at_call 26; refine hm.out.mono ?_; rintro e w0 ⟨rfl, rfl⟩)
    | (go_at_call 27; refine hh.out.mono ?_; rintro e w1 ⟨rfl, hf1⟩; have HF1 := Lib.hid hf1; clear hf1)
    | (go_at_call 35; refine (hmvF_of _ _).mono ?_; rintro e w2 ⟨rfl, hf2⟩; have hb2 := hf2.at_ (heap_at (w := w1) rfl (.cells #[.int .i64 o, .slice a1 n1 d1, .slice a2 n2 d2, .slice a3 n3 d3] 37)) (fun e => e); have HB2 := Lib.hid hb2; have y0 := cell_obj hb2 0 (.int .i64 o) rfl; have y1 := cell_obj hb2 1 (.slice a1 n1 d1) rfl; have y2 := cell_obj hb2 2 (.slice a2 n2 d2) rfl; have y3 := cell_obj hb2 3 (.slice a3 n3 d3) rfl; have HZ12 : Hid (w1.heap.size + 1 ≤ w2.heap.size) := Lib.hid (by have := hf2.size; rw [World.size_alloc] at this; exact this); have HF2 := Lib.hid ((HF1.out.alloc _).trans hf2); obtain ⟨g0, g1⟩ := hgc.out _ HF2.out; clear hf2 hb2)
    | (go_at_call 31; refine (hDo2.out _ HF2.out).mono ?_; rintro e w5 ⟨rfl, T0', hS5, hs5⟩; have HS5 := Lib.hid hS5; have Hs5 := Lib.hid hs5; have hb5 := hs5.1.at_ HB2.out (hnbT.out _ HF1.out.size); have f5 := obj_frozen hb5 1; have q0 := cell_obj hb5 0 (.int .i64 o) rfl; have q1 := cell_obj hb5 1 (.slice a1 n1 d1) rfl; have q2 := cell_obj hb5 2 (.slice a2 n2 d2) rfl; have q3 := cell_obj hb5 3 (.slice a3 n3 d3) rfl; obtain ⟨W6, hW6⟩ : ∃ W6, w5.setCell ⟨w1.heap.size, 1, none⟩ (.slice none 0 0) = W6 := ⟨_, rfl⟩; have hb6 := obj_set hb5 1 (.slice none 0 0); rw [hW6] at hb6; have hf56 : Fr (fun b => b = w1.heap.size) w5 W6 := (by rw [← hW6]; exact (Fr.refl (fun b => b = w1.heap.size) _).setCell (p := ⟨w1.heap.size, 1, none⟩) (fun _ => rfl) _); have r0 := cell_obj hb6 0 (.int .i64 o) rfl; have r1 := cell_obj hb6 1 (.slice none 0 0) rfl; have r2 := cell_obj hb6 2 (.slice a2 n2 d2) rfl; have r3 := cell_obj hb6 3 (.slice a3 n3 d3) rfl; obtain ⟨W7, hW7⟩ : ∃ W7, W7 = W6 := ⟨_, rfl⟩; obtain rfl : W7 = W6 := hW7; have hf57 := hf56; have hset5 := Lib.hid (hfinS.out w1 w2 w5 W7 T0' HF1.out HZ12.out HF2.out HS5.out Hs5.out hf57); have HF57 := Lib.hid hf57; clear hS5 hs5 hb5 hb6 hf56 hf57)
    | (go_at_call 32; refine hset5.out.mono ?_; rintro e w8 ⟨rfl, hS6, hf6⟩; have HS6 := Lib.hid hS6; have HF6 := Lib.hid hf6; clear hS6 hf6)
    | (go_at_call 33; refine (hfinC.out w1 w2 w5 W7 w8 T0' HF1.out HF2.out Hs5.out HF57.out HF6.out).mono ?_; rintro e w9 ⟨v9, rfl, ho9, hf9⟩; obtain ⟨ra, rc, rfl⟩ := row_slice ho9; have HO9 := Lib.hid ho9; have HF9 := Lib.hid hf9; clear ho9 hf9))
  go_ret2
  rw [hR.out]
  have hlt := HSB.out.lt
  have z1 := HF1.out.size; have z12 := HZ12.out; have z4 := HF2.out.size; have z5 := Hs5.out.1.size; have z6 := HF57.out.size; have z7 := HF6.out.size
  have hS7 := HS6.out.keep HF9.out (fun _ _ e => e)
  have hFk : ∀ p ∈ he, okS p.1 ∧ okI p.2 := fun p hp => il_okm' HHD.out.lh.1 hp
  have ho9 := HO9.out
  rw [← HN1.out] at ho9
  have hi7 := Il.own ho9 hFk
  have hlt6 := HS6.out.lt
  refine ⟨_, T0', _, _, rfl, hS7, setE_map _ _, by rw [HN1.out] at hi7; exact hi7.1, fun b hb => ?_, ?_, fun b hb => ?_, fun b hb => ?_⟩
  · have := hi7.2 b (by rw [HN1.out]; exact hb)
    exact ⟨by omega, this.2, fun e => by have := hlt6 b (.inr (.inr (.inl e))); omega, fun e => by have := hlt6 b (.inr (.inr (.inr e))); omega⟩
  · exact (((HF2.out.mono (fun _ _ e => e.elim)).trans' (Hs5.out.1.mono (fun _ _ e => .inl e)) (fun _ _ e => e)).trans' (HF57.out.mono (S' := fun b => b = w1.heap.size) (fun _ _ e => e)) (fun b hb e => by omega)).trans' ((HF6.out.mono (fun _ _ e => .inr e)).trans (HF9.out.mono (fun _ _ e => e.elim))) (fun _ _ e => e)
  · rcases Hs5.out.2 b hb with e | e
    · exact .inl e
    · exact .inr (by omega)
  · exact .inl hb
end Go.Proofs.YtogphlnakdnchaaGreat

namespace Go.Proofs.YtogphlnakdnchaaGreat
open Go.RowKit Go.Maps
end Go.Proofs.YtogphlnakdnchaaGreat

namespace Go.Proofs.YtogphlnakdnchaaGreat
open Go.RowKit Go.Maps
end Go.Proofs.YtogphlnakdnchaaGreat

namespace Go.Proofs.YtogphlnakdnchaaGreat
open Go.RowKit Go.Maps
end Go.Proofs.YtogphlnakdnchaaGreat

namespace Go.Proofs.YtogphlnakdnchaaGreat
open Go
section
variable {P : Program} {md : Region.Mode} {l : List Oper} {z : Oper} {C : World → Prop}
/-- Each operation waits for earlier ones only. -/
def acyB (md : Region.Mode) (ops : Array Oper) : Bool := (List.range ops.size).all fun k => match ops[k]? with
  | some o => o.after.all fun e => !Region.binds md e || decide (e.on < k)
  | none => true
theorem ready_some {ops : Array Oper} {listed : Array Bool} (ha : acyB md ops = true) (hs : listed.size = ops.size) : ∀ (n k : Nat), k < ops.size → k ≤ n → listed.getD k true = false → Region.ready md ops listed ≠ []
  | n, k, hk, hn, hu => by
    by_cases hall : ∀ j, j < k → listed.getD j false = true
    · intro e
      have : k ∈ Region.ready md ops listed := by
        refine mem_ready.2 ⟨hu, ops[k], Array.getElem?_eq_getElem hk, fun e he hb => ?_⟩
        have h1 := List.all_eq_true.1 ha k (List.mem_range.2 hk)
        rw [Array.getElem?_eq_getElem hk] at h1
        obtain ⟨i, hi, rfl⟩ := Array.mem_iff_getElem.1 he
        have h2 := Array.all_eq_true.1 h1 i hi
        simp only [hb, Bool.not_true, Bool.false_or, decide_eq_true_eq] at h2
        exact hall _ h2
      rw [e] at this; cases this
    · cases n with
      | zero => exact absurd (fun j hj => by omega) hall
      | succ n =>
        have : ∃ j, j < k ∧ listed.getD j false ≠ true := Classical.byContradiction fun h => hall fun j hj => Classical.byContradiction fun hne => h ⟨j, hj, hne⟩
        obtain ⟨j, hj, hne⟩ := this
        refine ready_some ha hs n j (by omega) (by omega) ?_
        exact getD_in (by omega) (by simpa using hne)
end
end Go.Proofs.YtogphlnakdnchaaGreat

