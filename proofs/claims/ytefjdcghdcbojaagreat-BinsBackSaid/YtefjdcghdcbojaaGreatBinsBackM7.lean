/- Texts of this claim, joined: Plain: floors that may be; the orders of Put and Take; bins: spread; bins: mayBin, apart, may; Goods' lengths, plainly; bins: Put, Take; bins: a floor whose row is turned in place; made, New's walk aside; A region that draws its order: operations that only read, and a chain of others (calls, then stores), each of which waits for the one ahead: one walk in the text's order serves; bins: New; slices.Clone on places; slices.SortStableFunc on []api.Place: insertionSort of a part; slices.SortStableFunc on []api.Place: symMerge where one part is of one element; slices.SortStableFunc on []api.Place: symMerge where the right part is of one element. -/
import Derived.Test.YtefjdcghdcbojaaGreatBinsBackM6
import Derived.Test.YtefjdcghdcbojaaGreatBinsBackM4
import Derived.Deep.QuietTactic
import Derived.Test.YtefjdcghdcbojaaGreatBinsBackM1
import Derived.Laws.EntriesVeiled
import Derived.Test.YtefjdcghdcbojaaGreatBinsBackM5
import Derived.Test.YtefjdcghdcbojaaGreatBinsBackM2
import Derived.Handy
import Derived.Lib.SliceRun
import Derived.BigQuiet
import Derived.Shelf.Abstract
namespace Go.Proofs.YtefjdcghdcbojaaGreat
open Go.RowKit
theorem idxK_map {α β : Type} (f : α → β) (L : List α) (isF : β → Bool) (k : Nat) : idxK (L.map f) isF k = idxK L (fun a => isF (f a)) k := by
  unfold idxK
  congr 1
  refine List.filter_congr fun i _ => ?_
  rw [List.getElem?_map]
  cases L[i]? <;> rfl
theorem cfI_map {α β : Type} (f : α → β) (L : List α) (cf : β → β → Int) (x y : Int) : cfI (L.map f) cf x y = cfI L (fun a b => cf (f a) (f b)) x y := by
  unfold cfI
  have e : ∀ x : Int, (if 0 ≤ x then (L.map f)[x.toNat]? else none) = (if 0 ≤ x then L[x.toNat]? else none).map f := fun x => by
    by_cases h : 0 ≤ x
    · rw [if_pos h, if_pos h, List.getElem?_map]
    · rw [if_neg h, if_neg h]; rfl
  rw [e, e]
  cases (if 0 ≤ x then L[x.toNat]? else none) <;> cases (if 0 ≤ y then L[y.toNat]? else none) <;> rfl
theorem ordI_map {α β : Type} (f : α → β) (L : List α) (isF : β → Bool) (cf : β → β → Int) : ordI (L.map f) isF cf = ordI L (fun a => isF (f a)) (fun a b => cf (f a) (f b)) := by
  unfold ordI
  rw [idxK_map, List.length_map]
  congr 1
  funext x y
  rw [cfI_map]
theorem swo_cfI {α : Type} {L : List α} {cf : α → α → Int} (h : SwoB (fun a b => decide (cf a b < 0))) : SwoB (fun x y => decide (cfI L cf x y < 0)) := by
  have key : ∀ x y, (∃ a b, (if 0 ≤ x then L[x.toNat]? else none) = some a ∧ (if 0 ≤ y then L[y.toNat]? else none) = some b ∧ cfI L cf x y = cf a b) ∨ (∃ a, (if 0 ≤ x then L[x.toNat]? else none) = some a ∧ (if 0 ≤ y then L[y.toNat]? else none) = none ∧ cfI L cf x y = -2) ∨ ((if 0 ≤ x then L[x.toNat]? else none) = none ∧ cfI L cf x y = 2) := fun x y => by
    unfold cfI
    cases h1 : (if 0 ≤ x then L[x.toNat]? else none) with
    | none => right; right; exact ⟨rfl, rfl⟩
    | some a =>
      cases h2 : (if 0 ≤ y then L[y.toNat]? else none) with
      | none => right; left; exact ⟨a, rfl, rfl, rfl⟩
      | some b => left; exact ⟨a, b, rfl, rfl, rfl⟩
  refine ⟨fun x => ?_, fun x y z h1 h2 => ?_, fun x y z h1 h2 => ?_⟩
  · rcases key x x with ⟨a, b, e1, e2, e3⟩ | ⟨a, e1, e2, e3⟩ | ⟨e1, e3⟩
    · rw [e1] at e2; cases e2; rw [e3]; exact h.irr a
    · rw [e1] at e2; cases e2
    · rw [e3]; rfl
  · rcases key x y with ⟨a, b, e1, e2, e3⟩ | ⟨a, e1, e2, e3⟩ | ⟨e1, e3⟩
    · rcases key y z with ⟨b', c, f1, f2, f3⟩ | ⟨b', f1, f2, f3⟩ | ⟨f1, f3⟩
      · rw [e2] at f1; cases f1
        rcases key x z with ⟨a', c', g1, g2, g3⟩ | ⟨a', g1, g2, g3⟩ | ⟨g1, g3⟩
        · rw [e1] at g1; cases g1; rw [f2] at g2; cases g2
          rw [g3]; rw [e3] at h1; rw [f3] at h2; exact h.tr _ _ _ h1 h2
        · rw [f2] at g2; cases g2
        · rw [e1] at g1; cases g1
      · rcases key x z with ⟨a', c', g1, g2, g3⟩ | ⟨a', g1, g2, g3⟩ | ⟨g1, g3⟩
        · rw [f2] at g2; cases g2
        · rw [g3]; rfl
        · rw [e1] at g1; cases g1
      · rw [e2] at f1; cases f1
    · rcases key y z with ⟨b', c, f1, f2, f3⟩ | ⟨b', f1, f2, f3⟩ | ⟨f1, f3⟩
      · rw [e2] at f1; cases f1
      · rw [e2] at f1; cases f1
      · rw [f3] at h2; cases h2
    · rw [e3] at h1; cases h1
  · rcases key x z with ⟨a, c, e1, e2, e3⟩ | ⟨a, e1, e2, e3⟩ | ⟨e1, e3⟩
    · rcases key x y with ⟨a', b, f1, f2, f3⟩ | ⟨a', f1, f2, f3⟩ | ⟨f1, f3⟩
      · rcases key y z with ⟨b', c', g1, g2, g3⟩ | ⟨b', g1, g2, g3⟩ | ⟨g1, g3⟩
        · rw [f2] at g1; cases g1; rw [e1] at f1; cases f1; rw [e2] at g2; cases g2
          rw [e3]; rw [f3] at h1; rw [g3] at h2; exact h.ntr _ _ _ h1 h2
        · rw [e2] at g2; cases g2
        · rw [f2] at g1; cases g1
      · rw [f3] at h1; cases h1
      · rw [e1] at f1; cases f1
    · rcases key x y with ⟨a', b, f1, f2, f3⟩ | ⟨a', f1, f2, f3⟩ | ⟨f1, f3⟩
      · rcases key y z with ⟨b', c', g1, g2, g3⟩ | ⟨b', g1, g2, g3⟩ | ⟨g1, g3⟩
        · rw [e2] at g2; cases g2
        · rw [g3] at h2; cases h2
        · rw [f2] at g1; cases g1
      · rw [f3] at h1; cases h1
      · rw [e1] at f1; cases f1
    · rw [e3]; rfl
theorem cmpI_lt {a b : Int} : cmpI a b < 0 ↔ a < b := by
  unfold cmpI
  by_cases h : a < b
  · simp [h]
  · by_cases h2 : b < a <;> simp [h, h2]
theorem cmpI_zero {a b : Int} : cmpI a b = 0 ↔ a = b := by
  unfold cmpI
  by_cases h : a < b
  · simp [h]; omega
  · by_cases h2 : b < a
    · simp [h, h2]; omega
    · simp [h, h2]; omega
theorem cmpI_in (a b : Int) : -1 ≤ cmpI a b ∧ cmpI a b ≤ 1 := by
  unfold cmpI
  split
  · omega
  · split <;> omega
theorem cfPut_lt {s : Str} {a b : BE} : cfPut s a b < 0 ↔ kindE a s < kindE b s ∨ (kindE a s = kindE b s ∧ kindE a s = 0 ∧ leftE a < leftE b) := by
  unfold cfPut
  by_cases h : cmpI (kindE a s) (kindE b s) ≠ 0 ∨ kindE a s ≠ 0
  · rw [if_pos h, cmpI_lt]
    rcases h with h | h
    · have h3 : ¬ kindE a s = kindE b s := fun e => h (cmpI_zero.2 e)
      omega
    · omega
  · rw [if_neg h, cmpI_lt]
    have h1 : cmpI (kindE a s) (kindE b s) = 0 := Classical.byContradiction fun e => h (.inl e)
    have h2 : kindE a s = 0 := Classical.byContradiction fun e => h (.inr e)
    have := cmpI_zero.1 h1
    omega
theorem cfPut_in (s : Str) (a b : BE) : -1 ≤ cfPut s a b ∧ cfPut s a b ≤ 1 := by
  unfold cfPut
  split
  · exact cmpI_in _ _
  · exact cmpI_in _ _
theorem cfPut_swo (s : Str) : SwoB (fun a b => decide (cfPut s a b < 0)) := by
  refine ⟨fun a => ?_, fun a b c h1 h2 => ?_, fun a b c h1 h2 => ?_⟩
  · refine decide_eq_false (fun h => ?_)
    have := cfPut_lt.1 h
    omega
  · have h1 := cfPut_lt.1 (of_decide_eq_true h1)
    have h2 := cfPut_lt.1 (of_decide_eq_true h2)
    exact decide_eq_true (cfPut_lt.2 (by omega))
  · have h1 : ¬ (kindE a s < kindE b s ∨ (kindE a s = kindE b s ∧ kindE a s = 0 ∧ leftE a < leftE b)) := fun e => of_decide_eq_false h1 (cfPut_lt.2 e)
    have h2 : ¬ (kindE b s < kindE c s ∨ (kindE b s = kindE c s ∧ kindE b s = 0 ∧ leftE b < leftE c)) := fun e => of_decide_eq_false h2 (cfPut_lt.2 e)
    refine decide_eq_false (fun h => ?_)
    have h := cfPut_lt.1 h
    omega
theorem cfTake_lt {s : Str} {a b : BE} : cfTake s a b < 0 ↔ ofF a.its s < ofF b.its s := cmpI_lt
theorem cfTake_in (s : Str) (a b : BE) : -1 ≤ cfTake s a b ∧ cfTake s a b ≤ 1 := cmpI_in _ _
theorem cfTake_swo (s : Str) : SwoB (fun a b => decide (cfTake s a b < 0)) := by
  refine ⟨fun a => ?_, fun a b c h1 h2 => ?_, fun a b c h1 h2 => ?_⟩
  · refine decide_eq_false (fun h => ?_)
    have := cfTake_lt.1 h
    omega
  · have h1 := cfTake_lt.1 (of_decide_eq_true h1)
    have h2 := cfTake_lt.1 (of_decide_eq_true h2)
    exact decide_eq_true (cfTake_lt.2 (by omega))
  · have h1 : ¬ ofF a.its s < ofF b.its s := fun e => of_decide_eq_false h1 (cfTake_lt.2 e)
    have h2 : ¬ ofF b.its s < ofF c.its s := fun e => of_decide_eq_false h2 (cfTake_lt.2 e)
    refine decide_eq_false (fun h => ?_)
    have h := cfTake_lt.1 h
    omega
/-- A bin that may be. -/
structure BEok (x : BE) : Prop where
  nu : 1 ≤ x.nu ∧ x.nu ≤ 4096
  zo : 0 ≤ x.zo ∧ x.zo ≤ 15
  ro : 1 ≤ x.ro ∧ x.ro ≤ 1099511627776
  may : mayL x.its = true
  tot : sumI x.its ≤ x.ro
theorem itsOk_rise : ∀ {L : Its} {last : Str}, itsOk last L = true → RiseI L ∧ ∀ p ∈ L, last < p.1
  | [], _, _ => ⟨List.Pairwise.nil, fun _ h => by cases h⟩
  | q :: r, last, h => by
    have h' : (goodB q.1 && decide (1 ≤ q.2) && mayI q.2 && decide (last < q.1) && itsOk q.1 r) = true := h
    simp only [Bool.and_eq_true, decide_eq_true_eq] at h'
    obtain ⟨⟨_, h4⟩, h5⟩ := h'
    obtain ⟨h6, h7⟩ := itsOk_rise h5
    exact ⟨List.pairwise_cons.2 ⟨h7, h6⟩, fun p hp => (List.mem_cons.1 hp).elim (fun e => e ▸ h4) (fun hp => str_trans h4 (h7 p hp))⟩
theorem itsOk_all : ∀ {L : Its} {last : Str}, itsOk last L = true → ∀ p ∈ L, goodB p.1 = true ∧ 1 ≤ p.2 ∧ mayI p.2 = true
  | [], _, _, p, hp => by cases hp
  | q :: r, last, h, p, hp => by
    have h' : (goodB q.1 && decide (1 ≤ q.2) && mayI q.2 && decide (last < q.1) && itsOk q.1 r) = true := h
    simp only [Bool.and_eq_true, decide_eq_true_eq] at h'
    obtain ⟨⟨⟨⟨h1, h2⟩, h3⟩, _⟩, h5⟩ := h'
    rcases List.mem_cons.1 hp with e | hp
    · rw [e]; exact ⟨h1, h2, h3⟩
    · exact itsOk_all h5 p hp
theorem good_lt {s : Str} (h : goodB s = true) : ([] : Str) < s := by
  cases s with
  | nil => simp [goodB] at h
  | cons a r => exact List.nil_lt_cons a r
theorem itsOk_of : ∀ {L : Its} {last : Str}, RiseI L → (∀ p ∈ L, last < p.1) → (∀ p ∈ L, goodB p.1 = true ∧ 1 ≤ p.2 ∧ mayI p.2 = true) → itsOk last L = true
  | [], _, _, _, _ => rfl
  | q :: r, last, h1, h2, h3 => by
    obtain ⟨k1, k2⟩ := List.pairwise_cons.1 h1
    obtain ⟨g1, g2, g3⟩ := h3 q List.mem_cons_self
    have ih := itsOk_of k2 (fun p hp => k1 p hp) (fun p hp => h3 p (List.mem_cons_of_mem _ hp))
    show (goodB q.1 && decide (1 ≤ q.2) && mayI q.2 && decide (last < q.1) && itsOk q.1 r) = true
    simp [g1, g2, g3, h2 q List.mem_cons_self, ih]
end Go.Proofs.YtefjdcghdcbojaaGreat

namespace Go.Proofs.YtefjdcghdcbojaaGreat
open Go.RowKit Go.Maps
theorem infoPlace : (Tryz.prog.info? 47).map (fun i => (i.zero, i.size, i.bytes)) = some (some (.agg #[.int .i64 0, .string ⟨#[]⟩, .int .i64 0]), 3, 32) := by kernel_rfl
def spF (can : BE → Int) (nE : BE → Int → Int) (s : Str) (L : List BE) (n : Int) (ord : List Int) : List BE × Int × List PV := ord.foldl (stepS can nE s) (L, n, [])
/-- What spread leaves. -/
def SpP (w : World) (g : Nat) (TS : Nat → Prop) (F : List BE × Int × List PV) (e : Ending) (w' : World) : Prop :=
  (0 < F.2.1 ∧ e = .returned (.tuple #[.slice none 0 0, .bool false]) ∧ Fr (fun _ => False) w w') ∨
  (F.2.1 ≤ 0 ∧ ∃ v L' TS', e = .returned (.tuple #[v, .bool true]) ∧ Pl w' v F.2.2 ∧ (∀ b, v.ownBlock = some b → w.heap.size ≤ b) ∧ FA w' g TS' L' ∧ L'.map BV.e = F.1 ∧ Fr (fun c => c = g) w w' ∧ ∀ b, TS' b → TS b ∨ w.heap.size ≤ b)
theorem step_some {can : BE → Int} {nE : BE → Int → Int} {s : Str} {M : List BE} {n : Int} {o : List PV} {i : Nat} {b : BE} (h : M[i]? = some b) :
    stepS can nE s (M, n, o) (i : Int) = if min n (can b) ≤ 0 then (M, n, o) else (M.set i (b.put s (nE b (min n (can b)))), n - min n (can b), o ++ [⟨b.nu, s, min n (can b)⟩]) := by
  unfold stepS
  simp only [Int.toNat_natCast]
  rw [h]
set_option maxRecDepth 100000 in
set_option maxHeartbeats 16000000 in
theorem bSpread (w : World) (g gc gt : Nat) (TS : Nat → Prop) (cbc cbt : Array Value) (L : List BV) (s : Str) (n : Int) (vord : Value) (ord : List Int) (can : BE → Int) (nE : BE → Int → Int) (PE : BE → Prop)
    (egc : ∀ args w, (callFunc gc args).run Tryz.prog w = .ok (.enter gc args) w) (egt : ∀ args w, (callFunc gt args).run Tryz.prog w = .ok (.enter gt args) w)
    (h : FA w g TS L) (hL : 0 < L.length) (hL2 : L.length ≤ 1000) (hs : okS s) (hn : okI n) (hn1 : 0 ≤ n) (hord : Sn w vord ord) (hol : ord.length ≤ 1000000) (hom : ∀ x ∈ ord, ∃ i : Nat, x = (i : Int) ∧ i < L.length)
    (hP : ∀ b ∈ L, PE b.e) (hPk : ∀ x, PE x → okI (can x))
    (hPt : ∀ (x : BE) (k : Int), PE x → 0 < k → k ≤ can x → k ≤ n → PE (x.put s (nE x k)))
    (hCan : ∀ (W : World) (x : BV), Fr (fun _ => False) w W → BOk W x → PE x.e → Calls Tryz.prog gc (#[.agg x.cs] ++ cbc) W fun e w' => e = .returned (.int .i64 (can x.e)) ∧ Fr (fun _ => False) W w')
    (hThen : ∀ (W : World) (x : BV) (k : Int), Fr (fun _ => False) w W → BOk W x → PE x.e → 0 < k → k ≤ can x.e → k ≤ n → Calls Tryz.prog gt (#[.agg x.cs, .int .i64 k] ++ cbt) W fun e w' => ∃ v, e = .returned (.agg (BV.cs (x.put v s (nE x.e k)))) ∧ BOk w' (x.put v s (nE x.e k)) ∧ (∀ c, v.ownBlock = some c → W.heap.size ≤ c) ∧ Fr (fun _ => False) W w') :
    Calls Tryz.prog 54 #[.pointer (some ⟨g, 0, none⟩), vS s, .int .i64 n, vord, .func (.func gc) #[] cbc, .func (.func gt) #[] cbt] w fun e w' => SpP w g TS (spF can nE s (L.map BV.e) n ord) e w' := by
  obtain ⟨i0, hi', hz0, hz1, hz2⟩ := info_parts infoPlace
  have HFA := Lib.hid h
  obtain ⟨ro, co, q1, -, q3⟩ := h.row
  have hcl := bnClone w _ L q3 hL2 hL
  have HOM := Lib.hid hom; have HP := Lib.hid hP; have HPK := Lib.hid hPk; have HPT := Lib.hid hPt; have HCAN := Lib.hid hCan; have HTHEN := Lib.hid hThen
  have HORD := Lib.hid hord; have HSS := Lib.hid hs; have HNN := Lib.hid hn
  have HBK : Hid (∀ b ∈ L, BOk w b ∧ (b.its ≠ [] → ∀ c, b.l.ownBlock = some c → c < w.heap.size ∧ TS c ∧ c ≠ g)) := Lib.hid (fun b hb => by
    obtain ⟨⟨r, cap, cur, h1, h2, h3, h4, h5, h6, h7, h8, h9⟩, ho, hl⟩ := h
    exact ⟨(h9 b hb).1, fun hne c hc => ⟨hl _ ((h9 b hb).2 hne c hc).1, ((h9 b hb).2 hne c hc).1, ((h9 b hb).2 hne c hc).2.1⟩⟩)
  obtain ⟨oa, oc, rfl⟩ := hord.sl
  obtain ⟨N, hN⟩ : ∃ N, L.length = N := ⟨_, rfl⟩
  obtain ⟨No, hNo⟩ : ∃ No, ord.length = No := ⟨_, rfl⟩
  have HN := Lib.hid hN; have HNo := Lib.hid hNo
  obtain ⟨SP, hSP⟩ : ∃ SP, SpP w g TS (spF can nE s (L.map BV.e) n ord) = SP := ⟨_, rfl⟩
  have HSP := Lib.hid hSP
  have c0 := cell_obj q1 0 (.slice (some ⟨ro, 0, none⟩) L.length co) rfl
  rw [hN] at hcl c0 hL hL2
  rw [hNo] at hol ⊢
  have HCL := Lib.hid hcl
  have HLB := Lib.hid hL2; have HOLB := Lib.hid hol
  have HC0 := Lib.hid c0
  rw [hSP]
  clear h q1 q3 hcl hom hP hPk hPt hCan hThen hord hs hn hN hNo hSP
  go_enter Tryz.func54, Tryz.ntmps54
  go_wp2_with (go_at_call 97; refine HCL.out.mono ?_; rintro e w1 ⟨v1, rfl, hown1, hf1⟩; have HO1 := Lib.hid hown1; have HF1 := Lib.hid hf1; obtain ⟨a1, c1, rfl⟩ := row_sl hown1; clear hown1 hf1)
  obtain ⟨r, hr1, hlow, hcm, hst⟩ : ∃ r, a1 = some ⟨r, 0, none⟩ ∧ w.heap.size ≤ r ∧ c1 ≤ maxLen ∧ SpI w (fun c => TS c ∧ c ≠ g) r c1 N PE w1 L (.slice none 0 0) [] := by
    rcases HO1.out.2 with ⟨e, h0⟩ | ⟨r, cap, cur, e, hbase, hb, hn', hm, hsz, ht⟩
    · omega
    · injection e with e1 _ e3
      subst e3
      refine ⟨r, e1, hbase, hm, ⟨cur, hb, hsz, ht⟩, HN.out, hn', fun b hb => ⟨(HBK.out b hb).1.keep HF1.out (fun _ _ _ e => e), HP.out b hb, fun hne c hc => ⟨?_, by simp [Value.ownBlock], .inl ((HBK.out b hb).2 hne c hc).2⟩⟩, World.ownsRow_nil _ _ _ _, by simp [Value.ownBlock], HF1.out, hbase⟩
      have := ((HBK.out b hb).2 hne c hc).1
      omega
  subst hr1
  have HST := Lib.hid hst; have HLOW := Lib.hid hlow; have HCM := Lib.hid hcm
  clear hst c0 hcm
  go_loopw [2, 15, 26] (fun vn vo vi wr => ∃ (j : Nat) (nj : Int) (Lj : List BV) (out : List PV), j ≤ No ∧ vi = .int .i64 j ∧ vn = .int .i64 nj ∧ 0 ≤ nj ∧ nj ≤ n ∧ out.length ≤ j ∧ (Lj.map BV.e, nj, out) = (ord.take j).foldl (stepS can nE s) (L.map BV.e, n, []) ∧ SpI w (fun c => TS c ∧ c ≠ g) r c1 N PE wr Lj vo out ∧ ∀ p ∈ out, okPv wr p) (fun _ _ vi _ => No - (intOf vi).toNat)
  case atStart => exact ⟨0, n, L, [], Nat.zero_le _, rfl, rfl, hn1, Int.le_refl _, Nat.le_refl _, rfl, HST.out, fun p hp => by cases hp⟩
  case round =>
    obtain ⟨j, nj, Lj, out, hj, rfl, rfl, hn0, hnn, hol2, hF, hI, hok⟩ := hrel
    have HI := Lib.hid hI; have HF := Lib.hid hF; have HOK := Lib.hid hok
    obtain ⟨ao, ac, rfl⟩ := row_sl hI.out
    have hnI : -9223372036854775808 ≤ nj ∧ nj ≤ 9223372036854775807 := by have := HNN.out; unfold okI at this; omega
    by_cases hlt : j < No
    · obtain ⟨xi, hxi⟩ : ∃ x, ord[j]? = some x := ⟨ord[j]'(by rw [HNo.out]; exact hlt), List.getElem?_eq_getElem _⟩
      obtain ⟨i, rfl, hiL⟩ := HOM.out xi (List.mem_of_getElem? hxi)
      obtain ⟨od, rfl, -, oz, -⟩ := (HORD.out.fr (fun _ _ _ _ _ _ _ => trivial) hI.fr (fun _ e => e.elim)).at_ hxi
      have o0 := oz (.int .i64 i) rfl
      rw [Nat.mul_one] at o0
      have hiN : i < N := by have := HN.out; omega
      have hiI : (i : Int) < N := by omega
      have hjI : (j : Int) < No := by omega
      obtain ⟨x, hx⟩ : ∃ x, Lj[i]? = some x := ⟨Lj[i]'(by rw [hI.len]; exact hiN), List.getElem?_eq_getElem _⟩
      obtain ⟨hbk, hpe, hne⟩ := hI.bins x (List.mem_of_getElem? hx)
      obtain ⟨la, lc, hl⟩ := hbk.l.sl
      obtain ⟨p0, p1, p2, p3, pf⟩ := hI.cells hx
      rw [hl] at p3
      have hstep := step_some (can := can) (nE := nE) (s := s) (M := Lj.map BV.e) (n := nj) (o := out) (i := i) (b := x.e) (by rw [List.getElem?_map, hx]; rfl)
      have hF2 : (ord.take (j + 1)).foldl (stepS can nE s) (L.map BV.e, n, []) = stepS can nE s (Lj.map BV.e, nj, out) (i : Int) := by
        rw [List.take_add_one, hxi, List.foldl_append, ← hF]
        rfl
      rw [hstep] at hF2
      have hck := HPK.out x.e hpe
      have HC := Lib.hid (HCAN.out wr x hI.fr hbk hpe)
      obtain ⟨C, hC⟩ : ∃ C, can x.e = C := ⟨_, rfl⟩
      have HCC := Lib.hid hC
      rw [hC] at hF2 hck HC
      have hcs : BV.cs x = #[.int .i64 x.nu, .int .i64 x.zo, .int .i64 x.ro, .slice la x.its.length lc] := by unfold BV.cs; rw [hl]
      rw [hcs] at HC
      have HF2 := Lib.hid hF2; have HX := Lib.hid hx; have HBKX := Lib.hid hbk; have HPE := Lib.hid hpe; have HXL := Lib.hid hl; have HCS := Lib.hid hcs
      unfold okI at hck
      clear hF2 hstep hxi oz hx hbk hpe hne hl hcs hC hI hF hok pf
      by_cases hk : min nj C ≤ 0
      · have HRES : Hid ((ord.take (j + 1)).foldl (stepS can nE s) (L.map BV.e, n, []) = (Lj.map BV.e, nj, out)) := Lib.hid (by rw [HF2.out, if_pos hk])
        go_wp2_with (go_at_fn gc; refine HC.out.mono ?_; rintro e w2 ⟨rfl, hf2⟩; have HW2 := Lib.hid hf2; clear hf2)
        go_roundw
        case rel => exact ⟨j + 1, nj, Lj, out, by omega, by go_num, rfl, hn0, hnn, by omega, HRES.out.symm, HI.out.keep0 HW2.out, HOK.out⟩
        case measure => simp [intOf]; omega
      · obtain ⟨K, hK⟩ : ∃ K, min nj C = K := ⟨_, rfl⟩
        have hKp : 0 < K := by omega
        have hKn : K ≤ nj := by omega
        have hKC : K ≤ C := by omega
        have HRES : Hid ((ord.take (j + 1)).foldl (stepS can nE s) (L.map BV.e, n, []) = ((Lj.map BV.e).set i (x.e.put s (nE x.e K)), nj - K, out ++ [⟨x.nu, s, K⟩])) := Lib.hid (by rw [HF2.out, if_neg hk, hK]; rfl)
        have hwr : IntKind.i64.wrap (nj - K) = nj - K := IntWalk.i64_in _ (by omega)
        have hkd : decide (K ≤ 0) = false := decide_eq_false (by omega)
        have HKP := Lib.hid hKp; have HKN := Lib.hid hKn; have HKC := Lib.hid hKC
        have HKR : Hid (okI K) := Lib.hid (by unfold okI; omega)
        clear hk HF2
        go_wp2_with (first
          | (go_at_fn gc; refine HC.out.mono ?_; rintro e w2 ⟨rfl, hf2⟩; have hi2 := HI.out.keep0 hf2; have HI2 := Lib.hid hi2; obtain ⟨p0, p1, p2, p3, pf⟩ := hi2.cells HX.out; rw [HXL.out] at p3; have HB2 := Lib.hid (HBKX.out.keep hf2 (fun _ _ _ e => e)); have hth := HTHEN.out w2 x K hi2.fr HB2.out HPE.out HKP.out (by rw [HCC.out]; exact HKC.out) (Int.le_trans HKN.out hnn); rw [HCS.out] at hth; have HTH := Lib.hid hth; clear hf2 hi2 pf hth)
          | (go_at_fn gt; refine HTH.out.mono ?_; rintro e w3 ⟨v, rfl, hb3, hv3, hf3⟩; have hi3 := HI2.out.keep0 hf3; obtain ⟨p0, p1, p2, p3, pf⟩ := hi3.cells HX.out; rw [HXL.out] at p3; have f0 := pf (i * 4); have f1 := pf (i * 4 + 1); have f2 := pf (i * 4 + 2); have f3 := pf (i * 4 + 3); obtain ⟨va, vc, hve⟩ := hb3.l.sl; dsimp only [BV.put] at hve; subst hve; have hi4 := hi3.store HX.out hb3 (HPT.out x.e K HPE.out HKP.out (by rw [HCC.out]; exact HKC.out) (Int.le_trans HKN.out hnn)) (fun c hc => by have h1 := hv3 c hc; obtain ⟨⟨cur, k1, -⟩, -⟩ := HI2.out; have h2 := (Array.getElem?_eq_some_iff.1 k1).1; exact ⟨by omega, (fun e => by have := (HI2.out.out.lt c e).2; omega), .inr (by have := HI2.out.fr.size; omega)⟩); obtain ⟨W4, hW4⟩ : ∃ W, ((((w3.setCell ⟨r, i * 4, none⟩ (.int .i64 x.nu)).setCell ⟨r, i * 4 + 1, none⟩ (.int .i64 x.zo)).setCell ⟨r, i * 4 + 2, none⟩ (.int .i64 x.ro)).setCell ⟨r, i * 4 + 3, none⟩ (.slice va (setF x.its s (nE x.e K)).length vc)) = W := ⟨_, rfl⟩; have hi4' : SpI w (fun c => TS c ∧ c ≠ g) r c1 N PE W4 (Lj.set i (x.put (.slice va (setF x.its s (nE x.e K)).length vc) s (nE x.e K))) (.slice ao out.length ac) out := (by rw [← hW4]; exact hi4); have HI4 := Lib.hid hi4'; have y0 := (hi4'.cells (i := i) (x := x.put (.slice va (setF x.its s (nE x.e K)).length vc) s (nE x.e K)) (by rw [List.getElem?_set]; simp; have := (List.getElem?_eq_some_iff.1 HX.out).1; omega)).1; dsimp only [BV.put] at y0 ⊢; dsimp only [BV.cs]; clear hb3 hv3 hf3 hi3 hi4 hi4' pf)
          | (at_builtin; refine wpList_append_src rfl _ _ 43 rfl w.heap.size 47 i0 (.agg #[.int .i64 0, .string ⟨#[]⟩, .int .i64 0]) 32 Tryz.underlying43 hi' hz0 hz1 hz2 rfl (by decide) (.slice ao out.length ac) out.length (flat pvC out) rfl (((Fr.refl (fun _ => False) W4).alloc _).row HI4.out.out (fun _ _ e => e)) 1 rfl (rd_obj (cs := [.int .i64 x.nu, vS s, .int .i64 K]) (heap_new _ _) rfl) (by intro u hu; simp only [List.mem_cons, List.not_mem_nil, or_false] at hu; rcases hu with rfl | rfl | rfl <;> rfl) (by have := HOLB.out; unfold maxLen; omega) (by have := HOLB.out; omega) (by have := HI4.out.fr.size; simp; omega) ?_; intro v5 w5 hown5 hgrow5 hloc5; have HI5 := Lib.hid ((HI4.out.keep0 ((Fr.refl (fun _ => False) W4).alloc _)).push (p := ⟨x.nu, s, K⟩) hown5 hgrow5 hloc5); obtain ⟨a5, c5, rfl⟩ := row_sl hown5; clear hown5 hgrow5 hloc5))
        go_roundw
        case rel =>
          refine ⟨j + 1, nj - K, _, out ++ [⟨x.nu, s, K⟩], by omega, by go_num, rfl, by omega, by omega, by simp; omega, ?_, HI5.out, fun p hp => ?_⟩
          · rw [HRES.out, List.map_set]; rfl
          · rcases List.mem_append.1 hp with hp | hp
            · exact HOK.out p hp
            · rw [List.mem_singleton.1 hp]
              exact ⟨HBKX.out.nu, HSS.out, HKR.out⟩
        case measure => simp [intOf]; omega
    · obtain rfl : j = No := by omega
      have hjI : ¬ (j : Int) < j := by omega
      have hFF : spF can nE s (L.map BV.e) n ord = (Lj.map BV.e, nj, out) := by
        unfold spF
        rw [HF.out, List.take_of_length_le (by rw [HNo.out]; exact Nat.le_refl _)]
      have HFF := Lib.hid hFF
      obtain ⟨⟨r', cap', cur', h1, h2, h3, h4, h5, h6, h7, h8, h9⟩, hog, hlt'⟩ := HFA.out
      have hgl := hlt' g hog
      have HGL := Lib.hid hgl; have HOG := Lib.hid hog; have HLT := Lib.hid hlt'
      have hgc := hI.fr.at_ h1 (fun e => e)
      rw [HN.out] at hgc
      have d0 := cell_obj hgc 0 (.slice (some ⟨r', 0, none⟩) N cap') rfl
      have e0 := obj_frozen hgc 0
      have HGC := Lib.hid hgc
      clear hI hF hok h1 h2 h3 h4 h5 h6 h7 h8 h9 hog hlt' hgl hgc hFF
      by_cases hp : 0 < nj
      · go_wp2_with fail
        rw [← HSP.out, HFF.out]
        exact .inl ⟨hp, rfl, HI.out.fr⟩
      · have HNP := Lib.hid hp
        go_wp2_with fail
        rw [← HSP.out, HFF.out]
        have hI := HI.out
        have hfs : Fr (fun c => c = g) wr (wr.setCell ⟨g, 0, none⟩ (.slice (some ⟨r, 0, none⟩) N c1)) := (Fr.refl (fun c => c = g) wr).setCell (p := ⟨g, 0, none⟩) (fun _ => rfl) _
        have hgr : g ≠ r := by have := HGL.out; have := HLOW.out; omega
        have hrl := hI.fr.size
        refine .inr ⟨HNP.out, _, Lj, fun b => TS b ∨ (w.heap.size ≤ b ∧ b < wr.heap.size), rfl, ?_, fun b hb => (hI.out.lt b hb).1, ?_, rfl, ?_, fun b hb => hb.imp id (fun h => h.1)⟩
        · refine (Sq.own pvSize (hfs.row hI.out (fun b hb e => ?_)) (fun p hp => HOK.out p hp))
          have := (hI.out.lt b hb).1
          have := HGL.out
          omega
        · obtain ⟨⟨cur, k1, k2, k3⟩, k4, k5, k6, k7, k8, k9, k10⟩ := hI
          have hrw := (Array.getElem?_eq_some_iff.1 k1).1
          refine ⟨⟨r, c1, cur, ?_, hfs.at_ k1 (fun e => hgr e.symm), by rw [k4]; exact k5, ?_, k2, by rw [k4]; exact k3, .inr ⟨k10, hrw⟩, fun e => hgr e.symm, fun b hb => ?_⟩, .inl HOG.out, fun b hb => ?_⟩
          · rw [k4]; exact obj_set HGC.out 0 _
          · exact HCM.out
          · obtain ⟨b1, b2, b3⟩ := k6 b hb
            have hne : ∀ c, b.its ≠ [] → b.l.ownBlock = some c → (TS c ∨ (w.heap.size ≤ c ∧ c < wr.heap.size)) ∧ c ≠ g ∧ c ≠ r := fun c hn hc => by
              obtain ⟨c1', c2', c3'⟩ := b3 hn c hc
              rcases c3' with ⟨c4, c5⟩ | c4
              · exact ⟨.inl c4, c5, c1'⟩
              · exact ⟨.inr ⟨c4, b1.l.lt hn c hc⟩, by have := HGL.out; omega, c1'⟩
            exact ⟨b1.keep hfs (fun hn c hc e => (hne c hn hc).2.1 e), fun hn c hc => hne c hn hc⟩
          · rcases hb with hb | hb
            · have := HLT.out b hb
              simp [World.setCell]
              omega
            · simp [World.setCell]
              omega
        · exact hI.fr.mono (fun _ _ e => e.elim) |>.trans hfs
end Go.Proofs.YtefjdcghdcbojaaGreat

namespace Go.Proofs.YtefjdcghdcbojaaGreat
open Go.RowKit Go.Maps
/-- A bin that may be. -/
def mayBinF (nu zo ro : Int) : Bool := decide (1 ≤ nu) && decide (nu ≤ 4096) && decide (0 ≤ zo) && decide (zo ≤ 15) && decide (1 ≤ ro) && decide (ro ≤ 1099511627776)
set_option maxRecDepth 100000 in
set_option maxHeartbeats 4000000 in
theorem bMayBin (w : World) (nu zo ro : Int) : Calls Tryz.prog 61 #[.agg #[.int .i64 nu, .int .i64 zo, .int .i64 ro]] w fun e w' => e = .returned (.bool (mayBinF nu zo ro)) ∧ Fr (fun _ => False) w w' := by
  unfold mayBinF
  by_cases h1 : 1 ≤ nu
  case neg =>
    simp only [h1, decide_true, decide_false, Bool.and_true, Bool.and_false, Bool.false_and, Bool.true_and]
    go_enter Tryz.func61, Tryz.ntmps61
    go_wp2
    go_ret
    exact ⟨rfl, (Fr.refl _ w).alloc _⟩
  by_cases h2 : nu ≤ 4096
  case neg =>
    simp only [h1, h2, decide_true, decide_false, Bool.and_true, Bool.and_false, Bool.false_and, Bool.true_and]
    go_enter Tryz.func61, Tryz.ntmps61
    go_wp2
    go_ret
    exact ⟨rfl, (Fr.refl _ w).alloc _⟩
  by_cases h3 : 0 ≤ zo
  case neg =>
    simp only [h1, h2, h3, decide_true, decide_false, Bool.and_true, Bool.and_false, Bool.false_and, Bool.true_and]
    go_enter Tryz.func61, Tryz.ntmps61
    go_wp2
    go_ret
    exact ⟨rfl, (Fr.refl _ w).alloc _⟩
  by_cases h4 : zo ≤ 15
  case neg =>
    simp only [h1, h2, h3, h4, decide_true, decide_false, Bool.and_true, Bool.and_false, Bool.false_and, Bool.true_and]
    go_enter Tryz.func61, Tryz.ntmps61
    go_wp2
    go_ret
    exact ⟨rfl, (Fr.refl _ w).alloc _⟩
  by_cases h5 : 1 ≤ ro
  case neg =>
    simp only [h1, h2, h3, h4, h5, decide_true, decide_false, Bool.and_true, Bool.and_false, Bool.false_and, Bool.true_and]
    go_enter Tryz.func61, Tryz.ntmps61
    go_wp2
    go_ret
    exact ⟨rfl, (Fr.refl _ w).alloc _⟩
  by_cases h6 : ro ≤ 1099511627776
  all_goals
    simp only [h1, h2, h3, h4, h5, h6, decide_true, decide_false, Bool.and_true, Bool.and_false, Bool.false_and, Bool.true_and]
    go_enter Tryz.func61, Tryz.ntmps61
    go_wp2
    go_ret
    exact ⟨rfl, (Fr.refl _ w).alloc _⟩
/-- What is wrong with so many of a good (at a floor that was made). -/
def mayF (s : Str) (n : Int) : Int := if goodB s = true ∧ 1 ≤ n ∧ mayI n = true then 0 else 60
set_option maxRecDepth 100000 in
set_option maxHeartbeats 4000000 in
theorem bMay (w : World) (g : Nat) (L : List BV) (s : Str) (n : Int) (h : Fl w g L) (hL : 0 < L.length) (hs : okS s) : Calls Tryz.prog 48 #[.pointer (some ⟨g, 0, none⟩), vS s, .int .i64 n] w fun e w' => e = .returned (.int .i64 (mayF s n)) ∧ Fr (fun _ => False) w w' := by
  have hm := Lib.hid (bMade w g L h hL)
  have hg := Lib.hid (iGood w s hs)
  have hM := Lib.hid (fun W => kMay W n)
  clear h hL hs
  unfold mayF
  cases e1 : goodB s with
  | false =>
    simp only [e1, Bool.false_eq_true, false_and, if_false] at hg ⊢
    clear e1
    go_enter Tryz.func48, Tryz.ntmps48
    go_wp2_with (first
      | (go_at_call 34; refine hm.out.mono ?_; rintro e w1 ⟨rfl, rfl⟩)
      | (go_at_call 90; refine hg.out.mono ?_; rintro e w2 ⟨rfl, hf2⟩; have HF2 := Lib.hid hf2; clear hf2))
    go_ret
    exact ⟨rfl, HF2.out⟩
  | true =>
    rw [e1] at hg
    by_cases h1 : 1 ≤ n
    · cases e2 : mayI n with
      | false =>
        simp only [e2, Bool.false_eq_true, and_false, if_false] at hM ⊢
        clear e1 e2
        go_enter Tryz.func48, Tryz.ntmps48
        go_wp2_with (first
          | (go_at_call 34; refine hm.out.mono ?_; rintro e w1 ⟨rfl, rfl⟩)
          | (go_at_call 90; refine hg.out.mono ?_; rintro e w2 ⟨rfl, hf2⟩; have HF2 := Lib.hid hf2; clear hf2)
          | (go_at_call 91; refine (hM.out _).mono ?_; rintro e w3 ⟨rfl, rfl⟩))
        go_ret
        exact ⟨rfl, HF2.out⟩
      | true =>
        rw [e2] at hM
        rw [if_pos ⟨rfl, h1, rfl⟩]
        clear e1 e2
        go_enter Tryz.func48, Tryz.ntmps48
        go_wp2_with (first
          | (go_at_call 34; refine hm.out.mono ?_; rintro e w1 ⟨rfl, rfl⟩)
          | (go_at_call 90; refine hg.out.mono ?_; rintro e w2 ⟨rfl, hf2⟩; have HF2 := Lib.hid hf2; clear hf2)
          | (go_at_call 91; refine (hM.out _).mono ?_; rintro e w3 ⟨rfl, rfl⟩))
        go_ret
        exact ⟨rfl, HF2.out⟩
    · rw [if_neg (fun q => h1 q.2.1)]
      clear e1
      go_enter Tryz.func48, Tryz.ntmps48
      go_wp2_with (first
        | (go_at_call 34; refine hm.out.mono ?_; rintro e w1 ⟨rfl, rfl⟩)
        | (go_at_call 90; refine hg.out.mono ?_; rintro e w2 ⟨rfl, hf2⟩; have HF2 := Lib.hid hf2; clear hf2))
      go_ret
      exact ⟨rfl, HF2.out⟩
end Go.Proofs.YtefjdcghdcbojaaGreat

namespace Go.Proofs.YtefjdcghdcbojaaGreat
open Go.RowKit Go.Maps
theorem goodB_len {s : Str} (h : goodB s = true) : s.length ≤ 16 := by
  unfold goodB at h
  simp at h
  omega
theorem textB_len {s : Str} (h : s.length ≤ 16) : (textB s).length ≤ 25 := by
  unfold textB
  rw [List.length_append, sB_len]
  have := (numB_len (n := (s.length : Int)) (by unfold okI; omega)).2
  omega
end Go.Proofs.YtefjdcghdcbojaaGreat

namespace Go.Proofs.YtefjdcghdcbojaaGreat
open Go.RowKit Go.Maps
theorem BEok.bw {x : BE} (h : BEok x) (s : Str) : BW s x := by
  have hm := h.may
  unfold mayL at hm
  simp only [Bool.and_eq_true, decide_eq_true_eq] at hm
  refine ⟨h.ro, (itsOk_rise hm.1).1, fun p hp => ?_, Nat.le_trans (List.length_filter_le _ _) hm.2, h.tot⟩
  obtain ⟨h1, h2, h3⟩ := itsOk_all hm.1 p hp
  have := mayI_iff.1 h3
  exact ⟨h1, h2, this.2⟩
theorem good_okS {s : Str} (h : goodB s = true) : okS s := by have := goodB_len h; unfold okS maxLen; omega
def putF (M : List BE) (s : Str) (n : Int) : List BE × Int × List PV := spF leftE (fun b k => ofF b.its s + k) s M n (ordI M (fun b => kindE b s != 3) (cfPut s))
def takeF (M : List BE) (s : Str) (n : Int) : List BE × Int × List PV := spF (fun b => ofF b.its s) (fun b k => ofF b.its s - k) s M n (ordI M (fun b => decide (0 < ofF b.its s)) (cfTake s))
/-- What Put and Take leave. -/
def PkP (w : World) (g : Nat) (TS : Nat → Prop) (err : Int) (F : List BE × Int × List PV) (e : Ending) (w' : World) : Prop :=
  (0 < F.2.1 ∧ e = .returned (.tuple #[.slice none 0 0, .int .i64 err]) ∧ Fr (fun _ => False) w w') ∨
  (F.2.1 ≤ 0 ∧ ∃ v L' TS', e = .returned (.tuple #[v, .int .i64 0]) ∧ Pl w' v F.2.2 ∧ (∀ b, v.ownBlock = some b → w.heap.size ≤ b) ∧ FA w' g TS' L' ∧ L'.map BV.e = F.1 ∧ Fr (fun c => c = g) w w' ∧ ∀ b, TS' b → TS b ∨ w.heap.size ≤ b)
theorem ordI_in {α : Type} {L : List α} {isF : α → Bool} {cf : α → α → Int} {x : Int} (h : x ∈ ordI L isF cf) : ∃ i : Nat, x = (i : Int) ∧ i < L.length := by
  obtain ⟨i, b, e, hi, _, _⟩ := idxK_mem ((stab_perm _ _).mem_iff.1 h)
  exact ⟨i, e, hi⟩
theorem ordI_len {α : Type} (L : List α) (isF : α → Bool) (cf : α → α → Int) : (ordI L isF cf).length ≤ L.length := by
  unfold ordI
  rw [stab_len]
  exact idxK_len _ _ _
theorem FA.bok {w : World} {g : Nat} {TS : Nat → Prop} {L : List BV} (h : FA w g TS L) {b : BV} (hb : b ∈ L) : BOk w b := by
  obtain ⟨⟨_, _, _, _, _, _, _, _, _, _, _, h9⟩, _, _⟩ := h
  exact (h9 b hb).1
theorem mayF_zero {s : Str} {n : Int} (h : mayF s n = 0) : goodB s = true ∧ 1 ≤ n ∧ n ≤ 1099511627776 := by
  unfold mayF at h
  by_cases e : goodB s = true ∧ 1 ≤ n ∧ mayI n = true
  · exact ⟨e.1, e.2.1, (mayI_iff.1 e.2.2).2⟩
  · rw [if_neg e] at h; omega
set_option maxRecDepth 100000 in
set_option maxHeartbeats 8000000 in
theorem bPut_no (w : World) (g : Nat) (TS : Nat → Prop) (L : List BV) (s : Str) (n : Int) (h : FA w g TS L) (hL : 0 < L.length) (hs : okS s) (hm : mayF s n ≠ 0) : Calls Tryz.prog 15 #[.pointer (some ⟨g, 0, none⟩), vS s, .int .i64 n] w fun e w' => e = .returned (.tuple #[.slice none 0 0, .int .i64 (mayF s n)]) ∧ Fr (fun _ => False) w w' := by
  have hf0 : Fr (fun _ => False) w (w.alloc (.cells #[vS s] 9)) := (Fr.refl _ w).alloc _
  have hM := Lib.hid (bMay _ g L s n (h.fl.keep hf0) hL hs)
  obtain ⟨E, hE⟩ : ∃ E, mayF s n = E := ⟨_, rfl⟩
  rw [hE] at hM hm ⊢
  have hb : (E != 0) = true := by simpa using hm
  have HF0 := Lib.hid hf0
  clear h hL hs hm hE hf0
  go_enter Tryz.func15, Tryz.ntmps15
  go_wp2_with (go_at_call 48; refine hM.out.mono ?_; rintro e w1 ⟨rfl, hf1⟩; have HF1 := Lib.hid (HF0.out.trans hf1); clear hf1)
  go_ret2
  exact ⟨rfl, HF1.out⟩
set_option maxRecDepth 100000 in
set_option maxHeartbeats 8000000 in
theorem bTake_no (w : World) (g : Nat) (TS : Nat → Prop) (L : List BV) (s : Str) (n : Int) (h : FA w g TS L) (hL : 0 < L.length) (hs : okS s) (hm : mayF s n ≠ 0) : Calls Tryz.prog 16 #[.pointer (some ⟨g, 0, none⟩), vS s, .int .i64 n] w fun e w' => e = .returned (.tuple #[.slice none 0 0, .int .i64 (mayF s n)]) ∧ Fr (fun _ => False) w w' := by
  have hf0 : Fr (fun _ => False) w (w.alloc (.cells #[vS s] 9)) := (Fr.refl _ w).alloc _
  have hM := Lib.hid (bMay _ g L s n (h.fl.keep hf0) hL hs)
  obtain ⟨E, hE⟩ : ∃ E, mayF s n = E := ⟨_, rfl⟩
  rw [hE] at hM hm ⊢
  have hb : (E != 0) = true := by simpa using hm
  have HF0 := Lib.hid hf0
  clear h hL hs hm hE hf0
  go_enter Tryz.func16, Tryz.ntmps16
  go_wp2_with (go_at_call 48; refine hM.out.mono ?_; rintro e w1 ⟨rfl, hf1⟩; have HF1 := Lib.hid (HF0.out.trans hf1); clear hf1)
  go_ret2
  exact ⟨rfl, HF1.out⟩
set_option maxRecDepth 100000 in
set_option maxHeartbeats 8000000 in
theorem bPut (w : World) (g : Nat) (TS : Nat → Prop) (L : List BV) (s : Str) (n : Int) (h : FA w g TS L) (hok : ∀ x ∈ L.map BV.e, BEok x) (hL : 0 < L.length) (hL2 : L.length ≤ 64) (hm : mayF s n = 0) : Calls Tryz.prog 15 #[.pointer (some ⟨g, 0, none⟩), vS s, .int .i64 n] w fun e w' => PkP w g TS 2 (putF (L.map BV.e) s n) e w' := by
  obtain ⟨hg, hn1, hn2⟩ := mayF_zero hm
  have hs := good_okS hg
  obtain ⟨n0, hn0⟩ : ∃ n0, w.heap.size = n0 := ⟨_, rfl⟩
  obtain ⟨W0, hW0⟩ : ∃ W0, w.alloc (.cells #[vS s] 9) = W0 := ⟨_, rfl⟩
  have hf0 : Fr (fun _ => False) w W0 := by rw [← hW0]; exact (Fr.refl _ w).alloc _
  have hx0 : W0.heap[n0]? = some (.cells #[vS s] 9) := by rw [← hW0]; exact heap_at hn0.symm _
  have hM := bMay _ g L s n (h.fl.keep hf0) hL hs
  rw [hm] at hM
  have HM := Lib.hid hM
  have hbw : ∀ b ∈ L, BW s b.e := fun b hb => (hok _ (List.mem_map.2 ⟨b, hb, rfl⟩)).bw s
  have hcell : ∀ W, Fr (fun _ => False) W0 W → W.cell? ⟨n0, 0, none⟩ = some (vS s) := fun W hf => hf.cell (cell_obj hx0 0 (vS s) rfl) (fun e => e)
  have HO := Lib.hid (fun W (hF : Fr (fun _ => False) W0 W) => bOrder W g 50 52 #[.pointer (some ⟨n0, 0, none⟩)] #[.pointer (some ⟨n0, 0, none⟩)] L (fun b => kindE b.e s != 3) (fun a b => cfPut s a.e b.e) (enters_of Tryz.func50 (by kernel_rfl) rfl) (enters_of Tryz.func52 (by kernel_rfl) rfl)
    (h.fl.keep (hf0.trans hF)) hL (by omega)
    (fun W' x hx hf => by
      have := bPut1 W' x s n0 (bokKeeps (h.bok hx) (hf0.trans (hF.trans hf)) (fun _ e => e.elim)) (hcell W' (hF.trans hf))
      simpa using this)
    (fun W' x y hx hy hf => by
      have := bPut2 W' x y s n0 (bokKeeps (h.bok hx) (hf0.trans (hF.trans hf)) (fun _ e => e.elim)) (bokKeeps (h.bok hy) (hf0.trans (hF.trans hf)) (fun _ e => e.elim)) (hcell W' (hF.trans hf))
      simpa using this)
    (swo_cfI (by
      have h0 := cfPut_swo s
      exact ⟨fun a => h0.irr a.e, fun a b c => h0.tr a.e b.e c.e, fun a b c => h0.ntr a.e b.e c.e⟩)) (fun x _ y _ => cfPut_in s x.e y.e))
  have HSP := Lib.hid (fun W vord (hF : Fr (fun _ => False) W0 W) (ho : Sn W vord (ordI L (fun b => kindE b.e s != 3) (fun a b => cfPut s a.e b.e))) => bSpread W g 24 55 TS #[] #[.pointer (some ⟨n0, 0, none⟩)] L s n vord (ordI L (fun b => kindE b.e s != 3) (fun a b => cfPut s a.e b.e)) leftE (fun b k => ofF b.its s + k) (BW s)
    (enters_of Tryz.func24 (by kernel_rfl) rfl) (enters_of Tryz.func55 (by kernel_rfl) rfl)
    (h.fr (hf0.trans hF) (fun _ _ e => e)) hL (by omega) hs (by unfold okI; omega) (by omega) ho (by have := ordI_len L (fun b : BV => kindE b.e s != 3) (fun a b => cfPut s a.e b.e); omega) (fun x hx => ordI_in hx) hbw
    (fun x hx => by
      rw [hx.left]
      have h1 := hx.ro; have h2 := hx.tot; have h3 := sumI_nn hx.pos
      unfold okI; omega)
    (fun x k hx h0 h1 h2 => by
      rw [hx.left] at h1
      have h3 := getI_nn s hx.pos
      rw [hx.of s]
      exact hx.put hg (by omega) (by omega))
    (fun W' x hf hb hx => by
      have := bLeft W' x hb
      simpa [leftE_e] using this)
    (fun W' x k hf hb hx h0 h1 h2 => by
      have hl := hx.left
      rw [hl] at h1
      have h3 := hx.ro; have h4 := sumI_nn hx.pos; have h5 := getI_nn s hx.pos; have h6 := getI_le s hx.pos; have h7 := hx.tot
      have := bPut3 W' x s k n0 hb (by have h8 : x.its.length ≤ 17 := hx.len; omega) hx.ri hs (by
        have h9 : ofF x.its s = getI x.its s := hx.of s
        have h10 : getI x.e.its s = getI x.its s := rfl
        rw [h9]; unfold okI; omega) (hcell W' (hF.trans hf))
      rw [show (#[.agg x.cs, .int .i64 k] ++ #[.pointer (some ⟨n0, 0, none⟩)] : Array Value) = #[.agg x.cs, .int .i64 k, .pointer (some ⟨n0, 0, none⟩)] from by simp]
      exact this))
  have HF0 := Lib.hid hf0
  have hput : putF (L.map BV.e) s n = spF leftE (fun b k => ofF b.its s + k) s (L.map BV.e) n (ordI L (fun b => kindE b.e s != 3) (fun a b => cfPut s a.e b.e)) := by unfold putF; rw [ordI_map]
  rw [hput]
  obtain ⟨F, hF⟩ : ∃ F, spF leftE (fun b k => ofF b.its s + k) s (L.map BV.e) n (ordI L (fun b => kindE b.e s != 3) (fun a b => cfPut s a.e b.e)) = F := ⟨_, rfl⟩
  rw [hF] at HSP ⊢
  obtain ⟨O, hO⟩ : ∃ O, ordI L (fun b => kindE b.e s != 3) (fun a b => cfPut s a.e b.e) = O := ⟨_, rfl⟩
  rw [hO] at HO HSP
  obtain ⟨PK, hPK⟩ : ∃ PK, PkP w g TS 2 F = PK := ⟨_, rfl⟩
  have HPK := Lib.hid hPK
  rw [hPK]
  have hx1 := cell_obj hx0 0 (vS s) rfl
  have HX0 := Lib.hid hx0
  clear h hok hL hL2 hm hg hn1 hn2 hs hM hbw hcell hput hF hO hPK hf0 hx0
  go_enter Tryz.func15, Tryz.ntmps15
  go_wp2_with (first
    | (go_at_call 48; refine HM.out.mono ?_; rintro e w1 ⟨rfl, hf1⟩; have HF1 := Lib.hid hf1; have hx1 := cell_obj (hf1.at_ HX0.out (fun e => e)) 0 (vS s) rfl; clear hf1)
    | (go_at_call 49; refine (HO.out _ HF1.out).mono ?_; rintro e w2 ⟨vo, rfl, hso, hov, hf2⟩; have HSO := Lib.hid hso; have HF2 := Lib.hid (HF1.out.trans hf2); have hx1 := cell_obj (hf2.at_ (HF1.out.at_ HX0.out (fun e => e)) (fun e => e)) 0 (vS s) rfl; clear hso hov hf2))
  refine (HSP.out w2 vo HF2.out HSO.out).mono ?_
  rintro e w4 (⟨hpos, rfl, hf4⟩ | ⟨hle, v, L', TS', rfl, hpl, hvo, hfa, hmap, hf4, hts⟩)
  · have HFF := Lib.hid (HF0.out.trans (HF2.out.trans hf4))
    have HPOS := Lib.hid hpos
    clear hpos hf4
    go_wp2_with fail
    rw [← HPK.out]
    exact .inl ⟨HPOS.out, rfl, HFF.out⟩
  · have hs2 := (HF0.out.trans HF2.out).size
    have HR := Lib.hid (show PkP w g TS 2 F (.returned (.tuple #[v, .int .i64 0])) w4 from .inr ⟨hle, v, L', TS', rfl, hpl, fun b hb => by have := hvo b hb; omega, hfa, hmap, ((HF0.out.trans HF2.out).mono (fun _ _ e => e.elim)).trans hf4, fun b hb => (hts b hb).imp id (fun h => by omega)⟩)
    clear hle hpl hvo hfa hmap hf4 hts hs2
    go_wp2_with fail
    rw [← HPK.out]
    exact HR.out
set_option maxRecDepth 100000 in
set_option maxHeartbeats 8000000 in
theorem bTake (w : World) (g : Nat) (TS : Nat → Prop) (L : List BV) (s : Str) (n : Int) (h : FA w g TS L) (hok : ∀ x ∈ L.map BV.e, BEok x) (hL : 0 < L.length) (hL2 : L.length ≤ 64) (hm : mayF s n = 0) : Calls Tryz.prog 16 #[.pointer (some ⟨g, 0, none⟩), vS s, .int .i64 n] w fun e w' => PkP w g TS 51 (takeF (L.map BV.e) s n) e w' := by
  obtain ⟨hg, hn1, hn2⟩ := mayF_zero hm
  have hs := good_okS hg
  obtain ⟨n0, hn0⟩ : ∃ n0, w.heap.size = n0 := ⟨_, rfl⟩
  obtain ⟨W0, hW0⟩ : ∃ W0, w.alloc (.cells #[vS s] 9) = W0 := ⟨_, rfl⟩
  have hf0 : Fr (fun _ => False) w W0 := by rw [← hW0]; exact (Fr.refl _ w).alloc _
  have hx0 : W0.heap[n0]? = some (.cells #[vS s] 9) := by rw [← hW0]; exact heap_at hn0.symm _
  have hM := bMay _ g L s n (h.fl.keep hf0) hL hs
  rw [hm] at hM
  have HM := Lib.hid hM
  have hbw : ∀ b ∈ L, BW s b.e := fun b hb => (hok _ (List.mem_map.2 ⟨b, hb, rfl⟩)).bw s
  have hcell : ∀ W, Fr (fun _ => False) W0 W → W.cell? ⟨n0, 0, none⟩ = some (vS s) := fun W hf => hf.cell (cell_obj hx0 0 (vS s) rfl) (fun e => e)
  have HO := Lib.hid (fun W b9 (hF : Fr (fun _ => False) W0 W) (h9 : W.cell? ⟨b9, 0, none⟩ = some (.func (.func 57) #[] #[.pointer (some ⟨n0, 0, none⟩)])) => bOrder W g 58 59 #[.pointer (some ⟨b9, 0, none⟩)] #[.pointer (some ⟨b9, 0, none⟩)] L (fun b => decide (0 < ofF b.e.its s)) (fun a b => cfTake s a.e b.e) (enters_of Tryz.func58 (by kernel_rfl) rfl) (enters_of Tryz.func59 (by kernel_rfl) rfl)
    (h.fl.keep (hf0.trans hF)) hL (by omega)
    (fun W' x hx hf => by
      have := bTk2 W' x s n0 b9 (bokKeeps (h.bok hx) (hf0.trans (hF.trans hf)) (fun _ e => e.elim)) (hcell W' (hF.trans hf)) (hf.cell h9 (fun e => e))
      exact this)
    (fun W' x y hx hy hf => by
      have := bTk3 W' x y s n0 b9 (bokKeeps (h.bok hx) (hf0.trans (hF.trans hf)) (fun _ e => e.elim)) (bokKeeps (h.bok hy) (hf0.trans (hF.trans hf)) (fun _ e => e.elim)) (hcell W' (hF.trans hf)) (hf.cell h9 (fun e => e))
      exact this)
    (swo_cfI (by
      have h0 := cfTake_swo s
      exact ⟨fun a => h0.irr a.e, fun a b c => h0.tr a.e b.e c.e, fun a b c => h0.ntr a.e b.e c.e⟩)) (fun x _ y _ => cfTake_in s x.e y.e))
  have HSP := Lib.hid (fun W b9 vord (hF : Fr (fun _ => False) W0 W) (h9 : W.cell? ⟨b9, 0, none⟩ = some (.func (.func 57) #[] #[.pointer (some ⟨n0, 0, none⟩)])) (ho : Sn W vord (ordI L (fun b => decide (0 < ofF b.e.its s)) (fun a b => cfTake s a.e b.e))) => bSpread W g 57 60 TS #[.pointer (some ⟨n0, 0, none⟩)] #[.pointer (some ⟨n0, 0, none⟩), .pointer (some ⟨b9, 0, none⟩)] L s n vord (ordI L (fun b => decide (0 < ofF b.e.its s)) (fun a b => cfTake s a.e b.e)) (fun b => ofF b.its s) (fun b k => ofF b.its s - k) (BW s)
    (enters_of Tryz.func57 (by kernel_rfl) rfl) (enters_of Tryz.func60 (by kernel_rfl) rfl)
    (h.fr (hf0.trans hF) (fun _ _ e => e)) hL (by omega) hs (by unfold okI; omega) (by omega) ho (by have := ordI_len L (fun b : BV => decide (0 < ofF b.e.its s)) (fun a b => cfTake s a.e b.e); omega) (fun x hx => ordI_in hx) hbw
    (fun x hx => by
      rw [hx.of s]
      have h1 := hx.ro; have h2 := hx.tot; have h3 := getI_nn s hx.pos; have h4 := getI_le s hx.pos
      unfold okI; omega)
    (fun x k hx h0 h1 h2 => by
      rw [hx.of s] at h1 ⊢
      have h3 := getI_le s hx.pos; have h4 := hx.tot; have h5 := getI_nn s hx.pos
      exact hx.put hg (by omega) (by omega))
    (fun W' x hf hb hx => by
      have := bTk1 W' x s n0 hb (hcell W' (hF.trans hf))
      exact this)
    (fun W' x k hf hb hx h0 h1 h2 => by
      rw [hx.of s] at h1
      have h3 := hx.ro; have h4 := sumI_nn hx.pos; have h5 := getI_nn s hx.pos; have h6 := getI_le s hx.pos; have h7 := hx.tot
      have := bTk4 W' x s k n0 b9 hb (by have h8 : x.its.length ≤ 17 := hx.len; omega) hx.ri hs (by
        have h9 : ofF x.its s = getI x.its s := hx.of s
        have h10 : getI x.e.its s = getI x.its s := rfl
        rw [h9]; unfold okI; omega) (hcell W' (hF.trans hf)) (hf.cell h9 (fun e => e))
      exact this))
  have HF0 := Lib.hid hf0
  have htk : takeF (L.map BV.e) s n = spF (fun b => ofF b.its s) (fun b k => ofF b.its s - k) s (L.map BV.e) n (ordI L (fun b => decide (0 < ofF b.e.its s)) (fun a b => cfTake s a.e b.e)) := by unfold takeF; rw [ordI_map]
  rw [htk]
  obtain ⟨F, hF⟩ : ∃ F, spF (fun b => ofF b.its s) (fun b k => ofF b.its s - k) s (L.map BV.e) n (ordI L (fun b => decide (0 < ofF b.e.its s)) (fun a b => cfTake s a.e b.e)) = F := ⟨_, rfl⟩
  rw [hF] at HSP ⊢
  obtain ⟨O, hO⟩ : ∃ O, ordI L (fun b => decide (0 < ofF b.e.its s)) (fun a b => cfTake s a.e b.e) = O := ⟨_, rfl⟩
  rw [hO] at HO HSP
  obtain ⟨PK, hPK⟩ : ∃ PK, PkP w g TS 51 F = PK := ⟨_, rfl⟩
  have HPK := Lib.hid hPK
  rw [hPK]
  have hx1 := cell_obj hx0 0 (vS s) rfl
  have HX0 := Lib.hid hx0
  clear h hok hL hL2 hm hg hn1 hn2 hs hM hbw hcell htk hF hO hPK hf0 hx0
  go_enter Tryz.func16, Tryz.ntmps16
  go_wp2_with (first
    | (go_at_call 48; refine HM.out.mono ?_; rintro e w1 ⟨rfl, hf1⟩; have HF1 := Lib.hid hf1; have hx1 := cell_obj (hf1.at_ HX0.out (fun e => e)) 0 (vS s) rfl; clear hf1)
    | (go_at_call 49; refine (HO.out _ w1.heap.size (HF1.out.alloc _) (cell_obj (heap_new _ _) 0 (.func (.func 57) #[] #[.pointer (some ⟨n0, 0, none⟩)]) rfl)).mono ?_; rintro e w2 ⟨vo, rfl, hso, hov, hf2⟩; have HSO := Lib.hid hso; have HF2 := Lib.hid ((HF1.out.alloc _).trans hf2); have hx1 := cell_obj (hf2.at_ ((HF1.out.alloc _).at_ HX0.out (fun e => e)) (fun e => e)) 0 (vS s) rfl; have h9' := hf2.cell (cell_obj (heap_new w1 (.cells #[(.func (.func 57) #[] #[.pointer (some ⟨n0, 0, none⟩)])] 102)) 0 (.func (.func 57) #[] #[.pointer (some ⟨n0, 0, none⟩)]) rfl) (fun e => e); have H9 := Lib.hid h9'; clear hso hov hf2))
  refine (HSP.out w2 w1.heap.size vo HF2.out H9.out HSO.out).mono ?_
  rintro e w4 (⟨hpos, rfl, hf4⟩ | ⟨hle, v, L', TS', rfl, hpl, hvo, hfa, hmap, hf4, hts⟩)
  · have HFF := Lib.hid (HF0.out.trans (HF2.out.trans hf4))
    have HPOS := Lib.hid hpos
    clear hpos hf4
    go_wp2_with fail
    rw [← HPK.out]
    exact .inl ⟨HPOS.out, rfl, HFF.out⟩
  · have hs2 := (HF0.out.trans HF2.out).size
    have HR := Lib.hid (show PkP w g TS 51 F (.returned (.tuple #[v, .int .i64 0])) w4 from .inr ⟨hle, v, L', TS', rfl, hpl, fun b hb => by have := hvo b hb; omega, hfa, hmap, ((HF0.out.trans HF2.out).mono (fun _ _ e => e.elim)).trans hf4, fun b hb => (hts b hb).imp id (fun h => by omega)⟩)
    clear hle hpl hvo hfa hmap hf4 hts hs2
    go_wp2_with fail
    rw [← HPK.out]
    exact HR.out
end Go.Proofs.YtefjdcghdcbojaaGreat

namespace Go.Proofs.YtefjdcghdcbojaaGreat
open Go.RowKit Go.Maps
/-- As FA, the row's block and room named. -/
structure FB (w : World) (g : Nat) (TS : Nat → Prop) (L : List BV) (r cap : Nat) : Prop where
  obj : w.heap[g]? = some (.cells #[.slice (some ⟨r, 0, none⟩) L.length cap] 62)
  row : ∃ cur, w.heap[r]? = some (.cells cur 64) ∧ cur.size = cap * 4 ∧ cur.toList.take (L.length * 4) = flat BV.cs L
  le : L.length ≤ cap ∧ cap ≤ maxLen
  own : TS g ∧ TS r ∧ r ≠ g
  bins : ∀ b ∈ L, BOk w b ∧ (b.its ≠ [] → ∀ c, b.l.ownBlock = some c → TS c ∧ c ≠ g ∧ c ≠ r)
  lt : ∀ b, TS b → b < w.heap.size
section
variable {w w' : World} {g r cap : Nat} {TS : Nat → Prop} {L : List BV}
theorem FA.fb (h : FA w g TS L) : ∃ r cap, FB w g TS L r cap := by
  obtain ⟨⟨r, cap, cur, h1, h2, h3, h4, h5, h6, h7, h8, h9⟩, ho, hl⟩ := h
  exact ⟨r, cap, h1, ⟨cur, h2, h5, h6⟩, ⟨h3, h4⟩, ⟨ho, h7, h8⟩, h9, hl⟩
theorem FB.fa (h : FB w g TS L r cap) : FA w g TS L := by
  obtain ⟨h1, ⟨cur, h2, h5, h6⟩, ⟨h3, h4⟩, ⟨ho, h7, h8⟩, h9, hl⟩ := h
  exact ⟨⟨r, cap, cur, h1, h2, h3, h4, h5, h6, h7, h8, h9⟩, ho, hl⟩
theorem FB.keep (h : FB w g TS L r cap) (hf : Fr (fun _ => False) w w') : FB w' g TS L r cap := by
  obtain ⟨h1, ⟨cur, h2, h5, h6⟩, h3, h4, h9, hl⟩ := h
  exact ⟨hf.at_ h1 (fun e => e), ⟨cur, hf.at_ h2 (fun e => e), h5, h6⟩, h3, h4, fun b hb => ⟨(h9 b hb).1.keep hf (fun _ _ _ e => e), (h9 b hb).2⟩, fun b hb => Nat.lt_of_lt_of_le (hl b hb) hf.size⟩
theorem FB.cells (h : FB w g TS L r cap) {i : Nat} {x : BV} (hx : L[i]? = some x) :
    w.cell? ⟨g, 0, none⟩ = some (.slice (some ⟨r, 0, none⟩) L.length cap) ∧ w.cell? ⟨r, i * 4, none⟩ = some (.int .i64 x.nu) ∧ w.cell? ⟨r, i * 4 + 1, none⟩ = some (.int .i64 x.zo) ∧ w.cell? ⟨r, i * 4 + 2, none⟩ = some (.int .i64 x.ro) ∧ w.cell? ⟨r, i * 4 + 3, none⟩ = some x.l ∧ ∀ q, w.frozen? ⟨r, q, none⟩ = false := by
  obtain ⟨h0, ⟨cur, h1, h2, h3⟩, hle, -⟩ := h
  have hi := (List.getElem?_eq_some_iff.1 hx).1
  have h4 : (i + 1) * 4 ≤ L.length * 4 := Nat.mul_le_mul_right 4 (by omega)
  have key : ∀ (q : Nat) (u : Value), q < 4 → (BV.cs x)[q]? = some u → w.cell? ⟨r, i * 4 + q, none⟩ = some u := fun q u hq hu => by
    refine cell_obj h1 _ _ ?_
    rw [← Array.getElem?_toList, take_get h3 (by omega)]
    exact flat_at bvSize hx q u hu
  exact ⟨cell_obj h0 0 _ rfl, key 0 _ (by omega) rfl, key 1 _ (by omega) rfl, key 2 _ (by omega) rfl, key 3 _ (by omega) rfl, fun q => obj_frozen h1 q⟩
theorem flat_set {i : Nat} {b x : BV} {cur cur' : Array Value} (hx : L[i]? = some x) (h3 : cur.toList.take (L.length * 4) = flat BV.cs L) (hs : L.length * 4 ≤ cur.size) (c3 : ∀ q, cur'[q]? = if i * 4 ≤ q ∧ q < i * 4 + 4 then (BV.cs b).toList[q - i * 4]? else cur[q]?) :
    cur'.toList.take (L.length * 4) = flat BV.cs (L.set i b) := by
  have hi := (List.getElem?_eq_some_iff.1 hx).1
  have hlen : (flat BV.cs (L.set i b)).length = L.length * 4 := by rw [flat_len1 bvSize, List.length_set]
  apply List.ext_getElem?
  intro q
  by_cases hq : q < L.length * 4
  · rw [List.getElem?_take_of_lt hq, Array.getElem?_toList, c3 q]
    obtain ⟨y, hy⟩ : ∃ y, (L.set i b)[q / 4]? = some y := ⟨_, List.getElem?_eq_getElem (by rw [List.length_set]; omega)⟩
    have hys : (BV.cs y)[q % 4]? = some ((BV.cs y)[q % 4]'(by rw [bvSize]; omega)) := Array.getElem?_eq_getElem _
    have h10 := flat_at bvSize hy (q % 4) _ hys
    rw [show q / 4 * 4 + q % 4 = q by omega] at h10
    rw [h10]
    rcases set_get hy with ⟨e1, e2⟩ | ⟨e1, e2⟩
    · subst e2
      rw [if_pos (by omega), Array.getElem?_toList, show q - i * 4 = q % 4 by omega]
      exact hys
    · rw [if_neg (by omega), ← Array.getElem?_toList, take_get h3 hq]
      have h11 := flat_at bvSize e2 (q % 4) _ hys
      rw [show q / 4 * 4 + q % 4 = q by omega] at h11
      exact h11
  · rw [List.getElem?_take_eq_none (by omega), List.getElem?_eq_none (by omega)]
/-- A bin is set in place. -/
theorem FB.set (h : FB w g TS L r cap) {i B : Nat} {x b : BV} (hx : L[i]? = some x) (hb : BOk w b) (hB : ∀ c, TS c → c < B) (hn : ∀ c, b.l.ownBlock = some c → B ≤ c) : FB (w.setCells r (i * 4) (BV.cs b).toList) g (fun c => TS c ∨ (B ≤ c ∧ c < w.heap.size)) (L.set i b) r cap ∧ Fr (fun c => c = r) w (w.setCells r (i * 4) (BV.cs b).toList) := by
  obtain ⟨h0, ⟨cur, h1, h2, h3⟩, hle, ho, h9, hl⟩ := h
  have hi := (List.getElem?_eq_some_iff.1 hx).1
  have g1 : (i + 1) * 4 ≤ L.length * 4 := Nat.mul_le_mul_right 4 (by omega)
  have g2 : L.length * 4 ≤ cap * 4 := Nat.mul_le_mul_right 4 hle.1
  have hcl : (BV.cs b).toList.length = 4 := rfl
  obtain ⟨cur', c1, c2, c3⟩ := row_setCells (BV.cs b).toList (i * 4) h1 (by rw [hcl]; omega)
  have hf : Fr (fun c => c = r) w (w.setCells r (i * 4) (BV.cs b).toList) := fr_setCells _ _ (Fr.refl _ w) (fun _ => rfl)
  rw [hcl] at c3
  have hgB := hB g ho.1
  have hrB := hB r ho.2.1
  refine ⟨⟨by rw [List.length_set]; exact hf.at_ h0 (fun e => ho.2.2 e.symm), ⟨cur', c1, by omega, by rw [List.length_set]; exact flat_set hx h3 (by omega) c3⟩, by rw [List.length_set]; exact hle, ⟨.inl ho.1, .inl ho.2.1, ho.2.2⟩, fun y hy => ?_, fun c hc => ?_⟩, hf⟩
  · obtain ⟨q, hq⟩ := List.getElem?_of_mem hy
    rcases set_get hq with ⟨-, rfl⟩ | ⟨-, e2⟩
    · have k1 : ∀ c, y.l.ownBlock = some c → c ≠ g ∧ c ≠ r := fun c hc => by have := hn c hc; omega
      exact ⟨hb.keep hf (fun _ c hc e => (k1 c hc).2 e), fun hne c hc => ⟨.inr ⟨hn c hc, hb.l.lt hne c hc⟩, k1 c hc⟩⟩
    · obtain ⟨k1, k2⟩ := h9 y (List.mem_of_getElem? e2)
      exact ⟨k1.keep hf (fun hne c hc e => (k2 hne c hc).2.2 e), fun hne c hc => ⟨.inl (k2 hne c hc).1, (k2 hne c hc).2⟩⟩
  · have hs := hf.size
    rcases hc with hc | hc
    · have := hl c hc; omega
    · omega
theorem FB.mono {T2 : Nat → Prop} (h : FB w g TS L r cap) (h2 : ∀ c, TS c → T2 c) (h3 : ∀ b, T2 b → b < w.heap.size) : FB w g T2 L r cap := by
  obtain ⟨h0, h1, hle, ho, h9, hl⟩ := h
  exact ⟨h0, h1, hle, ⟨h2 _ ho.1, h2 _ ho.2.1, ho.2.2⟩, fun b hb => ⟨(h9 b hb).1, fun hn c hc => ⟨h2 _ ((h9 b hb).2 hn c hc).1, ((h9 b hb).2 hn c hc).2⟩⟩, h3⟩
end
end Go.Proofs.YtefjdcghdcbojaaGreat

namespace Go.Proofs.YtefjdcghdcbojaaGreat
open Go Go.RowKit
/-- The chain's operations: which ones, and whether what was there stays as it was. -/
abbrev Efs := List (Nat × Bool)
def efIdx (E : Efs) : List Nat := E.map (·.1)
/-- One operation of the chain behind the other, whatever was laid between. -/
def wpEf (P : Program) (ops : Array Oper) (Q : Act → World → Prop) : List (Oper × Bool) → Act → World → Prop
  | [], a, w => ∀ w1, Fr (fun _ => False) w w1 → Q a w1
  | (o, cl) :: es, a, w => ∀ w1, Fr (fun _ => False) w w1 → wpList P ops (fun ex a2 w2 => ex = Exit.normal ∧ a2.defers = a.defers ∧ (cl = true → Fr (fun _ => False) w1 w2) ∧ wpEf P ops Q es a2 w2) [o] a w1
def efOps (l : List Oper) (E : Efs) : List (Oper × Bool) := E.filterMap fun e => (l[e.1]?).map fun o => (o, e.2)
def waits (o : Oper) (j : Nat) : Bool := o.after.any fun e => Region.binds .any e && e.on == j
/-- It waits for it, or for one that waits for it .. (n steps). -/
def waitsT (l : List Oper) : Nat → Oper → Nat → Bool
  | 0, o, j => waits o j
  | n + 1, o, j => waits o j || o.after.any fun e => Region.binds .any e && (match l[e.on]? with | some x => waitsT l n x j | none => false)
/-- All that the slots it looks at are written by is waited for. -/
def seesB (l : List Oper) (o : Oper) : Bool := (o.looksAt l.toArray).all fun t => (List.range l.length).all fun j => match l[j]? with | some x => x.dst != some t || waits o j | none => true
def chainB2 (l : List Oper) : List Nat → Bool
  | a :: b :: r => (match l[b]? with | some o => waits o a | none => false) && chainB2 l (b :: r)
  | _ => true
def efB (l : List Oper) (E : Efs) (pu : List Nat) (dp : Nat) : Bool :=
  Region.noSelect l.toArray && acyB .any l.toArray && decide (efIdx E).Nodup && chainB2 l (efIdx E) &&
  E.all (fun e => match l[e.1]? with | some o => o.guard.isNone && seesB l o && (e.2 || (List.range l.length).all fun i => (efIdx E).contains i || pu.contains i || waitsT l dp o i) | none => false) &&
  pu.all (fun i => match l[i]? with | some o => o.guard.isNone && seesB l o | none => true) &&
  (List.range l.length).all (fun i => (efIdx E).contains i || (match l[i]? with | some o => (efIdx E).all (fun e => match (l[e]?).bind (·.dst) with | some d => !(o.looksAt l.toArray).contains d && o.dst != some d | none => true) | none => true)) &&
  (List.range l.length).all (fun i => (List.range l.length).all fun j => i == j || (match l[i]?, l[j]? with | some x, some y => x.dst.isNone || x.dst != y.dst | _, _ => true))
theorem waits_spec {o : Oper} {j : Nat} (h : waits o j = true) : ∃ e ∈ o.after, Region.binds .any e = true ∧ e.on = j := by
  unfold waits at h
  simp only [Array.any_eq_true, Bool.and_eq_true, beq_iff_eq] at h
  obtain ⟨i, hi, h1, h2⟩ := h
  exact ⟨_, Array.getElem_mem hi, h1, h2⟩
theorem chain_spec {l : List Oper} : ∀ {xs : List Nat}, chainB2 l xs = true → ∀ (p a b : Nat), xs[p]? = some a → xs[p + 1]? = some b → ∃ o, l[b]? = some o ∧ waits o a = true
  | [], _, _, _, _, h, _ => by simp at h
  | [_], _, p, _, _, _, h => by cases p <;> simp at h
  | x :: y :: r, hc, p, a, b, ha, hb => by
    have hc' : ((match l[y]? with | some o => waits o x | none => false) && chainB2 l (y :: r)) = true := hc
    simp only [Bool.and_eq_true] at hc'
    cases p with
    | zero =>
      simp at ha hb
      subst ha hb
      cases ho : l[y]? with
      | none => rw [ho] at hc'; cases hc'.1
      | some o => rw [ho] at hc'; exact ⟨o, rfl, hc'.1⟩
    | succ p => exact chain_spec hc'.2 p a b (by simpa using ha) (by simpa using hb)
structure EfOk (l : List Oper) (E : Efs) (pu : List Nat) (dp : Nat) : Prop where
  sel : Region.noSelect l.toArray = true
  acy : acyB .any l.toArray = true
  nod : (efIdx E).Nodup
  chn : ∀ (p a b : Nat), (efIdx E)[p]? = some a → (efIdx E)[p + 1]? = some b → ∃ o, l[b]? = some o ∧ waits o a = true
  eff : ∀ e ∈ E, ∃ o, l[e.1]? = some o ∧ o.guard = none ∧ seesB l o = true ∧ (e.2 = false → ∀ i, i < l.length → i ∉ efIdx E → i ∉ pu → waitsT l dp o i = true)
  pur : ∀ i ∈ pu, ∀ o, l[i]? = some o → o.guard = none ∧ seesB l o = true
  ap : ∀ (i : Nat) (o : Oper), l[i]? = some o → i ∉ efIdx E → ∀ e ∈ efIdx E, ∀ x d, l[e]? = some x → x.dst = some d → d ∉ o.looksAt l.toArray ∧ o.dst ≠ some d
  un : ∀ (i j : Nat) (x y : Oper) (t : Tmp), l[i]? = some x → l[j]? = some y → x.dst = some t → y.dst = some t → i = j
theorem efB_ok {l : List Oper} {E : Efs} {pu : List Nat} {dp : Nat} (h : efB l E pu dp = true) : EfOk l E pu dp := by
  unfold efB at h
  simp only [Bool.and_eq_true, List.all_eq_true, decide_eq_true_eq] at h
  obtain ⟨⟨⟨⟨⟨⟨⟨h1, h2⟩, h3⟩, h4⟩, h5⟩, h6⟩, h7⟩, h8⟩ := h
  refine ⟨h1, h2, h3, chain_spec h4, fun e he => ?_, fun i hi o ho => ?_, fun i o hi hn e he x d hx hd => ?_, fun i j x y t hi hj hx hy => ?_⟩
  · have := h5 e he
    cases ho : l[e.1]? with
    | none => rw [ho] at this; cases this
    | some o =>
      rw [ho] at this
      simp only [Bool.and_eq_true, Bool.or_eq_true, Option.isNone_iff_eq_none, List.all_eq_true] at this
      obtain ⟨⟨g1, g2⟩, g3⟩ := this
      refine ⟨o, rfl, g1, g2, fun hf i hi hn hp => ?_⟩
      rcases g3 with g3 | g3
      · rw [hf] at g3; cases g3
      · rcases g3 i (List.mem_range.2 hi) with (g | g) | g
        · exact absurd (by simpa using g) hn
        · exact absurd (by simpa using g) hp
        · exact g
  · have := h6 i hi
    rw [ho] at this
    simp only [Bool.and_eq_true, Option.isNone_iff_eq_none] at this
    exact this
  · have hil := (List.getElem?_eq_some_iff.1 hi).1
    have := h7 i (List.mem_range.2 hil)
    rw [hi] at this
    simp only [Bool.or_eq_true, List.all_eq_true] at this
    rcases this with h | h
    · exact absurd (by simpa using h) hn
    · have := h e he
      rw [hx] at this
      simp only [Option.bind_some, hd] at this
      simp at this
      exact ⟨this.1, this.2⟩
  · have hil := (List.getElem?_eq_some_iff.1 hi).1
    have hjl := (List.getElem?_eq_some_iff.1 hj).1
    have := h8 i (List.mem_range.2 hil) j (List.mem_range.2 hjl)
    rw [hi, hj] at this
    simp only [Bool.or_eq_true, beq_iff_eq] at this
    rcases this with h | h
    · exact h
    · rw [hx, hy] at h; simp at h
theorem sees_spec {l : List Oper} {o : Oper} (h : seesB l o = true) {t j : Nat} {x : Oper} (ht : t ∈ o.looksAt l.toArray) (hx : l[j]? = some x) (hd : x.dst = some t) : waits o j = true := by
  unfold seesB at h
  simp only [List.all_eq_true] at h
  have := h t ht j (List.mem_range.2 (List.getElem?_eq_some_iff.1 hx).1)
  rw [hx] at this
  simp only [Bool.or_eq_true] at this
  rcases this with h | h
  · rw [hd] at h; simp at h
  · exact h
/-- From one act to another that it cannot tell from it. -/
theorem eff_conv {P : Program} {o : Oper} {a ar : Act} {w : World} {K : Act → World → Prop} {K' : Act → World → Prop} {Q1 Q : Exit → Act → World → Prop} (he : execOp ar.eval o = execOp a.eval o) (hK : ∀ v w2, K (a.put o.dst v) w2 → K' (ar.put o.dst v) w2)
    (hKd : ∀ x w2, K x w2 → x.defers = a.defers) (hQ : ∀ ex x w2, Q1 ex x w2 → ex = Exit.normal) (h : o.wp P a w K Q1) : o.wp P ar w K' Q := by
  unfold Oper.wp at *
  rw [he]
  generalize (execOp a.eval o).run P w = r at *
  have hnl : ¬ LetsOut Q1 := fun ⟨x, y, hq⟩ => by have := hQ _ _ _ hq; cases this
  cases r with
  | ok n w' =>
    cases n with
    | value v => exact hK _ _ h
    | skip => exact hK _ _ h
    | defer d =>
      have := hKd _ _ h
      rw [put_dfr] at this
      have h2 : (d :: a.defers).length = a.defers.length := congrArg List.length this
      simp at h2
    | enter f args => exact Calls.mono h (fun e w'' he => by
        cases e with
        | returned v => exact hK _ _ he
        | panicked c => have := hQ _ _ _ he; cases this
        | outgrown => exact absurd he hnl)
    | row r args => exact Rows.mono h (fun v w'' he => hK _ _ he)
    | _ => exact h
  | halt x w' =>
    cases x with
    | panic v => have := hQ _ _ _ h; cases this
    | _ => exact h
/-- How far the chain is: k of its operations are done; af: the act as at the end, with what they gave. -/
structure EInv (P : Program) (l : List Oper) (E : Efs) (pu : List Nat) (w0 : World) (aF : Act) (Q : Act → World → Prop) (listed : Array Bool) (k : Nat) (a' a af : Act) (w : World) : Prop where
  lst : ∀ (p e : Nat), (efIdx E)[p]? = some e → (listed.getD e true = true ↔ p < k)
  kle : k ≤ E.length
  df : a.defers = a'.defers ∧ af.defers = aF.defers
  sz : a.tmps.size = a'.tmps.size ∧ af.tmps.size = aF.tmps.size ∧ a.tmps.size = af.tmps.size
  don : ∀ (p e t : Nat) (o : Oper), p < k → (efIdx E)[p]? = some e → l[e]? = some o → o.dst = some t → a.tmps[t]? = af.tmps[t]?
  out : ∀ t : Nat, (∀ (p e : Nat) (o : Oper), p < k → (efIdx E)[p]? = some e → l[e]? = some o → o.dst ≠ some t) → a.tmps[t]? = a'.tmps[t]? ∧ af.tmps[t]? = aF.tmps[t]?
  eff : ∃ wk, Fr (fun _ => False) wk w ∧ wpEf P l.toArray Q (efOps l (E.drop k)) af wk
  cls : (Fr (fun _ => False) w0 w) ∨ (∀ i, i < l.length → i ∉ efIdx E → listed.getD i true = false → i ∈ pu)
  lsz : listed.size = l.length
  cld : ∀ (j : Nat) (x : Oper), l[j]? = some x → listed.getD j true = true → ∀ e ∈ x.after, Region.binds .any e = true → listed.getD e.on false = true
theorem efIdx_get {E : Efs} {p : Nat} {e : Nat × Bool} (h : E[p]? = some e) : (efIdx E)[p]? = some e.1 := by unfold efIdx; rw [List.getElem?_map, h]; rfl
theorem efIdx_some {E : Efs} {p i : Nat} (h : (efIdx E)[p]? = some i) : ∃ b, E[p]? = some (i, b) := by
  unfold efIdx at h
  rw [List.getElem?_map] at h
  cases he : E[p]? with
  | none => rw [he] at h; cases h
  | some e => rw [he] at h; obtain ⟨x, b⟩ := e; exact ⟨b, by simp at h; rw [h]⟩
theorem efOps_drop {l : List Oper} {E : Efs} {k : Nat} {e : Nat × Bool} {o : Oper} (h : E[k]? = some e) (ho : l[e.1]? = some o) : efOps l (E.drop k) = (o, e.2) :: efOps l (E.drop (k + 1)) := by
  have hk := (List.getElem?_eq_some_iff.1 h).1
  have he := (List.getElem?_eq_some_iff.1 h).2
  rw [List.drop_eq_getElem_cons hk, he]
  unfold efOps
  rw [List.filterMap_cons, ho]
  rfl
section
variable {P : Program} {l : List Oper} {E : Efs} {pu : List Nat} {w0 : World} {aF : Act} {Q : Exit → Act → World → Prop}
theorem listed_dep {listed : Array Bool} {o : Oper} {j : Nat} (hdeps : ∀ e ∈ o.after, Region.binds .any e = true → listed.getD e.on false = true) (hj : j < listed.size) (hw : waits o j = true) : listed.getD j true = true := by
  obtain ⟨e, he, hb, rfl⟩ := waits_spec hw
  have := hdeps e he hb
  simp only [Array.getD_eq_getD_getElem?] at this ⊢
  rw [Array.getElem?_eq_getElem hj] at this ⊢
  exact this
theorem listed_depT {listed : Array Bool} (hc : ∀ (j : Nat) (x : Oper), l[j]? = some x → listed.getD j true = true → ∀ e ∈ x.after, Region.binds .any e = true → listed.getD e.on false = true) (hs : listed.size = l.length) : ∀ (n : Nat) {o : Oper} {j : Nat}, (∀ e ∈ o.after, Region.binds .any e = true → listed.getD e.on false = true) → j < listed.size → waitsT l n o j = true → listed.getD j true = true
  | 0, _, _, hd, hj, hw => listed_dep hd hj hw
  | n + 1, o, j, hd, hj, hw => by
    have hw' : (waits o j || o.after.any fun e => Region.binds .any e && (match l[e.on]? with | some x => waitsT l n x j | none => false)) = true := hw
    simp only [Bool.or_eq_true, Array.any_eq_true, Bool.and_eq_true] at hw'
    rcases hw' with h | ⟨i, hi, hb, hx⟩
    · exact listed_dep hd hj h
    · cases hx2 : l[(o.after[i]).on]? with
      | none => rw [hx2] at hx; cases hx
      | some x =>
        rw [hx2] at hx
        have hlt := (List.getElem?_eq_some_iff.1 hx2).1
        have h1 := hd _ (Array.getElem_mem hi) hb
        have h2 : listed.getD (o.after[i]).on true = true := by
          simp only [Array.getD_eq_getD_getElem?] at h1 ⊢
          rw [Array.getElem?_eq_getElem (by omega)] at h1 ⊢
          exact h1
        exact listed_depT hc hs n (hc _ x hx2 h2) hj hx
theorem cld_set {listed : Array Bool} {i : Nat} {o : Oper} (hol : l[i]? = some o) (hd : ∀ e ∈ o.after, Region.binds .any e = true → listed.getD e.on false = true)
    (hc : ∀ (j : Nat) (x : Oper), l[j]? = some x → listed.getD j true = true → ∀ e ∈ x.after, Region.binds .any e = true → listed.getD e.on false = true) :
    ∀ (j : Nat) (x : Oper), l[j]? = some x → (listed.setIfInBounds i true).getD j true = true → ∀ e ∈ x.after, Region.binds .any e = true → (listed.setIfInBounds i true).getD e.on false = true := by
  intro j x hx hj e he hb
  have h1 : listed.getD e.on false = true := by
    by_cases h : i = j
    · subst h
      rw [hol] at hx
      cases hx
      exact hd e he hb
    · rw [getD_set_ne true h] at hj
      exact hc j x hx hj e he hb
  by_cases h : i = e.on
  · subst h
    simp only [Array.getD_eq_getD_getElem?] at h1 ⊢
    rcases Nat.lt_or_ge e.on listed.size with h2 | h2
    · simp [h2]
    · rw [Array.getElem?_eq_none h2] at h1; cases h1
  · simp only [Array.getD_eq_getD_getElem?] at h1 ⊢
    rw [Array.getElem?_setIfInBounds_ne h]
    exact h1
theorem eff_sim {dp : Nat} (ok : EfOk l E pu dp)
    (hpu : ∀ i ∈ pu, ∀ o, l[i]? = some o → ∃ v, ∀ w, (execOp aF.eval o).run P w = .ok (.value v) w) :
    ∀ (fuel : Nat) (listed : Array Bool) (k : Nat) (a' a af : Act) (w : World), EInv P l E pu w0 aF (fun x y => Q .normal x y) listed k a' a af w →
      (∀ wX, Fr (fun _ => False) w0 wX → wpAnyQ P .any (boxedF (efIdx E) 0 l).toArray (fun w' => ∃ Y : FrW wX, w' = Y.val) (fun x => x = aF) fuel listed a') → wpAny P .any l.toArray Q fuel listed a w := by
  have hend : ∀ (fuel : Nat) (listed : Array Bool) (k : Nat) (a' a af : Act) (w : World), EInv P l E pu w0 aF (fun x y => Q .normal x y) listed k a' a af w →
      (∀ wX, Fr (fun _ => False) w0 wX → wpAnyQ P .any (boxedF (efIdx E) 0 l).toArray (fun w' => ∃ Y : FrW wX, w' = Y.val) (fun x => x = aF) fuel listed a') → Region.ready .any l.toArray listed = [] → Q .normal a w := fun fuel listed k a' a af w inv hH hr => by
    have hall : ∀ j, j < l.length → listed.getD j true = true := fun j hj => by
      cases e : listed.getD j true with
      | true => rfl
      | false => exact absurd hr (ready_some ok.acy (by rw [inv.lsz]; simp) j j (by simpa using hj) (Nat.le_refl _) e)
    have ea : a' = aF := wpAnyQ_end (P := P) (C := fun w' => ∃ Y : FrW w0, w' = Y.val) (Q' := fun x => x = aF) (ops := (boxedF (efIdx E) 0 l).toArray) (by rw [bxd_ready]; exact hr) fuel (hH w0 (Fr.refl _ _))
    have hk : k = E.length := by
      rcases Nat.lt_or_ge k E.length with h | h
      · exfalso
        obtain ⟨o, ho, _⟩ := ok.eff E[k] (List.getElem_mem h)
        have h1 := hall E[k].1 (List.getElem?_eq_some_iff.1 ho).1
        have := (inv.lst k E[k].1 (efIdx_get (List.getElem?_eq_getElem h))).1 h1
        omega
      · have := inv.kle; omega
    obtain ⟨wk, hf, he⟩ := inv.eff
    rw [hk, List.drop_length] at he
    have h2 := he w hf
    have e : a = af := by
      refine act_ext (by rw [inv.df.1, inv.df.2, ea]) (fun t => ?_)
      by_cases ht : ∀ (p e : Nat) (o : Oper), p < k → (efIdx E)[p]? = some e → l[e]? = some o → o.dst ≠ some t
      · rw [(inv.out t ht).1, (inv.out t ht).2, ea]
      · have : ∃ (p e : Nat) (o : Oper), p < k ∧ (efIdx E)[p]? = some e ∧ l[e]? = some o ∧ o.dst = some t := Classical.byContradiction fun hn => ht fun p e o h1 h2 h3 h4 => hn ⟨p, e, o, h1, h2, h3, h4⟩
        obtain ⟨p, e, o, h1, h2, h3, h4⟩ := this
        exact inv.don p e t o h1 h2 h3 h4
    rw [e]
    exact h2
  intro fuel
  induction fuel with
  | zero =>
    intro listed k a' a af w inv hH
    have hr : Region.ready .any l.toArray listed = [] := by have := (hH w0 (Fr.refl _ _)).1; rwa [bxd_ready] at this
    exact ⟨hr, hend 0 listed k a' a af w inv hH hr⟩
  | succ fuel ih =>
    intro listed k a' a af w inv hH
    refine ⟨hend _ listed k a' a af w inv hH, fun i hi => ?_⟩
    obtain ⟨hun, o, ho, hdeps⟩ := mem_ready.1 hi
    have hol : l[i]? = some o := by simpa using ho
    have hil : i < l.length := (List.getElem?_eq_some_iff.1 hol).1
    have hlsz := inv.lsz
    have hi' : i ∈ Region.ready .any (boxedF (efIdx E) 0 l).toArray listed := by rw [bxd_ready]; exact hi
    have back : ∀ (j : Nat) (x : Oper) (t : Tmp), (boxedF (efIdx E) 0 l).toArray[j]? = some x → x.dst = some t → ∃ y, l[j]? = some y ∧ y.dst = some t := fun j x t hj hx => by
      rw [bxd_get] at hj
      cases hy : l.toArray[j]? with
      | none => rw [hy] at hj; cases hj
      | some y =>
        rw [hy] at hj
        refine ⟨y, by simpa using hy, ?_⟩
        simp only [Option.map_some, Option.some.injEq] at hj
        rw [← hj] at hx
        by_cases hc : (efIdx E).contains j = true
        · rw [if_pos hc] at hx; exact hx
        · rw [if_neg hc] at hx; exact hx
    have uniq : ∀ (j : Nat) (x : Oper) (t : Tmp), (boxedF (efIdx E) 0 l).toArray[j]? = some x → x.dst = some t → o.dst = some t → j = i := fun j x t hj hx ht => by
      obtain ⟨y, hy, hyd⟩ := back j x t hj hx
      exact ok.un j i y o t hy hol hyd ht
    -- a slot all of whose writers are listed is as at the end
    have fin : ∀ t : Nat, (∀ (j : Nat) (y : Oper), l[j]? = some y → y.dst = some t → listed.getD j true = true) → a'.tmps[t]? = aF.tmps[t]? := fun t ht =>
      fin_at (fuel + 1) listed a' (hH w0 (Fr.refl _ _)) t (fun j y hj hu hy => by
        obtain ⟨z, hz, hzd⟩ := back j y t hj hy
        rw [ht j z hz hzd] at hu
        cases hu)
    by_cases hE : i ∈ efIdx E
    · -- the chain's next
      obtain ⟨p, hp⟩ := List.getElem?_of_mem hE
      have hpk : ¬ p < k := fun h => by rw [(inv.lst p i hp).2 h] at hun; cases hun
      have hpk2 : p = k := by
        rcases Nat.lt_or_ge k p with h | h
        · exfalso
          obtain ⟨q, rfl⟩ : ∃ q, p = q + 1 := ⟨p - 1, by omega⟩
          have hq := (List.getElem?_eq_some_iff.1 hp).1
          have hqe : (efIdx E)[q]? = some (efIdx E)[q] := List.getElem?_eq_getElem (by omega)
          obtain ⟨o', ho', hw⟩ := ok.chn q _ i hqe hp
          rw [hol] at ho'
          obtain rfl : o = o' := by injection ho'
          obtain ⟨b, hb⟩ := efIdx_some hqe
          obtain ⟨x, hx, _⟩ := ok.eff _ (List.mem_of_getElem? hb)
          have h1 := listed_dep hdeps (by rw [hlsz]; exact (List.getElem?_eq_some_iff.1 hx).1) hw
          have := (inv.lst q _ hqe).1 h1
          omega
        · omega
      obtain rfl : k = p := hpk2.symm
      obtain ⟨cl, hcl⟩ := efIdx_some hp
      obtain ⟨o', ho', hog, hos, hlate⟩ := ok.eff _ (List.mem_of_getElem? hcl)
      dsimp only at ho' hlate
      rw [hol] at ho'
      obtain rfl : o = o' := by injection ho'
      have hob : (boxedF (efIdx E) 0 l).toArray[i]? = some (idleU o) := by rw [bxd_get, ho]; simp [hE]
      obtain ⟨u, _, hK⟩ := all_put (w0 := w0) (fuel := fuel) (a' := a') hob hi' (fun j x t hj hx ht => uniq j x t hj hx ht) (by omega) hH w0 (Fr.refl _ _)
      have hK' : ∀ wY, Fr (fun _ => False) w0 wY → wpAnyQ P .any (boxedF (efIdx E) 0 l).toArray (fun w' => ∃ Y : FrW wY, w' = Y.val) (fun x => x = aF) fuel (listed.setIfInBounds i true) (a'.put o.dst u) := hK
      have hlk : ∀ t ∈ o.looksAt l.toArray, a.tmps[t]? = af.tmps[t]? := fun t ht => by
        have hw : ∀ (j : Nat) (y : Oper), l[j]? = some y → y.dst = some t → listed.getD j true = true := fun j y hy hyd => listed_dep hdeps (by rw [hlsz]; exact (List.getElem?_eq_some_iff.1 hy).1) (sees_spec hos ht hy hyd)
        by_cases hex : ∀ (p e : Nat) (x : Oper), p < k → (efIdx E)[p]? = some e → l[e]? = some x → x.dst ≠ some t
        · rw [(inv.out t hex).1, (inv.out t hex).2]
          exact fin t hw
        · have : ∃ (p e : Nat) (x : Oper), p < k ∧ (efIdx E)[p]? = some e ∧ l[e]? = some x ∧ x.dst = some t := Classical.byContradiction fun hn => hex fun p e x h1 h2 h3 h4 => hn ⟨p, e, x, h1, h2, h3, h4⟩
          obtain ⟨p, e, x, h1, h2, h3, h4⟩ := this
          exact inv.don p e t x h1 h2 h3 h4
      have hsel := Region.noSelect_spec ok.sel
      obtain ⟨c1, _⟩ := look_congr (ops := l.toArray) (o := o) (a := a) (a' := af) (fun cs b => hsel i o cs b ho) hlk
      obtain ⟨wk, hf, he⟩ := inv.eff
      rw [efOps_drop hcl hol] at he
      have he1 := he w hf
      have hwp : o.wp P af w (fun a2 w2 => Exit.normal = Exit.normal ∧ a2.defers = af.defers ∧ (cl = true → Fr (fun _ => False) w w2) ∧ wpEf P l.toArray (fun x y => Q .normal x y) (efOps l (E.drop (k + 1))) a2 w2) (fun ex a2 w2 => ex = Exit.normal ∧ a2.defers = af.defers ∧ (cl = true → Fr (fun _ => False) w w2) ∧ wpEf P l.toArray (fun x y => Q .normal x y) (efOps l (E.drop (k + 1))) a2 w2) := by
        have h1 : (if Region.wanted o (yielded l.toArray af.tmps) then _ else _) := he1
        simp only [Region.wanted, hog, if_true] at h1
        rcases h1 with h1 | ⟨_, x, y, h2⟩
        · exact h1
        · cases h2.1
      have hset : ∀ j, (listed.setIfInBounds i true).getD j true = true ↔ (j = i ∨ listed.getD j true = true) := fun j => by
        by_cases e : i = j
        · subst e; simp [getD_set_same (show i < listed.size by omega)]
        · rw [getD_set_ne true e]
          exact ⟨.inr, fun h => h.elim (fun e2 => absurd e2.symm e) id⟩
      unfold wpOp
      rw [ho]
      simp only [Region.wanted, hog, if_true]
      left
      refine eff_conv c1 (fun v w2 h => ?_) (fun x w2 h => h.2.1) (fun ex x w2 h => h.1) hwp
      obtain ⟨_, hd2, hcl2, hrest⟩ := h
      refine ih _ (k + 1) (a'.put o.dst u) _ (af.put o.dst v) w2 ⟨fun p e hpe => ?_, ?_, ⟨by rw [put_dfr, put_dfr]; exact inv.df.1, by rw [put_dfr]; exact inv.df.2⟩, ⟨by rw [put_size, put_size]; exact inv.sz.1, by rw [put_size]; exact inv.sz.2.1, by rw [put_size, put_size]; exact inv.sz.2.2⟩, fun p e t x h1 h2 h3 h4 => ?_, fun t ht => ?_, ⟨w2, Fr.refl _ _, hrest⟩, ?_, by simp [hlsz], cld_set hol hdeps inv.cld⟩ hK'
      · rw [hset e]
        by_cases hpk : p = k
        · subst hpk
          rw [hp] at hpe
          cases hpe
          simp
        · have hne : e ≠ i := fun he => by
            subst he
            have h1 := (List.getElem?_eq_some_iff.1 hp)
            have h2 := (List.getElem?_eq_some_iff.1 hpe)
            exact hpk ((List.getElem_inj ok.nod).1 (h2.2.trans h1.2.symm))
          rw [show (e = i ∨ listed.getD e true = true) ↔ listed.getD e true = true from ⟨fun h => h.elim (fun h => absurd h hne) id, .inr⟩, inv.lst p e hpe]
          omega
      · have := (List.getElem?_eq_some_iff.1 hcl).1; omega
      · by_cases hto : o.dst = some t
        · by_cases hts : t < a.tmps.size
          · rw [hto, put_at hts, put_at (by rw [← inv.sz.2.2]; exact hts)]
          · rw [Array.getElem?_eq_none (by rw [put_size]; omega), Array.getElem?_eq_none (by rw [put_size, ← inv.sz.2.2]; omega)]
        · rw [put_out hto, put_out hto]
          by_cases hpk : p = k
          · subst hpk
            rw [hp] at h2
            cases h2
            rw [hol] at h3
            cases h3
            exact absurd h4 hto
          · exact inv.don p e t x (by omega) h2 h3 h4
      · have hto : o.dst ≠ some t := ht k i o (by omega) hp hol
        rw [put_out hto, put_out hto, put_out hto]
        exact inv.out t (fun p e x h1 h2 h3 => ht p e x (by omega) h2 h3)
      · cases cl with
        | true =>
          rcases inv.cls with h | h
          · exact .inl (h.trans (hcl2 rfl))
          · refine .inr (fun j hj hjn hjl => h j hj hjn ?_)
            cases e : listed.getD j true with
            | false => rfl
            | true => rw [(hset j).2 (.inr e)] at hjl; cases hjl
        | false =>
          refine .inr (fun j hj hjn hjl => Classical.byContradiction fun hjp => ?_)
          have h1 := listed_depT inv.cld hlsz dp hdeps (by rw [hlsz]; exact hj) (hlate rfl j hj hjn hjp)
          rw [(hset j).2 (.inr h1)] at hjl
          cases hjl
    · -- one that only reads
      have hob : (boxedF (efIdx E) 0 l).toArray[i]? = some o := by rw [bxd_get, ho]; simp [hE]
      have hsel := Region.noSelect_spec ok.sel
      have hapart : ∀ t, (t ∈ o.looksAt l.toArray ∨ o.dst = some t) → ∀ (p e : Nat) (x : Oper), p < k → (efIdx E)[p]? = some e → l[e]? = some x → x.dst ≠ some t := fun t ht p e x _ h2 h3 h4 => by
        have := ok.ap i o hol hE e (List.mem_of_getElem? h2) x t h3 h4
        rcases ht with h | h
        · exact this.1 h
        · exact this.2 h
      obtain ⟨c1, c2⟩ := look_congr (ops := l.toArray) (o := o) (a := a) (a' := a') (fun cs b => hsel i o cs b ho) (fun t ht => (inv.out t (hapart t (.inl ht))).1)
      have hset : ∀ j, j ∈ efIdx E → (listed.setIfInBounds i true).getD j true = listed.getD j true := fun j hj => getD_set_ne true (fun e => hE (e ▸ hj))
      have hset2 : ∀ j, (listed.setIfInBounds i true).getD j true = false → listed.getD j true = false := fun j hj => by
        by_cases e : i = j
        · subst e; exact hun
        · rwa [getD_set_ne true e] at hj
      have key : ∀ v w', Fr (fun _ => False) w w' → (∀ wY, Fr (fun _ => False) w0 wY → wpAnyQ P .any (boxedF (efIdx E) 0 l).toArray (fun w' => ∃ Y : FrW wY, w' = Y.val) (fun x => x = aF) fuel (listed.setIfInBounds i true) (a'.put o.dst v)) → wpAny P .any l.toArray Q fuel (listed.setIfInBounds i true) (a.put o.dst v) w' := fun v w' hf hK => by
        refine ih _ k (a'.put o.dst v) _ af w' ⟨fun p e hpe => by rw [hset e (List.mem_of_getElem? hpe)]; exact inv.lst p e hpe, inv.kle, ⟨by rw [put_dfr, put_dfr]; exact inv.df.1, inv.df.2⟩, ⟨by rw [put_size, put_size]; exact inv.sz.1, inv.sz.2.1, by rw [put_size]; exact inv.sz.2.2⟩, fun p e t x h1 h2 h3 h4 => ?_, fun t ht => ?_, ?_, ?_, by simp [hlsz], cld_set hol hdeps inv.cld⟩ hK
        · have hto : o.dst ≠ some t := fun hd => hapart t (.inr hd) p e x h1 h2 h3 h4
          rw [put_out hto]
          exact inv.don p e t x h1 h2 h3 h4
        · exact ⟨put_same (inv.out t ht).1 inv.sz.1, (inv.out t ht).2⟩
        · obtain ⟨wk, h1, h2⟩ := inv.eff
          exact ⟨wk, h1.trans hf, h2⟩
        · exact inv.cls.imp (fun h => h.trans hf) (fun h j hj hjn hjl => h j hj hjn (hset2 j hjl))
      unfold wpOp
      rw [ho]
      simp only []
      rw [c2]
      rcases inv.cls with hcls | hcls
      · obtain ⟨v, hY, hK⟩ := all_put (w0 := w0) (fuel := fuel) (a' := a') hob hi' uniq (by omega) hH w hcls
        rcases hY with ⟨hw, hq⟩ | ⟨hw, rfl⟩
        · rw [bxd_yielded] at hw
          rw [if_pos hw]
          left
          refine Oper.wp_of_quiet (C := fun w' => ∃ Y : FrW w, w' = Y.val) (K := fun x => x = a.put o.dst v) ⟨⟨w, Fr.refl _ w⟩, rfl⟩ ?_ ⟨v, fun w1 h1 => ?_, rfl⟩
          · rintro x w' ⟨Y, rfl⟩ rfl
            exact key v _ Y.fr hK
          · have := hq w1 h1
            unfold Oper.quietAt at *
            rw [c1]
            exact this
        · rw [bxd_yielded] at hw
          rw [if_neg (by rw [hw]; simp)]
          exact key undef w (Fr.refl _ w) hK
      · have hip := hcls i hil hE hun
        obtain ⟨hog, hos⟩ := ok.pur i hip o hol
        obtain ⟨v, hv⟩ := hpu i hip o hol
        obtain ⟨v', hY, hK⟩ := all_put (w0 := w0) (fuel := fuel) (a' := a') hob hi' uniq (by omega) hH w0 (Fr.refl _ _)
        have hfin : ∀ t ∈ o.looksAt l.toArray, a'.tmps[t]? = aF.tmps[t]? := fun t ht => fin t (fun j y hy hyd => listed_dep hdeps (by rw [hlsz]; exact (List.getElem?_eq_some_iff.1 hy).1) (sees_spec hos ht hy hyd))
        obtain ⟨d1, _⟩ := look_congr (ops := l.toArray) (o := o) (a := a') (a' := aF) (fun cs b => hsel i o cs b ho) hfin
        have hvv : v' = v := by
          rcases hY with ⟨_, hq⟩ | ⟨hw, _⟩
          · have h1 := hq w0 ⟨⟨w0, Fr.refl _ _⟩, rfl⟩
            unfold Oper.quietAt at h1
            rw [d1, hv w0] at h1
            exact h1.2.symm
          · simp [Region.wanted, hog] at hw
        subst hvv
        simp only [Region.wanted, hog, if_true]
        left
        unfold Oper.wp
        rw [c1, d1, hv w]
        exact key v' w (Fr.refl _ w) hK
theorem fin_sz {md : Region.Mode} {ops : Array Oper} {C : World → Prop} : ∀ (fuel : Nat) (listed : Array Bool) (a : Act), wpAnyQ P md ops C (fun x => x = aF) fuel listed a → aF.tmps.size = a.tmps.size ∧ aF.defers = a.defers
  | 0, _, a, h => by have h2 : a = aF := h.2; rw [h2]; exact ⟨rfl, rfl⟩
  | fuel + 1, listed, a, h => by
    cases hr : Region.ready md ops listed with
    | nil => have h2 : a = aF := h.1 hr; rw [h2]; exact ⟨rfl, rfl⟩
    | cons i r =>
      have hi : i ∈ Region.ready md ops listed := by rw [hr]; exact List.mem_cons_self
      obtain ⟨_, o, ho, _⟩ := mem_ready.1 hi
      obtain ⟨v, _, hK⟩ := yieldsIn_of_qOp ho (h.2 i hi)
      have h3 := fin_sz fuel _ _ hK
      rw [put_size, put_dfr] at h3
      exact h3
theorem wp_region_eff {id : Nat} {a : Act} {w : World} (E : Efs) (pu : List Nat) (dp : Nat) {l' : List Oper} (hm : P.follows .mixedOrders = true) (hl : boxedF (efIdx E) 0 l = l') (hB : efB l E pu dp = true) (hL : Region.lexB .any l'.toArray = true)
    (h : ∃ aF : Act, (∀ X : FrW w, wpQuiet P l'.toArray (fun w' => ∃ Y : FrW X.val, w' = Y.val) (fun a' => a' = aF) l' a) ∧
      (∀ i ∈ pu, ∀ o, l[i]? = some o → ∃ v, ∀ w, (execOp aF.eval o).run P w = .ok (.value v) w) ∧ wpEf P l.toArray (fun x y => Q .normal x y) (efOps l E) aF w) : (Code.region id l.toArray true).wp P Q a w := by
  have ok := efB_ok hB
  obtain ⟨aF, h, hpu, he⟩ := h
  subst hl
  simp only [Region.lexB, Bool.and_eq_true] at hL
  have hH : ∀ wX, Fr (fun _ => False) w wX → wpAnyQ P .any (boxedF (efIdx E) 0 l).toArray (fun w' => ∃ Y : FrW wX, w' = Y.val) (fun x => x = aF) l.toArray.size (Array.replicate l.toArray.size false) a := fun wX hX => by
    have := wpAnyQ_lex (C := fun w' => ∃ Y : FrW wX, w' = Y.val) (md := .any) hL.1 (boxedF (efIdx E) 0 l) 0 (Array.replicate (boxedF (efIdx E) 0 l).toArray.size false) a (by simp) (by simpa using hL.2) (h ⟨wX, hX⟩)
    rw [bxd_size] at this
    simpa [bxd_len] using this
  obtain ⟨hs, hd⟩ := fin_sz _ _ _ (hH w (Fr.refl _ _))
  refine wp_region_any hm (eff_sim (w0 := w) (aF := aF) ok hpu _ _ 0 a a aF _ ⟨fun p e hpe => ?_, Nat.zero_le _, ⟨rfl, rfl⟩, ⟨rfl, rfl, hs.symm⟩, fun p e t o hp => by omega, fun t _ => ⟨rfl, rfl⟩, ⟨w, (Fr.refl _ w).drew, by simpa using he⟩, .inl (Fr.refl _ w).drew, by simp, fun j x hx hj => ?_⟩ hH)
  rotate_left
  · have := (List.getElem?_eq_some_iff.1 hx).1
    simp [this] at hj
  obtain ⟨b, hb⟩ := efIdx_some hpe
  obtain ⟨o, ho, _⟩ := ok.eff _ (List.mem_of_getElem? hb)
  have hel := (List.getElem?_eq_some_iff.1 ho).1
  dsimp only at hel
  constructor
  · intro h1
    simp [hel] at h1
  · intro h1; omega
end
end Go.Proofs.YtefjdcghdcbojaaGreat

namespace Go.Proofs.YtefjdcghdcbojaaGreat
open Go.RowKit Go.Maps
/-- A bin as it is asked for. -/
structure BI where
  nu : Int
  zo : Int
  ro : Int
def biC (b : BI) : Array Value := #[.int .i64 b.nu, .int .i64 b.zo, .int .i64 b.ro]
def okBi (_ : World) (b : BI) : Prop := okI b.nu ∧ okI b.zo ∧ okI b.ro
theorem okBiKeeps : Keeps okBi := fun _ _ _ _ h _ _ => h
theorem biSize (b : BI) : (biC b).size = 3 := rfl
abbrev Sbi (w : World) (v : Value) (B : List BI) : Prop := Sq 3 biC okBi w v B
def BI.e (b : BI) : BE := ⟨b.nu, b.zo, b.ro, []⟩
def BI.bv (b : BI) : BV := ⟨b.nu, b.zo, b.ro, .slice none 0 0, []⟩
def bOkL : Int → List BI → Bool
  | _, [] => true
  | last, b :: r => mayBinF b.nu b.zo b.ro && decide (last < b.nu) && bOkL b.nu r
def mayBs (B : List BI) : Bool := decide (1 ≤ B.length) && decide (B.length ≤ 64) && bOkL 0 B
theorem drop_at {α : Type} {B : List α} {k : Nat} {b : α} (h : B[k]? = some b) : B.drop k = b :: B.drop (k + 1) := by
  rw [← (List.getElem?_eq_some_iff.1 h).2]
  exact List.drop_eq_getElem_cons _
/-- What New leaves. -/
def NwP (w : World) (B : List BI) (e : Ending) (w' : World) : Prop :=
  Fr (fun _ => False) w w' ∧ ((mayBs B = false ∧ e = .returned (.tuple #[.pointer none, .int .i64 1])) ∨
    (mayBs B = true ∧ ∃ g TS L, e = .returned (.tuple #[.pointer (some ⟨g, 0, none⟩), .int .i64 0]) ∧ FA w' g TS L ∧ L.map BV.e = B.map BI.e ∧ ∀ b, TS b → w.heap.size ≤ b))
theorem bv_map (B : List BI) : (B.map BI.bv).map BV.e = B.map BI.e := by rw [List.map_map]; rfl
theorem flat_bv_snoc (L : List BV) (b : BI) : flat BV.cs (L ++ [b.bv]) = flat BV.cs L ++ [.int .i64 b.nu, .int .i64 b.zo, .int .i64 b.ro, .slice none 0 0] := by rw [flat_app]; rfl
theorem bi_bok {w : World} {b : BI} (h : okBi w b) : BOk w b.bv := ⟨h.1, h.2.1, h.2.2, by exact ⟨Nat.zero_le _, none, 0, rfl, fun i p hp => by simp [BI.bv] at hp⟩⟩
theorem NwP.made {w W : World} {B : List BI} {n0 : Nat} {v : Value} (hm : mayBs B = true) (hf : Fr (fun _ => False) w W) (hn : w.heap.size ≤ n0) (hB : ∀ b ∈ B, okBi w b) (ho : W.heap[n0]? = some (.cells #[v] 62)) (hr : W.ownsRow (n0 + 1) 64 4 v B.length (flat BV.cs (B.map BI.bv))) : NwP w B (.returned (.tuple #[.pointer (some ⟨n0, 0, none⟩), .int .i64 0])) W := by
  have hB1 : 1 ≤ B.length := by
    unfold mayBs at hm
    simp only [Bool.and_eq_true, decide_eq_true_eq] at hm
    exact hm.1.1
  rcases hr.2 with ⟨_, h0⟩ | ⟨r, cap, cur, rfl, hbase, hb, hle, hmx, hsz, ht⟩
  · omega
  · have hrl := (Array.getElem?_eq_some_iff.1 hb).1
    have hnl := (Array.getElem?_eq_some_iff.1 ho).1
    refine ⟨hf, .inr ⟨hm, n0, fun c => c = n0 ∨ c = r, B.map BI.bv, rfl, ⟨⟨r, cap, cur, by rw [List.length_map]; exact ho, hb, by rw [List.length_map]; exact hle, hmx, hsz, by rw [List.length_map]; exact ht, .inr rfl, by omega, fun b hb' => ?_⟩, .inl rfl, fun b hb' => by omega⟩, bv_map B, fun b hb' => by omega⟩⟩
    obtain ⟨x, hx, rfl⟩ := List.mem_map.1 hb'
    exact ⟨bi_bok (hB x hx), fun hne => absurd rfl hne⟩
set_option maxRecDepth 100000 in
set_option maxHeartbeats 16000000 in
theorem bNew (w : World) (v : Value) (B : List BI) (h : Sbi w v B) : Calls Tryz.prog 17 #[v] w fun e w' => NwP w B e w' := by
  obtain ⟨i0, hi', hz0, hz1, hz2⟩ := info_parts infoBin
  obtain ⟨n0, hn0⟩ : ∃ n0, w.heap.size = n0 := ⟨_, rfl⟩
  obtain ⟨a, c, rfl⟩ := h.sl
  have HB := Lib.hid h
  have hlen := h.len
  obtain ⟨N, hN⟩ : ∃ N, B.length = N := ⟨_, rfl⟩
  have HN := Lib.hid hN
  rw [hN] at hlen ⊢
  obtain ⟨PP, hPP⟩ : ∃ PP, NwP w B = PP := ⟨_, rfl⟩
  have HPP := Lib.hid hPP
  rw [hPP]
  clear h hN hPP
  by_cases h1 : N < 1
  · have hr : Hid (mayBs B = false) := Lib.hid (by unfold mayBs; rw [HN.out]; simp; omega)
    have hI : (N : Int) < 1 := by omega
    clear h1
    go_enter Tryz.func17, Tryz.ntmps17
    go_wp2_with fail
    rw [← HPP.out]
    exact ⟨Fr.refl _ _, .inl ⟨hr.out, rfl⟩⟩
  by_cases h2 : 64 < N
  · have hr : Hid (mayBs B = false) := Lib.hid (by unfold mayBs; rw [HN.out]; simp; omega)
    have hI : ¬ (N : Int) < 1 := by omega
    have hI2 : (64 : Int) < N := by omega
    clear h1 h2
    go_enter Tryz.func17, Tryz.ntmps17
    go_wp2_with fail
    rw [← HPP.out]
    exact ⟨Fr.refl _ _, .inl ⟨hr.out, rfl⟩⟩
  have HMB : Hid (mayBs B = bOkL 0 B) := Lib.hid (by unfold mayBs; rw [HN.out]; simp; omega)
  have hI : ¬ (N : Int) < 1 := by omega
  have hI2 : ¬ (64 : Int) < N := by omega
  have HN64 : Hid (N ≤ 64) := Lib.hid (by omega)
  obtain ⟨W0, hW0⟩ : ∃ W0, w.alloc (.cells #[.slice none 0 0] 62) = W0 := ⟨_, rfl⟩
  have hf0 : Fr (fun _ => False) w W0 := by rw [← hW0]; exact (Fr.refl _ w).alloc _
  have hx0 : W0.heap[n0]? = some (.cells #[.slice none 0 0] 62) := by rw [← hW0]; exact heap_at hn0.symm _
  have HF0 := Lib.hid hf0; have HX0 := Lib.hid hx0; have HN0 := Lib.hid hn0
  have HS0 : Hid (W0.heap.size = n0 + 1) := Lib.hid (by rw [← hW0]; simp; omega)
  clear h1 h2 hf0 hx0
  go_enter Tryz.func17, Tryz.ntmps17
  go_wp2_with fail
  go_loopw [5, 20] (fun vl vi wr => ∃ (k : Nat) (last : Int) (vr : Value), k ≤ N ∧ vi = .int .i64 k ∧ vl = .int .i64 last ∧ bOkL 0 B = bOkL last (B.drop k) ∧ wr.heap[n0]? = some (.cells #[vr] 62) ∧ wr.ownsRow (n0 + 1) 64 4 vr k (flat BV.cs ((B.take k).map BI.bv)) ∧ Fr (fun _ => False) w wr) (fun _ vi _ => N - (intOf vi).toNat)
  case atStart => exact ⟨0, 0, .slice none 0 0, Nat.zero_le _, rfl, rfl, rfl, HX0.out, World.ownsRow_nil _ _ _ _, HF0.out⟩
  case round =>
    obtain ⟨k, last, vr, hk, rfl, rfl, hbo, hob, hown, hfr⟩ := hrel
    have HBO := Lib.hid hbo; have HOB := Lib.hid hob; have HOW := Lib.hid hown; have HFR := Lib.hid hfr
    obtain ⟨ra, rc, rfl⟩ := row_sl hown
    by_cases hlt : k < N
    · obtain ⟨b, hb⟩ : ∃ b, B[k]? = some b := ⟨B[k]'(by rw [HN.out]; exact hlt), List.getElem?_eq_getElem _⟩
      have HDR := Lib.hid (drop_at hb)
      obtain ⟨ad, rfl, hok, z0, zs⟩ := (HB.out.fr0 okBiKeeps hfr).at_ hb
      have x0 := z0 (.int .i64 b.nu) rfl
      have x1 := zs 0 (.int .i64 b.zo) rfl
      have x2 := zs 1 (.int .i64 b.ro) rfl
      dsimp only [Nat.zero_add, Nat.reduceAdd] at x0 x1 x2
      have hkI : (k : Int) < N := by omega
      have hMB := Lib.hid (fun W => bMayBin W b.nu b.zo b.ro)
      have HBB := Lib.hid hb
      obtain ⟨bx, hbx⟩ : ∃ bx, wr.heap.size = bx := ⟨_, rfl⟩
      have HBX := Lib.hid hbx
      clear hb hok z0 zs hbo hob hown hfr
      cases hmb : mayBinF b.nu b.zo b.ro with
      | false =>
        have hr : Hid (mayBs B = false) := Lib.hid (by rw [HMB.out, HBO.out, HDR.out]; simp [bOkL, hmb])
        rw [hmb] at hMB
        clear hmb
        go_wp2_with (go_at_call 61; refine (hMB.out _).mono ?_; rintro e w2 ⟨rfl, hf2⟩; have HF2 := Lib.hid (HFR.out.trans (((Fr.refl (fun _ => False) wr).alloc _).trans hf2)); clear hf2)
        rw [← HPP.out]
        exact ⟨HF2.out, .inl ⟨hr.out, rfl⟩⟩
      | true =>
        rw [hmb] at hMB
        by_cases hle : b.nu ≤ last
        · have hr : Hid (mayBs B = false) := Lib.hid (by rw [HMB.out, HBO.out, HDR.out]; simp [bOkL]; intro _ h; omega)
          clear hmb
          go_wp2_with (go_at_call 61; refine (hMB.out _).mono ?_; rintro e w2 ⟨rfl, hf2⟩; have HF2 := Lib.hid (HFR.out.trans (((Fr.refl (fun _ => False) wr).alloc _).trans hf2)); have hxb := hf2.at_ (heap_at HBX.out.symm (.cells #[.int .i64 b.nu, .int .i64 b.zo, .int .i64 b.ro] 56)) (fun e => e); have y0 := cell_obj hxb 0 (.int .i64 b.nu) rfl; clear hf2 hxb)
          rw [← HPP.out]
          exact ⟨HF2.out, .inl ⟨hr.out, rfl⟩⟩
        · have hnx : Hid (bOkL 0 B = bOkL b.nu (B.drop (k + 1))) := Lib.hid (by rw [HBO.out, HDR.out]; simp [bOkL, hmb]; intro h; omega)
          clear hmb
          go_wp2_with (go_at_call 61; refine (hMB.out _).mono ?_; rintro e w2 ⟨rfl, hf2⟩; have HF2 := Lib.hid (HFR.out.trans (((Fr.refl (fun _ => False) wr).alloc _).trans hf2)); have hxb := hf2.at_ (heap_at HBX.out.symm (.cells #[.int .i64 b.nu, .int .i64 b.zo, .int .i64 b.ro] 56)) (fun e => e); have HXB := Lib.hid hxb; have hgo := hf2.at_ (heap_keep HOB.out _) (fun e => e); have HGO := Lib.hid hgo; have HOW2 := Lib.hid ((((Fr.refl (fun _ => False) wr).alloc _).trans hf2).row HOW.out (fun _ _ e => e)); have y0 := cell_obj hxb 0 (.int .i64 b.nu) rfl; have y1 := cell_obj hxb 1 (.int .i64 b.zo) rfl; have y2 := cell_obj hxb 2 (.int .i64 b.ro) rfl; have g0 := cell_obj hgo 0 (.slice ra k rc) rfl; clear hf2 hxb hgo)
          refine wp_region_eff [(7, true), (8, false), (11, false)] [0, 1, 9, 10] 3 (by kernel_rfl) rfl (by kernel_rfl) (by kernel_rfl) ?_
          apply Exists.intro
          refine ⟨?hh, ?pu, ?ef⟩
          case hh =>
            intro X
            have g0 := FrW.cell (X.fr.cell g0 (fun e => e)); have y0 := FrW.cell (X.fr.cell y0 (fun e => e)); have y1 := FrW.cell (X.fr.cell y1 (fun e => e)); have y2 := FrW.cell (X.fr.cell y2 (fun e => e))
            simp (config := { decide := true }) only [boxedF, efIdx, List.map_cons, List.map_nil, idleU, if_true, if_false, ite_true, ite_false]
            repeat (go_big_quiet_step (fail))
            exact wpQuiet_nil rfl
          case pu =>
            intro i' hi' o ho
            simp only [List.mem_cons, List.not_mem_nil, or_false] at hi'
            rcases hi' with rfl | rfl | rfl | rfl
            all_goals
              cases ho
              apply Exists.intro
              intro w'
              simp [execOp, Act.eval, go_sem]
              try exact rfl
          case ef =>
            simp only [efOps, List.filterMap_cons, List.filterMap_nil, List.getElem?_cons_succ, List.getElem?_cons_zero, Option.map_some]
            clear g0 y0 y1 y2
            intro w3 hw3
            have HW3 := Lib.hid hw3
            clear hw3
            go_wp2_with fail
            refine ⟨(Fr.refl _ _).alloc _, ?_⟩
            intro w4 hw4
            have HW4 := Lib.hid hw4
            have hf24 : Fr (fun _ => False) w2 w4 := HW3.out.trans (((Fr.refl (fun _ => False) w3).alloc _).trans hw4)
            have HF24 := Lib.hid hf24
            have hsz4 : n0 + 1 ≤ w4.heap.size := by have h1 := (Array.getElem?_eq_some_iff.1 (hf24.at_ HGO.out (fun e => e))).1; omega
            have HSZ4 := Lib.hid hsz4
            clear hw4 hf24 hsz4
            go_wp2_with (at_builtin; refine wpList_append_src rfl _ _ 60 rfl (n0 + 1) 64 i0 (.agg #[.int .i64 0, .int .i64 0, .int .i64 0, .slice none 0 0]) 48 Tryz.underlying60 hi' hz0 hz1 hz2 rfl (by decide) (.slice ra k rc) k (flat BV.cs ((B.take k).map BI.bv)) rfl (HF24.out.row HOW2.out (fun _ _ e => e)) 1 rfl (rd_obj (cs := [.int .i64 b.nu, .int .i64 b.zo, .int .i64 b.ro, .slice none 0 0]) (HW4.out.at_ (heap_new _ _) (fun e => e)) rfl) (by intro u hu; simp only [List.mem_cons, List.not_mem_nil, or_false] at hu; rcases hu with rfl | rfl | rfl | rfl <;> rfl) (by have := HN64.out; unfold maxLen; omega) (by have := HN64.out; omega) HSZ4.out ?_; intro v5 w5 hown5 hgrow5 hloc5; have HO5 := Lib.hid hown5; have HG5 := Lib.hid (Fr.grown (S := fun c => (Value.slice ra k rc).ownBlock = some c) hgrow5 (fun c hc _ => hc)); obtain ⟨a5, c5, rfl⟩ := row_sl hown5; clear hown5 hgrow5 hloc5)
            intro w6 hw6
            have hlt : ∀ c, (Value.slice ra k rc).ownBlock = some c → n0 + 1 ≤ c ∧ c < wr.heap.size := fun c hc => HOW.out.lt c hc
            have hgo6 := hw6.at_ (HG5.out.at_ (HF24.out.at_ HGO.out (fun e => e)) (fun e => by have := hlt n0 e; omega)) (fun e => e)
            have hxb6 := hw6.at_ (HG5.out.at_ (HF24.out.at_ HXB.out (fun e => e)) (fun e => by have := hlt bx e; have := HBX.out; omega)) (fun e => e)
            have g0 := cell_obj hgo6 0 (.slice ra k rc) rfl
            have gf := obj_frozen hgo6 0
            have HO6 := Lib.hid (hw6.row HO5.out (fun _ _ e => e))
            have HGO6 := Lib.hid hgo6; have HXB6 := Lib.hid hxb6; have HLT := Lib.hid hlt
            have HFW : Hid (Fr (fun _ => False) w w6) := Lib.hid (((HF2.out.trans HF24.out).trans' HG5.out (fun c hc e => by have := (hlt c e).1; have := HN0.out; omega)).trans hw6)
            clear hw6 hlt hgo6 hxb6
            go_wp2_with fail
            have hfs : Fr (fun c => c = n0) w6 (w6.setCell ⟨n0, 0, none⟩ (.slice a5 (k + 1) c5)) := (Fr.refl (fun c => c = n0) w6).setCell (p := ⟨n0, 0, none⟩) (fun _ => rfl) _
            have hgo7 := obj_set HGO6.out 0 (.slice a5 (k + 1) c5)
            have hbne : bx ≠ n0 := by
              have h1 := (Array.getElem?_eq_some_iff.1 HOB.out).1
              have h2 := HBX.out
              omega
            have hxb7 := hfs.at_ HXB6.out hbne
            have HO7 := Lib.hid (hfs.row HO6.out (fun c hc e => by have := (HO6.out.lt c hc).1; omega))
            have HFS := Lib.hid (HFW.out.trans' hfs (fun c hc e => by have := HN0.out; omega))
            obtain ⟨W7, hW7⟩ : ∃ W, w6.setCell ⟨n0, 0, none⟩ (.slice a5 (k + 1) c5) = W := ⟨_, rfl⟩
            rw [hW7] at hgo7 hxb7 HO7 HFS ⊢
            have HGO7 := Lib.hid hgo7; have HXB7 := Lib.hid hxb7
            clear g0 gf hfs hgo7 hxb7 hbne hW7
            intro w8 hw8
            have y0 := cell_obj (hw8.at_ HXB7.out (fun e => e)) 0 (.int .i64 b.nu) rfl
            have HW8 := Lib.hid hw8
            clear hw8
            go_wp2_with fail
            go_roundw
            case rel =>
              refine ⟨k + 1, b.nu, _, by omega, by go_num, rfl, hnx.out, HW8.out.at_ HGO7.out (fun e => e), ?_, HFS.out.trans HW8.out⟩
              have h1 := HW8.out.row HO7.out (fun _ _ e => e)
              rw [List.take_add_one, HBB.out]
              show World.ownsRow w8 _ _ _ _ _ (flat BV.cs ((B.take k ++ [b]).map BI.bv))
              rw [List.map_append]
              show World.ownsRow w8 _ _ _ _ _ (flat BV.cs ((B.take k).map BI.bv ++ [b.bv]))
              rw [flat_bv_snoc]
              exact h1
            case measure => simp [intOf]; omega
    · obtain rfl : k = N := by omega
      have hkI : ¬ (k : Int) < k := by omega
      have hr : Hid (mayBs B = true) := Lib.hid (by rw [HMB.out, HBO.out, List.drop_of_length_le (by rw [HN.out]; exact Nat.le_refl _)]; rfl)
      have HR2 : Hid (wr.ownsRow (n0 + 1) 64 4 (.slice ra k rc) B.length (flat BV.cs (B.map BI.bv))) := Lib.hid (by
        have := HOW.out
        rw [List.take_of_length_le (by rw [HN.out]; exact Nat.le_refl _)] at this
        rw [HN.out]
        exact this)
      clear hbo hob hown hfr
      go_wp2_with fail
      rw [← HPP.out]
      exact NwP.made hr.out HFR.out (by have := HN0.out; omega) (fun b hb => HB.out.okm hb) HOB.out HR2.out
end Go.Proofs.YtefjdcghdcbojaaGreat

namespace Go.Proofs.YtefjdcghdcbojaaGreat
open Go.RowKit Go.Maps
theorem infoPlaceC : (Tryz.prog.info? 47).map (fun i => (i.zero, i.size, i.bytes)) = some (some (.agg #[.int .i64 0, .string ⟨#[]⟩, .int .i64 0]), 3, 32) := by kernel_rfl
theorem pv_one (L : List PV) : ∀ u ∈ flat pvC L, u.oneCell' = true := by
  intro u hu
  simp only [flat, List.mem_flatMap] at hu
  obtain ⟨b, hb, hr⟩ := hu
  simp only [pvC, List.mem_cons, List.not_mem_nil, or_false] at hr
  rcases hr with rfl | rfl | rfl <;> rfl
set_option maxRecDepth 100000 in
set_option maxHeartbeats 4000000 in
theorem plClone (w : World) (v : Value) (L : List PV) (h : Pl w v L) (hl : L.length ≤ 4398046510976) : Calls Tryz.prog 109 #[v] w fun e w' =>
    ∃ v', e = .returned v' ∧ w'.ownsRow w.heap.size 47 3 v' L.length (flat pvC L) ∧ Fr (fun _ => False) w w' := by
  obtain ⟨i0, hi', hz0, hz1, hz2⟩ := info_parts infoPlaceC
  have hone := pv_one L
  obtain ⟨hb1, a, c, rfl, hbx⟩ := id h
  obtain ⟨n, hn⟩ : ∃ n, L.length = n := ⟨_, rfl⟩
  have HN := Lib.hid hn
  rw [hn] at hl hb1 ⊢
  have hq := fun (w : World) (a : Option Addr) (n c n' c' : Nat) => Lib.run_eql_slice_nil (P := Tryz.prog) w 43 _ a n c n' c' Tryz.underlying43
  cases a with
  | none =>
    have h0 : n = 0 := by
      rcases Nat.eq_zero_or_pos n with h0 | h0
      · exact h0
      · obtain ⟨x, hx⟩ : ∃ x, L[0]? = some x := ⟨L[0]'(by have := HN.out; omega), List.getElem?_eq_getElem _⟩
        obtain ⟨-, ad', e, -⟩ := hbx 0 x hx
        cases e
    subst h0
    have hbe : L = [] := List.eq_nil_of_length_eq_zero HN.out
    subst hbe
    clear h hbx hone hn
    go_enter Tryz.func109, Tryz.ntmps109
    go_wp2_with fail
    go_ret
    exact ⟨_, rfl, World.ownsRow_nil _ _ _ _, Fr.refl _ _⟩
  | some ad =>
    have hown : (w.alloc (.cells #[] 47)).ownsRow w.heap.size 47 3 (.slice (some ⟨w.heap.size, 0, none⟩) 0 0) 0 [] := World.ownsRow_made w #[] 0 (Nat.le_refl _) (Nat.zero_le _) rfl
    have hnews : ∀ (i : Nat) (u : Value), (flat pvC L)[i]? = some u → (w.alloc (.cells #[] 47)).cell? (ad.add i) = some u := fun i u hu => by
      have hi := (List.getElem?_eq_some_iff.1 hu).1
      rw [flat_len1 pvSize] at hi
      obtain ⟨x, hx⟩ : ∃ x, L[i / 3]? = some x := ⟨L[i / 3]'(by omega), List.getElem?_eq_getElem _⟩
      obtain ⟨-, ad', e, hc⟩ := hbx (i / 3) x hx
      cases e
      have hxs : (pvC x)[i % 3]? = some ((pvC x)[i % 3]'(by rw [pvSize]; omega)) := Array.getElem?_eq_getElem _
      have h2 := flat_at pvSize hx (i % 3) _ hxs
      have h3 := hc (i % 3) _ hxs
      rw [show i / 3 * 3 + i % 3 = i by omega] at h2 h3
      rw [h2] at hu
      cases hu
      exact ((Fr.refl (fun _ => False) w).alloc _).cell h3 (fun h => h)
    have hul : (flat pvC L).length = n * 3 := by rw [flat_len1 pvSize, hn]
    have HNEWS := Lib.hid hnews; have HALL := Lib.hid hone; have HUL := Lib.hid hul; have HO := Lib.hid hown
    clear hnews hone hul hown hbx h hn
    go_enter Tryz.func109, Tryz.ntmps109
    go_wp2_with (at_builtin; refine wpList_append_own_at _ rfl _ _ 43 rfl w.heap.size 47 i0 _ 3 32 Tryz.underlying43 hi' hz0 hz1 hz2 rfl (by decide) (.slice (some ⟨w.heap.size, 0, none⟩) 0 0) 0 [] rfl HO.out ad n _ (flat pvC L) rfl HUL.out HNEWS.out HALL.out (by unfold maxLen; omega) (by omega) (by simp) ?_; intro v' w5 hown' hgrow _ hat)
    go_ret
    refine ⟨_, rfl, by simpa using hown', ((Fr.refl (fun _ => False) w).alloc _).trans' (Fr.grown (S := fun b => b = w.heap.size) hgrow (fun r hr _ => by cases hr; rfl)) (fun b hb e => by omega)⟩
end Go.Proofs.YtefjdcghdcbojaaGreat

namespace Go.Proofs.YtefjdcghdcbojaaGreat
open Go.RowKit
/-- What the comparison says of one that stands right of another. -/
def RgtP (cf : PV → PV → Int) (T : EP → EP → Bool) (p q : EP) : Prop := decide (cf p.1 q.1 < 0) = T p q ∧ (T p q = false → T q p = true) ∧ (-1 ≤ cf p.1 q.1 ∧ cf p.1 q.1 ≤ 1)
/-- The comparison, called while only block b has turned (where cf says less than -1 or more than 1 nothing is known of it). -/
def CmpIP (g : Nat) (cb : Value) (cf : PV → PV → Int) (b : Nat) (w : World) : Prop :=
  ∀ (W : World) (x y : PV), Fr (fun c => c = b) w W → (-1 ≤ cf x y ∧ cf x y ≤ 1) → Calls Tryz.prog g #[cb, .agg #[.int .i64 x.b, vS x.g, .int .i64 x.n], .agg #[.int .i64 y.b, vS y.g, .int .i64 y.n]] W fun e w' => e = .returned (.int .i64 (cf x y)) ∧ Fr (fun _ => False) W w'
theorem CmpIP.fr {g : Nat} {cb : Value} {cf : PV → PV → Int} {b : Nat} {w w' : World} (h : CmpIP g cb cf b w) (hf : Fr (fun c => c = b) w w') : CmpIP g cb cf b w' := fun W x y hw => h W x y (hf.trans hw)
theorem ins_permP {A Z Z1 Z2 : List EP} {k : Nat} {x : EP} (hp : Z.Perm (A.take k)) (hz : Z1 ++ Z2 = Z) (hx : A[k]? = some x) : (Z1 ++ x :: Z2).Perm (A.take (k + 1)) := by
  rw [List.take_add_one, hx]
  refine List.perm_middle.trans ?_
  rw [hz]
  exact (List.Perm.cons x hp).trans (List.perm_append_comm (l₁ := [x]))
set_option maxRecDepth 100000 in
set_option maxHeartbeats 8000000 in
theorem insIP (w : World) (b n cap g : Nat) (cb : Value) (cf : PV → PV → Int) (T : EP → EP → Bool) (P A S : List EP) {ia ib : Int} (eg : ∀ args w, (callFunc g args).run Tryz.prog w = .ok (.enter g args) w)
    (h : RwP w b (P ++ (A ++ S))) (hn : n = (P ++ (A ++ S)).length) (hm : n ≤ 1000000000000) (ha : ia = (P.length : Int)) (hb : ib = ((P.length + A.length : Nat) : Int)) (tr : ∀ a b c, T a b = true → T b c = true → T a c = true)
    (hR : A.Pairwise (fun q p => RgtP cf T p q)) (hc : CmpIP g cb cf b w) :
    Calls Tryz.prog 138 #[.slice (some ⟨b, 0, none⟩) n cap, .int .i64 ia, .int .i64 ib, .func (.func g) #[cb] #[]] w fun e w' => e = .returned (.tuple #[]) ∧ ∃ Z, RwP w' b (P ++ (Z ++ S)) ∧ Srt T Z ∧ Z.Perm A ∧ Fr (fun c => c = b) w w' := by
  obtain ⟨pa, hpa⟩ : ∃ pa, P.length = pa := ⟨_, rfl⟩
  obtain ⟨la, hla⟩ : ∃ la, A.length = la := ⟨_, rfl⟩
  have hlen : n = pa + la + S.length := by simp at hn; omega
  rw [hpa] at ha hb
  rw [hla] at hb
  subst ha hb
  have H0 := Lib.hid h; have HM := Lib.hid hm; have HPA := Lib.hid hpa; have HLA := Lib.hid hla; have HRR := Lib.hid hR; have HC := Lib.hid hc; have HTR := Lib.hid tr
  have i1 : (n : Int) ≤ 1000000000000 := by omega
  have i2 : (pa : Int) + la ≤ n := by omega
  clear h hn hm hpa hla hR hc tr hlen
  go_enter Tryz.func138, Tryz.ntmps138
  go_wp2_with fail
  go_loopw [8] (fun v wr => ∃ (k : Nat) (Z : List EP), v = .int .i64 ((pa : Int) + k) ∧ 1 ≤ k ∧ k ≤ la + 1 ∧ RwP wr b (P ++ (Z ++ (A.drop k ++ S))) ∧ Srt T Z ∧ Z.Perm (A.take k) ∧ Fr (fun c => c = b) w wr) (fun v _ => (pa + la + 1) - (intOf v).toNat)
  case atStart =>
    refine ⟨1, A.take 1, by simp, by omega, by omega, ?_, ?_, List.Perm.refl _, Fr.refl _ _⟩
    · have := H0.out
      rw [← List.append_assoc (A.take 1), List.take_append_drop]; exact this
    · cases A with
      | nil => exact Srt.nil
      | cons x r => exact List.pairwise_singleton _ _
  case round =>
    obtain ⟨k, Z, rfl, hk1, hk2, hr, hz, hp, hf⟩ := hrel
    have HR := Lib.hid hr; have HZ := Lib.hid hz; have HP := Lib.hid hp; have HF := Lib.hid hf
    clear hr hz hp hf
    by_cases hlt : k < la
    · obtain ⟨x, hx⟩ : ∃ x, A[k]? = some x := ⟨A[k]'(by rw [HLA.out]; exact hlt), List.getElem?_eq_getElem _⟩
      have hdr : A.drop k = x :: A.drop (k + 1) := by
        rw [List.drop_eq_getElem_cons (List.getElem?_eq_some_iff.1 hx).1, (List.getElem?_eq_some_iff.1 hx).2]
      have hrt : Hid (∀ z ∈ Z, RgtP cf T x z) := Lib.hid (fun z hz => by
        have h1 := HP.out.mem_iff.1 hz
        have h2 := HRR.out
        rw [← List.take_append_drop k A, hdr] at h2
        exact (List.pairwise_append.1 h2).2.2 z h1 x (List.mem_cons_self ..))
      have hzl : Hid (Z.length = k) := Lib.hid (by rw [HP.out.length_eq, List.length_take, HLA.out]; omega)
      obtain ⟨Q, hQ⟩ : ∃ Q, A.drop (k + 1) ++ S = Q := ⟨_, rfl⟩
      have HR2 : Hid (RwP wr b (P ++ (Z ++ x :: Q))) := Lib.hid (by have := HR.out; rw [hdr, List.cons_append, hQ] at this; exact this)
      have HX := Lib.hid hx; have HQ := Lib.hid hQ
      have hltI : (pa : Int) + k < pa + la := by omega
      clear hx hdr hQ HR
      obtain ⟨wo, rfl⟩ : ∃ wo : World, wo = wr := ⟨_, rfl⟩
      go_wp2_with fail
      go_loopw [9] (fun v wi => ∃ (j : Nat) (Z1 Z2 : List EP), v = .int .i64 j ∧ j = pa + Z1.length ∧ Z1 ++ Z2 = Z ∧ RwP wi b (P ++ (Z1 ++ x :: (Z2 ++ Q))) ∧ (∀ z ∈ Z2, T x z = true) ∧ Fr (fun c => c = b) w wi) (fun v _ => (intOf v).toNat)
      case atStart => exact ⟨pa + k, Z, [], by first | rfl | (congr 1; done) | (congr 1; omega), by rw [hzl.out], by simp, HR2.out, (fun z hz => absurd hz (by simp)), HF.out⟩
      case round =>
        obtain ⟨j, Z1, Z2, rfl, hj, hzz, hri, hz2, hfi⟩ := hrel
        have HZZ := Lib.hid hzz; have HRI := Lib.hid hri; have HZ2 := Lib.hid hz2; have HFI := Lib.hid hfi
        clear hzz hri hz2 hfi
        rcases List.eq_nil_or_concat Z1 with rfl | ⟨W, y, hW⟩
        · obtain rfl : j = pa := by simpa using hj
          have d1 : decide ((j : Int) < (j : Int)) = false := by simp
          clear hj
          go_wp2_with fail
          refine wp_region_fr (by kernel_rfl) (by kernel_rfl) ?_
          repeat (go_big_quiet_step (fail))
          refine wpQuiet_nil ?_
          rintro V ⟨⟨_, hV⟩, rfl⟩
          go_wp2_with fail
          have hr' := HRI.out.fr hV (fun e => e)
          go_roundw
          case rel =>
            refine ⟨k + 1, x :: Z2, by first | rfl | (congr 1; done) | (congr 1; omega), by omega, by omega, ?_, ?_, ins_permP (Z1 := []) HP.out HZZ.out HX.out, HFI.out.trans (hV.mono (fun _ _ e => e.elim))⟩
            · have := hr'; rw [← HQ.out] at this; simpa using this
            · exact ins_done (Z1 := []) HTR.out (by rw [HZZ.out]; exact HZ.out) HZ2.out (fun W y e => absurd e (by simp))
          case measure => first | (simp [intOf]; done) | (simp [intOf]; omega)
        · rw [List.concat_eq_append] at hW
          subst hW
          obtain ⟨q, hq⟩ : ∃ q, pa + W.length = q := ⟨_, rfl⟩
          have hjq : j = q + 1 := by rw [hj]; simp; omega
          have hrow : RwP wr b ((P ++ W) ++ y :: ([] ++ x :: (Z2 ++ Q))) := by have := HRI.out; simpa using this
          have e1 : q = (P ++ W).length := by have := HPA.out; simp; omega
          have hry : RgtP cf T x y := hrt.out y (by rw [← HZZ.out]; simp)
          have HDM := Lib.hid hry.2.2
          obtain ⟨c10, c11, c12⟩ := hrow.cells (i := q) (by rw [e1]; exact at_leftP)
          obtain ⟨c20, c21, c22⟩ := hrow.cells (i := q + 1) (by rw [e1]; exact at_rightP (B := []))
          have p10 := FrW.cell c10; have p11 := FrW.cell c11; have p12 := FrW.cell c12
          have p20 := FrW.cell c20; have p21 := FrW.cell c21; have p22 := FrW.cell c22
          have hqn : (q : Int) + 1 < n := by have := HRR; have h3 := hzl.out; rw [← HZZ.out] at h3; simp at h3; omega
          have HROW := Lib.hid hrow; have HE1 := Lib.hid e1; have HQQ := Lib.hid hq
          have hpq : (pa : Int) ≤ q := by omega
          subst hjq
          clear hj hq hrow e1 c10 c11 c12 c20 c21 c22 HRI
          have hjad : decide ((pa : Int) < (q : Int) + 1) = true := decide_eq_true (by omega)
          have ta : ((q : Int) + 1).toNat = q + 1 := by omega
          have tb : ((q : Int)).toNat = q := by omega
          obtain ⟨jb, hjb⟩ : ∃ jb, q + 1 = jb := ⟨_, rfl⟩
          rw [hjb] at ta p20 p21 p22
          have HJB := Lib.hid hjb
          clear hjb
          have ra : IntKind.i64.wrap ((q : Int) + 1) = (q : Int) + 1 := IntWalk.i64_in _ (by omega)
          cases hT : T x y with
          | true =>
            have hv : decide (cf x.1 y.1 < 0) = true := hry.1.trans hT
            go_wp2_with fail
            refine wp_region_fr (by kernel_rfl) (by kernel_rfl) ?_
            repeat (go_big_quiet_step ((go_at_fn g; rename_i X; refine (HC.out _ _ _ (HFI.out.trans (X.fr.mono (fun _ _ e => e.elim))) HDM.out).mono ?_; rintro e w2 ⟨rfl, hF⟩; exact ⟨rfl, ⟨w2, X.fr.trans hF⟩, rfl⟩)))
            refine wpQuiet_nil ?_
            rintro V ⟨⟨_, hV⟩, rfl⟩
            have hr' := HROW.out.fr hV (fun e => e)
            have HFV := Lib.hid (HFI.out.trans (hV.mono (fun _ _ e => e.elim)))
            obtain ⟨c10, c11, c12⟩ := hr'.cells (i := q) (by rw [HE1.out]; exact at_leftP)
            obtain ⟨c20, c21, c22⟩ := hr'.cells (i := q + 1) (by rw [HE1.out]; exact at_rightP (B := []))
            obtain ⟨⟨f20, f21, f22, f10, f11, f12⟩, d0, d1, d2⟩ := hr'.after (i := q + 1) (j := q) (by omega) (p := y.1) c10 c11 c12
            have hsw := hr'.swap' (i := q) (j := q + 1) HE1.out (by rw [HE1.out]; rfl)
            rw [HJB.out] at c20 c21 c22 f20 f21 f22 d0 d1 d2 hsw
            have HSW := Lib.hid hsw
            have HNE : Hid (q ≠ jb) := Lib.hid (by have := HJB.out; omega)
            clear hsw hV hr' p10 p11 p12 p20 p21 p22 hjad
            have za : (0 : Int) ≤ (q : Int) + 1 := by omega
            have rb : IntKind.i64.wrap (q : Int) = (q : Int) := IntWalk.i64_in _ (by omega)
            have lb : (q : Int) < n := by omega
            go_wp2_with fail
            go_region
            have hfs : Fr (fun c => c = b) V (set3 (set3 V b jb y.1) b q x.1) := fr_set3 (fr_set3 (Fr.refl _ V))
            have HFS := Lib.hid (HFV.out.trans hfs)
            clear c10 c11 c12 c20 c21 c22 f10 f11 f12 f20 f21 f22 d0 d1 d2 hfs
            go_wp2_with fail
            go_roundw
            case rel => exact ⟨q, W, y :: Z2, by first | rfl | (congr 1; done) | (congr 1; omega), HQQ.out.symm, by rw [← HZZ.out]; simp, by have := HSW.out.fr (S := fun _ => False) (Fr.refl _ _).drew (fun e => e); simpa using this, (fun z hz => (List.mem_cons.1 hz).elim (fun e => e ▸ hT) (fun h => HZ2.out z h)), HFS.out.drew⟩
            case measure => first | (simp [intOf]; done) | (simp [intOf]; omega)
          | false =>
            have hv : decide (cf x.1 y.1 < 0) = false := hry.1.trans hT
            have hyx := hry.2.1 hT
            go_wp2_with fail
            refine wp_region_fr (by kernel_rfl) (by kernel_rfl) ?_
            repeat (go_big_quiet_step ((go_at_fn g; rename_i X; refine (HC.out _ _ _ (HFI.out.trans (X.fr.mono (fun _ _ e => e.elim))) HDM.out).mono ?_; rintro e w2 ⟨rfl, hF⟩; exact ⟨rfl, ⟨w2, X.fr.trans hF⟩, rfl⟩)))
            refine wpQuiet_nil ?_
            rintro V ⟨⟨_, hV⟩, rfl⟩
            have hr' := HROW.out.fr hV (fun e => e)
            have HR' := Lib.hid hr'
            have HFV := Lib.hid (HFI.out.trans (hV.mono (fun _ _ e => e.elim)))
            clear hr' hV p10 p11 p12 p20 p21 p22
            go_wp2_with fail
            go_roundw
            case rel =>
              refine ⟨k + 1, (W ++ [y]) ++ x :: Z2, by first | rfl | (congr 1; done) | (congr 1; omega), by omega, by omega, ?_, ?_, ins_permP HP.out HZZ.out HX.out, HFV.out⟩
              · have := HR'.out; rw [← HQ.out] at this; simpa using this
              · refine ins_done HTR.out (by rw [HZZ.out]; exact HZ.out) HZ2.out (fun W' y' e => ?_)
                have := List.append_inj_right' e rfl
                injection this with this
                rw [← this]; exact hyx
            case measure => first | (simp [intOf]; done) | (simp [intOf]; omega)
    · have hltI : ¬ (pa : Int) + k < pa + la := by omega
      have hek : A.take k = A ∧ A.drop k = [] := ⟨List.take_of_length_le (by rw [HLA.out]; omega), List.drop_of_length_le (by rw [HLA.out]; omega)⟩
      have HEK := Lib.hid hek
      clear hek
      go_wp2_with fail
      go_end0
      exact ⟨rfl, Z, by have := HR.out; rw [HEK.out.2] at this; exact this, HZ.out, by have := HP.out; rw [HEK.out.1] at this; exact this, HF.out⟩
end Go.Proofs.YtefjdcghdcbojaaGreat

namespace Go.Proofs.YtefjdcghdcbojaaGreat
open Go.RowKit
theorem lo_stepP {T : EP → EP → Bool} {B : List EP} {k : Nat} {x y : EP} (tr : ∀ a b c, T a b = true → T b c = true → T a c = true) (hB : Srt T B) (hy : B[k]? = some y) (h : T y x = true) : ∀ z ∈ B.take (k + 1), T z x = true := by
  intro z hz
  rw [List.take_add_one, hy] at hz
  rcases List.mem_append.1 hz with hz | hz
  · have hd : B.drop k = y :: B.drop (k + 1) := by rw [List.drop_eq_getElem_cons (List.getElem?_eq_some_iff.1 hy).1, (List.getElem?_eq_some_iff.1 hy).2]
    have hs := hB
    rw [← List.take_append_drop k B, hd] at hs
    exact tr _ _ _ (hs.cross z hz y (List.mem_cons_self ..)) h
  · have : z = y := by simpa using hz
    rw [this]; exact h
theorem up_stepP {T : EP → EP → Bool} {B : List EP} {k : Nat} {x y : EP} (tr : ∀ a b c, T a b = true → T b c = true → T a c = true) (hB : Srt T B) (hy : B[k]? = some y) (h : T x y = true) : ∀ z ∈ B.drop k, T x z = true := by
  intro z hz
  have hd : B.drop k = y :: B.drop (k + 1) := by rw [List.drop_eq_getElem_cons (List.getElem?_eq_some_iff.1 hy).1, (List.getElem?_eq_some_iff.1 hy).2]
  rw [hd] at hz
  rcases List.mem_cons.1 hz with rfl | hz
  · exact h
  · have hs := hB
    rw [← List.take_append_drop k B, hd] at hs
    exact tr _ _ _ h ((List.pairwise_cons.1 hs.right).1 z hz)
set_option maxRecDepth 100000 in
set_option maxHeartbeats 8000000 in
theorem symI1P (w : World) (b n cap g : Nat) (cb : Value) (cf : PV → PV → Int) (T : EP → EP → Bool) (P B S : List EP) (x : EP) {ia im ib : Int} (eg : ∀ args w, (callFunc g args).run Tryz.prog w = .ok (.enter g args) w)
    (h : RwP w b (P ++ (x :: (B ++ S)))) (hn : n = (P ++ (x :: (B ++ S))).length) (hm : n ≤ 1000000000000) (ha : ia = (P.length : Int)) (hpm : im = ((P.length + 1 : Nat) : Int)) (hb : ib = ((P.length + 1 + B.length : Nat) : Int)) (tr : ∀ a b c, T a b = true → T b c = true → T a c = true)
    (hB : Srt T B) (hR : ∀ p ∈ B, RgtP cf T p x) (hc : CmpIP g cb cf b w) :
    Calls Tryz.prog 139 #[.slice (some ⟨b, 0, none⟩) n cap, .int .i64 ia, .int .i64 im, .int .i64 ib, .func (.func g) #[cb] #[]] w fun e w' => e = .returned (.tuple #[]) ∧ ∃ Z, RwP w' b (P ++ (Z ++ S)) ∧ Srt T Z ∧ Z.Perm (x :: B) ∧ Fr (fun c => c = b) w w' := by
  obtain ⟨pa, hpa⟩ : ∃ pa, P.length = pa := ⟨_, rfl⟩
  obtain ⟨lb, hlb⟩ : ∃ lb, B.length = lb := ⟨_, rfl⟩
  have hlen : n = pa + 1 + lb + S.length := by simp at hn; omega
  rw [hpa] at ha hb hpm
  rw [hlb] at hb
  subst ha hb hpm
  have H0 := Lib.hid h; have HM := Lib.hid hm; have HPA := Lib.hid hpa; have HLB := Lib.hid hlb; have HRR := Lib.hid hR; have HC := Lib.hid hc; have HTR := Lib.hid tr; have HSB := Lib.hid hB
  have i1 : (n : Int) ≤ 1000000000000 := by omega
  have i2 : (pa : Int) + 1 + lb ≤ n := by omega
  have b1 : (((pa + 1 : Nat) : Int) - (pa : Int) == 1) = true := by simp; omega
  clear h hn hm hpa hlb hR hc tr hlen hB
  go_enter Tryz.func139, Tryz.ntmps139
  go_wp2_with fail
  go_loopw [10, 11] (fun vi vj wr => ∃ i j : Nat, vi = .int .i64 ((pa : Int) + 1 + i) ∧ vj = .int .i64 ((pa : Int) + 1 + j) ∧ i ≤ j ∧ j ≤ lb ∧ (∀ y ∈ B.take i, T y x = true) ∧ (∀ y ∈ B.drop j, T x y = true) ∧ Fr (fun _ => False) w wr) (fun vi vj _ => (intOf vj - intOf vi).toNat)
  case atStart => exact ⟨0, lb, by simp, by first | rfl | (congr 1; done) | (congr 1; omega), by omega, Nat.le_refl _, (fun y hy => absurd hy (by simp)), (fun y hy => absurd hy (by rw [List.drop_of_length_le (by rw [HLB.out]; exact Nat.le_refl _)]; simp)), Fr.refl _ _⟩
  case round =>
    obtain ⟨i, j, rfl, rfl, hij, hjl, hlo, hup, hf⟩ := hrel
    have HLO := Lib.hid hlo; have HUP := Lib.hid hup; have HF := Lib.hid hf
    clear hlo hup hf
    by_cases hlt : i < j
    · have hltI : (pa : Int) + 1 + i < (pa : Int) + 1 + j := by omega
      obtain ⟨hh, hhh⟩ : ∃ q, (i + j) / 2 = q := ⟨_, rfl⟩
      have hq1 : i ≤ hh := by omega
      have hq2 : hh < j := by omega
      have he : ((pa : Int) + 1 + i + ((pa : Int) + 1 + j)) / 2 = (pa : Int) + 1 + hh := by omega
      obtain ⟨y, hy⟩ : ∃ y, B[hh]? = some y := ⟨B[hh]'(by rw [HLB.out]; omega), List.getElem?_eq_getElem _⟩
      have hrw := H0.out.fr HF.out (fun e => e)
      obtain ⟨gc10, gc11, gc12⟩ := hrw.cells (i := pa) (by rw [← HPA.out]; exact at_leftP)
      have c10 := FrW.cell gc10
      have c11 := FrW.cell gc11
      have c12 := FrW.cell gc12
      clear gc10 gc11 gc12
      have hat : (P ++ (x :: (B ++ S)))[pa + 1 + hh]? = some y := by
        rw [List.getElem?_append_right (by rw [HPA.out]; omega), HPA.out, show pa + 1 + hh - pa = hh + 1 by omega, List.getElem?_cons_succ, List.getElem?_append_left (by rw [HLB.out]; omega)]
        exact hy
      obtain ⟨gc20, gc21, gc22⟩ := hrw.cells hat
      have c20 := FrW.cell gc20
      have c21 := FrW.cell gc21
      have c22 := FrW.cell gc22
      clear gc20 gc21 gc22
      obtain ⟨q, hq⟩ : ∃ q, pa + 1 + hh = q := ⟨_, rfl⟩
      rw [hq] at c20 c21 c22
      have tq : ((pa : Int) + 1 + hh).toNat = q := by omega
      have zq : (0 : Int) ≤ (pa : Int) + 1 + hh := by omega
      have lq : (pa : Int) + 1 + hh < n := by omega
      have lp : (pa : Int) < n := by omega
      have hry := HRR.out y (List.mem_of_getElem? hy)
      have HDM := Lib.hid hry.2.2
      have HY := Lib.hid hy
      clear hrw hat hq hhh hy
      cases hT : T y x with
      | true =>
        have hv : decide (cf y.1 x.1 < 0) = true := hry.1.trans hT
        have hnx : Hid (∀ z ∈ B.take (hh + 1), T z x = true) := Lib.hid (lo_stepP HTR.out HSB.out HY.out hT)
        clear hry
        go_wp2_with fail
        refine wp_region_fr (by kernel_rfl) (by kernel_rfl) ?_
        repeat (go_big_quiet_step ((go_at_fn g; rename_i X; refine (HC.out _ _ _ ((HF.out.mono (fun _ _ e => e.elim)).trans (X.fr.mono (fun _ _ e => e.elim))) HDM.out).mono ?_; rintro e w2 ⟨rfl, hF⟩; exact ⟨rfl, ⟨w2, X.fr.trans hF⟩, rfl⟩)))
        refine wpQuiet_nil ?_
        rintro V ⟨⟨_, hV⟩, rfl⟩
        go_wp2_with fail
        go_roundw
        case rel => exact ⟨hh + 1, j, by first | rfl | (congr 1; done) | (congr 1; omega), rfl, by omega, hjl, hnx.out, HUP.out, HF.out.trans hV⟩
        case measure => simp [intOf]; omega
      | false =>
        have hv : decide (cf y.1 x.1 < 0) = false := hry.1.trans hT
        have hnx : Hid (∀ z ∈ B.drop hh, T x z = true) := Lib.hid (up_stepP HTR.out HSB.out HY.out (hry.2.1 hT))
        clear hry
        go_wp2_with fail
        refine wp_region_fr (by kernel_rfl) (by kernel_rfl) ?_
        repeat (go_big_quiet_step ((go_at_fn g; rename_i X; refine (HC.out _ _ _ ((HF.out.mono (fun _ _ e => e.elim)).trans (X.fr.mono (fun _ _ e => e.elim))) HDM.out).mono ?_; rintro e w2 ⟨rfl, hF⟩; exact ⟨rfl, ⟨w2, X.fr.trans hF⟩, rfl⟩)))
        refine wpQuiet_nil ?_
        rintro V ⟨⟨_, hV⟩, rfl⟩
        go_wp2_with fail
        go_roundw
        case rel => exact ⟨i, hh, rfl, by first | rfl | (congr 1; done) | (congr 1; omega), by omega, by omega, HLO.out, hnx.out, HF.out.trans hV⟩
        case measure => simp [intOf]; omega
    · obtain rfl : i = j := by omega
      have hltI : ¬ (pa : Int) + 1 + i < (pa : Int) + 1 + i := by omega
      obtain ⟨B1, B2, hBB, hl1, hl2⟩ := split_len B (k := i) (by rw [HLB.out]; omega)
      have e1 : B.take i = B1 := by rw [hBB, ← hl1, List.take_left]
      have e2 : B.drop i = B2 := by rw [hBB, ← hl1, List.drop_left]
      have HLO2 := Lib.hid (e1 ▸ HLO.out); have HUP2 := Lib.hid (e2 ▸ HUP.out)
      have HBB := Lib.hid hBB; have HL1 := Lib.hid hl1
      have hr0 : RwP wr b (P ++ (x :: (B1 ++ (B2 ++ S)))) := by have := H0.out.fr HF.out (fun e => e); rw [hBB, List.append_assoc] at this; exact this
      have HR0 := Lib.hid hr0
      clear e1 e2 hBB hl1 hl2 hr0 HLO HUP
      go_wp2_with fail
      clear hltI
      go_loopw [13] (fun v wr => ∃ t : Nat, v = .int .i64 ((pa : Int) + t) ∧ t ≤ i ∧ RwP wr b (P ++ (B1.take t ++ (x :: (B1.drop t ++ (B2 ++ S))))) ∧ Fr (fun c => c = b) w wr) (fun v _ => ((pa : Int) + i - intOf v).toNat)
      case atStart => exact ⟨0, by simp, Nat.zero_le _, HR0.out, HF.out.mono (fun _ _ e => e.elim)⟩
      case round =>
        obtain ⟨t, rfl, hti, hr, hf⟩ := hrel
        have HR := Lib.hid hr; have HF2 := Lib.hid hf
        clear hr hf
        by_cases hlt : t < i
        · obtain ⟨y, hy⟩ : ∃ y, B1[t]? = some y := ⟨B1[t]'(by rw [HL1.out]; exact hlt), List.getElem?_eq_getElem _⟩
          have hdr : B1.drop t = y :: B1.drop (t + 1) := by rw [List.drop_eq_getElem_cons (List.getElem?_eq_some_iff.1 hy).1, (List.getElem?_eq_some_iff.1 hy).2]
          have htk : B1.take (t + 1) = B1.take t ++ [y] := by rw [List.take_add_one, hy]; rfl
          have hrow : RwP wr b ((P ++ B1.take t) ++ x :: ([] ++ y :: (B1.drop (t + 1) ++ (B2 ++ S)))) := by have := HR.out; rw [hdr] at this; simpa using this
          have e1 : pa + t = (P ++ B1.take t).length := by have := HPA.out; have := HL1.out; simp; omega
          obtain ⟨c10, c11, c12⟩ := hrow.cells (i := pa + t) (by rw [e1]; exact at_leftP)
          obtain ⟨c20, c21, c22⟩ := hrow.cells (i := pa + t + 1) (by rw [e1]; exact at_rightP (B := []))
          obtain ⟨⟨f10, f11, f12, f20, f21, f22⟩, d0, d1, d2⟩ := hrow.after (i := pa + t) (j := pa + t + 1) (by omega) (p := y.1) c20 c21 c22
          have hsw := hrow.swap (i := pa + t) (j := pa + t + 1) e1 (by rw [e1]; rfl)
          obtain ⟨q, hq⟩ : ∃ q, pa + t = q := ⟨_, rfl⟩
          rw [hq] at c10 c11 c12 c20 c21 c22 d0 d1 d2 hsw f10 f11 f12 f20 f21 f22
          obtain ⟨q2, hq2⟩ : ∃ q2, q + 1 = q2 := ⟨_, rfl⟩
          rw [hq2] at c20 c21 c22 d0 d1 d2 hsw f20 f21 f22
          have HSW := Lib.hid hsw; have HTK := Lib.hid htk
          have t1 : ((pa : Int) + t).toNat = q := by omega
          have t2 : ((pa : Int) + t + 1).toNat = q2 := by omega
          have z1 : (0 : Int) ≤ (pa : Int) + t := by omega
          have z2 : (0 : Int) ≤ (pa : Int) + t + 1 := by omega
          have l1 : (pa : Int) + t < n := by omega
          have l2 : (pa : Int) + t + 1 < n := by omega
          have r1 : IntKind.i64.wrap ((pa : Int) + t) = (pa : Int) + t := IntWalk.i64_in _ (by omega)
          have r2 : IntKind.i64.wrap ((pa : Int) + t + 1) = (pa : Int) + t + 1 := IntWalk.i64_in _ (by omega)
          have hltI : (pa : Int) + t < (pa : Int) + 1 + i - 1 := by omega
          clear hrow hsw e1 hdr htk hy hq hq2
          go_wp2_with fail
          go_region
          have hfs : Fr (fun c => c = b) wr (set3 (set3 wr b q y.1) b q2 x.1) := fr_set3 (fr_set3 (Fr.refl _ wr))
          have HFS := Lib.hid (HF2.out.trans hfs)
          clear c10 c11 c12 c20 c21 c22 f10 f11 f12 f20 f21 f22 d0 d1 d2 hfs
          go_wp2_with fail
          go_roundw
          case rel => exact ⟨t + 1, by first | rfl | (congr 1; done) | (congr 1; omega), by omega, by have := HSW.out.fr (S := fun _ => False) (Fr.refl _ _).drew (fun e => e); rw [HTK.out]; simpa using this, HFS.out.drew⟩
          case measure => simp [intOf]; omega
        · obtain rfl : t = i := by omega
          have hltI : ¬ (pa : Int) + t < (pa : Int) + 1 + t - 1 := by omega
          have e1 : B1.take t = B1 ∧ B1.drop t = [] := ⟨List.take_of_length_le (by rw [HL1.out]; exact Nat.le_refl _), List.drop_of_length_le (by rw [HL1.out]; exact Nat.le_refl _)⟩
          have HE1 := Lib.hid e1
          clear e1
          go_wp2_with fail
          refine bodyPost_ret (v := .tuple #[]) (by simp [results, Tryz.results139, go_sem]) rfl ?_
          refine ⟨rfl, B1 ++ x :: B2, ?_, ?_, ?_, HF2.out⟩
          · have := HR.out; rw [HE1.out.1, HE1.out.2] at this; simpa using this
          · refine ins_done HTR.out (by rw [← HBB.out]; exact HSB.out) HUP2.out (fun W y e => HLO2.out y (by rw [e]; simp))
          · rw [HBB.out]; exact List.perm_middle
end Go.Proofs.YtefjdcghdcbojaaGreat

namespace Go.Proofs.YtefjdcghdcbojaaGreat
open Go.RowKit
set_option maxRecDepth 100000 in
set_option maxHeartbeats 8000000 in
theorem symI2P (w : World) (b n cap g : Nat) (cb : Value) (cf : PV → PV → Int) (T : EP → EP → Bool) (P A S : List EP) (y : EP) {ia im ib : Int} (eg : ∀ args w, (callFunc g args).run Tryz.prog w = .ok (.enter g args) w)
    (h : RwP w b (P ++ (A ++ (y :: S)))) (hn : n = (P ++ (A ++ (y :: S))).length) (hm : n ≤ 1000000000000) (ha : ia = (P.length : Int)) (hpm : im = ((P.length + A.length : Nat) : Int)) (hb : ib = ((P.length + A.length + 1 : Nat) : Int)) (h2 : 2 ≤ A.length) (tr : ∀ a b c, T a b = true → T b c = true → T a c = true)
    (hA : Srt T A) (hR : ∀ q ∈ A, RgtP cf T y q) (hc : CmpIP g cb cf b w) :
    Calls Tryz.prog 139 #[.slice (some ⟨b, 0, none⟩) n cap, .int .i64 ia, .int .i64 im, .int .i64 ib, .func (.func g) #[cb] #[]] w fun e w' => e = .returned (.tuple #[]) ∧ ∃ Z, RwP w' b (P ++ (Z ++ S)) ∧ Srt T Z ∧ Z.Perm (A ++ [y]) ∧ Fr (fun c => c = b) w w' := by
  obtain ⟨pa, hpa⟩ : ∃ pa, P.length = pa := ⟨_, rfl⟩
  obtain ⟨la, hla⟩ : ∃ la, A.length = la := ⟨_, rfl⟩
  have hlen : n = pa + la + 1 + S.length := by simp at hn; omega
  rw [hpa] at ha hb hpm
  rw [hla] at hb hpm h2
  subst ha hb hpm
  have H0 := Lib.hid h; have HM := Lib.hid hm; have HPA := Lib.hid hpa; have HLA := Lib.hid hla; have HRR := Lib.hid hR; have HC := Lib.hid hc; have HTR := Lib.hid tr; have HSA := Lib.hid hA
  have i1 : (n : Int) ≤ 1000000000000 := by omega
  have i2 : (pa : Int) + la + 1 ≤ n := by omega
  have b1 : (((pa + la : Nat) : Int) - (pa : Int) == 1) = false := by simp; omega
  have b2 : (((pa + la + 1 : Nat) : Int) - ((pa + la : Nat) : Int) == 1) = true := by simp; omega
  clear h hn hm hpa hla hR hc tr hlen hA
  go_enter Tryz.func139, Tryz.ntmps139
  go_wp2_with fail
  go_loopw [14, 15] (fun vi vj wr => ∃ i j : Nat, vi = .int .i64 ((pa : Int) + i) ∧ vj = .int .i64 ((pa : Int) + j) ∧ i ≤ j ∧ j ≤ la ∧ (∀ z ∈ A.take i, T z y = true) ∧ (∀ z ∈ A.drop j, T y z = true) ∧ Fr (fun _ => False) w wr) (fun vi vj _ => (intOf vj - intOf vi).toNat)
  case atStart => exact ⟨0, la, by simp, by first | rfl | (congr 1; done) | (congr 1; omega), by omega, Nat.le_refl _, (fun y hy => absurd hy (by simp)), (fun y hy => absurd hy (by rw [List.drop_of_length_le (by rw [HLA.out]; exact Nat.le_refl _)]; simp)), Fr.refl _ _⟩
  case round =>
    obtain ⟨i, j, rfl, rfl, hij, hjl, hlo, hup, hf⟩ := hrel
    have HLO := Lib.hid hlo; have HUP := Lib.hid hup; have HF := Lib.hid hf
    clear hlo hup hf
    by_cases hlt : i < j
    · have hltI : (pa : Int) + i < (pa : Int) + j := by omega
      obtain ⟨hh, hhh⟩ : ∃ q, (i + j) / 2 = q := ⟨_, rfl⟩
      have hq1 : i ≤ hh := by omega
      have hq2 : hh < j := by omega
      have he : ((pa : Int) + i + ((pa : Int) + j)) / 2 = (pa : Int) + hh := by omega
      obtain ⟨z, hz⟩ : ∃ z, A[hh]? = some z := ⟨A[hh]'(by rw [HLA.out]; omega), List.getElem?_eq_getElem _⟩
      have hrw := H0.out.fr HF.out (fun e => e)
      have hay : (P ++ (A ++ (y :: S)))[pa + la]? = some y := by
        rw [List.getElem?_append_right (by rw [HPA.out]; omega), HPA.out, show pa + la - pa = la by omega, ← HLA.out]
        exact at_leftP
      have haz : (P ++ (A ++ (y :: S)))[pa + hh]? = some z := by
        rw [List.getElem?_append_right (by rw [HPA.out]; omega), HPA.out, show pa + hh - pa = hh by omega, List.getElem?_append_left (by rw [HLA.out]; omega)]
        exact hz
      obtain ⟨gc10, gc11, gc12⟩ := hrw.cells hay
      have c10 := FrW.cell gc10
      have c11 := FrW.cell gc11
      have c12 := FrW.cell gc12
      clear gc10 gc11 gc12
      obtain ⟨gc20, gc21, gc22⟩ := hrw.cells haz
      have c20 := FrW.cell gc20
      have c21 := FrW.cell gc21
      have c22 := FrW.cell gc22
      clear gc20 gc21 gc22
      obtain ⟨q, hq⟩ : ∃ q, pa + hh = q := ⟨_, rfl⟩
      rw [hq] at c20 c21 c22
      obtain ⟨qm, hqm⟩ : ∃ q, pa + la = q := ⟨_, rfl⟩
      rw [hqm] at c10 c11 c12
      have tq : ((pa : Int) + hh).toNat = q := by omega
      have tm : ((pa : Int) + la).toNat = qm := by omega
      have zq : (0 : Int) ≤ (pa : Int) + hh := by omega
      have zm : (0 : Int) ≤ (pa : Int) + la := by omega
      have lq : (pa : Int) + hh < n := by omega
      have lm : (pa : Int) + la < n := by omega
      have hry := HRR.out z (List.mem_of_getElem? hz)
      have HDM := Lib.hid hry.2.2
      have HZ := Lib.hid hz
      clear hrw hay haz hq hqm hhh hz
      cases hT : T y z with
      | true =>
        have hv : decide (cf y.1 z.1 < 0) = true := hry.1.trans hT
        have hnx : Hid (∀ u ∈ A.drop hh, T y u = true) := Lib.hid (up_stepP HTR.out HSA.out HZ.out hT)
        clear hry
        go_wp2_with fail
        refine wp_region_fr (by kernel_rfl) (by kernel_rfl) ?_
        repeat (go_big_quiet_step ((go_at_fn g; rename_i X; refine (HC.out _ _ _ ((HF.out.mono (fun _ _ e => e.elim)).trans (X.fr.mono (fun _ _ e => e.elim))) HDM.out).mono ?_; rintro e w2 ⟨rfl, hF⟩; exact ⟨rfl, ⟨w2, X.fr.trans hF⟩, rfl⟩)))
        refine wpQuiet_nil ?_
        rintro V ⟨⟨_, hV⟩, rfl⟩
        go_wp2_with fail
        go_roundw
        case rel => exact ⟨i, hh, rfl, by first | rfl | (congr 1; done) | (congr 1; omega), by omega, by omega, HLO.out, hnx.out, HF.out.trans hV⟩
        case measure => simp [intOf]; omega
      | false =>
        have hv : decide (cf y.1 z.1 < 0) = false := hry.1.trans hT
        have hnx : Hid (∀ u ∈ A.take (hh + 1), T u y = true) := Lib.hid (lo_stepP HTR.out HSA.out HZ.out (hry.2.1 hT))
        clear hry
        go_wp2_with fail
        refine wp_region_fr (by kernel_rfl) (by kernel_rfl) ?_
        repeat (go_big_quiet_step ((go_at_fn g; rename_i X; refine (HC.out _ _ _ ((HF.out.mono (fun _ _ e => e.elim)).trans (X.fr.mono (fun _ _ e => e.elim))) HDM.out).mono ?_; rintro e w2 ⟨rfl, hF⟩; exact ⟨rfl, ⟨w2, X.fr.trans hF⟩, rfl⟩)))
        refine wpQuiet_nil ?_
        rintro V ⟨⟨_, hV⟩, rfl⟩
        go_wp2_with fail
        go_roundw
        case rel => exact ⟨hh + 1, j, by first | rfl | (congr 1; done) | (congr 1; omega), rfl, by omega, hjl, hnx.out, HUP.out, HF.out.trans hV⟩
        case measure => simp [intOf]; omega
    · obtain rfl : i = j := by omega
      have hltI : ¬ (pa : Int) + i < (pa : Int) + i := by omega
      obtain ⟨A1, A2, hAA, hl1, hl2⟩ := split_len A (k := i) (by rw [HLA.out]; omega)
      obtain ⟨l2, hll⟩ : ∃ l, A2.length = l := ⟨_, rfl⟩
      have hla2 : la = i + l2 := by have := HLA.out; omega
      have e1 : A.take i = A1 := by rw [hAA, ← hl1, List.take_left]
      have e2 : A.drop i = A2 := by rw [hAA, ← hl1, List.drop_left]
      have HLO2 := Lib.hid (e1 ▸ HLO.out); have HUP2 := Lib.hid (e2 ▸ HUP.out)
      have HAA := Lib.hid hAA; have HL1 := Lib.hid hl1; have HLL := Lib.hid hll
      have hr0 : RwP wr b (P ++ (A1 ++ (A2 ++ (y :: S)))) := by have := H0.out.fr HF.out (fun e => e); rw [hAA, List.append_assoc] at this; exact this
      have HR0 := Lib.hid hr0
      clear e1 e2 hAA hl1 hl2 hll hr0 HLO HUP
      have g1 : (la : Int) ≤ i + l2 := by omega
      have g2 : (i : Int) + l2 ≤ la := by omega
      clear hla2
      go_wp2_with fail
      clear hltI
      go_loopw [17] (fun v wr => ∃ t : Nat, v = .int .i64 ((pa : Int) + i + t) ∧ t ≤ l2 ∧ RwP wr b (P ++ (A1 ++ (A2.take t ++ (y :: (A2.drop t ++ S))))) ∧ Fr (fun c => c = b) w wr) (fun v _ => (intOf v - (pa : Int) - i).toNat)
      case atStart => exact ⟨l2, by first | rfl | (congr 1; done) | (congr 1; omega), Nat.le_refl _, by have := HR0.out; rw [List.take_of_length_le (by rw [HLL.out]; exact Nat.le_refl _), List.drop_of_length_le (by rw [HLL.out]; exact Nat.le_refl _)]; exact this, HF.out.mono (fun _ _ e => e.elim)⟩
      case round =>
        obtain ⟨t, rfl, hti, hr, hf⟩ := hrel
        have HR := Lib.hid hr; have HF2 := Lib.hid hf
        clear hr hf
        cases t with
        | succ t =>
          obtain ⟨z, hz⟩ : ∃ z, A2[t]? = some z := ⟨A2[t]'(by rw [HLL.out]; omega), List.getElem?_eq_getElem _⟩
          have hdr : A2.drop t = z :: A2.drop (t + 1) := by rw [List.drop_eq_getElem_cons (List.getElem?_eq_some_iff.1 hz).1, (List.getElem?_eq_some_iff.1 hz).2]
          have htk : A2.take (t + 1) = A2.take t ++ [z] := by rw [List.take_add_one, hz]; rfl
          have hrow : RwP wr b ((P ++ (A1 ++ A2.take t)) ++ z :: ([] ++ y :: (A2.drop (t + 1) ++ S))) := by have := HR.out; rw [htk] at this; simpa using this
          have e1 : pa + i + t = (P ++ (A1 ++ A2.take t)).length := by have := HPA.out; have := HL1.out; have := HLL.out; simp; omega
          obtain ⟨c10, c11, c12⟩ := hrow.cells (i := pa + i + t) (by rw [e1]; exact at_leftP)
          obtain ⟨c20, c21, c22⟩ := hrow.cells (i := pa + i + t + 1) (by rw [e1]; exact at_rightP (B := []))
          obtain ⟨⟨f20, f21, f22, f10, f11, f12⟩, d0, d1, d2⟩ := hrow.after (i := pa + i + t + 1) (j := pa + i + t) (by omega) (p := z.1) c10 c11 c12
          have hsw := hrow.swap' (i := pa + i + t) (j := pa + i + t + 1) e1 (by rw [e1]; rfl)
          obtain ⟨q, hq⟩ : ∃ q, pa + i + t = q := ⟨_, rfl⟩
          rw [hq] at c10 c11 c12 c20 c21 c22 d0 d1 d2 hsw f10 f11 f12 f20 f21 f22
          obtain ⟨q2, hq2⟩ : ∃ q2, q + 1 = q2 := ⟨_, rfl⟩
          rw [hq2] at c20 c21 c22 d0 d1 d2 hsw f20 f21 f22
          have HSW := Lib.hid hsw; have HDR := Lib.hid hdr
          have t1 : ((pa : Int) + i + t).toNat = q := by omega
          have t2 : ((pa : Int) + i + (t + 1)).toNat = q2 := by omega
          have z1 : (0 : Int) ≤ (pa : Int) + i + t := by omega
          have z2 : (0 : Int) ≤ (pa : Int) + i + (t + 1) := by omega
          have l1 : (pa : Int) + i + t < n := by omega
          have l2' : (pa : Int) + i + (t + 1) < n := by omega
          have r1 : IntKind.i64.wrap ((pa : Int) + i + t) = (pa : Int) + i + t := IntWalk.i64_in _ (by omega)
          have r2 : IntKind.i64.wrap ((pa : Int) + i + (t + 1)) = (pa : Int) + i + (t + 1) := IntWalk.i64_in _ (by omega)
          have s1 : (pa : Int) + i + (t + 1) - 1 = (pa : Int) + i + t := by omega
          have hltI : (pa : Int) + i < (pa : Int) + i + (t + 1) := by omega
          clear hrow hsw e1 hdr htk hz hq hq2
          go_wp2_with fail
          go_region
          have hfs : Fr (fun c => c = b) wr (set3 (set3 wr b q2 z.1) b q y.1) := fr_set3 (fr_set3 (Fr.refl _ wr))
          have HFS := Lib.hid (HF2.out.trans hfs)
          clear c10 c11 c12 c20 c21 c22 f10 f11 f12 f20 f21 f22 d0 d1 d2 hfs
          go_wp2_with fail
          go_roundw
          case rel => exact ⟨t, by first | rfl | (congr 1; done) | (congr 1; omega), by omega, by have := HSW.out.fr (S := fun _ => False) (Fr.refl _ _).drew (fun e => e); rw [HDR.out]; simpa using this, HFS.out.drew⟩
          case measure => simp [intOf]; omega
        | zero =>
          have hltI : ¬ (pa : Int) + i < (pa : Int) + i := by omega
          go_wp2_with fail
          refine bodyPost_ret (v := .tuple #[]) (by simp [results, Tryz.results139, go_sem]) rfl ?_
          refine ⟨rfl, A1 ++ y :: A2, ?_, ?_, ?_, HF2.out⟩
          · have := HR.out; simpa using this
          · refine ins_done HTR.out (by rw [← HAA.out]; exact HSA.out) HUP2.out (fun W z e => HLO2.out z (by rw [e]; simp))
          · rw [HAA.out]
            refine List.perm_middle.trans ?_
            exact List.perm_append_comm (l₁ := [y])
end Go.Proofs.YtefjdcghdcbojaaGreat

