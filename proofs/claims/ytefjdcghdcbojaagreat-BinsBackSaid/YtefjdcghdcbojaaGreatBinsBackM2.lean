/- Texts of this claim, joined: slices.DeleteFunc at structs: what its walk asks: clear over cells; a row that is turned while it is read; slices.DeleteFunc at api.Item, under bins.with's closure (printed by wip/tools/dfx.py); cmp.isNaN, Compare, Or at int (as XBackC has them, for seats that do not build it); bins.apart; slices.SortFunc on a row of the call's own, under a comparison that may lay blocks: what the row owns behind it; slices.SortFunc on a row of the call's own whose elements are structs, under a comparison that may lay blocks; append(row, source...) where the source may be nil, empty or not; rows of cells read out of memory; bins: with; append(row, source...) at a step of a region that draws its order; bins: with, whole; Plain: what a stable sort by blocks and merges does to a list; slices.SortStableFunc on []int: a row of the caller's, its elements named; swapRange, rotate; slices.SortStableFunc on []int: insertionSort of a part; slices.SortStableFunc on []int: symMerge where one part is of one element; slices.SortStableFunc on []int: symMerge where the right part is of one element. -/
import Derived.Test.YtefjdcghdcbojaaGreatBinsBackM1
import Derived.Lib.SliceRun
import Derived.Deep.QuietTactic
import Derived.StillTailTactics
import Derived.Shelf.SlSortCmp.NoneTotal
import Derived.Maps.AppendAt
import Derived.OwnWalk
import Derived.Test.YtefjdcghdcbojaaGreatShelfE
import Derived.Deep.RegionHeld3
import Derived.Lib.Hide
import Derived.BigRegion
import Derived.RegionTactic
import Derived.BigQuiet
import Derived.Shelf.Abstract
namespace Go.Proofs.YtefjdcghdcbojaaGreat
open Go.RowKit Go.Maps
theorem idxOf_before {α : Type} {p : α → Bool} {L : List α} {j : Nat} (h : idxOf p L = j) : ∀ x ∈ L.take j, p x = false := by
  unfold idxOf at h
  cases h2 : L.findIdx? p with
  | none => rw [h2] at h; simp at h
  | some i =>
    rw [h2] at h
    have e : i = j := by have h' : (i : Int) = (j : Int) := h; omega
    subst e
    obtain ⟨hj, hp, hno⟩ := List.findIdx?_eq_some_iff_getElem.1 h2
    intro x hx
    obtain ⟨q, hq⟩ := List.getElem?_of_mem hx
    have hq2 : q < i := by
      have := (List.getElem?_eq_some_iff.1 hq).1
      rw [List.length_take] at this
      omega
    rw [List.getElem?_take_of_lt hq2] at hq
    obtain ⟨h5, h6⟩ := List.getElem?_eq_some_iff.1 hq
    have := hno q hq2
    rw [h6] at this
    simpa using this
theorem zeroCells_len (zs : Array Value) (n : Nat) : (Builtin.zeroCells zs n).toList.length = n * zs.size := by simp [Builtin.zeroCells]
theorem zeroCells_mem (zs : Array Value) (n : Nat) {u : Value} (h : u ∈ (Builtin.zeroCells zs n).toList) : u ∈ zs := by
  simp [Builtin.zeroCells] at h
  obtain ⟨i, hi, rfl⟩ := h
  have h0 : 0 < zs.size := by
    rcases Nat.eq_zero_or_pos zs.size with h0 | h0
    · rw [h0] at hi; omega
    · exact h0
  rw [getElem!_pos zs (i % zs.size) (Nat.mod_lt _ h0)]
  exact Array.getElem_mem _
theorem run_clear_cells {P : Program} (w : World) (t e ty : TypeId) (z : Value) (ht : P.underlying t = some (.slice e)) (hv : ∀ w, (zeroValue e).run P w = .ok z w) (h1 : ∀ u ∈ z.cells, u.oneCell' = true) (b o n c : Nat)
    (hc : ∀ j, j < n * z.cells.size → (w.cell? ⟨b, o + j, none⟩).isSome = true) (hf : ∀ j, j < n * z.cells.size → w.frozen? ⟨b, o + j, none⟩ = false) :
    (Builtin.clear_ #[t] ty #[.slice (some ⟨b, o, none⟩) n c]).run P w = .ok (.tuple #[]) (w.setCells b o (Builtin.zeroCells z.cells n).toList) := by
  have hst := run_storeCells_cells (P := P) b o (Builtin.zeroCells z.cells n).toList 0 w (by rw [zeroCells_len]; simpa using hc) (by rw [zeroCells_len]; simpa using hf) (fun v hv' => h1 v (zeroCells_mem _ _ hv'))
  simp only [Nat.add_zero] at hst
  rcases Nat.eq_zero_or_pos n with rfl | hn
  · have : (Builtin.zeroCells z.cells 0).toList = [] := by simp [Builtin.zeroCells]
    rw [this]
    simp [Builtin.clear_, run_underlying ht, World.setCells]
  · obtain ⟨m, rfl⟩ : ∃ m, n = m + 1 := ⟨n - 1, by omega⟩
    simp [Builtin.clear_, run_underlying ht, hv, hst]
theorem fr_setCells {S : Nat → Prop} {b : Nat} : ∀ (vs : List Value) (o : Nat) {w w' : World}, Fr S w w' → (b < w.heap.size → S b) → Fr S w (w'.setCells b o vs)
  | [], _, _, _, h, _ => h
  | v :: r, o, w, w', h, hs => fr_setCells r (o + 1) (h.setCell (p := ⟨b, o, none⟩) hs v) hs
theorem row_setCells {b : Nat} {T : TypeId} : ∀ (vs : List Value) (o : Nat) {W : World} {cur : Array Value}, W.heap[b]? = some (.cells cur T) → o + vs.length ≤ cur.size →
    ∃ cur', (W.setCells b o vs).heap[b]? = some (.cells cur' T) ∧ cur'.size = cur.size ∧ ∀ q, cur'[q]? = if o ≤ q ∧ q < o + vs.length then vs[q - o]? else cur[q]?
  | [], o, W, cur, h, _ => ⟨cur, h, rfl, fun q => by rw [if_neg (by simp)]⟩
  | v :: r, o, W, cur, h, hl => by
    simp only [List.length_cons] at hl
    obtain ⟨cur', h1, h2, h3⟩ := row_setCells r (o + 1) (obj_set h o v) (by simp; omega)
    refine ⟨cur', h1, by simpa using h2, fun q => ?_⟩
    rw [h3 q, List.length_cons]
    by_cases e : q = o
    · subst e
      rw [if_neg (by omega), if_pos (by omega), Nat.sub_self]
      simp [show q < cur.size by omega]
    · by_cases e2 : o ≤ q ∧ q < o + (r.length + 1)
      · rw [if_pos (by omega), if_pos e2, show q - o = (q - (o + 1)) + 1 by omega, List.getElem?_cons_succ]
      · rw [if_neg (by omega), if_neg e2]
        simp [Array.getElem?_setIfInBounds, show ¬ o = q from fun h => e h.symm]
section
variable {α : Type} {k : Nat} {cs : α → Array Value} {kp : α → Bool} {L : List α} {T : TypeId} {b j i : Nat} {cur0 : Array Value} {W : World}
/-- j elements have been looked at, i of them are kept, at the row's head; behind j it is as it was. -/
structure DelI (k : Nat) (cs : α → Array Value) (kp : α → Bool) (L : List α) (T : TypeId) (b : Nat) (cur0 : Array Value) (j i : Nat) (W : World) : Prop where
  ex : ∃ cur, W.heap[b]? = some (.cells cur T) ∧ cur.size = cur0.size ∧ cur.toList.take (i * k) = flat cs ((L.take j).filter kp) ∧ ∀ q, j * k ≤ q → cur[q]? = cur0[q]?
  cnt : i = ((L.take j).filter kp).length
  le : i ≤ j
theorem DelI.start {cur : Array Value} (hcs : ∀ r, (cs r).size = k) (hb : W.heap[b]? = some (.cells cur0 T)) (ht : cur0.toList.take (L.length * k) = flat cs L) (hj : j ≤ L.length) (hall : ∀ x ∈ L.take j, kp x = true) : DelI k cs kp L T b cur0 j j W := by
  have e : (L.take j).filter kp = L.take j := List.filter_eq_self.2 hall
  refine ⟨⟨cur0, hb, rfl, ?_, fun q _ => rfl⟩, by rw [e, List.length_take]; omega, Nat.le_refl _⟩
  rw [e, flat_take hcs, ← ht, List.take_take]
  congr 1
  have := Nat.mul_le_mul_right k hj
  omega
theorem DelI.keep0 {W' : World} (h : DelI k cs kp L T b cur0 j i W) (hf : Fr (fun _ => False) W W') : DelI k cs kp L T b cur0 j i W' := by
  obtain ⟨⟨cur, h1, h2⟩, h3, h4⟩ := h
  exact ⟨⟨cur, hf.at_ h1 (fun e => e), h2⟩, h3, h4⟩
theorem DelI.frz (h : DelI k cs kp L T b cur0 j i W) (q : Nat) : W.frozen? ⟨b, q, none⟩ = false := by
  obtain ⟨⟨cur, h1, h2⟩, h3, h4⟩ := h
  exact obj_frozen h1 q
theorem DelI.get (h : DelI k cs kp L T b cur0 j i W) {q : Nat} (hq : q < cur0.size) : ∃ u, W.cell? ⟨b, q, none⟩ = some u := by
  obtain ⟨⟨cur, h1, h2, -⟩, h3, h4⟩ := h
  exact ⟨cur[q]'(by omega), cell_obj h1 q _ (Array.getElem?_eq_getElem _)⟩
theorem take_get {xs ys : List Value} {n : Nat} (h : xs.take n = ys) {q : Nat} (hq : q < n) : xs[q]? = ys[q]? := by
  rw [← h, List.getElem?_take_of_lt hq]
/-- What is read at place j. -/
theorem DelI.at_ (hcs : ∀ r, (cs r).size = k) (h : DelI k cs kp L T b cur0 j i W) (ht : cur0.toList.take (L.length * k) = flat cs L) {x : α} (hx : L[j]? = some x) {q : Nat} {u : Value} (hu : (cs x)[q]? = some u) : W.cell? ⟨b, j * k + q, none⟩ = some u := by
  obtain ⟨⟨cur, h1, h2, h5, h6⟩, h3, h4⟩ := h
  refine cell_obj h1 _ _ ?_
  rw [h6 _ (by omega), ← Array.getElem?_toList]
  have hj := (List.getElem?_eq_some_iff.1 hx).1
  have hq := (Array.getElem?_eq_some_iff.1 hu).1
  rw [hcs] at hq
  have h7 : (j + 1) * k ≤ L.length * k := Nat.mul_le_mul_right k hj
  rw [Nat.succ_mul] at h7
  rw [take_get ht (by omega)]
  exact flat_at hcs hx q u hu
theorem take_succ_of {x : α} (hx : L[j]? = some x) : (L.take (j + 1)).filter kp = (L.take j).filter kp ++ (if kp x = true then [x] else []) := by
  rw [List.take_add_one, hx, List.filter_append]
  congr 1
  by_cases h : kp x = true <;> simp [h]
theorem DelI.skip (h : DelI k cs kp L T b cur0 j i W) {x : α} (hx : L[j]? = some x) (hk : kp x = false) : DelI k cs kp L T b cur0 (j + 1) i W := by
  obtain ⟨⟨cur, h1, h2, h5, h6⟩, h3, h4⟩ := h
  have e := take_succ_of (kp := kp) hx
  rw [hk, if_neg (by simp), List.append_nil] at e
  refine ⟨⟨cur, h1, h2, by rw [e]; exact h5, fun q hq => h6 q ?_⟩, by rw [e]; exact h3, by omega⟩
  have : j * k ≤ (j + 1) * k := Nat.mul_le_mul_right k (Nat.le_succ j)
  omega
theorem DelI.put (hcs : ∀ r, (cs r).size = k) (h : DelI k cs kp L T b cur0 j i W) (hsz : L.length * k ≤ cur0.size) {x : α} (hx : L[j]? = some x) (hk : kp x = true) : DelI k cs kp L T b cur0 (j + 1) (i + 1) (W.setCells b (i * k) (cs x).toList) := by
  obtain ⟨⟨cur, h1, h2, h5, h6⟩, h3, h4⟩ := h
  have e := take_succ_of (kp := kp) hx
  rw [hk, if_pos rfl] at e
  have hj := (List.getElem?_eq_some_iff.1 hx).1
  have g1 : (i + 1) * k ≤ (j + 1) * k := Nat.mul_le_mul_right k (by omega)
  have g2 : (j + 1) * k ≤ L.length * k := Nat.mul_le_mul_right k hj
  have g3 : (i + 1) * k = i * k + k := Nat.succ_mul i k
  have hl : (cs x).toList.length = k := by rw [Array.length_toList, hcs]
  obtain ⟨cur', c1, c2, c3⟩ := row_setCells (cs x).toList (i * k) h1 (by rw [hl]; omega)
  rw [hl] at c3
  refine ⟨⟨cur', c1, by omega, ?_, fun q hq => ?_⟩, by rw [e, List.length_append, ← h3]; rfl, by omega⟩
  · rw [e, flat_app]
    have hfx : flat cs [x] = (cs x).toList := by simp [flat]
    have hlen : (flat cs ((L.take j).filter kp)).length = i * k := by rw [flat_len1 hcs, ← h3]
    apply List.ext_getElem?
    intro q
    by_cases hq : q < (i + 1) * k
    · rw [List.getElem?_take_of_lt hq, Array.getElem?_toList, c3 q]
      by_cases hq2 : i * k ≤ q
      · rw [if_pos ⟨hq2, by omega⟩, List.getElem?_append_right (by omega), hlen, hfx]
      · rw [if_neg (by omega), List.getElem?_append_left (by omega), ← h5, List.getElem?_take_of_lt (by omega), Array.getElem?_toList]
    · rw [List.getElem?_take_eq_none (by omega), List.getElem?_eq_none (by rw [List.length_append, hlen, hfx, hl]; omega)]
  · have g4 : (j + 1) * k = j * k + k := Nat.succ_mul j k
    rw [c3 q, if_neg (by omega)]
    exact h6 q (by omega)
/-- Behind 'clear' it is a row of what is kept. -/
theorem DelI.done {base cap : Nat} (hcs : ∀ r, (cs r).size = k) (h : DelI k cs kp L T b cur0 L.length i W) (hb : base ≤ b) (hn : L.length ≤ cap) (hm : cap ≤ maxLen) (hs : cur0.size = cap * k) (vs : List Value) (hv : i * k + vs.length ≤ cur0.size) :
    (W.setCells b (i * k) vs).ownsRow base T k (.slice (some ⟨b, 0, none⟩) (L.filter kp).length cap) (L.filter kp).length (flat cs (L.filter kp)) := by
  obtain ⟨⟨cur, h1, h2, h5, h6⟩, h3, h4⟩ := h
  rw [List.take_of_length_le (Nat.le_refl _)] at h3 h5
  obtain ⟨cur', c1, c2, c3⟩ := row_setCells vs (i * k) h1 (by omega)
  refine ⟨by rw [flat_len1 hcs], .inr ⟨b, cap, cur', rfl, hb, c1, by omega, hm, by omega, ?_⟩⟩
  rw [← h5, ← h3]
  apply List.ext_getElem?
  intro q
  by_cases hq : q < i * k
  · rw [List.getElem?_take_of_lt hq, List.getElem?_take_of_lt hq, Array.getElem?_toList, Array.getElem?_toList, c3 q, if_neg (by omega)]
  · rw [List.getElem?_take_eq_none (by omega), List.getElem?_take_eq_none (by omega)]
end
end Go.Proofs.YtefjdcghdcbojaaGreat

namespace Go.Proofs.YtefjdcghdcbojaaGreat
open Go.RowKit Go.Maps
def itC (p : Str × Int) : Array Value := #[vS p.1, .int .i64 p.2]
def okIt (_ : World) (p : Str × Int) : Prop := okS p.1 ∧ okI p.2
theorem okItKeeps : Keeps okIt := fun _ _ _ _ h _ _ => h
set_option maxRecDepth 100000 in
set_option maxHeartbeats 4000000 in
theorem ixItem (w : World) (v : Value) (L : List (Str × Int)) (p : (Str × Int) → Bool) (b0 : Nat) (h : Sq 2 itC okIt w v L)
    (hf : ∀ (W : World) (i : Nat) (x : (Str × Int)), L[i]? = some x → Fr (fun _ => False) w W → Calls Tryz.prog 99 #[.agg (itC x), .pointer (some ⟨b0, 0, none⟩)] W fun e W' => e = .returned (.bool (p x)) ∧ Fr (fun _ => False) W W') :
    Calls Tryz.prog 118 #[v, .func (.func 99) #[] #[.pointer (some ⟨b0, 0, none⟩)]] w fun e w' => e = .returned (.int .i64 (idxOf p L)) ∧ Fr (fun _ => False) w w' := by
  obtain ⟨a, c, rfl⟩ := h.sl
  obtain ⟨N, hN⟩ : ∃ N, L.length = N := ⟨_, rfl⟩
  have hNb : (N : Int) ≤ 9223372036854775807 := by have := h.len; omega
  have HL := Lib.hid h; have HN := Lib.hid hN; have HF := Lib.hid hf
  rw [hN] at HL ⊢
  obtain ⟨R, hR⟩ : ∃ R, idxOf p L = R := ⟨_, rfl⟩
  have HR := Lib.hid hR
  rw [hR]
  clear h hN hf hR
  go_enter Tryz.func118, Tryz.ntmps118
  go_wp2_with fail
  go_loopw [5, 8] (fun _ i wr => ∃ j : Nat, j ≤ N ∧ i = .int .i64 j ∧ Fr (fun _ => False) w wr ∧ ∀ q x, q < j → L[q]? = some x → p x = false) (fun _ i _ => N - (intOf i).toNat)
  case atStart => exact ⟨0, Nat.zero_le _, rfl, Fr.refl _ _, fun q x hq => by omega⟩
  case round =>
    obtain ⟨j, hj, rfl, hfr, hno⟩ := hrel
    have HFR := Lib.hid hfr; have HNO := Lib.hid hno
    clear hno
    by_cases hlt : j < N
    · obtain ⟨x, hx⟩ : ∃ x, L[j]? = some x := ⟨L[j]'(by rw [HN.out]; exact hlt), List.getElem?_eq_getElem _⟩
      obtain ⟨ad, rfl, hok, z0, zs⟩ := (HL.out.fr0 okItKeeps hfr).at_ hx
      have hC := HF.out wr j x hx hfr
      obtain ⟨b, hb⟩ : ∃ b, p x = b := ⟨_, rfl⟩
      rw [hb] at hC
      have HB := Lib.hid hb; have HX := Lib.hid hx
      have hjI : (j : Int) < N := by omega
      obtain ⟨X, hXX⟩ : ∃ X, X = x := ⟨_, rfl⟩
      rw [← hXX] at HB HX
      obtain ⟨s, n⟩ := x
      clear hXX
      have x0 := z0 (vS s) rfl
      have x1 := zs 0 (.int .i64 n) rfl
      dsimp only [Nat.zero_add, Nat.reduceAdd] at x0 x1
      have hC' : Calls Tryz.prog 99 #[.agg #[vS s, .int .i64 n], .pointer (some ⟨b0, 0, none⟩)] wr fun e W' => e = .returned (.bool b) ∧ Fr (fun _ => False) wr W' := hC
      have HC := Lib.hid hC'
      clear hC hC' hb hx hok z0 zs hfr
      cases b with
      | true =>
        have hres : Hid (R = (j : Int)) := Lib.hid (by rw [← HR.out]; exact idxOf_at HX.out HB.out HNO.out)
        go_wp2_with (go_at_call 99; refine HC.out.mono ?_; rintro e w1 ⟨rfl, hf1⟩; have HF1 := Lib.hid hf1; clear hf1)
        go_ret
        exact ⟨by rw [hres.out]; rfl, HFR.out.trans HF1.out⟩
      | false =>
        go_wp2_with (go_at_call 99; refine HC.out.mono ?_; rintro e w1 ⟨rfl, hf1⟩; have HF1 := Lib.hid hf1; clear hf1)
        go_roundw
        case rel =>
          refine ⟨j + 1, by omega, by go_num, HFR.out.trans HF1.out, fun q x hq hx => ?_⟩
          by_cases e : q = j
          · subst e
            have := HX.out
            rw [this] at hx
            injection hx with hx
            rw [← hx]
            exact HB.out
          · exact HNO.out q x (by omega) hx
        case measure => simp [intOf]; omega
    · obtain rfl : j = N := by omega
      have hres : Hid (R = -1) := Lib.hid (by rw [← HR.out]; exact idxOf_no (fun q x hx => HNO.out q x (by have := (List.getElem?_eq_some_iff.1 hx).1; have := HN.out; omega) hx))
      clear hfr
      go_wp2_with fail
      go_ret
      exact ⟨by rw [hres.out]; rfl, HFR.out⟩
set_option maxRecDepth 100000 in
set_option maxHeartbeats 4000000 in
theorem dfItem (w : World) (base : Nat) (v : Value) (L : List (Str × Int)) (p : (Str × Int) → Bool) (b0 : Nat) (h : w.ownsRow base 118 2 v L.length (flat itC L)) (hL : L.length ≤ 1000000000000000) (hok : ∀ x ∈ L, okIt w x)
    (hf : ∀ (W : World) (i : Nat) (x : (Str × Int)), L[i]? = some x → Fr (fun c => v.ownBlock = some c) w W → Calls Tryz.prog 99 #[.agg (itC x), .pointer (some ⟨b0, 0, none⟩)] W fun e W' => e = .returned (.bool (p x)) ∧ Fr (fun _ => False) W W') :
    Calls Tryz.prog 98 #[v, .func (.func 99) #[] #[.pointer (some ⟨b0, 0, none⟩)]] w fun e w' => ∃ v', e = .returned v' ∧ w'.ownsRow base 118 2 v' (L.filter fun x => !p x).length (flat itC (L.filter fun x => !p x)) ∧ (∀ c, v'.ownBlock = some c → v.ownBlock = some c) ∧ Fr (fun c => v.ownBlock = some c) w w' := by
  have hcs : ∀ r : (Str × Int), (itC r).size = 2 := fun _ => rfl
  have hsq : Sq 2 itC okIt w v L := Sq.own hcs h hok
  have hix := Lib.hid (ixItem w v L p b0 hsq (fun W i x hx hfr => hf W i x hx (hfr.mono (fun _ _ e => e.elim))))
  rcases h.2 with ⟨rfl, h0⟩ | ⟨g, cap, cur, rfl, hbase, hb, hn, hm, hs, ht⟩
  · have hLn : L = [] := List.eq_nil_of_length_eq_zero h0
    subst hLn
    have e1 : idxOf p ([] : List (Str × Int)) = -1 := rfl
    rw [e1] at hix
    clear h hsq hf hok e1 h0
    go_enter Tryz.func98, Tryz.ntmps98
    go_wp2_with (go_at_call 118; refine hix.out.mono ?_; rintro e w1 ⟨rfl, hf1⟩; have HF1 := Lib.hid hf1; clear hf1)
    go_ret
    refine ⟨.slice none 0 0, rfl, World.ownsRow_nil _ _ _ _, fun c e => by simp [Value.ownBlock] at e, HF1.out.mono (fun _ _ e => e.elim)⟩
  · obtain ⟨N, hN⟩ : ∃ N, L.length = N := ⟨_, rfl⟩
    have HN := Lib.hid hN
    have hown : ∀ c, (Value.slice (some ⟨g, 0, none⟩) L.length cap).ownBlock = some c → c = g := fun c e => by injection e with e; exact e.symm
    rcases idxOf_cases p L with ⟨h1, h2, h3⟩ | ⟨j0, x0, h1, h2, h3, h4⟩
    · have e1 : (L.filter fun x => !p x) = L := List.filter_eq_self.2 (fun x hx => by show (!p x) = true; rw [h3 x hx]; rfl)
      have HH := Lib.hid h
      rw [h1] at hix
      rw [e1]
      rw [hN] at hix ⊢
      clear h hsq hf hok e1 h1 h2 h3 hb ht hN
      go_enter Tryz.func98, Tryz.ntmps98
      go_wp2_with (go_at_call 118; refine hix.out.mono ?_; rintro e w1 ⟨rfl, hf1⟩; have HF1 := Lib.hid hf1; clear hf1)
      go_ret
      refine ⟨.slice (some ⟨g, 0, none⟩) N cap, rfl, by have := HF1.out.row HH.out (fun _ _ e => e); rw [HN.out] at this; exact this, fun c e => e, HF1.out.mono (fun _ _ e => e.elim)⟩
    · have hst := DelI.skip (DelI.start (kp := fun x => !p x) (j := j0) (cur := cur) hcs hb ht (Nat.le_of_lt (List.getElem?_eq_some_iff.1 h1).1) (fun x hx => by show (!p x) = true; rw [idxOf_before h3 x hx]; rfl)) h1 (by show (!p x0) = false; rw [h2]; rfl)
      have HST := Lib.hid hst
      have HF : Hid (∀ (W : World) (i : Nat) (x : (Str × Int)), L[i]? = some x → Fr (fun c => c = g) w W → Calls Tryz.prog 99 #[.agg (itC x), .pointer (some ⟨b0, 0, none⟩)] W fun e W' => e = .returned (.bool (p x)) ∧ Fr (fun _ => False) W W') := Lib.hid (fun W i x hx hfr => hf W i x hx (hfr.mono (fun c _ e => by rw [e]; rfl)))
      have HT := Lib.hid ht
      have hj0 := (List.getElem?_eq_some_iff.1 h1).1
      have HM := Lib.hid hm; have HS := Lib.hid hs; have HBS := Lib.hid hbase
      have HRES : Hid (∀ i W' vs, DelI 2 itC (fun x => !p x) L 118 g cur L.length i W' → i * 2 + vs.length ≤ cur.size → (W'.setCells g (i * 2) vs).ownsRow base 118 2 (.slice (some ⟨g, 0, none⟩) i cap) (L.filter fun x => !p x).length (flat itC (L.filter fun x => !p x))) := Lib.hid (fun i W' vs hD hv => by
        have := hD.done hcs hbase hn hm hs vs hv
        have e := hD.cnt
        rw [List.take_of_length_le (Nat.le_refl _)] at e
        rw [e] at this ⊢
        exact this)
      rw [h3] at hix
      rw [hN] at hix hn hL hj0 ⊢
      have hNI : (N : Int) ≤ 1000000000000000 := by omega
      have hcapI : (N : Int) ≤ cap := by omega
      have hjI : (j0 : Int) < N := by omega
      have hne1 : ((j0 : Int) == -1) = false := beq_eq_false_iff_ne.2 (by omega)
      have hv := fun (w : World) => (show (zeroValue 118).run Tryz.prog w = .ok (.agg #[vS [], .int .i64 0]) w by kernel_rfl)
      have HV := Lib.hid hv
      clear h hsq hf hok h1 h2 h3 h4 hb ht hN hst hm hs hbase hown hv
      go_enter Tryz.func98, Tryz.ntmps98
      go_wp2_with (go_at_call 118; refine hix.out.mono ?_; rintro e w1 ⟨rfl, hf1⟩; have HF1 := Lib.hid hf1; clear hf1)
      go_loopw [5, 6, 7] (fun vi vj _ wr => ∃ i j : Nat, vi = .int .i64 i ∧ vj = .int .i64 j ∧ j ≤ N ∧ i < j ∧ DelI 2 itC (fun x => !p x) L 118 g cur j i wr ∧ Fr (fun c => c = g) w wr) (fun _ vj _ _ => N - (intOf vj).toNat)
      case atStart => exact ⟨j0, j0 + 1, rfl, by go_num, by omega, by omega, HST.out.keep0 HF1.out, HF1.out.mono (fun _ _ e => e.elim)⟩
      case round =>
        obtain ⟨i, j, rfl, rfl, hjN, hij, hD, hfr⟩ := hrel
        have HD := Lib.hid hD; have HFR := Lib.hid hfr
        by_cases hlt : j < N
        · obtain ⟨x, hx⟩ : ∃ x, L[j]? = some x := ⟨L[j]'(by rw [HN.out]; exact hlt), List.getElem?_eq_getElem _⟩
          have x0 := hD.at_ hcs HT.out hx (q := 0) (u := vS x.1) rfl
          have x1 := hD.at_ hcs HT.out hx (q := 1) (u := .int .i64 x.2) rfl
          have hC := HF.out (wr.alloc (.cells #[vS x.1, .int .i64 x.2] 118)) j x hx (hfr.alloc _)
          obtain ⟨b, hb⟩ : ∃ b, p x = b := ⟨_, rfl⟩
          rw [hb] at hC
          have HB := Lib.hid hb; have HX := Lib.hid hx
          have HC : Hid (Calls Tryz.prog 99 #[.agg #[vS x.1, .int .i64 x.2], .pointer (some ⟨b0, 0, none⟩)] (wr.alloc (.cells #[vS x.1, .int .i64 x.2] 118)) fun e W' => e = .returned (.bool b) ∧ Fr (fun _ => False) (wr.alloc (.cells #[vS x.1, .int .i64 x.2] 118)) W') := Lib.hid hC
          have hjI2 : (j : Int) < N := by omega
          have hiI2 : (i : Int) < N := by omega
          have hsz : N * 2 ≤ cur.size := by rw [HS.out]; exact Nat.mul_le_mul_right _ (by omega)
          clear hC hb hx hD hfr
          dsimp only [Nat.zero_add, Nat.reduceAdd, Nat.add_zero] at x0 x1
          cases b with
          | true =>
            go_wp2_with (go_at_call 99; refine HC.out.mono ?_; rintro e w2 ⟨rfl, hf2⟩; have HF2 := Lib.hid (((Fr.refl (fun _ => False) wr).alloc _).trans hf2); clear hf2)
            go_roundw
            case rel => exact ⟨i, j + 1, rfl, by go_num, by omega, by omega, (HD.out.keep0 HF2.out).skip HX.out (by show (!p x) = _; rw [HB.out]; rfl), HFR.out.trans (HF2.out.mono (fun _ _ e => e.elim))⟩
            case measure => simp [intOf]; omega
          | false =>
            have hlt2 : ∀ q, q < 2 → i * 2 + q < cur.size := fun q hq => by
              have : (i + 1) * 2 ≤ N * 2 := Nat.mul_le_mul_right _ (by omega)
              rw [Nat.succ_mul] at this
              omega
            have HLT := Lib.hid hlt2
            clear hlt2
            go_wp2_with (go_at_call 99; refine HC.out.mono ?_; rintro e w2 ⟨rfl, hf2⟩; have hd2 := (HD.out.keep0 ((Fr.refl (fun _ => False) wr).alloc _)).keep0 hf2; have HD2 := Lib.hid hd2; obtain ⟨u0, d0⟩ := hd2.get (q := i * 2) (by have := HLT.out 0 (by omega); omega); have f0 := hd2.frz (i * 2); obtain ⟨u1, d1⟩ := hd2.get (q := i * 2 + 1) (by have := HLT.out 1 (by omega); omega); have f1 := hd2.frz (i * 2 + 1); have hb7 := hf2.at_ (heap_new wr (.cells #[vS x.1, .int .i64 x.2] 118)) (fun e => e); have y0 := cell_obj hb7 0 (vS x.1) rfl; have y1 := cell_obj hb7 1 (.int .i64 x.2) rfl; have HF2 := Lib.hid (((Fr.refl (fun _ => False) wr).alloc _).trans hf2); clear hf2 hd2 hb7)
            go_roundw
            case rel => exact ⟨i + 1, j + 1, by go_num, by go_num, by omega, by omega, HD2.out.put hcs (by rw [HN.out]; exact hsz) HX.out (by show (!p x) = _; rw [HB.out]; rfl), HFR.out.trans ((fr_setCells (itC x).toList (i * 2) (HF2.out.mono (S' := fun c => c = g) (fun _ _ e => e.elim)) (fun _ => rfl)))⟩
            case measure => simp [intOf]; omega
        · obtain rfl : j = N := by omega
          have hjI2 : ¬ (j : Int) < j := by omega
          have hiI2 : (i : Int) ≤ j := by omega
          have hiI0 : (i : Int) < cap := by omega
          have hsz : i * 2 + (j - i) * 2 ≤ cur.size := by rw [HS.out, ← Nat.add_mul]; exact Nat.mul_le_mul_right _ (by omega)
          have hcl : ∀ ty, (Builtin.clear_ #[57] ty #[.slice (some ⟨g, i * 2, none⟩) (j - i) (cap - i)]).run Tryz.prog wr = .ok (.tuple #[]) (wr.setCells g (i * 2) (Builtin.zeroCells #[vS [], .int .i64 0] (j - i)).toList) := fun ty =>
            run_clear_cells (P := Tryz.prog) wr 57 118 ty (.agg #[vS [], .int .i64 0]) Tryz.underlying57 HV.out (fun u hu => by simp [Value.cells] at hu; (first | (rcases hu with rfl | rfl | rfl <;> rfl) | (rcases hu with rfl | rfl <;> rfl))) g (i * 2) (j - i) (cap - i)
              (fun q hq => by obtain ⟨u, hu⟩ := HD.out.get (q := i * 2 + q) (by simp [Value.cells] at hq; omega); rw [hu]; rfl) (fun q hq => HD.out.frz _)
          clear hD hfr
          go_wp2
          go_ret
          refine ⟨.slice (some ⟨g, 0, none⟩) i cap, rfl, HRES.out i wr _ (by have := HD.out; rw [HN.out]; exact this) (by rw [zeroCells_len]; exact hsz), fun c e => e, ?_⟩
          exact (fr_setCells _ _ HFR.out (fun _ => rfl)).mono (fun c _ e => by rw [e]; rfl)

end Go.Proofs.YtefjdcghdcbojaaGreat

namespace Go.Proofs.YtefjdcghdcbojaaGreat
open Go.RowKit Go.Maps
def cmpI (a b : Int) : Int := if a < b then -1 else if b < a then 1 else 0
theorem cNaN (x : Int) (w : World) : Calls Tryz.prog 96 #[.int .i64 x] w fun e w' => e = .returned (.bool false) ∧ w = w' := by
  go_enter Tryz.func96, Tryz.ntmps96
  go_wp2
  go_ret
  exact ⟨rfl, rfl⟩
theorem cCompare (a b : Int) (w : World) : Calls Tryz.prog 53 #[.int .i64 a, .int .i64 b] w fun e w' => e = .returned (.int .i64 (cmpI a b)) ∧ w = w' := by
  have h0 : a < b → cmpI a b = -1 := fun h => if_pos h
  have h1 : ¬ a < b → b < a → cmpI a b = 1 := fun h g => by rw [cmpI, if_neg h, if_pos g]
  have h2 : ¬ a < b → ¬ b < a → cmpI a b = 0 := fun h g => by rw [cmpI, if_neg h, if_neg g]
  have H0 := Lib.hid h0; have H1 := Lib.hid h1; have H2 := Lib.hid h2
  clear h0 h1 h2
  by_cases ha : a < b
  · go_enter Tryz.func53, Tryz.ntmps53
    go_wp2_with (go_at_call 96; refine (cNaN _ _).mono ?_; rintro e w' ⟨rfl, rfl⟩)
    go_ret
    exact ⟨ret_int (H0.out ha).symm, rfl⟩
  by_cases hb : b < a
  · go_enter Tryz.func53, Tryz.ntmps53
    go_wp2_with (go_at_call 96; refine (cNaN _ _).mono ?_; rintro e w' ⟨rfl, rfl⟩)
    go_ret
    exact ⟨ret_int (H1.out ha hb).symm, rfl⟩
  · go_enter Tryz.func53, Tryz.ntmps53
    go_wp2_with (go_at_call 96; refine (cNaN _ _).mono ?_; rintro e w' ⟨rfl, rfl⟩)
    go_ret
    exact ⟨ret_int (H2.out ha hb).symm, rfl⟩
/-- cmp.Or at two numbers, in a block of their own. -/
def or2 (x y : Int) : Int := if x = 0 then y else x
theorem cOr (x y : Int) (b c : Nat) (w : World) (h0 : w.cell? ⟨b, 0, none⟩ = some (.int .i64 x)) (h1 : w.cell? ⟨b, 1, none⟩ = some (.int .i64 y)) :
    Calls Tryz.prog 125 #[.slice (some ⟨b, 0, none⟩) 2 c] w fun e w' => e = .returned (.int .i64 (or2 x y)) ∧ w = w' := by
  by_cases hx : x = 0
  · subst hx
    by_cases hy : y = 0
    · subst hy
      go_enter Tryz.func125, Tryz.ntmps125
      go_wp2
      refine wp_loop_rounds 3 ?_
      repeat (rw [rounds_succ]; go_wp2)
      go_ret
      exact ⟨rfl, rfl⟩
    · have hy' : (y != 0) = true := by simpa using hy
      have H : or2 0 y = y := rfl
      clear hy
      go_enter Tryz.func125, Tryz.ntmps125
      go_wp2
      refine wp_loop_rounds 3 ?_
      repeat (rw [rounds_succ]; go_wp2)
      go_ret
      exact ⟨rfl, rfl⟩
  · have hx' : (x != 0) = true := by simpa using hx
    have H : or2 x y = x := if_neg hx
    have HH := Lib.hid H
    clear hx H
    go_enter Tryz.func125, Tryz.ntmps125
    go_wp2
    refine wp_loop_rounds 3 ?_
    repeat (rw [rounds_succ]; go_wp2)
    go_ret
    exact ⟨ret_int HH.out.symm, rfl⟩
def cmpStr (a b : Str) : Int := if a < b then -1 else if b < a then 1 else 0
theorem cNaNS (x : Str) (w : World) : Calls Tryz.prog 121 #[vS x] w fun e w' => e = .returned (.bool false) ∧ w = w' := by
  have h := eqlS x x
  have hd : decide (x = x) = true := decide_eq_true rfl
  rw [hd] at h
  unfold vS
  go_enter Tryz.func121, Tryz.ntmps121
  go_wp2
  go_ret
  exact ⟨rfl, rfl⟩
set_option maxHeartbeats 1000000 in
theorem cCompareS (a b : Str) (w : World) : Calls Tryz.prog 102 #[vS a, vS b] w fun e w' => e = .returned (.int .i64 (cmpStr a b)) ∧ w = w' := by
  have h0 : a < b → cmpStr a b = -1 := fun h => if_pos h
  have h1 : ¬ a < b → b < a → cmpStr a b = 1 := fun h g => by rw [cmpStr, if_neg h, if_pos g]
  have h2 : ¬ a < b → ¬ b < a → cmpStr a b = 0 := fun h g => by rw [cmpStr, if_neg h, if_neg g]
  have H0 := Lib.hid h0; have H1 := Lib.hid h1; have H2 := Lib.hid h2
  have e1 : Op.bytesLess a b = decide (a < b) := by simp [bytesLess_eq]
  have e2 : Op.bytesLess b a = decide (b < a) := by simp [bytesLess_eq]
  have e3 : (a == b) = decide (a = b) := by rw [Bool.eq_iff_iff]; simp
  clear h0 h1 h2
  by_cases ha : a < b
  · rw [decide_eq_true ha] at e1
    rw [decide_eq_false (fun e => str_irr b (by rw [e] at ha; exact ha))] at e3
    have HA := Lib.hid ha
    clear ha e2
    go_enter Tryz.func102, Tryz.ntmps102
    go_wp2_with (go_at_call 121; refine (cNaNS _ _).mono ?_; rintro e w' ⟨rfl, rfl⟩)
    go_ret
    exact ⟨ret_int (H0.out HA.out).symm, rfl⟩
  rw [decide_eq_false ha] at e1
  have HA := Lib.hid ha
  clear ha
  by_cases hb : b < a
  · rw [decide_eq_true hb] at e2
    rw [decide_eq_false (fun e => str_irr b (by rw [e] at hb; exact hb))] at e3
    have HB := Lib.hid hb
    clear hb
    go_enter Tryz.func102, Tryz.ntmps102
    go_wp2_with (go_at_call 121; refine (cNaNS _ _).mono ?_; rintro e w' ⟨rfl, rfl⟩)
    go_ret
    exact ⟨ret_int (H1.out HA.out HB.out).symm, rfl⟩
  · rw [decide_eq_false hb] at e2
    rw [decide_eq_true ((str_tri a b).elim (fun h => absurd h HA.out) (fun h => h.elim id (fun h => absurd h hb)))] at e3
    have HB := Lib.hid hb
    clear hb
    go_enter Tryz.func102, Tryz.ntmps102
    go_wp2_with (go_at_call 121; refine (cNaNS _ _).mono ?_; rintro e w' ⟨rfl, rfl⟩)
    go_ret
    exact ⟨ret_int (H2.out HA.out HB.out).symm, rfl⟩
end Go.Proofs.YtefjdcghdcbojaaGreat

namespace Go.Proofs.YtefjdcghdcbojaaGreat
open Go.RowKit Go.Shelf Go.Lib Go.Sort
section
variable {α : Type} [Inhabited α] {enc : α → Value}
theorem grownBy_sortWorld (w : World) (g m : Nat) (d : Array α) (os : Array Obj) : w.grownBy (sortWorld enc w g 0 m d os) (some g) := by
  unfold sortWorld
  refine ⟨rfl, rfl, rfl, by simp, fun k hk hne => ?_⟩
  have hgk : g ≠ k := fun e => hne (by rw [e])
  rw [heap_grow_old _ _ (by simpa using hk)]
  simp [putRow, mapBlock, Sort.ahead, Array.getElem?_modify, hgk]
theorem heap_sortWorld {w : World} {g m : Nat} {d : Array α} {os : Array Obj} {cur : Array Value} {e : TypeId} {fr : Nat × Nat} (hb : w.heap[g]? = some (.cells cur e fr)) :
    (sortWorld enc w g 0 m d os).heap[g]? = some (.cells (putCells enc 0 d cur) e fr) := by
  unfold sortWorld
  have hg : g < w.heap.size := (Array.getElem?_eq_some_iff.1 hb).1
  rw [heap_grow_old _ _ (by simpa using hg)]
  simp [putRow, mapBlock, Sort.ahead, Array.getElem?_modify, hb, onCells]
theorem take_putCells (cur : Array Value) (ts : List α) (h : ts.length ≤ cur.size) : (putCells enc 0 ts.toArray cur).toList.take ts.length = ts.map enc := by
  apply List.ext_getElem?
  intro j
  by_cases hj : j < ts.length
  · rw [List.getElem?_take_of_lt hj, Array.getElem?_toList]
    simp [putCells, hj, show j < cur.size by omega]
  · rw [List.getElem?_take_eq_none (by omega), List.getElem?_eq_none (by simp; omega)]
theorem holds_own {w : World} {g : Nat} {cur : Array Value} {e : TypeId} {xs : List α} (hb : w.heap[g]? = some (.cells cur e (0, 0))) (ht : cur.toList.take xs.length = xs.map enc) : Holds enc w g 0 xs.toArray := by
  intro j hj
  have hj' : j < xs.length := by simpa using hj
  refine ⟨?_, by simp [World.frozen?, hb]⟩
  have h1 : (cur.toList.take xs.length)[j]? = (xs.map enc)[j]? := by rw [ht]
  rw [List.getElem?_take_of_lt hj'] at h1
  simp only [World.cell?, hb, Nat.zero_add]
  simp only [Option.isSome_none, Bool.false_eq_true, if_false]
  rw [← Array.getElem?_toList, h1]
  simp [hj']
end
end Go.Proofs.YtefjdcghdcbojaaGreat

namespace Go.Proofs.YtefjdcghdcbojaaGreat
open Go.RowKit Go.Shelf Go.Lib Go.Sort
section
variable {α : Type} [Inhabited α] {enc : α → List Value} {k : Nat}
theorem flatK_list (hk : ∀ x, (enc x).length = k) (d : Array α) : (flatK enc k d).toList = d.toList.flatMap enc := by
  have hcs : ∀ r : α, ((enc r).toArray).size = k := fun r => by simp [hk]
  have hfl : flat (fun r => (enc r).toArray) d.toList = d.toList.flatMap enc := by simp [flat]
  have hl : (d.toList.flatMap enc).length = d.size * k := by rw [← hfl, flat_len1 hcs, Array.length_toList]
  apply List.ext_getElem?
  intro t
  by_cases ht : t < d.size * k
  · have hk0 : 0 < k := by
      rcases Nat.eq_zero_or_pos k with h | h
      · rw [h] at ht; omega
      · exact h
    have hi : t / k < d.size := (Nat.div_lt_iff_lt_mul hk0).2 ht
    have hj : t % k < k := Nat.mod_lt _ hk0
    have h1 := get_flatK enc k d t ht
    have h2 : d.toList[t / k]? = some d[t / k]! := by rw [Array.getElem?_toList, getElem!_pos d _ hi, Array.getElem?_eq_getElem hi]
    have h3 : ((enc d[t / k]!).toArray)[t % k]? = some (enc d[t / k]!)[t % k]! := by
      rw [List.getElem?_toArray, getElem!_pos (enc d[t / k]!) _ (by rw [hk]; exact hj), List.getElem?_eq_getElem (by rw [hk]; exact hj)]
    have h4 := flat_at hcs h2 (t % k) _ h3
    rw [Nat.mul_comm, Nat.div_add_mod] at h4
    rw [← hfl, h4, Array.getElem?_toList, Array.getElem?_eq_getElem (by simpa using ht), ← h1, getElem!_pos _ _ (by simpa using ht)]
  · rw [List.getElem?_eq_none (by simp; omega), List.getElem?_eq_none (by omega)]
theorem holdsK_own {w : World} {g : Nat} {cur : Array Value} {e : TypeId} {xs : List α} (hk : ∀ x, (enc x).length = k) (hb : w.heap[g]? = some (.cells cur e (0, 0))) (ht : cur.toList.take (xs.length * k) = xs.flatMap enc) : HoldsK enc k w g 0 xs.toArray := by
  unfold HoldsK
  have e1 : flatK enc k xs.toArray = ((xs.flatMap enc).toArray) := by
    apply Array.toList_inj.1
    rw [flatK_list hk]
  rw [e1]
  have hl : (xs.flatMap enc).length ≤ xs.length * k := by rw [← ht, List.length_take]; omega
  refine holds_own (enc := id) hb ?_
  rw [List.map_id]
  have h2 : (xs.flatMap enc).length = xs.length * k := by
    have h3 : flat (fun r => (enc r).toArray) xs = xs.flatMap enc := by simp [flat]
    rw [← h3, flat_len1 (k := k) (fun r => by simp [hk])]
  rw [h2]
  exact ht
theorem sortRowK {P : Program} {ρ : Ren} (L : SlLaysF0.n6 P ρ) (aE : ∀ w, (isAgg (ρ.t 24)).run P w = .ok true w) (zE : ∀ w, (Go.sizeOf (ρ.t 24)).run P w = .ok k w) (hk : ∀ x, (enc x).length = k) (h1 : ∀ x, ∀ v ∈ enc x, v.oneCell' = true) (cf : α → α → Int) (hO : SWO (ltOf cf))
    (g : Nat) (cb : Array Value) (eg : ∀ args w, (callFunc g args).run P w = .ok (.enter g args) w) (w : World) (base : Nat) (T : TypeId) (v : Value) (xs : List α)
    (hown : w.ownsRow base T k v xs.length (xs.flatMap enc)) (hsz : xs.length < 4611686018427387904)
    (hcmp : ∀ W, w.grownBy W v.ownBlock → ∀ x y, Calls P g (#[.agg (enc x).toArray, .agg (enc y).toArray] ++ cb) W fun e w' => e = .returned (.int .i64 (cf x y)) ∧ ∃ q os, w' = grow (W.drewN q) os) :
    Calls P (ρ.f 6) #[v, .func (.func g) #[] cb] w fun e w' => e = .returned (.tuple #[]) ∧ ∃ zs : List α, zs.Perm xs ∧ zs.Pairwise (fun x y => cf y x < 0 → False) ∧ w'.ownsRow base T k v zs.length (zs.flatMap enc) ∧ w.grownBy w' v.ownBlock := by
  rcases hown.2 with ⟨rfl, h0⟩ | ⟨b, cap, cur, rfl, hbase, hb, hn, hcap, hcur, htake⟩
  · have hx : xs = [] := by simpa using h0
    subst hx
    exact (AnyF.slices_SortFunc_none (P := P) (ρ := ρ) { L with } none 0 _ w).mono fun _ _ ⟨he, hw⟩ => ⟨he, [], List.Perm.nil, List.Pairwise.nil, by rw [hw]; simpa using hown, by rw [hw]; exact World.grownBy.refl _ _⟩
  · have hblk : b < w.heap.size := (Array.getElem?_eq_some_iff.1 hb).1
    have hS := AnyQ.slices_SortFunc L k aE zE enc hk h1 cf hO g cb b 0 cap xs.toArray w eg
      (fun m os dk _ x y => hcmp _ (grownBy_sortWorld (enc := id) w b m (flatK enc k dk) os) x y) (holdsK_own hk hb htake) hblk (by simpa using hsz)
    have e1 : xs.toArray.size = xs.length := by simp
    rw [e1] at hS
    refine hS.mono fun e w' ⟨he, d', n, os, hp, hs, hw⟩ => ⟨he, d'.toList, ?_, ?_, ?_, by rw [hw]; exact grownBy_sortWorld (enc := id) _ _ _ _ _⟩
    · obtain ⟨hsz', _, hperm⟩ := hp
      have e2 : d'.extract 0 xs.length = d' := by rw [← e1, ← hsz']; exact Array.extract_size
      have e3 : xs.toArray.extract 0 xs.length = xs.toArray := by rw [← e1]; exact Array.extract_size
      rw [e2, e3] at hperm
      simpa using hperm
    · rw [List.pairwise_iff_getElem]
      intro i j hi hj hij h
      have hd : d'.size = xs.length := by rw [hp.1, e1]
      have := hs i j (Nat.zero_le _) hij (by simp at hj; omega)
      unfold ltOf at this
      have e4 := of_decide_eq_false this
      simp at hi hj
      rw [getElem!_pos d' i hi, getElem!_pos d' j hj] at e4
      exact e4 (by simpa using h)
    · have hd : d'.size = xs.length := by rw [hp.1, e1]
      have hlen : d'.toList.length = xs.length := by simpa using hd
      rw [hw]
      have e5 : (d'.toList.flatMap enc).length = xs.length * k := by rw [← flatK_list hk]; simp [hd]
      refine ⟨by rw [e5, hlen], .inr ⟨b, cap, _, by rw [hlen], hbase, heap_sortWorld (enc := id) hb, by rw [hlen]; exact hn, hcap, by simp [putCells, hcur], ?_⟩⟩
      have e7 : flatK enc k d' = (d'.toList.flatMap enc).toArray := Array.toList_inj.1 (by rw [flatK_list hk])
      have e6 := take_putCells (enc := id) cur (d'.toList.flatMap enc) (by rw [e5, hcur]; exact Nat.mul_le_mul_right _ hn)
      rw [List.map_id, ← e7] at e6
      rw [hlen, ← e5]
      exact e6
end
end Go.Proofs.YtefjdcghdcbojaaGreat

namespace Go.Proofs.YtefjdcghdcbojaaGreat
open Go.RowKit
theorem row_sl {w : World} {base : Nat} {e : TypeId} {size n : Nat} {v : Value} {xs : List Value} (h : w.ownsRow base e size v n xs) : ∃ a c, v = .slice a n c := by
  rcases h.2 with ⟨rfl, rfl⟩ | ⟨g, c, cur, rfl, _⟩
  · exact ⟨_, _, rfl⟩
  · exact ⟨_, _, rfl⟩
theorem own_base {w : World} {base base' : Nat} {e : TypeId} {size n : Nat} {v : Value} {xs : List Value} (h : w.ownsRow base e size v n xs) (hb : base' ≤ base) : w.ownsRow base' e size v n xs := by
  refine ⟨h.1, ?_⟩
  rcases h.2 with h | ⟨g, c, cur, h1, h2, r⟩
  · exact .inl h
  · exact .inr ⟨g, c, cur, h1, Nat.le_trans hb h2, r⟩
/-- A slice's cells: m elements of that size, at A. -/
def Rd (w : World) (size : Nat) (A : Option Addr) (m : Nat) (xs : List Value) : Prop := xs.length = m * size ∧ (0 < m → ∃ ad, A = some ad ∧ ∀ (j : Nat) (u : Value), xs[j]? = some u → w.cell? (ad.add j) = some u)
section
variable {w w' : World} {size m : Nat} {A : Option Addr} {xs : List Value}
theorem Rd.nil (w : World) (size : Nat) (A : Option Addr) : Rd w size A 0 [] := ⟨by simp, fun h => absurd h (by omega)⟩
theorem add_add' (a : Addr) (i j : Nat) : (a.add i).add j = a.add (i + j) := by
  unfold Addr.add
  by_cases hi : i = 0 <;> by_cases hj : j = 0 <;> simp [hi, hj, Nat.add_assoc]
theorem Rd.fr {S : Nat → Prop} (h : Rd w size A m xs) (hf : Fr S w w') (hS : ∀ ad, A = some ad → ¬ S ad.block) : Rd w' size A m xs :=
  ⟨h.1, fun hm => by
    obtain ⟨ad, e, hc⟩ := h.2 hm
    exact ⟨ad, e, fun j u hu => hf.cell (hc j u hu) (by rw [add_block]; exact hS ad e)⟩⟩
theorem Rd.own {base n c : Nat} {e : TypeId} (h : w.ownsRow base e size (.slice A n c) n xs) : Rd w size A n xs := by
  refine ⟨h.1, fun hn => ?_⟩
  obtain ⟨g, cap, hv, _, _⟩ := h.form hn
  have hA : A = some ⟨g, 0, none⟩ := by injection hv
  subst hA
  exact ⟨_, rfl, h.cells (g := g) rfl⟩
theorem Rd.take {k : Nat} (h : Rd w size A m xs) (hk : k ≤ m) : Rd w size A k (xs.take (k * size)) := by
  have hle : k * size ≤ m * size := Nat.mul_le_mul_right _ hk
  refine ⟨by rw [List.length_take, h.1]; omega, fun hp => ?_⟩
  obtain ⟨ad, e, hc⟩ := h.2 (by omega)
  refine ⟨ad, e, fun j u hu => hc j u ?_⟩
  rw [List.getElem?_take] at hu
  split at hu
  · exact hu
  · cases hu
theorem Rd.drop {k : Nat} (h : Rd w size A m xs) (hk : k ≤ m) : Rd w size (A.map fun x => x.add (k * size)) (m - k) (xs.drop (k * size)) := by
  refine ⟨by rw [List.length_drop, h.1, Nat.sub_mul], fun hn => ?_⟩
  obtain ⟨ad, rfl, hc⟩ := h.2 (by omega)
  exact ⟨_, rfl, fun j u hu => by rw [add_add']; exact hc _ u (by rw [← hu, List.getElem?_drop])⟩
theorem Rd.at_ {k : Nat} {u : Value} (h : Rd w size A m xs) (hm : 0 < m) (hk : xs[k]? = some u) : ∃ ad, A = some ad ∧ w.cell? (ad.add k) = some u := by
  obtain ⟨ad, e, hc⟩ := h.2 hm
  exact ⟨ad, e, hc k u hk⟩
variable {P : Program}
theorem run_append_src (base : Nat) (t ty e : TypeId) (i : TypeInfo) (z : Value) (bytes : Nat) (ht : P.underlying t = some (.slice e)) (hi : P.info? e = some i) (hz : i.zero = some z)
    (hsize : i.size = size) (hby : i.bytes = bytes) (hzs : z.cells.size = size) (hsz : 0 < size) (v : Value) (n : Nat) (ys : List Value) (hown : w.ownsRow base e size v n ys)
    (c : Nat) (hr : Rd w size A m xs) (h1 : ∀ u ∈ xs, u.oneCell' = true) (h63 : n + m ≤ maxLen) (hbytes : (n + m) * bytes ≤ 140737488355328) (hbase : base ≤ w.heap.size) :
    ∃ v' w', (Builtin.append_ #[t, t] ty #[v, .slice A m c]).run P w = .ok v' w' ∧ w'.ownsRow base e size v' (n + m) (ys ++ xs) ∧ w.grownBy w' v.ownBlock ∧ (v'.ownBlock = v.ownBlock ∨ v'.ownBlock = some w.heap.size) := by
  cases A with
  | none =>
    obtain rfl : m = 0 := by
      rcases Nat.eq_zero_or_pos m with h | h
      · exact h
      · obtain ⟨_, h, _⟩ := hr.2 h; cases h
    obtain rfl : xs = [] := List.eq_nil_of_length_eq_zero (by simpa using hr.1)
    refine ⟨v, w, ?_, by simpa using hown, World.grownBy.refl w _, .inl rfl⟩
    rcases hown.2 with ⟨rfl, rfl⟩ | ⟨g, cap, cur, rfl, _, _, hnc, _⟩
    · simp [Builtin.append_, run_underlying ht, sizeOf, typeInfo, hi, Builtin.lenOf, Builtin.firstCells]
    · simp [Builtin.append_, run_underlying ht, sizeOf, typeInfo, hi, Builtin.lenOf, Builtin.firstCells, hnc, storeCells]
  | some ad =>
    have hc : ∀ j u, xs[j]? = some u → w.cell? (ad.add j) = some u := by
      intro j u hu
      rcases Nat.eq_zero_or_pos m with h | h
      · subst h
        obtain rfl : xs = [] := List.eq_nil_of_length_eq_zero (by simpa using hr.1)
        cases hu
      · obtain ⟨ad', e, hc⟩ := hr.2 h
        cases e
        exact hc j u hu
    obtain ⟨v', w', a1, a2, a3, _, a5⟩ := run_append_own_at (P := P) w base t ty e i z size bytes ht hi hz hsize hby hzs hsz v n ys hown ad m c xs hr.1 hc h1 h63 hbytes hbase
    exact ⟨v', w', a1, a2, a3, a5⟩
theorem wpList_append_src {ops : Array Oper} {rest : List Oper} {o : Oper} {a : Act} {Q : Exit → Act → World → Prop} (hgd : o.guard = none) (s x : Operand) (t : TypeId)
    (ho : o.op = .call { callee := .builtin .append, args := #[s, x], argTypes := #[t, t] })
    (base : Nat) (e : TypeId) (i : TypeInfo) (z : Value) (bytes : Nat) (ht : P.underlying t = some (.slice e)) (hi : P.info? e = some i) (hz : i.zero = some z)
    (hsize : i.size = size) (hby : i.bytes = bytes) (hzs : z.cells.size = size) (hsz : 0 < size) (v : Value) (n : Nat) (ys : List Value) (hs : a.eval s = v) (hown : w.ownsRow base e size v n ys)
    (c : Nat) (hx : a.eval x = .slice A m c) (hr : Rd w size A m xs) (h1 : ∀ u ∈ xs, u.oneCell' = true) (h63 : n + m ≤ maxLen) (hbytes : (n + m) * bytes ≤ 140737488355328) (hbase : base ≤ w.heap.size)
    (h : ∀ v' w', w'.ownsRow base e size v' (n + m) (ys ++ xs) → w.grownBy w' v.ownBlock → (v'.ownBlock = v.ownBlock ∨ v'.ownBlock = some w.heap.size) → wpList P ops Q rest (a.put o.dst v') w') : wpList P ops Q (o :: rest) a w := by
  refine wpList_plain hgd fun K hK => ?_
  obtain ⟨v', w', hr, h2, h3, h5⟩ := run_append_src (P := P) base t o.type e i z bytes ht hi hz hsize hby hzs hsz v n ys hown c hr h1 h63 hbytes hbase
  unfold Oper.wp execOp
  simp only [ho, resolve, invoke, builtin, Sem.run_bind, Sem.run_pure, Result.andThen_ok, List.map_toArray, List.map_cons, List.map_nil, hs, hx, hr]
  exact hK _ _ (h v' w' h2 h3 h5)
end
end Go.Proofs.YtefjdcghdcbojaaGreat

namespace Go.Proofs.YtefjdcghdcbojaaGreat
open Go.RowKit Go.Maps Go.Shelf Go.Sort
set_option maxRecDepth 100000 in
set_option maxHeartbeats 4000000 in
theorem bWith1 (w : World) (x : Str × Int) (s : Str) (b0 : Nat) (hb : w.cell? ⟨b0, 0, none⟩ = some (vS s)) : Calls Tryz.prog 99 #[.agg (itC x), .pointer (some ⟨b0, 0, none⟩)] w fun e w' => e = .returned (.bool (decide (x.1 = s))) ∧ Fr (fun _ => False) w w' := by
  obtain ⟨g, n⟩ := x
  have hb2 := ((Fr.refl (fun _ => False) w).alloc (.cells #[vS g, .int .i64 n] 118)).cell hb (fun h => h)
  have h := eqlS g s
  dsimp only [itC]
  clear hb
  unfold vS at *
  obtain ⟨b, hb⟩ : ∃ b, decide (g = s) = b := ⟨_, rfl⟩
  rw [hb] at h ⊢
  have e3 : (g == s) = b := by rw [← hb]; rw [Bool.eq_iff_iff]; simp
  clear hb
  go_enter Tryz.func99, Tryz.ntmps99
  go_wp2_with fail
  go_ret
  exact ⟨rfl, (Fr.refl _ w).alloc _⟩
def itE (x : Str × Int) : List Value := [vS x.1, .int .i64 x.2]
set_option maxRecDepth 100000 in
set_option maxHeartbeats 4000000 in
theorem bWith2 (w : World) (x y : Str × Int) : Calls Tryz.prog 101 #[.agg (itE x).toArray, .agg (itE y).toArray] w fun e w' => e = .returned (.int .i64 (cmpStr x.1 y.1)) ∧ ∃ q os, w' = grow (w.drewN q) os := by
  obtain ⟨g, n⟩ := x
  obtain ⟨h, m⟩ := y
  have hC := Lib.hid (fun W => cCompareS g h W)
  obtain ⟨C, hCC⟩ : ∃ C, cmpStr g h = C := ⟨_, rfl⟩
  rw [hCC] at hC ⊢
  dsimp only [itE]
  clear hCC
  go_enter Tryz.func101, Tryz.ntmps101
  go_wp2_with (go_at_call 102; refine (hC.out _).mono ?_; rintro e w1 ⟨rfl, rfl⟩)
  go_ret
  exact ⟨rfl, 0, #[.cells #[vS g, .int .i64 n] 118, .cells #[vS h, .int .i64 m] 118], by rw [alloc_eq_grow, alloc_eq_grow, grow_grow]; rfl⟩
theorem cmpStr_lt {a b : Str} : cmpStr a b < 0 ↔ a < b := by
  unfold cmpStr
  by_cases h : a < b
  · simp [h]
  · by_cases h2 : b < a <;> simp [h, h2]
theorem cmpStr_swo : SWO (ltOf fun x y : Str × Int => cmpStr x.1 y.1) := by
  have e : ∀ x y : Str × Int, ltOf (fun x y : Str × Int => cmpStr x.1 y.1) x y = decide (x.1 < y.1) := fun x y => by
    unfold ltOf
    rw [Bool.eq_iff_iff]
    simp [cmpStr_lt]
  refine ⟨fun x => by rw [e]; simp [str_irr], fun x y z h1 h2 => ?_, fun x y z h1 h2 => ?_⟩
  · rw [e] at *
    exact decide_eq_true (str_trans (of_decide_eq_true h1) (of_decide_eq_true h2))
  · rw [e] at *
    refine decide_eq_false (fun h => ?_)
    have n1 := of_decide_eq_false h1
    have n2 := of_decide_eq_false h2
    rcases str_tri y.1 x.1 with g | g | g
    · rcases str_tri z.1 y.1 with k | k | k
      · exact str_irr _ (str_trans h (str_trans k g))
      · rw [k] at h; exact n1 h
      · exact n2 k
    · rw [← g] at h; exact n2 h
    · exact n1 g
set_option maxRecDepth 1000000 in
set_option maxHeartbeats 4000000 in
/-- slices.SortFunc on goods, in with. -/
theorem sortIt (w : World) (base : Nat) (v : Value) (xs : Its) (h : w.ownsRow base 118 2 v xs.length (itCs xs)) (hl : xs.length ≤ 1000000) :
    Calls Tryz.prog 100 #[v, .func (.func 101) #[] #[]] w fun e w' => e = .returned (.tuple #[]) ∧ ∃ zs : Its, zs.Perm xs ∧ zs.Pairwise (fun x y => ¬ y.1 < x.1) ∧ w'.ownsRow base 118 2 v zs.length (itCs zs) ∧ w.grownBy w' v.ownBlock := by
  refine (sortRowK (P := Tryz.prog) (k := 2) (enc := itE) Tryz.laysSortIt (fun w => by kernel_rfl) (fun w => by kernel_rfl) (fun _ => rfl) (fun x u hu => ?_) (fun x y => cmpStr x.1 y.1) cmpStr_swo 101 #[] (enters_of Tryz.func101 (by kernel_rfl) rfl) w base 118 v xs h (by omega) (fun W _ x y => bWith2 W x y)).mono ?_
  · simp only [itE, List.mem_cons, List.not_mem_nil, or_false] at hu
    rcases hu with rfl | rfl <;> rfl
  · rintro e w' ⟨rfl, zs, h1, h2, h3, h4⟩
    exact ⟨rfl, zs, h1, h2.imp (fun h g => h (cmpStr_lt.2 g)), h3, h4⟩
end Go.Proofs.YtefjdcghdcbojaaGreat

namespace Go.Proofs.YtefjdcghdcbojaaGreat
open Go.RowKit
section
variable {w w' : World} {size m : Nat} {A : Option Addr} {xs : List Value} {P : Program}
theorem rd_obj {w : World} {g : Nat} {cs : List Value} {t : TypeId} {size : Nat} (h : w.heap[g]? = some (.cells cs.toArray t)) (hs : cs.length = size) : Rd w size (some ⟨g, 0, none⟩) 1 cs :=
  ⟨by omega, fun _ => ⟨_, rfl, fun j u hu => by
    have : (⟨g, 0, none⟩ : Addr).add j = ⟨g, j, none⟩ := by unfold Addr.add; split <;> simp_all
    rw [this]
    exact cell_obj h j u (by simpa using hu)⟩⟩
end
end Go.Proofs.YtefjdcghdcbojaaGreat

namespace Go.Proofs.YtefjdcghdcbojaaGreat
open Go.RowKit Go.Maps
def BV.put (b : BV) (v : Value) (s : Str) (n : Int) : BV := ⟨b.nu, b.zo, b.ro, v, setF b.its s n⟩
theorem own_snoc {w : World} {base : Nat} {v : Value} {L : Its} {s : Str} {n : Int} (h : w.ownsRow base 118 2 v (L.length + 1) (itCs L ++ [vS s, .int .i64 n])) : w.ownsRow base 118 2 v (L ++ [(s, n)]).length (itCs (L ++ [(s, n)])) := by
  rw [itCs_app, List.length_append]
  exact h
theorem with_end {w4 : World} {n0 : Nat} {T : TypeId} (nu zo ro : Int) (V : Value) (h2 : w4.heap[n0 + 1 + 1]? = some (.cells #[.int .i64 0, .int .i64 0, .int .i64 0, .slice none 0 0] T)) :
    ∃ W, W = (((((w4.setCell ⟨n0, 3, none⟩ V).setCell ⟨n0 + 1 + 1, 0, none⟩ (.int .i64 nu)).setCell ⟨n0 + 1 + 1, 1, none⟩ (.int .i64 zo)).setCell ⟨n0 + 1 + 1, 2, none⟩ (.int .i64 ro)).setCell ⟨n0 + 1 + 1, 3, none⟩ V) ∧
      W.heap[n0 + 1 + 1]? = some (.cells #[.int .i64 nu, .int .i64 zo, .int .i64 ro, V] T) ∧ Fr (fun c => c = n0 ∨ c = n0 + 1 + 1) w4 W := by
  have hF : Fr (fun c => c = n0) w4 (w4.setCell ⟨n0, 3, none⟩ V) := (Fr.refl (fun c => c = n0) w4).setCell (p := ⟨n0, 3, none⟩) (fun _ => rfl) _
  have h3 := hF.at_ h2 (by omega)
  refine ⟨_, rfl, obj_set (obj_set (obj_set (obj_set h3 0 _) 1 _) 2 _) 3 _, ?_⟩
  exact ((((hF.mono (fun c _ e => .inl e)).setCell (p := ⟨n0 + 1 + 1, 0, none⟩) (fun _ => .inr rfl) _).setCell (p := ⟨n0 + 1 + 1, 1, none⟩) (fun _ => .inr rfl) _).setCell (p := ⟨n0 + 1 + 1, 2, none⟩) (fun _ => .inr rfl) _).setCell (p := ⟨n0 + 1 + 1, 3, none⟩) (fun _ => .inr rfl) _
set_option maxRecDepth 100000 in
set_option maxHeartbeats 8000000 in
theorem bWith (w : World) (b : BV) (s : Str) (n : Int) (hk : BOk w b) (hl : b.its.length ≤ 1000) (hr : RiseI b.its) (hs : okS s) (hn : okI n) : Calls Tryz.prog 56 #[.agg b.cs, vS s, .int .i64 n] w fun e w' =>
    ∃ v, e = .returned (.agg (BV.cs (b.put v s n))) ∧ BOk w' (b.put v s n) ∧ (∀ c, v.ownBlock = some c → w.heap.size ≤ c) ∧ Fr (fun _ => False) w w' := by
  obtain ⟨i0, hi', hz0, hz1, hz2⟩ := info_parts infoItem
  obtain ⟨n0, hn0⟩ : ∃ n0, w.heap.size = n0 := ⟨_, rfl⟩
  have HK := Lib.hid hk
  have HLI := Lib.hid (hk.l)
  obtain ⟨nu, zo, ro, l, its⟩ := b
  obtain ⟨la, lc, hl2⟩ := hk.l.sl
  dsimp only at hl2 hl hr
  subst hl2
  obtain ⟨W0, hW0⟩ : ∃ W0, (((w.alloc (.cells #[.int .i64 nu, .int .i64 zo, .int .i64 ro, .slice la its.length lc] 64)).alloc (.cells #[vS s] 9)).alloc (.cells #[.int .i64 0, .int .i64 0, .int .i64 0, .slice none 0 0] 64)) = W0 := ⟨_, rfl⟩
  have hb0 : W0.heap[n0]? = some (.cells #[.int .i64 nu, .int .i64 zo, .int .i64 ro, .slice la its.length lc] 64) := by rw [← hW0]; exact heap_keep (heap_keep (heap_at hn0.symm _) _) _
  have hb1 : W0.heap[n0 + 1]? = some (.cells #[vS s] 9) := by rw [← hW0]; exact heap_keep (heap_at (by simp; omega) _) _
  have hb2 : W0.heap[n0 + 1 + 1]? = some (.cells #[.int .i64 0, .int .i64 0, .int .i64 0, .slice none 0 0] 64) := by rw [← hW0]; exact heap_at (by simp; omega) _
  have hF0 : Fr (fun _ => False) w W0 := by rw [← hW0]; exact (((Fr.refl _ w).alloc _).alloc _).alloc _
  have hs0 : W0.heap.size = n0 + 3 := by rw [← hW0]; simp; omega
  obtain ⟨N, hN⟩ : ∃ N, its.length = N := ⟨_, rfl⟩
  have HCL := Lib.hid (itClone W0 (.slice la its.length lc) its (HLI.out.fr hF0 (fun _ e => e.elim)) (by omega))
  have HIT : Hid (∀ p ∈ its, okS p.1 ∧ okI p.2) := Lib.hid (fun p hp => by
    obtain ⟨_, _, _, _, hq⟩ := HLI.out
    obtain ⟨i, hi⟩ := List.getElem?_of_mem hp
    exact ⟨(hq i p hi).1, (hq i p hi).2.1⟩)
  have HNN := Lib.hid hN
  have HR := Lib.hid hr; have HSS := Lib.hid hs; have HNI := Lib.hid hn
  have HB0 := Lib.hid hb0; have HB1 := Lib.hid hb1; have HB2 := Lib.hid hb2; have HF0 := Lib.hid hF0; have HS0 := Lib.hid hs0; have HN0 := Lib.hid hn0
  have HOK3 : Hid (okI nu ∧ okI zo ∧ okI ro) := Lib.hid ⟨HK.out.nu, HK.out.zo, HK.out.ro⟩
  have HLN : Hid (its.length ≤ 1000) := Lib.hid hl
  unfold BV.cs
  dsimp only [BV.put]
  rw [hN] at HCL hb0 hW0 ⊢
  have p3 := cell_obj hb0 3 (.slice la N lc) rfl
  have pg := cell_obj hb1 0 (vS s) rfl
  clear hk hl hr hs hn hb0 hb1 hb2 hF0 hs0 hN
  go_enter Tryz.func56, Tryz.ntmps56
  go_wp2_with fail
  refine HCL.out.mono ?_
  rintro e w1 ⟨v1, rfl, hown1, hf1⟩
  have HV1 : Hid (∀ c, v1.ownBlock = some c → n0 + 3 ≤ c ∧ c < w1.heap.size) := Lib.hid (fun c hc => by have := hown1.lt c hc; have := HS0.out; omega)
  have hdf := dfItem w1 W0.heap.size v1 its (fun x => decide (x.1 = s)) (n0 + 1) (by rw [HNN.out]; exact hown1) (by have := HLN.out; omega) (fun x hx => HIT.out x hx) (fun W i x hx hfr => bWith1 W x s (n0 + 1) (hfr.cell (hf1.cell (cell_obj HB1.out 0 (vS s) rfl) (fun e => e)) (fun e => by have := (HV1.out _ e).1; dsimp only at this; omega)))
  have HDF := Lib.hid hdf
  have HF1 := Lib.hid (HF0.out.trans hf1)
  have HC0 := Lib.hid (hf1.at_ HB0.out (fun e => e)); have HC1 := Lib.hid (hf1.at_ HB1.out (fun e => e)); have HC2 := Lib.hid (hf1.at_ HB2.out (fun e => e))
  have HS1 := Lib.hid hf1.size
  obtain ⟨a1, c1, rfl⟩ := row_sl hown1
  clear hown1 hf1 hdf p3 pg hW0
  have HFL : Hid ((its.filter fun x => !decide (x.1 = s)).length ≤ 1000) := Lib.hid (Nat.le_trans (List.length_filter_le _ _) HLN.out)
  by_cases hpos : 0 < n
  · have HPOS := Lib.hid hpos
    go_wp2_with (first
      | (go_at_call 98; refine HDF.out.mono ?_; rintro e w2 ⟨v2, rfl, hown2, hsub, hf2⟩; have HV2 : Hid (∀ c, v2.ownBlock = some c → n0 + 3 ≤ c) := Lib.hid (fun c hc => (HV1.out c (hsub c hc)).1); have HW2 := Lib.hid (Fr.mono (S' := fun c => n0 + 3 ≤ c) hf2 (fun c _ e => (HV1.out c e).1)); have HO2 := Lib.hid hown2; have pg2 := hf2.cell (cell_obj HC1.out 0 (vS s) rfl) (fun e => by have := (HV1.out _ e).1; dsimp only at this; omega); obtain ⟨a2, c2, rfl⟩ := row_sl hown2; clear hown2 hsub hf2)
      | (at_builtin; refine wpList_append_src rfl _ _ 57 rfl W0.heap.size 118 i0 (.agg #[.string ⟨#[]⟩, .int .i64 0]) 24 Tryz.underlying57 hi' hz0 hz1 hz2 rfl (by decide) (Value.slice a2 (its.filter fun x : Str × Int => !decide (x.1 = s)).length c2) (its.filter fun x => !decide (x.1 = s)).length (itCs (its.filter fun x => !decide (x.1 = s))) rfl (((Fr.refl (fun _ => False) w2).alloc _).row HO2.out (fun _ _ e => e)) 1 rfl (rd_obj (cs := [vS s, .int .i64 n]) (heap_new _ _) rfl) (by intro u hu; simp only [List.mem_cons, List.not_mem_nil, or_false] at hu; rcases hu with rfl | rfl <;> rfl) (by have := HFL.out; unfold maxLen; omega) (by have := HFL.out; omega) (by have := HS1.out; have := HW2.out.size; simp; omega) ?_; intro v3 w3 hown3 hgrow3 hloc3; have HV3 : Hid (∀ c, v3.ownBlock = some c → n0 + 3 ≤ c) := Lib.hid (fun c hc => by have := (hown3.lt c hc).1; have := HS0.out; omega); have HW3 := Lib.hid (HW2.out.trans (((Fr.refl (fun c => n0 + 3 ≤ c) w2).alloc _).trans' (Fr.grown (S := fun c => n0 + 3 ≤ c) hgrow3 (fun r hr _ => HV2.out r hr)) (fun _ _ e => e))); have hown3' := own_snoc hown3; have HO3 := Lib.hid hown3'; have HSO := Lib.hid (sortIt w3 W0.heap.size v3 _ hown3' (by have := HFL.out; simp; omega)); obtain ⟨a3, c3, rfl⟩ := row_sl hown3; clear hown3 hgrow3 hloc3 hown3')
      | (go_at_call 100; refine HSO.out.mono ?_; rintro e w4 ⟨rfl, zs, hzp, hzs, hown4, hgrow4⟩; have hz := setF_uniq HR.out (n := n) (by rw [if_pos hpos]; exact hzp) hzs; subst hz; have HW4 := Lib.hid (HW3.out.trans (Fr.grown (S := fun c => n0 + 3 ≤ c) hgrow4 (fun r hr _ => HV3.out r hr))); have HO4 := Lib.hid hown4; have HK2 := Lib.hid (HW4.out.at_ HC2.out (by omega)); have hk0 := HW4.out.at_ HC0.out (by omega); have hk2 := HW4.out.at_ HC2.out (by omega); have q0 := cell_obj hk0 0 (.int .i64 nu) rfl; have q1 := cell_obj hk0 1 (.int .i64 zo) rfl; have q2 := cell_obj hk0 2 (.int .i64 ro) rfl; have q3 := cell_obj hk0 3 (.slice la N lc) (by rw [← HNN.out]; rfl); have f3 := obj_frozen hk0 3; have r0 := cell_obj hk2 0 (.int .i64 0) rfl; have r1 := cell_obj hk2 1 (.int .i64 0) rfl; have r2 := cell_obj hk2 2 (.int .i64 0) rfl; have r3 := cell_obj hk2 3 (.slice none 0 0) rfl; have g0 := obj_frozen hk2 0; have g1 := obj_frozen hk2 1; have g2 := obj_frozen hk2 2; have g3 := obj_frozen hk2 3; clear hzp hzs hown4 hgrow4 hk0 hk2))
    obtain ⟨W, hW, hb, hf⟩ := with_end nu zo ro (Value.slice a3 ((its.filter fun x : Str × Int => !decide (x.1 = s)).length + 1) c3) HK2.out
    rw [← hW]
    have c0 := cell_obj hb 0 (.int .i64 nu) rfl
    have c1 := cell_obj hb 1 (.int .i64 zo) rfl
    have c2' := cell_obj hb 2 (.int .i64 ro) rfl
    have c3' := cell_obj hb 3 (Value.slice a3 ((its.filter fun x : Str × Int => !decide (x.1 = s)).length + 1) c3) rfl
    refine bodyPost_ret (v := .agg #[.int .i64 nu, .int .i64 zo, .int .i64 ro, .slice a3 ((its.filter fun x => !decide (x.1 = s)).length + 1) c3]) (by simp [results, Tryz.results56, go_sem, c0, c1, c2', c3']) rfl ?_
    have HWL : Hid (∀ c, (Value.slice a3 ((its.filter fun x : Str × Int => !decide (x.1 = s)).length + 1) c3).ownBlock = some c → n0 + 3 ≤ c) := HV3
    have hil := (Il.own HO4.out (fun p hp => by
      rcases setF_mem hp with ⟨h1, -⟩ | ⟨rfl, -⟩
      · exact HIT.out p h1
      · exact ⟨HSS.out, HNI.out⟩)).1
    refine ⟨.slice a3 ((its.filter fun x => !decide (x.1 = s)).length + 1) c3, rfl, ⟨HOK3.out.1, HOK3.out.2.1, HOK3.out.2.2, ?_⟩, fun c hc => by have := HWL.out c hc; have := HN0.out; omega, ?_⟩
    · exact hil.keep hf (fun _ c hc e => by have := HWL.out c hc; omega)
    · exact (HF1.out.trans' HW4.out (fun c hc (e : n0 + 3 ≤ c) => by have := HN0.out; omega)).trans' hf (fun c hc (e : c = n0 ∨ c = n0 + 1 + 1) => by have := HN0.out; omega)
  · have HPOS := Lib.hid hpos
    go_wp2_with (first
      | (go_at_call 98; refine HDF.out.mono ?_; rintro e w2 ⟨v2, rfl, hown2, hsub, hf2⟩; have HV2 : Hid (∀ c, v2.ownBlock = some c → n0 + 3 ≤ c) := Lib.hid (fun c hc => (HV1.out c (hsub c hc)).1); have HW2 := Lib.hid (Fr.mono (S' := fun c => n0 + 3 ≤ c) hf2 (fun c _ e => (HV1.out c e).1)); have HO2 := Lib.hid hown2; have pg2 := hf2.cell (cell_obj HC1.out 0 (vS s) rfl) (fun e => by have := (HV1.out _ e).1; dsimp only at this; omega); obtain ⟨a2, c2, rfl⟩ := row_sl hown2; have HSO := Lib.hid (sortIt w2 W0.heap.size _ _ HO2.out (by have := HFL.out; omega)); clear hown2 hsub hf2)
      | (go_at_call 100; refine HSO.out.mono ?_; rintro e w4 ⟨rfl, zs, hzp, hzs, hown4, hgrow4⟩; have hz := setF_uniq HR.out (n := n) (by rw [if_neg (Int.not_lt.2 HPOS.out), List.append_nil]; exact hzp) hzs; subst hz; have HW4 := Lib.hid (HW2.out.trans (Fr.grown (S := fun c => n0 + 3 ≤ c) hgrow4 (fun r hr _ => HV2.out r hr))); have HO4 := Lib.hid hown4; have HK2 := Lib.hid (HW4.out.at_ HC2.out (by omega)); have hk0 := HW4.out.at_ HC0.out (by omega); have hk2 := HW4.out.at_ HC2.out (by omega); have q0 := cell_obj hk0 0 (.int .i64 nu) rfl; have q1 := cell_obj hk0 1 (.int .i64 zo) rfl; have q2 := cell_obj hk0 2 (.int .i64 ro) rfl; have q3 := cell_obj hk0 3 (.slice la N lc) (by rw [← HNN.out]; rfl); have f3 := obj_frozen hk0 3; have r0 := cell_obj hk2 0 (.int .i64 0) rfl; have r1 := cell_obj hk2 1 (.int .i64 0) rfl; have r2 := cell_obj hk2 2 (.int .i64 0) rfl; have r3 := cell_obj hk2 3 (.slice none 0 0) rfl; have g0 := obj_frozen hk2 0; have g1 := obj_frozen hk2 1; have g2 := obj_frozen hk2 2; have g3 := obj_frozen hk2 3; clear hzp hzs hown4 hgrow4 hk0 hk2))
    obtain ⟨W, hW, hb, hf⟩ := with_end nu zo ro (Value.slice a2 (its.filter fun x : Str × Int => !decide (x.1 = s)).length c2) HK2.out
    rw [← hW]
    have c0 := cell_obj hb 0 (.int .i64 nu) rfl
    have c1 := cell_obj hb 1 (.int .i64 zo) rfl
    have c2' := cell_obj hb 2 (.int .i64 ro) rfl
    have c3' := cell_obj hb 3 (Value.slice a2 (its.filter fun x : Str × Int => !decide (x.1 = s)).length c2) rfl
    refine bodyPost_ret (v := .agg #[.int .i64 nu, .int .i64 zo, .int .i64 ro, .slice a2 (its.filter fun x => !decide (x.1 = s)).length c2]) (by simp [results, Tryz.results56, go_sem, c0, c1, c2', c3']) rfl ?_
    have HWL : Hid (∀ c, (Value.slice a2 (its.filter fun x : Str × Int => !decide (x.1 = s)).length c2).ownBlock = some c → n0 + 3 ≤ c) := HV2
    have hil := (Il.own HO4.out (fun p hp => by
      rcases setF_mem hp with ⟨h1, -⟩ | ⟨rfl, -⟩
      · exact HIT.out p h1
      · exact ⟨HSS.out, HNI.out⟩)).1
    refine ⟨.slice a2 (its.filter fun x => !decide (x.1 = s)).length c2, rfl, ⟨HOK3.out.1, HOK3.out.2.1, HOK3.out.2.2, ?_⟩, fun c hc => by have := HWL.out c hc; have := HN0.out; omega, ?_⟩
    · exact hil.keep hf (fun _ c hc e => by have := HWL.out c hc; omega)
    · exact (HF1.out.trans' HW4.out (fun c hc (e : n0 + 3 ≤ c) => by have := HN0.out; omega)).trans' hf (fun c hc (e : c = n0 ∨ c = n0 + 1 + 1) => by have := HN0.out; omega)
end Go.Proofs.YtefjdcghdcbojaaGreat

namespace Go.Proofs.YtefjdcghdcbojaaGreat
section
variable {β : Type} (T : β → β → Bool)
/-- It rises. -/
def Srt (l : List β) : Prop := l.Pairwise (fun a b => T a b = true)
variable {T}
theorem Srt.nil : Srt T [] := List.Pairwise.nil
theorem Srt.app {A B : List β} (hA : Srt T A) (hB : Srt T B) (h : ∀ x ∈ A, ∀ y ∈ B, T x y = true) : Srt T (A ++ B) := List.pairwise_append.2 ⟨hA, hB, h⟩
theorem Srt.left {A B : List β} (h : Srt T (A ++ B)) : Srt T A := (List.pairwise_append.1 h).1
theorem Srt.right {A B : List β} (h : Srt T (A ++ B)) : Srt T B := (List.pairwise_append.1 h).2.1
theorem Srt.cross {A B : List β} (h : Srt T (A ++ B)) : ∀ x ∈ A, ∀ y ∈ B, T x y = true := (List.pairwise_append.1 h).2.2
theorem Srt.perm_nil {Z : List β} (h : Z.Perm []) : Srt T Z := by rw [List.perm_nil.1 h]; exact Srt.nil
/-- One is put in its place. -/
theorem ins_done (tr : ∀ a b c, T a b = true → T b c = true → T a c = true) {Z1 Z2 : List β} {x : β} (h : Srt T (Z1 ++ Z2)) (hx : ∀ z ∈ Z2, T x z = true) (hy : ∀ W y, Z1 = W ++ [y] → T y x = true) : Srt T (Z1 ++ x :: Z2) := by
  refine Srt.app h.left (List.pairwise_cons.2 ⟨hx, h.right⟩) (fun z hz y hy' => ?_)
  rcases List.mem_cons.1 hy' with rfl | hy'
  · rcases List.eq_nil_or_concat Z1 with e | ⟨W, l, e⟩
    · rw [e] at hz; cases hz
    · have hl := hy W l (by rw [e, List.concat_eq_append])
      rw [List.concat_eq_append] at e
      rw [e] at hz h
      rcases List.mem_append.1 hz with hz | hz
      · exact tr _ _ _ (h.left.cross z hz l (List.mem_singleton_self _)) hl
      · rw [List.mem_singleton.1 hz]; exact hl
  · exact h.cross z hz y hy'
/-- What stands ahead of a place on the left is below what stands behind one on the right. -/
theorem ends_lt (tr : ∀ a b c, T a b = true → T b c = true → T a c = true) {A B : List β} (hA : Srt T A) (hB : Srt T B) (h : ∀ W x y V, A = W ++ [x] → B = y :: V → T x y = true) : ∀ x ∈ A, ∀ y ∈ B, T x y = true := by
  intro x hx y hy
  rcases List.eq_nil_or_concat A with e | ⟨W, l, e⟩
  · rw [e] at hx; cases hx
  · rw [List.concat_eq_append] at e
    cases B with
    | nil => cases hy
    | cons f V =>
      have hlf := h W l f V e rfl
      rw [e] at hx hA
      have h1 : x = l ∨ T x l = true := by
        rcases List.mem_append.1 hx with hx | hx
        · exact .inr (hA.cross x hx l (List.mem_singleton_self _))
        · exact .inl (List.mem_singleton.1 hx)
      have h2 : y = f ∨ T f y = true := by
        rcases List.mem_cons.1 hy with hy | hy
        · exact .inl hy
        · exact .inr ((List.pairwise_cons.1 hB).1 y hy)
      rcases h1 with rfl | h1 <;> rcases h2 with rfl | h2
      · exact hlf
      · exact tr _ _ _ hlf h2
      · exact tr _ _ _ h1 hlf
      · exact tr _ _ _ h1 (tr _ _ _ hlf h2)
theorem mrg_join {A1 A2 B1 B2 Z1 Z2 : List β} (hA : Srt T (A1 ++ A2)) (hB : Srt T (B1 ++ B2)) (c1 : ∀ x ∈ A1, ∀ y ∈ B2, T x y = true) (c2 : ∀ y ∈ B1, ∀ x ∈ A2, T y x = true)
    (s1 : Srt T Z1) (s2 : Srt T Z2) (p1 : Z1.Perm (A1 ++ B1)) (p2 : Z2.Perm (A2 ++ B2)) : Srt T (Z1 ++ Z2) ∧ (Z1 ++ Z2).Perm ((A1 ++ A2) ++ (B1 ++ B2)) := by
  refine ⟨s1.app s2 (fun x hx y hy => ?_), ?_⟩
  · rcases List.mem_append.1 (p1.mem_iff.1 hx) with hx | hx <;> rcases List.mem_append.1 (p2.mem_iff.1 hy) with hy | hy
    · exact hA.cross x hx y hy
    · exact c1 x hx y hy
    · exact c2 x hx y hy
    · exact hB.cross x hx y hy
  · refine (p1.append p2).trans ?_
    rw [List.append_assoc, List.append_assoc]
    refine List.Perm.append_left A1 ?_
    rw [← List.append_assoc, ← List.append_assoc]
    exact List.Perm.append_right B2 List.perm_append_comm
theorem srt_unique (irr : ∀ a, T a a = false) (tr : ∀ a b c, T a b = true → T b c = true → T a c = true) : ∀ {A B : List β}, Srt T A → Srt T B → A.Perm B → A = B
  | [], B, _, _, h => (List.nil_perm.1 h).symm
  | a :: A, [], _, _, h => absurd (List.perm_nil.1 h) (by simp)
  | a :: A, b :: B, hA, hB, h => by
    have e : a = b := by
      by_cases e : a = b
      · exact e
      · have h1 : a ∈ B := by
          rcases List.mem_cons.1 (h.mem_iff.1 (List.mem_cons_self ..)) with h | h
          · exact absurd h e
          · exact h
        have h2 : b ∈ A := by
          rcases List.mem_cons.1 (h.mem_iff.2 (List.mem_cons_self ..)) with h | h
          · exact absurd h.symm e
          · exact h
        have := tr _ _ _ ((List.pairwise_cons.1 hA).1 b h2) ((List.pairwise_cons.1 hB).1 a h1)
        rw [irr] at this
        cases this
    subst e
    rw [srt_unique irr tr (List.pairwise_cons.1 hA).2 (List.pairwise_cons.1 hB).2 (List.perm_cons a |>.1 h)]
end
section
variable {α : Type} (lt : α → α → Bool)
/-- By the test, then by the place. -/
def tagT (p q : α × Nat) : Bool := lt p.1 q.1 || (!lt q.1 p.1 && decide (p.2 < q.2))
/-- Put behind all that do not follow it. -/
def insR (l : List α) (x : α) : List α := l.takeWhile (fun y => !lt x y) ++ x :: l.dropWhile (fun y => !lt x y)
/-- A stable order. -/
def stab (l : List α) : List α := l.foldl (insR lt) []
structure SwoB : Prop where
  irr : ∀ a, lt a a = false
  tr : ∀ a b c, lt a b = true → lt b c = true → lt a c = true
  ntr : ∀ a b c, lt a b = false → lt b c = false → lt a c = false
variable {lt}
theorem SwoB.as (h : SwoB lt) {a b : α} (e : lt a b = true) : lt b a = false := by
  cases e2 : lt b a with
  | false => rfl
  | true => have := h.tr _ _ _ e e2; rw [h.irr] at this; cases this
theorem tag_irr (h : SwoB lt) (a : α × Nat) : tagT lt a a = false := by unfold tagT; rw [h.irr]; simp
theorem tag_iff {p q : α × Nat} : tagT lt p q = true ↔ lt p.1 q.1 = true ∨ (lt q.1 p.1 = false ∧ p.2 < q.2) := by unfold tagT; simp
theorem tag_tr (h : SwoB lt) (a b c : α × Nat) (h1 : tagT lt a b = true) (h2 : tagT lt b c = true) : tagT lt a c = true := by
  rw [tag_iff] at *
  cases e : lt a.1 c.1 with
  | true => exact .inl rfl
  | false =>
    right
    rcases h1 with h1 | ⟨h1, l1⟩ <;> rcases h2 with h2 | ⟨h2, l2⟩
    · rw [h.tr _ _ _ h1 h2] at e; cases e
    · rw [h.ntr _ _ _ e h2] at h1; cases h1
    · rw [h.ntr _ _ _ h1 e] at h2; cases h2
    · exact ⟨h.ntr _ _ _ h2 h1, by omega⟩
theorem tag_rgt (h : SwoB lt) {p q : α × Nat} (e : q.2 < p.2) : tagT lt p q = lt p.1 q.1 ∧ (tagT lt p q = false → tagT lt q p = true) := by
  have h1 : tagT lt p q = lt p.1 q.1 := by
    unfold tagT
    have : decide (p.2 < q.2) = false := by simp; omega
    rw [this]; simp
  refine ⟨h1, fun h2 => ?_⟩
  rw [h1] at h2
  rw [tag_iff]
  cases e2 : lt q.1 p.1 with
  | true => exact .inl rfl
  | false => exact .inr ⟨h2, e⟩
theorem insR_perm (l : List α) (x : α) : (insR lt l x).Perm (x :: l) := by
  unfold insR
  refine List.perm_middle.trans (List.Perm.cons x ?_)
  rw [List.takeWhile_append_dropWhile]
theorem mem_takeWhile {γ : Type} {p : γ → Bool} : ∀ {l : List γ} {x : γ}, x ∈ l.takeWhile p → p x = true ∧ x ∈ l
  | [], x, h => by cases h
  | y :: r, x, h => by
    rw [List.takeWhile_cons] at h
    split at h
    · next e =>
      rcases List.mem_cons.1 h with rfl | h
      · exact ⟨e, List.mem_cons_self ..⟩
      · exact ⟨(mem_takeWhile h).1, List.mem_cons_of_mem _ (mem_takeWhile h).2⟩
    · cases h
/-- The stable order, its elements named by their places. -/
theorem stab_tag (h : SwoB lt) : ∀ (l : List α) (k : Nat), ∃ Z : List (α × Nat), Srt (tagT lt) Z ∧ Z.Perm (l.zipIdx k) ∧ Z.map Prod.fst = stab lt l := by
  have key : ∀ (l : List α) (k : Nat) (Z0 D : List (α × Nat)), Srt (tagT lt) Z0 → Z0.Perm D → (∀ p ∈ Z0, p.2 < k) → ∃ Z : List (α × Nat), Srt (tagT lt) Z ∧ Z.Perm (D ++ l.zipIdx k) ∧ Z.map Prod.fst = l.foldl (insR lt) (Z0.map Prod.fst) := by
    intro l
    induction l with
    | nil => intro k Z0 D hs hp hk; exact ⟨Z0, hs, by simpa using hp, rfl⟩
    | cons x r ih =>
      intro k Z0 D hs hp hk
      have hst : Z0 = Z0.takeWhile (fun p => !lt x p.1) ++ Z0.dropWhile (fun p => !lt x p.1) := List.takeWhile_append_dropWhile.symm
      have hd : ∀ p ∈ Z0.dropWhile (fun p => !lt x p.1), lt x p.1 = true := by
        intro p hp
        cases hdw : Z0.dropWhile (fun p => !lt x p.1) with
        | nil => rw [hdw] at hp; cases hp
        | cons q V =>
          have hq : lt x q.1 = true := by
            have hne := List.head_dropWhile_not (fun p : α × Nat => !lt x p.1) (w := by rw [hdw]; simp) (l := Z0)
            simp only [hdw, List.head_cons] at hne
            simpa using hne
          rw [hdw] at hp
          rcases List.mem_cons.1 hp with rfl | hp
          · exact hq
          · have hs2 : Srt (tagT lt) (q :: V) := by rw [← hdw]; rw [hst] at hs; exact hs.right
            have := (List.pairwise_cons.1 hs2).1 p hp
            rw [tag_iff] at this
            rcases this with h1 | ⟨h1, -⟩
            · exact h.tr _ _ _ hq h1
            · cases e : lt x p.1 with
              | true => rfl
              | false => rw [h.ntr _ _ _ e h1] at hq; cases hq
      have hz : Srt (tagT lt) (Z0.takeWhile (fun p => !lt x p.1) ++ (x, k) :: Z0.dropWhile (fun p => !lt x p.1)) := by
        rw [hst] at hs
        refine Srt.app hs.left (List.pairwise_cons.2 ⟨fun p hp => ?_, hs.right⟩) (fun p hp q hq => ?_)
        · rw [tag_iff]; exact .inl (hd p hp)
        · rcases List.mem_cons.1 hq with rfl | hq
          · obtain ⟨h1, h2⟩ := mem_takeWhile hp
            rw [tag_iff]
            cases e : lt p.1 x with
            | true => exact .inl rfl
            | false => exact .inr ⟨by simpa using h1, hk p h2⟩
          · exact hs.cross p hp q hq
      have hpm : (Z0.takeWhile (fun p => !lt x p.1) ++ (x, k) :: Z0.dropWhile (fun p => !lt x p.1)).Perm (D ++ [(x, k)]) := by
        refine List.perm_middle.trans ?_
        rw [List.takeWhile_append_dropWhile]
        exact (List.Perm.cons _ hp).trans (List.perm_append_comm (l₁ := [(x, k)]))
      obtain ⟨Z, z1, z2, z3⟩ := ih (k + 1) _ (D ++ [(x, k)]) hz hpm (fun p hp => by
        rcases List.mem_append.1 (hpm.mem_iff.1 hp) with h1 | h1
        · have := hk p (‹Z0.Perm D›.mem_iff.2 h1); omega
        · rw [List.mem_singleton.1 h1]; exact Nat.lt_succ_self k)
      refine ⟨Z, z1, ?_, ?_⟩
      · rw [List.zipIdx_cons]
        rw [List.append_assoc] at z2
        exact z2
      · rw [z3, List.foldl_cons]
        congr 1
        unfold insR
        rw [List.map_append, List.map_cons, List.takeWhile_map, List.dropWhile_map]
        rfl
  intro l k
  obtain ⟨Z, h1, h2, h3⟩ := key l k [] [] Srt.nil (List.Perm.refl _) (fun p hp => by cases hp)
  exact ⟨Z, h1, by simpa using h2, h3⟩
/-- What rises by the test and the place, and holds what was there, is the stable order. -/
theorem stab_eq (h : SwoB lt) {l : List α} {k : Nat} {Z : List (α × Nat)} (hs : Srt (tagT lt) Z) (hp : Z.Perm (l.zipIdx k)) : Z.map Prod.fst = stab lt l := by
  obtain ⟨Z', h1, h2, h3⟩ := stab_tag h l k
  rw [srt_unique (tag_irr h) (tag_tr h) hs h1 (hp.trans h2.symm), h3]
theorem zip_mem {l : List α} {k : Nat} {p : α × Nat} (h : p ∈ l.zipIdx k) : p.1 ∈ l := by
  have : p.1 ∈ (l.zipIdx k).map Prod.fst := List.mem_map.2 ⟨p, h, rfl⟩
  rwa [List.zipIdx_map_fst] at this
theorem zip_pair (l : List α) : ∀ k, (l.zipIdx k).Pairwise (fun p q => p.2 < q.2) := by
  induction l with
  | nil => intro k; exact List.Pairwise.nil
  | cons x r ih =>
    intro k
    rw [List.zipIdx_cons]
    refine List.pairwise_cons.2 ⟨fun p hp => ?_, ih (k + 1)⟩
    have := List.le_snd_of_mem_zipIdx hp
    show k < p.2
    omega
end
end Go.Proofs.YtefjdcghdcbojaaGreat

namespace Go.Proofs.YtefjdcghdcbojaaGreat
open Go.RowKit
/-- An element: what is compared, where it stood. -/
abbrev EI := Int × Nat
abbrev encI (p : EI) : Value := .int .i64 p.1
/-- Block b begins with these. -/
def RwI (W : World) (b : Nat) (xs : List EI) : Prop := ∃ rest : List Value, W.heap[b]? = some (.cells (xs.map encI ++ rest).toArray 3)
theorem RwI.cell {W : World} {b : Nat} {xs : List EI} (h : RwI W b xs) {i : Nat} {p : EI} (hp : xs[i]? = some p) : W.cell? ⟨b, i, none⟩ = some (encI p) := by
  obtain ⟨rest, h⟩ := h
  refine cell_obj h i _ ?_
  have hi := (List.getElem?_eq_some_iff.1 hp).1
  rw [List.getElem?_toArray, List.getElem?_append_left (by simpa using hi), List.getElem?_map, hp]
  rfl
theorem RwI.frz {W : World} {b : Nat} {xs : List EI} (h : RwI W b xs) (i : Nat) : W.frozen? ⟨b, i, none⟩ = false := by
  obtain ⟨rest, h⟩ := h
  exact obj_frozen h i
theorem RwI.set {W : World} {b : Nat} {xs : List EI} (h : RwI W b xs) {i : Nat} (hi : i < xs.length) (p : EI) : RwI (W.setCell ⟨b, i, none⟩ (encI p)) b (xs.set i p) := by
  obtain ⟨rest, h⟩ := h
  refine ⟨rest, ?_⟩
  rw [obj_set h i (encI p)]
  congr 2
  rw [List.setIfInBounds_toArray, List.set_append_left _ _ (by simpa using hi), List.map_set]
theorem RwI.fr {S : Nat → Prop} {W W' : World} {b : Nat} {xs : List EI} (h : RwI W b xs) (hf : Fr S W W') (hS : ¬ S b) : RwI W' b xs := by
  obtain ⟨rest, h⟩ := h
  exact ⟨rest, hf.at_ h hS⟩
/-- Two change places. -/
theorem RwI.swap {W : World} {b : Nat} {A B C : List EI} {x y : EI} (h : RwI W b (A ++ x :: (B ++ y :: C))) {i j : Nat} (hi : i = A.length) (hj : j = A.length + 1 + B.length) :
    RwI ((W.setCell ⟨b, i, none⟩ (encI y)).setCell ⟨b, j, none⟩ (encI x)) b (A ++ y :: (B ++ x :: C)) := by
  subst hi hj
  have h1 := (h.set (i := A.length) (by simp) y).set (i := A.length + 1 + B.length) (by simp; omega) x
  have e : (((A ++ x :: (B ++ y :: C)).set A.length y).set (A.length + 1 + B.length) x) = A ++ y :: (B ++ x :: C) := by
    rw [List.set_append_right _ _ (Nat.le_refl _), Nat.sub_self, List.set_cons_zero, List.set_append_right _ _ (by omega)]
    have e2 : A.length + 1 + B.length - A.length = B.length + 1 := by omega
    rw [e2, List.set_cons_succ, List.set_append_right _ _ (Nat.le_refl _), Nat.sub_self, List.set_cons_zero]
  rw [e] at h1
  exact h1
/-- The same, the right one stored first. -/
theorem RwI.swap' {W : World} {b : Nat} {A B C : List EI} {x y : EI} (h : RwI W b (A ++ x :: (B ++ y :: C))) {i j : Nat} (hi : i = A.length) (hj : j = A.length + 1 + B.length) :
    RwI ((W.setCell ⟨b, j, none⟩ (encI x)).setCell ⟨b, i, none⟩ (encI y)) b (A ++ y :: (B ++ x :: C)) := by
  subst hi hj
  have h1 := (h.set (i := A.length + 1 + B.length) (by simp; omega) x).set (i := A.length) (by simp) y
  have e : (((A ++ x :: (B ++ y :: C)).set (A.length + 1 + B.length) x).set A.length y) = A ++ y :: (B ++ x :: C) := by
    rw [List.set_append_right _ _ (by omega)]
    have e2 : A.length + 1 + B.length - A.length = B.length + 1 := by omega
    rw [e2, List.set_cons_succ, List.set_append_right _ _ (Nat.le_refl _), Nat.sub_self, List.set_cons_zero, List.set_append_right _ _ (Nat.le_refl _), Nat.sub_self, List.set_cons_zero]
  rw [e] at h1
  exact h1
theorem at_left {A B : List EI} {x : EI} : (A ++ x :: B)[A.length]? = some x := by
  rw [List.getElem?_append_right (Nat.le_refl _), Nat.sub_self]; rfl
theorem at_right {A B C : List EI} {x y : EI} : (A ++ x :: (B ++ y :: C))[A.length + 1 + B.length]? = some y := by
  rw [List.getElem?_append_right (by omega)]
  have e2 : A.length + 1 + B.length - A.length = B.length + 1 := by omega
  rw [e2, List.getElem?_cons_succ]
  exact at_left
/-- A range is changed with another, i done. -/
theorem swp_step {P U M V S : List EI} {i : Nat} {x y : EI} (hx : U[i]? = some x) (hy : V[i]? = some y) :
    P ++ (V.take i ++ (U.drop i ++ (M ++ (U.take i ++ (V.drop i ++ S))))) = (P ++ V.take i) ++ x :: ((U.drop (i + 1) ++ (M ++ U.take i)) ++ y :: (V.drop (i + 1) ++ S)) ∧
    P ++ (V.take (i + 1) ++ (U.drop (i + 1) ++ (M ++ (U.take (i + 1) ++ (V.drop (i + 1) ++ S))))) = (P ++ V.take i) ++ y :: ((U.drop (i + 1) ++ (M ++ U.take i)) ++ x :: (V.drop (i + 1) ++ S)) := by
  have eu : U.drop i = x :: U.drop (i + 1) := by
    rw [List.drop_eq_getElem_cons (List.getElem?_eq_some_iff.1 hx).1, (List.getElem?_eq_some_iff.1 hx).2]
  have ev : V.drop i = y :: V.drop (i + 1) := by
    rw [List.drop_eq_getElem_cons (List.getElem?_eq_some_iff.1 hy).1, (List.getElem?_eq_some_iff.1 hy).2]
  constructor
  · rw [eu, ev]; simp
  · rw [List.take_add_one, List.take_add_one, hx, hy]; simp
set_option maxRecDepth 100000 in
set_option maxHeartbeats 4000000 in
theorem swapI (w : World) (b n cap pa pb k : Nat) (fv : Value) (P U M V S : List EI) (h : RwI w b (P ++ (U ++ (M ++ (V ++ S))))) (hn : n = (P ++ (U ++ (M ++ (V ++ S)))).length) (hm : n ≤ 1000000000000) (ha : pa = P.length) (hb : pb = pa + U.length + M.length) (hk : k = U.length) (hv : V.length = k) :
    Calls Tryz.prog 147 #[.slice (some ⟨b, 0, none⟩) n cap, .int .i64 pa, .int .i64 pb, .int .i64 k, fv] w fun e w' => e = .returned (.tuple #[]) ∧ RwI w' b (P ++ (V ++ (M ++ (U ++ S)))) ∧ Fr (fun c => c = b) w w' := by
  have hlen : n = pa + k + M.length + k + S.length := by simp at hn; omega
  have HN := Lib.hid hlen; have H0 := Lib.hid h
  have HA := Lib.hid ha; have HB := Lib.hid hb; have HK := Lib.hid hk; have HV := Lib.hid hv
  have i1 : (n : Int) ≤ 1000000000000 := by omega
  have i2 : (pa : Int) + k ≤ n := by omega
  have i3 : (pb : Int) + k ≤ n := by omega
  clear h hn hm ha hb hk hv hlen
  go_enter Tryz.func147, Tryz.ntmps147
  go_wp2_with fail
  go_loopw [10] (fun v wr => ∃ i : Nat, i ≤ k ∧ v = .int .i64 i ∧ RwI wr b (P ++ (V.take i ++ (U.drop i ++ (M ++ (U.take i ++ (V.drop i ++ S)))))) ∧ Fr (fun c => c = b) w wr) (fun v _ => k - (intOf v).toNat)
  case atStart => exact ⟨0, Nat.zero_le _, rfl, by simpa using H0.out, Fr.refl _ _⟩
  case round =>
    obtain ⟨i, hi, rfl, hr, hf⟩ := hrel
    by_cases hlt : i < k
    · obtain ⟨x, hx⟩ : ∃ x, U[i]? = some x := ⟨U[i]'(by have := HK.out; omega), List.getElem?_eq_getElem _⟩
      obtain ⟨y, hy⟩ : ∃ y, V[i]? = some y := ⟨V[i]'(by have := HV.out; omega), List.getElem?_eq_getElem _⟩
      obtain ⟨s1, s2⟩ := swp_step (P := P) (M := M) (S := S) hx hy
      rw [s1] at hr
      have e1 : pa + i = (P ++ V.take i).length := by have := HA.out; have := HV.out; simp; omega
      have e2 : pb + i = (P ++ V.take i).length + 1 + (U.drop (i + 1) ++ (M ++ U.take i)).length := by have := HA.out; have := HB.out; have := HK.out; have := HV.out; simp; omega
      have c1 := hr.cell (i := pa + i) (by rw [e1]; exact at_left)
      have c2 := hr.cell (i := pb + i) (by rw [e2]; exact at_right)
      have hsw := hr.swap (i := pa + i) (j := pb + i) e1 e2
      rw [← s2] at hsw
      have hne : pa + i ≠ pb + i := by have := HB.out; have := HK.out; omega
      have f1 := hr.frz (pa + i)
      have f2 := hr.frz (pb + i)
      have hltI : (i : Int) < k := by omega
      have HSW := Lib.hid hsw; have HF := Lib.hid hf; have HNE := Lib.hid hne
      have c3 := (hr.set (i := pa + i) (by rw [e1]; simp) y).cell (i := pb + i) (p := y) (by rw [List.getElem?_set_ne hne, e2]; exact at_right)
      clear hr hf hsw e1 e2 s1 s2 hx hy hne
      obtain ⟨ja, hja⟩ : ∃ j, pa + i = j := ⟨_, rfl⟩
      obtain ⟨jb, hjb⟩ : ∃ j, pb + i = j := ⟨_, rfl⟩
      rw [hja] at c1 f1 HSW HNE c3
      rw [hjb] at c2 f2 HSW HNE c3
      have ta : ((pa : Int) + i).toNat = ja := by omega
      have tb : ((pb : Int) + i).toNat = jb := by omega
      have za : (0 : Int) ≤ (pa : Int) + i := by omega
      have zb : (0 : Int) ≤ (pb : Int) + i := by omega
      have la : (pa : Int) + i < n := by omega
      have lb : (pb : Int) + i < n := by omega
      have ra : IntKind.i64.wrap ((pa : Int) + i) = (pa : Int) + i := IntWalk.i64_in _ (by omega)
      have rb : IntKind.i64.wrap ((pb : Int) + i) = (pb : Int) + i := IntWalk.i64_in _ (by omega)
      clear hja hjb
      go_wp2_with fail
      go_region
      have hfs : Fr (fun c => c = b) wr ((wr.setCell ⟨b, ja, none⟩ (encI y)).setCell ⟨b, jb, none⟩ (encI x)) := ((Fr.refl (fun c => c = b) wr).setCell (p := ⟨b, ja, none⟩) (fun _ => rfl) _).setCell (p := ⟨b, jb, none⟩) (fun _ => rfl) _
      have HFS := Lib.hid (HF.out.trans hfs)
      clear c1 c2 c3 f1 f2 hfs
      generalize (wr.setCell ⟨b, ja, none⟩ (encI y)).setCell ⟨b, jb, none⟩ (encI x) = w3 at HSW HFS ⊢
      go_wp2_with fail
      go_roundw
      case rel => exact ⟨i + 1, by omega, by go_num, HSW.out.fr (S := fun _ => False) (Fr.refl _ w3).drew (fun e => e), HFS.out.drew⟩
      case measure => simp [intOf]; omega
    · obtain rfl : i = k := by omega
      rw [List.take_of_length_le (by have := HV.out; have := HK.out; omega), List.take_of_length_le (by have := HV.out; have := HK.out; omega), List.drop_of_length_le (by have := HV.out; have := HK.out; omega), List.drop_of_length_le (by have := HV.out; have := HK.out; omega), List.nil_append, List.nil_append] at hr
      have HR := Lib.hid hr; have HF := Lib.hid hf
      have hltI : ¬ (i : Int) < i := by omega
      clear hr hf
      go_wp2_with fail
      go_end0
      exact ⟨rfl, HR.out, HF.out⟩
theorem swapX (w : World) (b n cap : Nat) (fv : Value) (P U M V S : List EI) {ia ib ik : Int} (h : RwI w b (P ++ (U ++ (M ++ (V ++ S))))) (hn : n = (P ++ (U ++ (M ++ (V ++ S)))).length) (hm : n ≤ 1000000000000) (ha : ia = (P.length : Int)) (hb : ib = ((P.length + U.length + M.length : Nat) : Int)) (hk : ik = (U.length : Int)) (hv : V.length = U.length) :
    Calls Tryz.prog 147 #[.slice (some ⟨b, 0, none⟩) n cap, .int .i64 ia, .int .i64 ib, .int .i64 ik, fv] w fun e w' => e = .returned (.tuple #[]) ∧ RwI w' b (P ++ (V ++ (M ++ (U ++ S)))) ∧ Fr (fun c => c = b) w w' := by
  subst ha hb hk
  exact swapI w b n cap P.length (P.length + U.length + M.length) U.length fv P U M V S h hn hm rfl rfl rfl hv
theorem split_len {α : Type} (L : List α) {k : Nat} (h : k ≤ L.length) : ∃ A B, L = A ++ B ∧ A.length = k ∧ B.length = L.length - k :=
  ⟨L.take k, L.drop k, (List.take_append_drop k L).symm, by simp; omega, by simp⟩
set_option maxRecDepth 100000 in
set_option maxHeartbeats 4000000 in
theorem rotI (w : World) (b n cap pa pm pb : Nat) (fv : Value) (P A B S : List EI) (h : RwI w b (P ++ (A ++ (B ++ S)))) (hn : n = (P ++ (A ++ (B ++ S))).length) (hm : n ≤ 1000000000000) (ha : pa = P.length) (hpm : pm = pa + A.length) (hb : pb = pm + B.length) (h1 : 0 < A.length) (h2 : 0 < B.length) :
    Calls Tryz.prog 140 #[.slice (some ⟨b, 0, none⟩) n cap, .int .i64 pa, .int .i64 pm, .int .i64 pb, fv] w fun e w' => e = .returned (.tuple #[]) ∧ RwI w' b (P ++ (B ++ (A ++ S))) ∧ Fr (fun c => c = b) w w' := by
  have hlen : n = pa + A.length + B.length + S.length := by simp at hn; omega
  have HN := Lib.hid hn; have HM := Lib.hid hm; have H0 := Lib.hid h; have HA := Lib.hid ha
  obtain ⟨la, hla⟩ : ∃ la, A.length = la := ⟨_, rfl⟩
  obtain ⟨lb, hlb⟩ : ∃ lb, B.length = lb := ⟨_, rfl⟩
  have HPM := Lib.hid hpm; have HPB := Lib.hid hb
  rw [hla] at hlen h1 hpm HPM
  rw [hlb] at hlen h2 hb HPB
  have HLA := Lib.hid hla; have HLB := Lib.hid hlb; have HLEN := Lib.hid hlen
  have i1 : (n : Int) ≤ 1000000000000 := by omega
  have i2 : (pm : Int) ≤ pa + la := by omega
  have i3 : (pa : Int) + la ≤ pm := by omega
  have i4 : (pb : Int) ≤ pm + lb := by omega
  have i5 : (pm : Int) + lb ≤ pb := by omega
  have i6 : (pb : Int) ≤ n := by omega
  clear h hn hm ha hpm hb hla hlb hlen
  go_enter Tryz.func140, Tryz.ntmps140
  go_wp2_with fail
  go_loopw [10, 11] (fun vi vj wr => ∃ (i j : Nat) (P' X Y S' : List EI), vi = .int .i64 i ∧ vj = .int .i64 j ∧ 0 < i ∧ 0 < j ∧ X.length = i ∧ Y.length = j ∧ P'.length + i = pm ∧ pm + j ≤ n ∧ RwI wr b (P' ++ (X ++ (Y ++ S'))) ∧ P' ++ (Y ++ (X ++ S')) = P ++ (B ++ (A ++ S)) ∧ n = (P' ++ (X ++ (Y ++ S'))).length ∧ Fr (fun c => c = b) w wr) (fun vi vj _ => (intOf vi).toNat + (intOf vj).toNat)
  case atStart => exact ⟨la, lb, P, A, B, S, by congr 1; omega, by congr 1; omega, h1, h2, HLA.out, HLB.out, by have := HA.out; omega, by omega, H0.out, rfl, HN.out, Fr.refl _ _⟩
  case round =>
    obtain ⟨i, j, P', X, Y, S', rfl, rfl, hi0, hj0, hX, hY, hP, hjn, hr, hEq, hN, hf⟩ := hrel
    have HX := Lib.hid hX; have HY := Lib.hid hY; have HP := Lib.hid hP; have HEQ := Lib.hid hEq; have HN2 := Lib.hid hN; have HR := Lib.hid hr; have HF := Lib.hid hf
    have g1 : (i : Int) ≤ pm := by omega
    have g2 : (pm : Int) + j ≤ n := by omega
    have g3 : 0 < (i : Int) := by omega
    have g4 : 0 < (j : Int) := by omega
    obtain ⟨qa, hqa⟩ : ∃ q, pm - i = q := ⟨_, rfl⟩
    have q1 : ((qa : Nat) : Int) ≤ pm - i := by omega
    have q2 : (pm : Int) - i ≤ qa := by omega
    clear hX hY hP hEq hN hr hf hqa hjn
    rcases (by omega : i < j ∨ i = j ∨ j < i) with hlt | heq | hgt
    · obtain ⟨Y1, Y2, rfl, hl1, hl2⟩ := split_len Y (k := j - i) (by have := HY.out; omega)
      have hl3 : Y2.length = i := by have := HY.out; omega
      have HL1 := Lib.hid hl1; have HL3 := Lib.hid hl3
      clear hl1 hl2 hl3
      have hltI : (i : Int) < j := by omega
      go_wp2_with fail
      refine (swapX wr b n cap fv P' X Y1 Y2 S' (by have := HR.out; rw [List.append_assoc] at this; exact this) (by have := HN2.out; simp at this ⊢; omega) HM.out (by have := HP.out; omega) (by have := HP.out; have := HX.out; have := HL1.out; omega) (by have := HX.out; omega) (by have := HX.out; have := HL3.out; omega)).mono ?_
      rintro e w3 ⟨rfl, hr3, hf3⟩
      have HR3 := Lib.hid hr3; have HF3 := Lib.hid (HF.out.trans hf3)
      clear hr3 hf3
      go_wp2_with fail
      go_roundw
      case rel => exact ⟨i, j - i, P', Y2, Y1, X ++ S', rfl, by congr 1; omega, by omega, by omega, HL3.out, HL1.out, HP.out, by omega, HR3.out, by rw [← HEQ.out]; simp, by have := HN2.out; simp at this ⊢; omega, HF3.out⟩
      case measure => simp [intOf]; omega
    · subst heq
      go_wp2_with fail
      refine (swapX wr b n cap fv P' X [] Y S' HR.out HN2.out HM.out (by have := HP.out; omega) (by have := HP.out; have := HX.out; simp; omega) (by have := HX.out; omega) (by have := HX.out; have := HY.out; omega)).mono ?_
      rintro e w3 ⟨rfl, hr3, hf3⟩
      have HR3 := Lib.hid hr3; have HF3 := Lib.hid (HF.out.trans hf3)
      clear hr3 hf3
      go_wp2_with fail
      go_end0
      exact ⟨rfl, by have := HR3.out; rw [← HEQ.out]; exact this, HF3.out⟩
    · obtain ⟨X1, X2, rfl, hl1, hl2⟩ := split_len X (k := j) (by have := HX.out; omega)
      have hl3 : X2.length = i - j := by have := HX.out; omega
      have HL1 := Lib.hid hl1; have HL3 := Lib.hid hl3
      clear hl1 hl2 hl3
      have hltI : (j : Int) < i := by omega
      go_wp2_with fail
      refine (swapX wr b n cap fv P' X1 X2 Y S' (by have := HR.out; rw [List.append_assoc] at this; exact this) (by have := HN2.out; simp at this ⊢; omega) HM.out (by have := HP.out; omega) (by have := HP.out; have := HL1.out; have := HL3.out; omega) (by have := HL1.out; omega) (by have := HL1.out; have := HY.out; omega)).mono ?_
      rintro e w3 ⟨rfl, hr3, hf3⟩
      have HR3 := Lib.hid hr3; have HF3 := Lib.hid (HF.out.trans hf3)
      clear hr3 hf3
      go_wp2_with fail
      go_roundw
      case rel => exact ⟨i - j, j, P' ++ Y, X2, X1, S', by congr 1; omega, rfl, by omega, by omega, HL3.out, HL1.out, by have := HP.out; have := HY.out; simp; omega, by omega, by have := HR3.out; rw [List.append_assoc]; exact this, by rw [← HEQ.out]; simp, by have := HN2.out; simp at this ⊢; omega, HF3.out⟩
      case measure => simp [intOf]; omega
end Go.Proofs.YtefjdcghdcbojaaGreat

namespace Go.Proofs.YtefjdcghdcbojaaGreat
open Go.RowKit
/-- What the comparison says of one that stands right of another. -/
def Rgt (cf : Int → Int → Int) (T : EI → EI → Bool) (p q : EI) : Prop := decide (cf p.1 q.1 < 0) = T p q ∧ (T p q = false → T q p = true) ∧ (-1 ≤ cf p.1 q.1 ∧ cf p.1 q.1 ≤ 1)
/-- The comparison, called while only block b has turned (where cf says less than -1 or more than 1 nothing is known of it). -/
def CmpI (g : Nat) (cb : Array Value) (cf : Int → Int → Int) (b : Nat) (w : World) : Prop :=
  ∀ (W : World) (x y : Int), Fr (fun c => c = b) w W → (-1 ≤ cf x y ∧ cf x y ≤ 1) → Calls Tryz.prog g (#[.int .i64 x, .int .i64 y] ++ cb) W fun e w' => e = .returned (.int .i64 (cf x y)) ∧ Fr (fun _ => False) W w'
theorem CmpI.fr {g : Nat} {cb : Array Value} {cf : Int → Int → Int} {b : Nat} {w w' : World} (h : CmpI g cb cf b w) (hf : Fr (fun c => c = b) w w') : CmpI g cb cf b w' := fun W x y hw => h W x y (hf.trans hw)
theorem ins_perm {A Z Z1 Z2 : List EI} {k : Nat} {x : EI} (hp : Z.Perm (A.take k)) (hz : Z1 ++ Z2 = Z) (hx : A[k]? = some x) : (Z1 ++ x :: Z2).Perm (A.take (k + 1)) := by
  rw [List.take_add_one, hx]
  refine List.perm_middle.trans ?_
  rw [hz]
  exact (List.Perm.cons x hp).trans (List.perm_append_comm (l₁ := [x]))
set_option maxRecDepth 100000 in
set_option maxHeartbeats 8000000 in
theorem insI (w : World) (b n cap g : Nat) (cb : Array Value) (cf : Int → Int → Int) (T : EI → EI → Bool) (P A S : List EI) {ia ib : Int} (eg : ∀ args w, (callFunc g args).run Tryz.prog w = .ok (.enter g args) w)
    (h : RwI w b (P ++ (A ++ S))) (hn : n = (P ++ (A ++ S)).length) (hm : n ≤ 1000000000000) (ha : ia = (P.length : Int)) (hb : ib = ((P.length + A.length : Nat) : Int)) (tr : ∀ a b c, T a b = true → T b c = true → T a c = true)
    (hR : A.Pairwise (fun q p => Rgt cf T p q)) (hc : CmpI g cb cf b w) :
    Calls Tryz.prog 127 #[.slice (some ⟨b, 0, none⟩) n cap, .int .i64 ia, .int .i64 ib, .func (.func g) #[] cb] w fun e w' => e = .returned (.tuple #[]) ∧ ∃ Z, RwI w' b (P ++ (Z ++ S)) ∧ Srt T Z ∧ Z.Perm A ∧ Fr (fun c => c = b) w w' := by
  obtain ⟨pa, hpa⟩ : ∃ pa, P.length = pa := ⟨_, rfl⟩
  obtain ⟨la, hla⟩ : ∃ la, A.length = la := ⟨_, rfl⟩
  have hlen : n = pa + la + S.length := by simp at hn; omega
  rw [hpa] at ha hb
  rw [hla] at hb
  subst ha hb
  have H0 := Lib.hid h; have HM := Lib.hid hm; have HPA := Lib.hid hpa; have HLA := Lib.hid hla; have HRR := Lib.hid hR; have HC := Lib.hid hc; have HTR := Lib.hid tr
  have i1 : (n : Int) ≤ 1000000000000 := by omega
  have i2 : (pa : Int) + la ≤ n := by omega
  clear h hn hm hpa hla hR hc tr hlen
  go_enter Tryz.func127, Tryz.ntmps127
  go_wp2_with fail
  go_loopw [8] (fun v wr => ∃ (k : Nat) (Z : List EI), v = .int .i64 ((pa : Int) + k) ∧ 1 ≤ k ∧ k ≤ la + 1 ∧ RwI wr b (P ++ (Z ++ (A.drop k ++ S))) ∧ Srt T Z ∧ Z.Perm (A.take k) ∧ Fr (fun c => c = b) w wr) (fun v _ => (pa + la + 1) - (intOf v).toNat)
  case atStart =>
    refine ⟨1, A.take 1, by simp, by omega, by omega, ?_, ?_, List.Perm.refl _, Fr.refl _ _⟩
    · have := H0.out
      rw [← List.append_assoc (A.take 1), List.take_append_drop]; exact this
    · cases A with
      | nil => exact Srt.nil
      | cons x r => exact List.pairwise_singleton _ _
  case round =>
    obtain ⟨k, Z, rfl, hk1, hk2, hr, hz, hp, hf⟩ := hrel
    have HR := Lib.hid hr; have HZ := Lib.hid hz; have HP := Lib.hid hp; have HF := Lib.hid hf
    clear hr hz hp hf
    by_cases hlt : k < la
    · obtain ⟨x, hx⟩ : ∃ x, A[k]? = some x := ⟨A[k]'(by rw [HLA.out]; exact hlt), List.getElem?_eq_getElem _⟩
      have hdr : A.drop k = x :: A.drop (k + 1) := by
        rw [List.drop_eq_getElem_cons (List.getElem?_eq_some_iff.1 hx).1, (List.getElem?_eq_some_iff.1 hx).2]
      have hrt : Hid (∀ z ∈ Z, Rgt cf T x z) := Lib.hid (fun z hz => by
        have h1 := HP.out.mem_iff.1 hz
        have h2 := HRR.out
        rw [← List.take_append_drop k A, hdr] at h2
        exact (List.pairwise_append.1 h2).2.2 z h1 x (List.mem_cons_self ..))
      have hzl : Hid (Z.length = k) := Lib.hid (by rw [HP.out.length_eq, List.length_take, HLA.out]; omega)
      obtain ⟨Q, hQ⟩ : ∃ Q, A.drop (k + 1) ++ S = Q := ⟨_, rfl⟩
      have HR2 : Hid (RwI wr b (P ++ (Z ++ x :: Q))) := Lib.hid (by have := HR.out; rw [hdr, List.cons_append, hQ] at this; exact this)
      have HX := Lib.hid hx; have HQ := Lib.hid hQ
      have hltI : (pa : Int) + k < pa + la := by omega
      clear hx hdr hQ HR
      obtain ⟨wo, rfl⟩ : ∃ wo : World, wo = wr := ⟨_, rfl⟩
      go_wp2_with fail
      go_loopw [9] (fun v wi => ∃ (j : Nat) (Z1 Z2 : List EI), v = .int .i64 j ∧ j = pa + Z1.length ∧ Z1 ++ Z2 = Z ∧ RwI wi b (P ++ (Z1 ++ x :: (Z2 ++ Q))) ∧ (∀ z ∈ Z2, T x z = true) ∧ Fr (fun c => c = b) w wi) (fun v _ => (intOf v).toNat)
      case atStart => exact ⟨pa + k, Z, [], by first | rfl | (congr 1; done) | (congr 1; omega), by rw [hzl.out], by simp, HR2.out, (fun z hz => absurd hz (by simp)), HF.out⟩
      case round =>
        obtain ⟨j, Z1, Z2, rfl, hj, hzz, hri, hz2, hfi⟩ := hrel
        have HZZ := Lib.hid hzz; have HRI := Lib.hid hri; have HZ2 := Lib.hid hz2; have HFI := Lib.hid hfi
        clear hzz hri hz2 hfi
        rcases List.eq_nil_or_concat Z1 with rfl | ⟨W, y, hW⟩
        · obtain rfl : j = pa := by simpa using hj
          have d1 : decide ((j : Int) < (j : Int)) = false := by simp
          clear hj
          go_wp2_with fail
          refine wp_region_fr (by kernel_rfl) (by kernel_rfl) ?_
          repeat (go_big_quiet_step (fail))
          refine wpQuiet_nil ?_
          rintro V ⟨⟨_, hV⟩, rfl⟩
          go_wp2_with fail
          have hr' := HRI.out.fr hV (fun e => e)
          go_roundw
          case rel =>
            refine ⟨k + 1, x :: Z2, by first | rfl | (congr 1; done) | (congr 1; omega), by omega, by omega, ?_, ?_, ins_perm (Z1 := []) HP.out HZZ.out HX.out, HFI.out.trans (hV.mono (fun _ _ e => e.elim))⟩
            · have := hr'; rw [← HQ.out] at this; simpa using this
            · exact ins_done (Z1 := []) HTR.out (by rw [HZZ.out]; exact HZ.out) HZ2.out (fun W y e => absurd e (by simp))
          case measure => first | (simp [intOf]; done) | (simp [intOf]; omega)
        · rw [List.concat_eq_append] at hW
          subst hW
          obtain ⟨q, hq⟩ : ∃ q, pa + W.length = q := ⟨_, rfl⟩
          have hjq : j = q + 1 := by rw [hj]; simp; omega
          have hrow : RwI wr b ((P ++ W) ++ y :: ([] ++ x :: (Z2 ++ Q))) := by have := HRI.out; simpa using this
          have e1 : q = (P ++ W).length := by have := HPA.out; simp; omega
          have hry : Rgt cf T x y := hrt.out y (by rw [← HZZ.out]; simp)
          have HDM := Lib.hid hry.2.2
          have c1 := hrow.cell (i := q) (by rw [e1]; exact at_left)
          have c2 := hrow.cell (i := q + 1) (by rw [e1]; exact at_right (B := []))
          have p1 := FrW.cell c1
          have p2 := FrW.cell c2
          have hqn : (q : Int) + 1 < n := by have := HRR; have h3 := hzl.out; rw [← HZZ.out] at h3; simp at h3; omega
          have HROW := Lib.hid hrow; have HE1 := Lib.hid e1; have HQQ := Lib.hid hq
          have hpq : (pa : Int) ≤ q := by omega
          subst hjq
          clear hj hq hrow e1 c1 c2 HRI
          have hjad : decide ((pa : Int) < (q : Int) + 1) = true := decide_eq_true (by omega)
          have ta : ((q : Int) + 1).toNat = q + 1 := by omega
          have tb : ((q : Int)).toNat = q := by omega
          obtain ⟨jb, hjb⟩ : ∃ jb, q + 1 = jb := ⟨_, rfl⟩
          rw [hjb] at ta p2
          have HJB := Lib.hid hjb
          clear hjb
          have ra : IntKind.i64.wrap ((q : Int) + 1) = (q : Int) + 1 := IntWalk.i64_in _ (by omega)
          cases hT : T x y with
          | true =>
            have hv : decide (cf x.1 y.1 < 0) = true := hry.1.trans hT
            go_wp2_with fail
            refine wp_region_fr (by kernel_rfl) (by kernel_rfl) ?_
            repeat (go_big_quiet_step ((go_at_fn g; rename_i X; refine (HC.out _ _ _ (HFI.out.trans (X.fr.mono (fun _ _ e => e.elim))) HDM.out).mono ?_; rintro e w2 ⟨rfl, hF⟩; exact ⟨rfl, ⟨w2, X.fr.trans hF⟩, rfl⟩)))
            refine wpQuiet_nil ?_
            rintro V ⟨⟨_, hV⟩, rfl⟩
            have hr' := HROW.out.fr hV (fun e => e)
            have HFV := Lib.hid (HFI.out.trans (hV.mono (fun _ _ e => e.elim)))
            have c1 := hr'.cell (i := q) (by rw [HE1.out]; exact at_left)
            have c2 := hr'.cell (i := q + 1) (by rw [HE1.out]; exact at_right (B := []))
            have c3 := (hr'.set (i := q + 1) (by rw [HE1.out]; simp; omega) y).cell (i := q) (p := y) (by rw [List.getElem?_set_ne (by omega), HE1.out]; exact at_left)
            have hsw := hr'.swap' (i := q) (j := q + 1) HE1.out (by rw [HE1.out]; rfl)
            have f1 := hr'.frz q
            have f2 := hr'.frz (q + 1)
            rw [HJB.out] at c2 c3 hsw f2
            have HSW := Lib.hid hsw
            have HNE : Hid (q ≠ jb) := Lib.hid (by have := HJB.out; omega)
            clear hsw hV hr' p1 p2 hjad
            have za : (0 : Int) ≤ (q : Int) + 1 := by omega
            have rb : IntKind.i64.wrap (q : Int) = (q : Int) := IntWalk.i64_in _ (by omega)
            have lb : (q : Int) < n := by omega
            go_wp2_with fail
            go_region
            have hfs : Fr (fun c => c = b) V ((V.setCell ⟨b, jb, none⟩ (encI y)).setCell ⟨b, q, none⟩ (encI x)) := ((Fr.refl (fun c => c = b) V).setCell (p := ⟨b, jb, none⟩) (fun _ => rfl) _).setCell (p := ⟨b, q, none⟩) (fun _ => rfl) _
            have HFS := Lib.hid (HFV.out.trans hfs)
            clear c1 c2 c3 f1 f2 hfs
            generalize (V.setCell ⟨b, jb, none⟩ (encI y)).setCell ⟨b, q, none⟩ (encI x) = w3 at HSW HFS ⊢
            go_wp2_with fail
            go_roundw
            case rel => exact ⟨q, W, y :: Z2, by first | rfl | (congr 1; done) | (congr 1; omega), HQQ.out.symm, by rw [← HZZ.out]; simp, by have := HSW.out.fr (S := fun _ => False) (Fr.refl _ w3).drew (fun e => e); simpa using this, (fun z hz => (List.mem_cons.1 hz).elim (fun e => e ▸ hT) (fun h => HZ2.out z h)), HFS.out.drew⟩
            case measure => first | (simp [intOf]; done) | (simp [intOf]; omega)
          | false =>
            have hv : decide (cf x.1 y.1 < 0) = false := hry.1.trans hT
            have hyx := hry.2.1 hT
            go_wp2_with fail
            refine wp_region_fr (by kernel_rfl) (by kernel_rfl) ?_
            repeat (go_big_quiet_step ((go_at_fn g; rename_i X; refine (HC.out _ _ _ (HFI.out.trans (X.fr.mono (fun _ _ e => e.elim))) HDM.out).mono ?_; rintro e w2 ⟨rfl, hF⟩; exact ⟨rfl, ⟨w2, X.fr.trans hF⟩, rfl⟩)))
            refine wpQuiet_nil ?_
            rintro V ⟨⟨_, hV⟩, rfl⟩
            have hr' := HROW.out.fr hV (fun e => e)
            have HR' := Lib.hid hr'
            have HFV := Lib.hid (HFI.out.trans (hV.mono (fun _ _ e => e.elim)))
            clear hr' hV p1 p2
            go_wp2_with fail
            go_roundw
            case rel =>
              refine ⟨k + 1, (W ++ [y]) ++ x :: Z2, by first | rfl | (congr 1; done) | (congr 1; omega), by omega, by omega, ?_, ?_, ins_perm HP.out HZZ.out HX.out, HFV.out⟩
              · have := HR'.out; rw [← HQ.out] at this; simpa using this
              · refine ins_done HTR.out (by rw [HZZ.out]; exact HZ.out) HZ2.out (fun W' y' e => ?_)
                have := List.append_inj_right' e rfl
                injection this with this
                rw [← this]; exact hyx
            case measure => first | (simp [intOf]; done) | (simp [intOf]; omega)
    · have hltI : ¬ (pa : Int) + k < pa + la := by omega
      have hek : A.take k = A ∧ A.drop k = [] := ⟨List.take_of_length_le (by rw [HLA.out]; omega), List.drop_of_length_le (by rw [HLA.out]; omega)⟩
      have HEK := Lib.hid hek
      clear hek
      go_wp2_with fail
      go_end0
      exact ⟨rfl, Z, by have := HR.out; rw [HEK.out.2] at this; exact this, HZ.out, by have := HP.out; rw [HEK.out.1] at this; exact this, HF.out⟩
end Go.Proofs.YtefjdcghdcbojaaGreat

namespace Go.Proofs.YtefjdcghdcbojaaGreat
open Go.RowKit
theorem lo_step {T : EI → EI → Bool} {B : List EI} {k : Nat} {x y : EI} (tr : ∀ a b c, T a b = true → T b c = true → T a c = true) (hB : Srt T B) (hy : B[k]? = some y) (h : T y x = true) : ∀ z ∈ B.take (k + 1), T z x = true := by
  intro z hz
  rw [List.take_add_one, hy] at hz
  rcases List.mem_append.1 hz with hz | hz
  · have hd : B.drop k = y :: B.drop (k + 1) := by rw [List.drop_eq_getElem_cons (List.getElem?_eq_some_iff.1 hy).1, (List.getElem?_eq_some_iff.1 hy).2]
    have hs := hB
    rw [← List.take_append_drop k B, hd] at hs
    exact tr _ _ _ (hs.cross z hz y (List.mem_cons_self ..)) h
  · have : z = y := by simpa using hz
    rw [this]; exact h
theorem up_step {T : EI → EI → Bool} {B : List EI} {k : Nat} {x y : EI} (tr : ∀ a b c, T a b = true → T b c = true → T a c = true) (hB : Srt T B) (hy : B[k]? = some y) (h : T x y = true) : ∀ z ∈ B.drop k, T x z = true := by
  intro z hz
  have hd : B.drop k = y :: B.drop (k + 1) := by rw [List.drop_eq_getElem_cons (List.getElem?_eq_some_iff.1 hy).1, (List.getElem?_eq_some_iff.1 hy).2]
  rw [hd] at hz
  rcases List.mem_cons.1 hz with rfl | hz
  · exact h
  · have hs := hB
    rw [← List.take_append_drop k B, hd] at hs
    exact tr _ _ _ h ((List.pairwise_cons.1 hs.right).1 z hz)
set_option maxRecDepth 100000 in
set_option maxHeartbeats 8000000 in
theorem symI1 (w : World) (b n cap g : Nat) (cb : Array Value) (cf : Int → Int → Int) (T : EI → EI → Bool) (P B S : List EI) (x : EI) {ia im ib : Int} (eg : ∀ args w, (callFunc g args).run Tryz.prog w = .ok (.enter g args) w)
    (h : RwI w b (P ++ (x :: (B ++ S)))) (hn : n = (P ++ (x :: (B ++ S))).length) (hm : n ≤ 1000000000000) (ha : ia = (P.length : Int)) (hpm : im = ((P.length + 1 : Nat) : Int)) (hb : ib = ((P.length + 1 + B.length : Nat) : Int)) (tr : ∀ a b c, T a b = true → T b c = true → T a c = true)
    (hB : Srt T B) (hR : ∀ p ∈ B, Rgt cf T p x) (hc : CmpI g cb cf b w) :
    Calls Tryz.prog 128 #[.slice (some ⟨b, 0, none⟩) n cap, .int .i64 ia, .int .i64 im, .int .i64 ib, .func (.func g) #[] cb] w fun e w' => e = .returned (.tuple #[]) ∧ ∃ Z, RwI w' b (P ++ (Z ++ S)) ∧ Srt T Z ∧ Z.Perm (x :: B) ∧ Fr (fun c => c = b) w w' := by
  obtain ⟨pa, hpa⟩ : ∃ pa, P.length = pa := ⟨_, rfl⟩
  obtain ⟨lb, hlb⟩ : ∃ lb, B.length = lb := ⟨_, rfl⟩
  have hlen : n = pa + 1 + lb + S.length := by simp at hn; omega
  rw [hpa] at ha hb hpm
  rw [hlb] at hb
  subst ha hb hpm
  have H0 := Lib.hid h; have HM := Lib.hid hm; have HPA := Lib.hid hpa; have HLB := Lib.hid hlb; have HRR := Lib.hid hR; have HC := Lib.hid hc; have HTR := Lib.hid tr; have HSB := Lib.hid hB
  have i1 : (n : Int) ≤ 1000000000000 := by omega
  have i2 : (pa : Int) + 1 + lb ≤ n := by omega
  have b1 : (((pa + 1 : Nat) : Int) - (pa : Int) == 1) = true := by simp; omega
  clear h hn hm hpa hlb hR hc tr hlen hB
  go_enter Tryz.func128, Tryz.ntmps128
  go_wp2_with fail
  go_loopw [10, 11] (fun vi vj wr => ∃ i j : Nat, vi = .int .i64 ((pa : Int) + 1 + i) ∧ vj = .int .i64 ((pa : Int) + 1 + j) ∧ i ≤ j ∧ j ≤ lb ∧ (∀ y ∈ B.take i, T y x = true) ∧ (∀ y ∈ B.drop j, T x y = true) ∧ Fr (fun _ => False) w wr) (fun vi vj _ => (intOf vj - intOf vi).toNat)
  case atStart => exact ⟨0, lb, by simp, by first | rfl | (congr 1; done) | (congr 1; omega), by omega, Nat.le_refl _, (fun y hy => absurd hy (by simp)), (fun y hy => absurd hy (by rw [List.drop_of_length_le (by rw [HLB.out]; exact Nat.le_refl _)]; simp)), Fr.refl _ _⟩
  case round =>
    obtain ⟨i, j, rfl, rfl, hij, hjl, hlo, hup, hf⟩ := hrel
    have HLO := Lib.hid hlo; have HUP := Lib.hid hup; have HF := Lib.hid hf
    clear hlo hup hf
    by_cases hlt : i < j
    · have hltI : (pa : Int) + 1 + i < (pa : Int) + 1 + j := by omega
      obtain ⟨hh, hhh⟩ : ∃ q, (i + j) / 2 = q := ⟨_, rfl⟩
      have hq1 : i ≤ hh := by omega
      have hq2 : hh < j := by omega
      have he : ((pa : Int) + 1 + i + ((pa : Int) + 1 + j)) / 2 = (pa : Int) + 1 + hh := by omega
      obtain ⟨y, hy⟩ : ∃ y, B[hh]? = some y := ⟨B[hh]'(by rw [HLB.out]; omega), List.getElem?_eq_getElem _⟩
      have hrw := H0.out.fr HF.out (fun e => e)
      have c1 := FrW.cell (hrw.cell (i := pa) (by rw [← HPA.out]; exact at_left))
      have hat : (P ++ (x :: (B ++ S)))[pa + 1 + hh]? = some y := by
        rw [List.getElem?_append_right (by rw [HPA.out]; omega), HPA.out, show pa + 1 + hh - pa = hh + 1 by omega, List.getElem?_cons_succ, List.getElem?_append_left (by rw [HLB.out]; omega)]
        exact hy
      have c2 := FrW.cell (hrw.cell hat)
      obtain ⟨q, hq⟩ : ∃ q, pa + 1 + hh = q := ⟨_, rfl⟩
      rw [hq] at c2
      have tq : ((pa : Int) + 1 + hh).toNat = q := by omega
      have zq : (0 : Int) ≤ (pa : Int) + 1 + hh := by omega
      have lq : (pa : Int) + 1 + hh < n := by omega
      have lp : (pa : Int) < n := by omega
      have hry := HRR.out y (List.mem_of_getElem? hy)
      have HDM := Lib.hid hry.2.2
      have HY := Lib.hid hy
      clear hrw hat hq hhh hy
      cases hT : T y x with
      | true =>
        have hv : decide (cf y.1 x.1 < 0) = true := hry.1.trans hT
        have hnx : Hid (∀ z ∈ B.take (hh + 1), T z x = true) := Lib.hid (lo_step HTR.out HSB.out HY.out hT)
        clear hry
        go_wp2_with fail
        refine wp_region_fr (by kernel_rfl) (by kernel_rfl) ?_
        repeat (go_big_quiet_step ((go_at_fn g; rename_i X; refine (HC.out _ _ _ ((HF.out.mono (fun _ _ e => e.elim)).trans (X.fr.mono (fun _ _ e => e.elim))) HDM.out).mono ?_; rintro e w2 ⟨rfl, hF⟩; exact ⟨rfl, ⟨w2, X.fr.trans hF⟩, rfl⟩)))
        refine wpQuiet_nil ?_
        rintro V ⟨⟨_, hV⟩, rfl⟩
        go_wp2_with fail
        go_roundw
        case rel => exact ⟨hh + 1, j, by first | rfl | (congr 1; done) | (congr 1; omega), rfl, by omega, hjl, hnx.out, HUP.out, HF.out.trans hV⟩
        case measure => simp [intOf]; omega
      | false =>
        have hv : decide (cf y.1 x.1 < 0) = false := hry.1.trans hT
        have hnx : Hid (∀ z ∈ B.drop hh, T x z = true) := Lib.hid (up_step HTR.out HSB.out HY.out (hry.2.1 hT))
        clear hry
        go_wp2_with fail
        refine wp_region_fr (by kernel_rfl) (by kernel_rfl) ?_
        repeat (go_big_quiet_step ((go_at_fn g; rename_i X; refine (HC.out _ _ _ ((HF.out.mono (fun _ _ e => e.elim)).trans (X.fr.mono (fun _ _ e => e.elim))) HDM.out).mono ?_; rintro e w2 ⟨rfl, hF⟩; exact ⟨rfl, ⟨w2, X.fr.trans hF⟩, rfl⟩)))
        refine wpQuiet_nil ?_
        rintro V ⟨⟨_, hV⟩, rfl⟩
        go_wp2_with fail
        go_roundw
        case rel => exact ⟨i, hh, rfl, by first | rfl | (congr 1; done) | (congr 1; omega), by omega, by omega, HLO.out, hnx.out, HF.out.trans hV⟩
        case measure => simp [intOf]; omega
    · obtain rfl : i = j := by omega
      have hltI : ¬ (pa : Int) + 1 + i < (pa : Int) + 1 + i := by omega
      obtain ⟨B1, B2, hBB, hl1, hl2⟩ := split_len B (k := i) (by rw [HLB.out]; omega)
      have e1 : B.take i = B1 := by rw [hBB, ← hl1, List.take_left]
      have e2 : B.drop i = B2 := by rw [hBB, ← hl1, List.drop_left]
      have HLO2 := Lib.hid (e1 ▸ HLO.out); have HUP2 := Lib.hid (e2 ▸ HUP.out)
      have HBB := Lib.hid hBB; have HL1 := Lib.hid hl1
      have hr0 : RwI wr b (P ++ (x :: (B1 ++ (B2 ++ S)))) := by have := H0.out.fr HF.out (fun e => e); rw [hBB, List.append_assoc] at this; exact this
      have HR0 := Lib.hid hr0
      clear e1 e2 hBB hl1 hl2 hr0 HLO HUP
      go_wp2_with fail
      clear hltI
      go_loopw [13] (fun v wr => ∃ t : Nat, v = .int .i64 ((pa : Int) + t) ∧ t ≤ i ∧ RwI wr b (P ++ (B1.take t ++ (x :: (B1.drop t ++ (B2 ++ S))))) ∧ Fr (fun c => c = b) w wr) (fun v _ => ((pa : Int) + i - intOf v).toNat)
      case atStart => exact ⟨0, by simp, Nat.zero_le _, HR0.out, HF.out.mono (fun _ _ e => e.elim)⟩
      case round =>
        obtain ⟨t, rfl, hti, hr, hf⟩ := hrel
        have HR := Lib.hid hr; have HF2 := Lib.hid hf
        clear hr hf
        by_cases hlt : t < i
        · obtain ⟨y, hy⟩ : ∃ y, B1[t]? = some y := ⟨B1[t]'(by rw [HL1.out]; exact hlt), List.getElem?_eq_getElem _⟩
          have hdr : B1.drop t = y :: B1.drop (t + 1) := by rw [List.drop_eq_getElem_cons (List.getElem?_eq_some_iff.1 hy).1, (List.getElem?_eq_some_iff.1 hy).2]
          have htk : B1.take (t + 1) = B1.take t ++ [y] := by rw [List.take_add_one, hy]; rfl
          have hrow : RwI wr b ((P ++ B1.take t) ++ x :: ([] ++ y :: (B1.drop (t + 1) ++ (B2 ++ S)))) := by have := HR.out; rw [hdr] at this; simpa using this
          have e1 : pa + t = (P ++ B1.take t).length := by have := HPA.out; have := HL1.out; simp; omega
          have c1 := hrow.cell (i := pa + t) (by rw [e1]; exact at_left)
          have c2 := hrow.cell (i := pa + t + 1) (by rw [e1]; exact at_right (B := []))
          have c3 := (hrow.set (i := pa + t) (by rw [e1]; simp) y).cell (i := pa + t + 1) (p := y) (by rw [List.getElem?_set_ne (by omega), e1]; exact at_right (B := []))
          have hsw := hrow.swap (i := pa + t) (j := pa + t + 1) e1 (by rw [e1]; rfl)
          have f1 := hrow.frz (pa + t)
          have f2 := hrow.frz (pa + t + 1)
          obtain ⟨q, hq⟩ : ∃ q, pa + t = q := ⟨_, rfl⟩
          rw [hq] at c1 c2 c3 hsw f1 f2
          obtain ⟨q2, hq2⟩ : ∃ q2, q + 1 = q2 := ⟨_, rfl⟩
          rw [hq2] at c2 c3 hsw f2
          have HSW := Lib.hid hsw; have HTK := Lib.hid htk
          have t1 : ((pa : Int) + t).toNat = q := by omega
          have t2 : ((pa : Int) + t + 1).toNat = q2 := by omega
          have z1 : (0 : Int) ≤ (pa : Int) + t := by omega
          have z2 : (0 : Int) ≤ (pa : Int) + t + 1 := by omega
          have l1 : (pa : Int) + t < n := by omega
          have l2 : (pa : Int) + t + 1 < n := by omega
          have r1 : IntKind.i64.wrap ((pa : Int) + t) = (pa : Int) + t := IntWalk.i64_in _ (by omega)
          have r2 : IntKind.i64.wrap ((pa : Int) + t + 1) = (pa : Int) + t + 1 := IntWalk.i64_in _ (by omega)
          have hltI : (pa : Int) + t < (pa : Int) + 1 + i - 1 := by omega
          clear hrow hsw e1 hdr htk hy hq hq2
          go_wp2_with fail
          go_region
          have hfs : Fr (fun c => c = b) wr ((wr.setCell ⟨b, q, none⟩ (encI y)).setCell ⟨b, q2, none⟩ (encI x)) := ((Fr.refl (fun c => c = b) wr).setCell (p := ⟨b, q, none⟩) (fun _ => rfl) _).setCell (p := ⟨b, q2, none⟩) (fun _ => rfl) _
          have HFS := Lib.hid (HF2.out.trans hfs)
          clear c1 c2 c3 f1 f2 hfs
          generalize (wr.setCell ⟨b, q, none⟩ (encI y)).setCell ⟨b, q2, none⟩ (encI x) = w3 at HSW HFS ⊢
          go_wp2_with fail
          go_roundw
          case rel => exact ⟨t + 1, by first | rfl | (congr 1; done) | (congr 1; omega), by omega, by have := HSW.out.fr (S := fun _ => False) (Fr.refl _ w3).drew (fun e => e); rw [HTK.out]; simpa using this, HFS.out.drew⟩
          case measure => simp [intOf]; omega
        · obtain rfl : t = i := by omega
          have hltI : ¬ (pa : Int) + t < (pa : Int) + 1 + t - 1 := by omega
          have e1 : B1.take t = B1 ∧ B1.drop t = [] := ⟨List.take_of_length_le (by rw [HL1.out]; exact Nat.le_refl _), List.drop_of_length_le (by rw [HL1.out]; exact Nat.le_refl _)⟩
          have HE1 := Lib.hid e1
          clear e1
          go_wp2_with fail
          refine bodyPost_ret (v := .tuple #[]) (by simp [results, Tryz.results128, go_sem]) rfl ?_
          refine ⟨rfl, B1 ++ x :: B2, ?_, ?_, ?_, HF2.out⟩
          · have := HR.out; rw [HE1.out.1, HE1.out.2] at this; simpa using this
          · refine ins_done HTR.out (by rw [← HBB.out]; exact HSB.out) HUP2.out (fun W y e => HLO2.out y (by rw [e]; simp))
          · rw [HBB.out]; exact List.perm_middle
end Go.Proofs.YtefjdcghdcbojaaGreat

namespace Go.Proofs.YtefjdcghdcbojaaGreat
open Go.RowKit
set_option maxRecDepth 100000 in
set_option maxHeartbeats 8000000 in
theorem symI2 (w : World) (b n cap g : Nat) (cb : Array Value) (cf : Int → Int → Int) (T : EI → EI → Bool) (P A S : List EI) (y : EI) {ia im ib : Int} (eg : ∀ args w, (callFunc g args).run Tryz.prog w = .ok (.enter g args) w)
    (h : RwI w b (P ++ (A ++ (y :: S)))) (hn : n = (P ++ (A ++ (y :: S))).length) (hm : n ≤ 1000000000000) (ha : ia = (P.length : Int)) (hpm : im = ((P.length + A.length : Nat) : Int)) (hb : ib = ((P.length + A.length + 1 : Nat) : Int)) (h2 : 2 ≤ A.length) (tr : ∀ a b c, T a b = true → T b c = true → T a c = true)
    (hA : Srt T A) (hR : ∀ q ∈ A, Rgt cf T y q) (hc : CmpI g cb cf b w) :
    Calls Tryz.prog 128 #[.slice (some ⟨b, 0, none⟩) n cap, .int .i64 ia, .int .i64 im, .int .i64 ib, .func (.func g) #[] cb] w fun e w' => e = .returned (.tuple #[]) ∧ ∃ Z, RwI w' b (P ++ (Z ++ S)) ∧ Srt T Z ∧ Z.Perm (A ++ [y]) ∧ Fr (fun c => c = b) w w' := by
  obtain ⟨pa, hpa⟩ : ∃ pa, P.length = pa := ⟨_, rfl⟩
  obtain ⟨la, hla⟩ : ∃ la, A.length = la := ⟨_, rfl⟩
  have hlen : n = pa + la + 1 + S.length := by simp at hn; omega
  rw [hpa] at ha hb hpm
  rw [hla] at hb hpm h2
  subst ha hb hpm
  have H0 := Lib.hid h; have HM := Lib.hid hm; have HPA := Lib.hid hpa; have HLA := Lib.hid hla; have HRR := Lib.hid hR; have HC := Lib.hid hc; have HTR := Lib.hid tr; have HSA := Lib.hid hA
  have i1 : (n : Int) ≤ 1000000000000 := by omega
  have i2 : (pa : Int) + la + 1 ≤ n := by omega
  have b1 : (((pa + la : Nat) : Int) - (pa : Int) == 1) = false := by simp; omega
  have b2 : (((pa + la + 1 : Nat) : Int) - ((pa + la : Nat) : Int) == 1) = true := by simp; omega
  clear h hn hm hpa hla hR hc tr hlen hA
  go_enter Tryz.func128, Tryz.ntmps128
  go_wp2_with fail
  go_loopw [14, 15] (fun vi vj wr => ∃ i j : Nat, vi = .int .i64 ((pa : Int) + i) ∧ vj = .int .i64 ((pa : Int) + j) ∧ i ≤ j ∧ j ≤ la ∧ (∀ z ∈ A.take i, T z y = true) ∧ (∀ z ∈ A.drop j, T y z = true) ∧ Fr (fun _ => False) w wr) (fun vi vj _ => (intOf vj - intOf vi).toNat)
  case atStart => exact ⟨0, la, by simp, by first | rfl | (congr 1; done) | (congr 1; omega), by omega, Nat.le_refl _, (fun y hy => absurd hy (by simp)), (fun y hy => absurd hy (by rw [List.drop_of_length_le (by rw [HLA.out]; exact Nat.le_refl _)]; simp)), Fr.refl _ _⟩
  case round =>
    obtain ⟨i, j, rfl, rfl, hij, hjl, hlo, hup, hf⟩ := hrel
    have HLO := Lib.hid hlo; have HUP := Lib.hid hup; have HF := Lib.hid hf
    clear hlo hup hf
    by_cases hlt : i < j
    · have hltI : (pa : Int) + i < (pa : Int) + j := by omega
      obtain ⟨hh, hhh⟩ : ∃ q, (i + j) / 2 = q := ⟨_, rfl⟩
      have hq1 : i ≤ hh := by omega
      have hq2 : hh < j := by omega
      have he : ((pa : Int) + i + ((pa : Int) + j)) / 2 = (pa : Int) + hh := by omega
      obtain ⟨z, hz⟩ : ∃ z, A[hh]? = some z := ⟨A[hh]'(by rw [HLA.out]; omega), List.getElem?_eq_getElem _⟩
      have hrw := H0.out.fr HF.out (fun e => e)
      have hay : (P ++ (A ++ (y :: S)))[pa + la]? = some y := by
        rw [List.getElem?_append_right (by rw [HPA.out]; omega), HPA.out, show pa + la - pa = la by omega, ← HLA.out]
        exact at_left
      have haz : (P ++ (A ++ (y :: S)))[pa + hh]? = some z := by
        rw [List.getElem?_append_right (by rw [HPA.out]; omega), HPA.out, show pa + hh - pa = hh by omega, List.getElem?_append_left (by rw [HLA.out]; omega)]
        exact hz
      have c1 := FrW.cell (hrw.cell hay)
      have c2 := FrW.cell (hrw.cell haz)
      obtain ⟨q, hq⟩ : ∃ q, pa + hh = q := ⟨_, rfl⟩
      rw [hq] at c2
      obtain ⟨qm, hqm⟩ : ∃ q, pa + la = q := ⟨_, rfl⟩
      rw [hqm] at c1
      have tq : ((pa : Int) + hh).toNat = q := by omega
      have tm : ((pa : Int) + la).toNat = qm := by omega
      have zq : (0 : Int) ≤ (pa : Int) + hh := by omega
      have zm : (0 : Int) ≤ (pa : Int) + la := by omega
      have lq : (pa : Int) + hh < n := by omega
      have lm : (pa : Int) + la < n := by omega
      have hry := HRR.out z (List.mem_of_getElem? hz)
      have HDM := Lib.hid hry.2.2
      have HZ := Lib.hid hz
      clear hrw hay haz hq hqm hhh hz
      cases hT : T y z with
      | true =>
        have hv : decide (cf y.1 z.1 < 0) = true := hry.1.trans hT
        have hnx : Hid (∀ u ∈ A.drop hh, T y u = true) := Lib.hid (up_step HTR.out HSA.out HZ.out hT)
        clear hry
        go_wp2_with fail
        refine wp_region_fr (by kernel_rfl) (by kernel_rfl) ?_
        repeat (go_big_quiet_step ((go_at_fn g; rename_i X; refine (HC.out _ _ _ ((HF.out.mono (fun _ _ e => e.elim)).trans (X.fr.mono (fun _ _ e => e.elim))) HDM.out).mono ?_; rintro e w2 ⟨rfl, hF⟩; exact ⟨rfl, ⟨w2, X.fr.trans hF⟩, rfl⟩)))
        refine wpQuiet_nil ?_
        rintro V ⟨⟨_, hV⟩, rfl⟩
        go_wp2_with fail
        go_roundw
        case rel => exact ⟨i, hh, rfl, by first | rfl | (congr 1; done) | (congr 1; omega), by omega, by omega, HLO.out, hnx.out, HF.out.trans hV⟩
        case measure => simp [intOf]; omega
      | false =>
        have hv : decide (cf y.1 z.1 < 0) = false := hry.1.trans hT
        have hnx : Hid (∀ u ∈ A.take (hh + 1), T u y = true) := Lib.hid (lo_step HTR.out HSA.out HZ.out (hry.2.1 hT))
        clear hry
        go_wp2_with fail
        refine wp_region_fr (by kernel_rfl) (by kernel_rfl) ?_
        repeat (go_big_quiet_step ((go_at_fn g; rename_i X; refine (HC.out _ _ _ ((HF.out.mono (fun _ _ e => e.elim)).trans (X.fr.mono (fun _ _ e => e.elim))) HDM.out).mono ?_; rintro e w2 ⟨rfl, hF⟩; exact ⟨rfl, ⟨w2, X.fr.trans hF⟩, rfl⟩)))
        refine wpQuiet_nil ?_
        rintro V ⟨⟨_, hV⟩, rfl⟩
        go_wp2_with fail
        go_roundw
        case rel => exact ⟨hh + 1, j, by first | rfl | (congr 1; done) | (congr 1; omega), rfl, by omega, hjl, hnx.out, HUP.out, HF.out.trans hV⟩
        case measure => simp [intOf]; omega
    · obtain rfl : i = j := by omega
      have hltI : ¬ (pa : Int) + i < (pa : Int) + i := by omega
      obtain ⟨A1, A2, hAA, hl1, hl2⟩ := split_len A (k := i) (by rw [HLA.out]; omega)
      obtain ⟨l2, hll⟩ : ∃ l, A2.length = l := ⟨_, rfl⟩
      have hla2 : la = i + l2 := by have := HLA.out; omega
      have e1 : A.take i = A1 := by rw [hAA, ← hl1, List.take_left]
      have e2 : A.drop i = A2 := by rw [hAA, ← hl1, List.drop_left]
      have HLO2 := Lib.hid (e1 ▸ HLO.out); have HUP2 := Lib.hid (e2 ▸ HUP.out)
      have HAA := Lib.hid hAA; have HL1 := Lib.hid hl1; have HLL := Lib.hid hll
      have hr0 : RwI wr b (P ++ (A1 ++ (A2 ++ (y :: S)))) := by have := H0.out.fr HF.out (fun e => e); rw [hAA, List.append_assoc] at this; exact this
      have HR0 := Lib.hid hr0
      clear e1 e2 hAA hl1 hl2 hll hr0 HLO HUP
      have g1 : (la : Int) ≤ i + l2 := by omega
      have g2 : (i : Int) + l2 ≤ la := by omega
      clear hla2
      go_wp2_with fail
      clear hltI
      go_loopw [17] (fun v wr => ∃ t : Nat, v = .int .i64 ((pa : Int) + i + t) ∧ t ≤ l2 ∧ RwI wr b (P ++ (A1 ++ (A2.take t ++ (y :: (A2.drop t ++ S))))) ∧ Fr (fun c => c = b) w wr) (fun v _ => (intOf v - (pa : Int) - i).toNat)
      case atStart => exact ⟨l2, by first | rfl | (congr 1; done) | (congr 1; omega), Nat.le_refl _, by have := HR0.out; rw [List.take_of_length_le (by rw [HLL.out]; exact Nat.le_refl _), List.drop_of_length_le (by rw [HLL.out]; exact Nat.le_refl _)]; exact this, HF.out.mono (fun _ _ e => e.elim)⟩
      case round =>
        obtain ⟨t, rfl, hti, hr, hf⟩ := hrel
        have HR := Lib.hid hr; have HF2 := Lib.hid hf
        clear hr hf
        cases t with
        | succ t =>
          obtain ⟨z, hz⟩ : ∃ z, A2[t]? = some z := ⟨A2[t]'(by rw [HLL.out]; omega), List.getElem?_eq_getElem _⟩
          have hdr : A2.drop t = z :: A2.drop (t + 1) := by rw [List.drop_eq_getElem_cons (List.getElem?_eq_some_iff.1 hz).1, (List.getElem?_eq_some_iff.1 hz).2]
          have htk : A2.take (t + 1) = A2.take t ++ [z] := by rw [List.take_add_one, hz]; rfl
          have hrow : RwI wr b ((P ++ (A1 ++ A2.take t)) ++ z :: ([] ++ y :: (A2.drop (t + 1) ++ S))) := by have := HR.out; rw [htk] at this; simpa using this
          have e1 : pa + i + t = (P ++ (A1 ++ A2.take t)).length := by have := HPA.out; have := HL1.out; have := HLL.out; simp; omega
          have c1 := hrow.cell (i := pa + i + t) (by rw [e1]; exact at_left)
          have c2 := hrow.cell (i := pa + i + t + 1) (by rw [e1]; exact at_right (B := []))
          have c3 := (hrow.set (i := pa + i + t + 1) (by rw [e1]; simp; omega) z).cell (i := pa + i + t) (p := z) (by rw [List.getElem?_set_ne (by omega), e1]; exact at_left)
          have hsw := hrow.swap' (i := pa + i + t) (j := pa + i + t + 1) e1 (by rw [e1]; rfl)
          have f1 := hrow.frz (pa + i + t)
          have f2 := hrow.frz (pa + i + t + 1)
          obtain ⟨q, hq⟩ : ∃ q, pa + i + t = q := ⟨_, rfl⟩
          rw [hq] at c1 c2 c3 hsw f1 f2
          obtain ⟨q2, hq2⟩ : ∃ q2, q + 1 = q2 := ⟨_, rfl⟩
          rw [hq2] at c2 c3 hsw f2
          have HSW := Lib.hid hsw; have HDR := Lib.hid hdr
          have t1 : ((pa : Int) + i + t).toNat = q := by omega
          have t2 : ((pa : Int) + i + (t + 1)).toNat = q2 := by omega
          have z1 : (0 : Int) ≤ (pa : Int) + i + t := by omega
          have z2 : (0 : Int) ≤ (pa : Int) + i + (t + 1) := by omega
          have l1 : (pa : Int) + i + t < n := by omega
          have l2' : (pa : Int) + i + (t + 1) < n := by omega
          have r1 : IntKind.i64.wrap ((pa : Int) + i + t) = (pa : Int) + i + t := IntWalk.i64_in _ (by omega)
          have r2 : IntKind.i64.wrap ((pa : Int) + i + (t + 1)) = (pa : Int) + i + (t + 1) := IntWalk.i64_in _ (by omega)
          have s1 : (pa : Int) + i + (t + 1) - 1 = (pa : Int) + i + t := by omega
          have hltI : (pa : Int) + i < (pa : Int) + i + (t + 1) := by omega
          clear hrow hsw e1 hdr htk hz hq hq2
          go_wp2_with fail
          go_region
          have hfs : Fr (fun c => c = b) wr ((wr.setCell ⟨b, q2, none⟩ (encI z)).setCell ⟨b, q, none⟩ (encI y)) := ((Fr.refl (fun c => c = b) wr).setCell (p := ⟨b, q2, none⟩) (fun _ => rfl) _).setCell (p := ⟨b, q, none⟩) (fun _ => rfl) _
          have HFS := Lib.hid (HF2.out.trans hfs)
          clear c1 c2 c3 f1 f2 hfs
          generalize (wr.setCell ⟨b, q2, none⟩ (encI z)).setCell ⟨b, q, none⟩ (encI y) = w3 at HSW HFS ⊢
          go_wp2_with fail
          go_roundw
          case rel => exact ⟨t, by first | rfl | (congr 1; done) | (congr 1; omega), by omega, by have := HSW.out.fr (S := fun _ => False) (Fr.refl _ w3).drew (fun e => e); rw [HDR.out]; simpa using this, HFS.out.drew⟩
          case measure => simp [intOf]; omega
        | zero =>
          have hltI : ¬ (pa : Int) + i < (pa : Int) + i := by omega
          go_wp2_with fail
          refine bodyPost_ret (v := .tuple #[]) (by simp [results, Tryz.results128, go_sem]) rfl ?_
          refine ⟨rfl, A1 ++ y :: A2, ?_, ?_, ?_, HF2.out⟩
          · have := HR.out; simpa using this
          · refine ins_done HTR.out (by rw [← HAA.out]; exact HSA.out) HUP2.out (fun W z e => HLO2.out z (by rw [e]; simp))
          · rw [HAA.out]
            refine List.perm_middle.trans ?_
            exact List.perm_append_comm (l₁ := [y])
end Go.Proofs.YtefjdcghdcbojaaGreat

