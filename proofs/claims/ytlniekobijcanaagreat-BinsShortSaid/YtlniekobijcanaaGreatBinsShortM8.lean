/- bins: order: the places of the bins that are gone through, in order. -/
import Derived.Test.YtlniekobijcanaaGreatBinsShortM6
import Derived.Test.YtlniekobijcanaaGreatBinsShortM7
import Derived.Test.YtlniekobijcanaaGreatBinsShortM3
import Derived.Deep.QuietTactic
namespace Go.Proofs.YtlniekobijcanaaGreat
open Go.RowKit Go.Maps
theorem infoIntB : (Tryz.prog.info? 3).map (fun i => (i.zero, i.size, i.bytes)) = some (some (.int .i64 0), 1, 8) := by kernel_rfl
/-- A comparison of bins, as one of places (out of L: behind all others). -/
def cfI {α : Type} (L : List α) (cf : α → α → Int) (x y : Int) : Int :=
  match (if 0 ≤ x then L[x.toNat]? else none), (if 0 ≤ y then L[y.toNat]? else none) with
  | some a, some b => cf a b
  | some _, none => -2
  | none, _ => 2
/-- The places of the bins that are so, of the first k. -/
def idxK {α : Type} (L : List α) (isF : α → Bool) (k : Nat) : List Int := ((List.range k).filter fun i => (L[i]?).any isF).map Int.ofNat
theorem idxK_succ {α : Type} {L : List α} {isF : α → Bool} {k : Nat} {x : α} (h : L[k]? = some x) : idxK L isF (k + 1) = idxK L isF k ++ (if isF x = true then [(k : Int)] else []) := by
  unfold idxK
  rw [List.range_succ, List.filter_append, List.map_append]
  congr 1
  by_cases hx : isF x = true <;> simp [h, hx]
theorem idxK_len {α : Type} (L : List α) (isF : α → Bool) (k : Nat) : (idxK L isF k).length ≤ k := by
  unfold idxK
  rw [List.length_map]
  exact Nat.le_trans (List.length_filter_le _ _) (by simp)
theorem idxK_mem {α : Type} {L : List α} {isF : α → Bool} {k : Nat} {x : Int} (h : x ∈ idxK L isF k) : ∃ (i : Nat) (b : α), x = (i : Int) ∧ i < k ∧ L[i]? = some b ∧ isF b = true := by
  unfold idxK at h
  obtain ⟨i, hi, rfl⟩ := List.mem_map.1 h
  obtain ⟨h1, h2⟩ := List.mem_filter.1 hi
  cases hb : L[i]? with
  | none => rw [hb] at h2; cases h2
  | some b => rw [hb] at h2; exact ⟨i, b, rfl, List.mem_range.1 h1, hb, h2⟩
theorem cfI_at {α : Type} {L : List α} {cf : α → α → Int} {i j : Nat} {a b : α} (hi : L[i]? = some a) (hj : L[j]? = some b) : cfI L cf (i : Int) (j : Int) = cf a b := by
  unfold cfI
  rw [if_pos (by omega), if_pos (by omega)]
  simp [hi, hj]
theorem cfI_in {α : Type} {L : List α} {cf : α → α → Int} {x y : Int} (h : -1 ≤ cfI L cf x y ∧ cfI L cf x y ≤ 1) : ∃ (i j : Nat) (a b : α), x = (i : Int) ∧ y = (j : Int) ∧ L[i]? = some a ∧ L[j]? = some b := by
  unfold cfI at h
  have key : ∀ x : Int, (∃ (i : Nat) (a : α), x = (i : Int) ∧ (if 0 ≤ x then L[x.toNat]? else none) = some a ∧ L[i]? = some a) ∨ (if 0 ≤ x then L[x.toNat]? else none) = none := fun x => by
    by_cases hx : 0 ≤ x
    · cases hl : L[x.toNat]? with
      | none => right; rw [if_pos hx]
      | some a => left; exact ⟨x.toNat, a, by omega, by rw [if_pos hx], hl⟩
    · right; rw [if_neg hx]
  rcases key x with ⟨i, a, e1, e2, e3⟩ | e2
  · rcases key y with ⟨j, b, f1, f2, f3⟩ | f2
    · exact ⟨i, j, a, b, e1, f1, e3, f3⟩
    · rw [e2, f2] at h; dsimp only at h; omega
  · rw [e2] at h; dsimp only at h; omega
theorem stab_perm {α : Type} (lt : α → α → Bool) (l : List α) : (stab lt l).Perm l := by
  suffices h : ∀ (l acc : List α), (l.foldl (insR lt) acc).Perm (acc ++ l) from h l []
  intro l
  induction l with
  | nil => intro acc; simp
  | cons x r ih =>
    intro acc
    rw [List.foldl_cons]
    refine (ih (insR lt acc x)).trans ?_
    refine ((insR_perm acc x).append_right r).trans ?_
    rw [List.cons_append]
    exact List.perm_middle.symm
theorem stab_len {α : Type} (lt : α → α → Bool) (l : List α) : (stab lt l).length = l.length := (stab_perm lt l).length_eq
/-- A slice of numbers. -/
abbrev Sn (w : World) (v : Value) (L : List Int) : Prop := Sq 1 (fun x : Int => #[Value.int .i64 x]) (fun _ _ => True) w v L
/-- The order: the places. -/
def ordI {α : Type} (L : List α) (isF : α → Bool) (cf : α → α → Int) : List Int := stab (fun x y => decide (cfI L cf x y < 0)) (idxK L isF L.length)
set_option maxRecDepth 100000 in
set_option maxHeartbeats 8000000 in
theorem bOrder (w : World) (g gi gc : Nat) (cbi cbc : Array Value) (L : List BV) (isF : BV → Bool) (cf : BV → BV → Int) (egi : ∀ args w, (callFunc gi args).run Tryz.prog w = .ok (.enter gi args) w) (egc : ∀ args w, (callFunc gc args).run Tryz.prog w = .ok (.enter gc args) w)
    (h : Fl w g L) (hL : 0 < L.length) (hL2 : L.length ≤ 1000000)
    (hI : ∀ (W : World) (x : BV), x ∈ L → Fr (fun _ => False) w W → Calls Tryz.prog gi (#[.agg x.cs] ++ cbi) W fun e w' => e = .returned (.bool (isF x)) ∧ Fr (fun _ => False) W w')
    (hC : ∀ (W : World) (x y : BV), x ∈ L → y ∈ L → Fr (fun _ => False) w W → Calls Tryz.prog gc (#[.agg x.cs, .agg y.cs] ++ cbc) W fun e w' => e = .returned (.int .i64 (cf x y)) ∧ Fr (fun _ => False) W w')
    (hS : SwoB (fun x y => decide (cfI L cf x y < 0))) (hD : ∀ x ∈ L, ∀ y ∈ L, -1 ≤ cf x y ∧ cf x y ≤ 1) :
    Calls Tryz.prog 47 #[.pointer (some ⟨g, 0, none⟩), .func (.func gi) #[] cbi, .func (.func gc) #[] cbc] w fun e w' => ∃ v, e = .returned v ∧ Sn w' v (ordI L isF cf) ∧ (∀ b, v.ownBlock = some b → w.heap.size ≤ b) ∧ Fr (fun _ => False) w w' := by
  obtain ⟨i0, hi', hz0, hz1, hz2⟩ := info_parts infoIntB
  obtain ⟨n0, hn0⟩ : ∃ n0, w.heap.size = n0 := ⟨_, rfl⟩
  obtain ⟨W0, hW0⟩ : ∃ W0, (w.alloc (.cells #[.pointer (some ⟨g, 0, none⟩)] 25)).alloc (.cells #[.func (.func gc) #[] cbc] 91) = W0 := ⟨_, rfl⟩
  have hb0 : W0.heap[n0]? = some (.cells #[.pointer (some ⟨g, 0, none⟩)] 25) := by rw [← hW0]; exact heap_keep (heap_at hn0.symm _) _
  have hb1 : W0.heap[n0 + 1]? = some (.cells #[.func (.func gc) #[] cbc] 91) := by rw [← hW0]; exact heap_at (by simp; omega) _
  have hF0 : Fr (fun _ => False) w W0 := by rw [← hW0]; exact ((Fr.refl _ w).alloc _).alloc _
  have HB0 := Lib.hid hb0; have HB1 := Lib.hid hb1; have HF0 := Lib.hid hF0; have HN0 := Lib.hid hn0
  have HI := Lib.hid hI; have HC := Lib.hid hC; have HS := Lib.hid hS; have HD := Lib.hid hD; have HFL := Lib.hid h
  obtain ⟨a, c, q1, q2⟩ := h.keep hF0
  have hNb := q2.len
  obtain ⟨N, hN⟩ : ∃ N, L.length = N := ⟨_, rfl⟩
  have HN := Lib.hid hN
  rw [hN] at q1 q2 hNb hL hL2
  have HL2 := Lib.hid hL2
  have HQ2 := Lib.hid q2
  have c0 := cell_obj q1 0 (.slice a N c) rfl
  have p0 := cell_obj hb0 0 (.pointer (some ⟨g, 0, none⟩)) rfl
  clear hI hC hS hD h q1 q2 hb0 hb1 hF0 hN
  go_enter Tryz.func47, Tryz.ntmps47
  go_wp2_with fail
  have hs0 : Hid (W0.heap.size = n0 + 2) := Lib.hid (by rw [← hW0]; simp; omega)
  go_loopw [7, 15] (fun vo vi wr => ∃ k : Nat, k ≤ N ∧ vi = .int .i64 k ∧ wr.ownsRow (n0 + 2) 3 1 vo (idxK L isF k).length ((idxK L isF k).map (Value.int .i64)) ∧ Fr (fun c => n0 + 2 ≤ c) W0 wr) (fun _ vi _ => N - (intOf vi).toNat)
  case atStart => exact ⟨0, Nat.zero_le _, rfl, World.ownsRow_nil _ _ _ _, Fr.refl _ _⟩
  case round =>
    obtain ⟨k, hk, rfl, hown, hfr⟩ := hrel
    have HOW := Lib.hid hown; have HFR := Lib.hid hfr
    have HF := Lib.hid (HF0.out.trans' hfr (fun b hb (e : n0 + 2 ≤ b) => by have := HN0.out; omega))
    obtain ⟨ao, co, rfl⟩ := row_sl hown
    have HKL := Lib.hid (idxK_len L isF k)
    by_cases hlt : k < N
    · obtain ⟨x, hx⟩ : ∃ x, L[k]? = some x := ⟨L[k]'(by rw [HN.out]; exact hlt), List.getElem?_eq_getElem _⟩
      have HIX := Lib.hid (idxK_succ (isF := isF) hx)
      have hxm := List.mem_of_getElem? hx
      obtain ⟨ad, rfl, hok, z0, zs⟩ := (HQ2.out.fr bokKeeps hfr (fun b e => by have := hs0.out; omega)).at_ hx
      have hkI : (k : Int) < N := by omega
      obtain ⟨la, lc, hl⟩ := hok.l.sl
      have x0 := z0 (.int .i64 x.nu) rfl
      have x1 := zs 0 (.int .i64 x.zo) rfl
      have x2 := zs 1 (.int .i64 x.ro) rfl
      have x3 := zs 2 x.l rfl
      dsimp only [Nat.zero_add, Nat.reduceAdd] at x0 x1 x2 x3
      rw [hl] at x3
      have hCI : Hid (Calls Tryz.prog gi (#[.agg #[.int .i64 x.nu, .int .i64 x.zo, .int .i64 x.ro, .slice la x.its.length lc]] ++ cbi) (wr.alloc (.cells #[.int .i64 x.nu, .int .i64 x.zo, .int .i64 x.ro, .slice la x.its.length lc] 76)) fun e w' => e = .returned (.bool (isF x)) ∧ Fr (fun _ => False) (wr.alloc (.cells #[.int .i64 x.nu, .int .i64 x.zo, .int .i64 x.ro, .slice la x.its.length lc] 76)) w') := Lib.hid (by
        have := HI.out (wr.alloc (.cells #[.int .i64 x.nu, .int .i64 x.zo, .int .i64 x.ro, .slice la x.its.length lc] 76)) x hxm (HF.out.alloc _)
        unfold BV.cs at this
        rw [hl] at this
        exact this)
      clear hx hxm hok z0 zs hl hown hfr
      cases hb : isF x with
      | false =>
        rw [hb] at hCI HIX
        rw [if_neg (by simp), List.append_nil] at HIX
        clear hb
        go_wp2_with (go_at_fn gi; refine hCI.out.mono ?_; rintro e w2 ⟨rfl, hf2⟩; have HF2 := Lib.hid (((Fr.refl (fun _ => False) wr).alloc _).trans hf2); clear hf2)
        go_roundw
        case rel => exact ⟨k + 1, by omega, by go_num, by rw [HIX.out]; exact HF2.out.row HOW.out (fun _ _ e => e), HFR.out.trans (HF2.out.mono (fun _ _ e => e.elim))⟩
        case measure => simp [intOf]; omega
      | true =>
        rw [hb] at hCI HIX
        rw [if_pos rfl] at HIX
        clear hb
        go_wp2_with (first
          | (go_at_fn gi; refine hCI.out.mono ?_; rintro e w2 ⟨rfl, hf2⟩; have HF2 := Lib.hid (((Fr.refl (fun _ => False) wr).alloc _).trans hf2); clear hf2)
          | (at_builtin; refine wpList_append_src rfl _ _ 87 rfl (n0 + 2) 3 i0 (.int .i64 0) 8 Tryz.underlying87 hi' hz0 hz1 hz2 rfl (by decide) (.slice ao (idxK L isF k).length co) (idxK L isF k).length ((idxK L isF k).map (Value.int .i64)) rfl (((HF2.out.alloc _).row HOW.out (fun _ _ e => e))) 1 rfl (rd_obj (cs := [.int .i64 k]) (heap_new _ _) rfl) (by intro u hu; simp only [List.mem_cons, List.not_mem_nil, or_false] at hu; rcases hu with rfl; rfl) (by have := HKL.out; have := HL2.out; unfold maxLen; omega) (by have := HKL.out; have := HL2.out; omega) (by have := hs0.out; have := HFR.out.size; have := HF2.out.size; simp; omega) ?_; intro v3 w3 hown3 hgrow3 hloc3; have HO3 := Lib.hid hown3; have HW3 := Lib.hid ((HFR.out.trans (HF2.out.mono (fun _ _ e => e.elim))).trans (((Fr.refl (fun c => n0 + 2 ≤ c) w2).alloc _).trans' (Fr.grown (S := fun c => n0 + 2 ≤ c) hgrow3 (fun r hr _ => (HOW.out.lt r hr).1)) (fun _ _ e => e))); obtain ⟨a3, c3, rfl⟩ := row_sl hown3; clear hown3 hgrow3 hloc3))
        go_roundw
        case rel => exact ⟨k + 1, by omega, by go_num, by rw [HIX.out, List.length_append, List.map_append]; exact HO3.out, HW3.out⟩
        case measure => simp [intOf]; omega
    · obtain rfl : k = N := by omega
      have hkI : ¬ (k : Int) < k := by omega
      have hidx : idxK L isF k = idxK L isF L.length := by rw [HN.out]
      obtain ⟨l, hl⟩ : ∃ l, idxK L isF k = l := ⟨_, rfl⟩
      have hord : ordI L isF cf = stab (fun x y => decide (cfI L cf x y < 0)) l := by unfold ordI; rw [← hidx, hl]
      have HORD := Lib.hid hord
      have HMEM : Hid (∀ x ∈ l, ∃ (i : Nat) (b : BV), x = (i : Int) ∧ L[i]? = some b) := Lib.hid (fun x hx => by
        rw [← hl] at hx
        obtain ⟨i, b, e, _, hb, _⟩ := idxK_mem hx
        exact ⟨i, b, e, hb⟩)
      rw [hl] at HOW hown HKL
      rw [hl]
      clear hidx hl hord hfr
      rcases hown.2 with ⟨e, h0⟩ | ⟨bk, cap, cur, e, hbase, hb, hn, hm, hsz, ht⟩
      · injection e with e1 e2 e3
        subst e1 e3
        have hl0 : l = [] := List.eq_nil_of_length_eq_zero h0
        subst hl0
        clear hown h0 e2
        go_wp2_with (go_at_call 93; refine (sortNil _ _).mono ?_; rintro e w2 ⟨rfl, hf2⟩; have HF2 := Lib.hid hf2; clear hf2)
        go_ret
        refine ⟨_, rfl, by rw [HORD.out]; exact Sq.nil, fun b hb => by simp [Value.ownBlock] at hb, HF.out.trans HF2.out⟩
      · injection e with e1 e2 e3
        subst e1 e3
        have hcur : cur = (l.map (Value.int .i64) ++ cur.toList.drop l.length).toArray := by
          apply Array.toList_inj.1
          rw [← ht, Nat.mul_one, List.take_append_drop]
        have hrw : RwI wr bk (l.zipIdx 0) := rwI_zip (rest := cur.toList.drop l.length) (by rw [← hcur]; exact hb)
        have hsl := sortStableI wr bk l.length co 94 #[.pointer (some ⟨n0 + 1, 0, none⟩), .pointer (some ⟨n0, 0, none⟩)] (cfI L cf) l (enters_of Tryz.func94 (by kernel_rfl) rfl) rfl (by have := HKL.out; have := HL2.out; omega) HS.out hrw
          (fun x hx y hy => by
            obtain ⟨i, a', rfl, ha⟩ := HMEM.out x hx
            obtain ⟨j, b', rfl, hb'⟩ := HMEM.out y hy
            rw [cfI_at ha hb']
            exact HD.out a' (List.mem_of_getElem? ha) b' (List.mem_of_getElem? hb'))
          (fun W x y hw hdom => by
            obtain ⟨i, j, a', b', rfl, rfl, ha, hb'⟩ := cfI_in hdom
            rw [cfI_at ha hb']
            have hWW : Fr (fun _ => False) w W := HF.out.trans' hw (fun b hb e => by have := HN0.out; omega)
            exact bOrd1 W g gc (n0 + 1) n0 i j cbc L a' b' (cf a' b') egc (HFL.out.keep hWW) ha hb' (hw.cell (HFR.out.cell (cell_obj HB1.out 0 (.func (.func gc) #[] cbc) rfl) (by show ¬ n0 + 2 ≤ n0 + 1; omega)) (by show ¬ n0 + 1 = bk; omega)) (hw.cell (HFR.out.cell (cell_obj HB0.out 0 (.pointer (some ⟨g, 0, none⟩)) rfl) (by show ¬ n0 + 2 ≤ n0; omega)) (by show ¬ n0 = bk; omega))
              (fun W' hf => HC.out W' a' b' (List.mem_of_getElem? ha) (List.mem_of_getElem? hb') (hWW.trans hf)))
        have HSL := Lib.hid hsl
        have HBK := Lib.hid hbase
        have hlen : (ordI L isF cf).length = l.length := by rw [HORD.out]; exact stab_len _ _
        have HLEN := Lib.hid hlen
        clear hown hb hn hm hsz ht hcur hrw hsl hbase hlen e2
        go_wp2_with (go_at_call 93; refine HSL.out.mono ?_; rintro e w2 ⟨rfl, hrow, hf2⟩; have HROW := Lib.hid hrow; have HF2 := Lib.hid hf2; clear hrow hf2)
        go_ret
        refine ⟨.slice (some ⟨bk, 0, none⟩) l.length co, rfl, ?_, fun b hb => by (have e : bk = b := (by simpa [Value.ownBlock] using hb)); have := HBK.out; have := HN0.out; omega, HF.out.trans' HF2.out (fun b hb e => by have := HBK.out; have := HN0.out; omega)⟩
        obtain ⟨rest, hr⟩ := HROW.out
        rw [← HORD.out] at hr
        have hl2 := HLEN.out
        refine ⟨by have := HKL.out; have := HL2.out; unfold maxLen; omega, some ⟨bk, 0, none⟩, co, by rw [hl2], fun i x hx => ⟨trivial, _, rfl, fun j u hu => ?_⟩⟩
        have hj : j = 0 := by have := (Array.getElem?_eq_some_iff.1 hu).1; simp at this; omega
        subst hj
        have hu' : Value.int .i64 x = u := by simpa using hu
        subst hu'
        have hil := (List.getElem?_eq_some_iff.1 hx).1
        have e0 : (⟨bk, 0, none⟩ : Addr).add (i * 1 + 0) = ⟨bk, i, none⟩ := by unfold Addr.add; simp; try omega
        rw [e0]
        refine cell_obj hr i _ ?_
        rw [List.getElem?_toArray, List.getElem?_append_left (by simpa using hil), List.getElem?_map, hx]
        rfl
end Go.Proofs.YtlniekobijcanaaGreat
