/- Texts of this claim, joined: move: goods on their way; Slices of bytes; cells: numbers as bytes: Num; cells.Num: walked; slices.Grow, slices.Concat, slices.Clone at bytes; slices.Concat, slices.Clone at bytes; cells.Maker: put, Num, Flag, New, Done; cells.Maker: Num, Flag, Done; slices.Clone; What makers put, as states: plainly; cells: Maker.Text; Goods' lengths, plainly; hold: put; hold: set; Lists of goods that may be, plainly; items: Of, Total: plainly; Plain: sums of goods; Plain: sums of goods, lists put in order, two lists together; hold, plainly: what is kept for each order; stock: the keys in order, Goods, Fork; A region that draws its order, whose operations only read, and whose calls may lay blocks, but give what does not hang on the world: one walk in the text's order serves (the library's theorem on quiet regions, at the class of all worlds that hold what was there); stock: right, Balanced; stock: Level, Flow, Fork, Count; stock: Count; items: May; stock: may; stock: Do. -/
import Derived.Test.YtmflpeklalgibaaGreatRegionGoodsM1
import Derived.Test.YtmflpeklalgibaaGreatLen64
import Derived.Maps.AppendAt
import Derived.RangeFuncBox
import Derived.OwnWalk
import Derived.Laws.BitsAllLaws
import Derived.Deep.LoopGhost
import Derived.Deep.RegionWith
import Derived.Deep.QuietTactic
import Derived.BigQuiet
import Derived.Handy
import Derived.Lib.SliceRun
import Derived.Lib.ConvBytes
import Derived.Shelf.Abstract
import Derived.Test.YtmflpeklalgibaaGreatShelfC
namespace Go.Proofs.YtmflpeklalgibaaGreat
open Go.RowKit Go.Maps
/-- A move, and where its list lies. -/
structure WV where
  mv : Int
  fr : Int
  tt : Int
  v : Value
  its : Its
  came : Bool
structure WE where
  mv : Int
  fr : Int
  tt : Int
  its : Its
  came : Bool
def WV.enc (x : WV) : Value := .agg #[.int .i64 x.mv, .int .i64 x.fr, .int .i64 x.tt, x.v, .bool x.came]
def WV.e (x : WV) : WE := ⟨x.mv, x.fr, x.tt, x.its, x.came⟩
/-- Moves, their parts named: m the map's block, TB the lists' blocks. -/
structure WB (W : World) (g m : Nat) (TB : Nat → Prop) (l : List (Int × WV)) : Prop where
  obj : W.heap[g]? = some (.cells #[.map (some m)] 93)
  mp : Mp Tryz.prog W 3 ktI WV.enc m l
  rows : ∀ p ∈ l, p.1 = p.2.mv ∧ okI p.1 ∧ Lb W TB p.2.v p.2.its ∧ p.2.its.length ≤ 16
  ng : ¬ TB g ∧ g ≠ m
  nm : ¬ TB m
  ltb : ∀ b, TB b → b < W.heap.size
section
variable {W W' : World} {g m : Nat} {TB TB' TS : Nat → Prop} {l : List (Int × WV)}
theorem WB.lt (h : WB W g m TB l) : ∀ b, (b = g ∨ b = m ∨ TB b) → b < W.heap.size := fun b hb => by
  rcases hb with rfl | rfl | hb
  · exact (Array.getElem?_eq_some_iff.1 h.obj).1
  · exact h.mp.lt
  · exact h.ltb b hb
theorem WB.keep {S : Nat → Prop} (h : WB W g m TB l) (hf : Fr S W W') (hS : ∀ b, (b = g ∨ b = m ∨ TB b) → ¬ S b) : WB W' g m TB l := by
  obtain ⟨h1, h2, h3, h4, h5, h6⟩ := h
  exact ⟨hf.at_ h1 (hS g (.inl rfl)), h2.at_ (hf.same m h2.lt (hS m (.inr (.inl rfl)))), fun p hp => ⟨(h3 p hp).1, (h3 p hp).2.1, (h3 p hp).2.2.1.keep hf (fun b hb => hS b (.inr (.inr hb))), (h3 p hp).2.2.2⟩, h4, h5, fun b hb => Nat.lt_of_lt_of_le (h6 b hb) hf.size⟩
theorem WB.put {x : WV} (h : WB W g m TB l) (hm : Mp Tryz.prog W' 3 ktI WV.enc m (putS ktI.lt l x.mv x)) (ht : W.mapTurned W' m) (hT : ∀ b, TB b → TB' b) (ho : okI x.mv) (hk : Lb W TB' x.v x.its) (hl : x.its.length ≤ 16) (hB : ∀ b, TB' b → b < W.heap.size ∧ b ≠ g ∧ b ≠ m) : WB W' g m TB' (putS ktI.lt l x.mv x) := by
  have hf : Fr (fun b => b = m) W W' := Fr.turned ht rfl
  obtain ⟨h1, h2, h3, h4, h5, h6⟩ := h
  refine ⟨hf.at_ h1 h4.2, hm, fun p hp => ?_, ⟨fun e => (hB g e).2.1 rfl, h4.2⟩, fun e => (hB m e).2.2 rfl, fun b hb => Nat.lt_of_lt_of_le (hB b hb).1 hf.size⟩
  rcases mem_putK.1 hp with rfl | ⟨hp, -⟩
  · exact ⟨rfl, ho, hk.keep hf (fun b hb => (hB b hb).2.2), hl⟩
  · exact ⟨(h3 p hp).1, (h3 p hp).2.1, ((h3 p hp).2.2.1.mono hT).keep hf (fun b hb => (hB b hb).2.2), (h3 p hp).2.2.2⟩
theorem WB.del {x : Int} (h : WB W g m TB l) (hm : Mp Tryz.prog W' 3 ktI WV.enc m (delS l x)) (ht : W.mapTurned W' m) : WB W' g m TB (delS l x) := by
  have hf : Fr (fun b => b = m) W W' := Fr.turned ht rfl
  obtain ⟨h1, h2, h3, h4, h5, h6⟩ := h
  refine ⟨hf.at_ h1 h4.2, hm, fun p hp => ?_, h4, h5, fun b hb => Nat.lt_of_lt_of_le (h6 b hb) hf.size⟩
  have hp2 : p ∈ l := (List.mem_filter.1 hp).1
  exact ⟨(h3 p hp2).1, (h3 p hp2).2.1, (h3 p hp2).2.2.1.keep hf (fun b hb e => h5 (e ▸ hb)), (h3 p hp2).2.2.2⟩
theorem WB.cell (h : WB W g m TB l) : W.cell? ⟨g, 0, none⟩ = some (.map (some m)) := cell_obj h.obj 0 _ rfl
end
/-- Moves as a thing of their own. -/
def WS (W : World) (g : Nat) (TS : Nat → Prop) (l : List (Int × WE)) : Prop := ∃ m TB lv, WB W g m TB lv ∧ (lv.map fun p => (p.1, p.2.e)) = l ∧ ∀ b, TS b ↔ (b = g ∨ b = m ∨ TB b)
theorem WS.lt {W : World} {g : Nat} {TS : Nat → Prop} {l : List (Int × WE)} (h : WS W g TS l) : ∀ b, TS b → b < W.heap.size := fun b hb => by
  obtain ⟨m, TB, lv, h1, -, h2⟩ := h
  exact h1.lt b ((h2 b).1 hb)
theorem WS.keep {W W' : World} {g : Nat} {S TS : Nat → Prop} {l : List (Int × WE)} (h : WS W g TS l) (hf : Fr S W W') (hS : ∀ b, TS b → ¬ S b) : WS W' g TS l := by
  obtain ⟨m, TB, lv, h1, h3, h2⟩ := h
  exact ⟨m, TB, lv, h1.keep hf (fun b hb => hS b ((h2 b).2 hb)), h3, h2⟩
theorem vNew (w : World) : Calls Tryz.prog 18 #[] w fun e w' => ∃ g TS, e = .returned (.pointer (some ⟨g, 0, none⟩)) ∧ WS w' g TS [] ∧ (∀ b, TS b → w.heap.size ≤ b) ∧ Fr (fun _ => False) w w' := by
  have hmm := @run_makeMap Tryz.prog
  go_enter Tryz.func18, Tryz.ntmps18
  go_wp2_with fail
  go_ret
  refine ⟨_, fun b => b = w.heap.size ∨ b = w.heap.size + 1, rfl, ⟨w.heap.size, fun _ => False, [], ⟨heap_at (by simp) _, (Mp.made Tryz.prog w 3 ktI WV.enc).alloc _, fun p hp => (by cases hp), ⟨fun e => e, by omega⟩, fun e => e, fun b e => e.elim⟩, rfl, fun b => ⟨fun h => h.elim (fun h => .inr (.inl h)) .inl, fun h => h.elim .inr (fun h => h.elim .inl (fun h => h.elim))⟩⟩, fun b hb => hb.elim (fun h => by omega) (fun h => by omega), ((Fr.refl _ w).alloc _).alloc _⟩
theorem vmade (w : World) (g m : Nat) (hc : w.cell? ⟨g, 0, none⟩ = some (.map (some m))) : Calls Tryz.prog 115 #[.pointer (some ⟨g, 0, none⟩)] w fun e w' => e = .returned (.bool true) ∧ w = w' := by
  have hn := fun (w : World) (r : Option Nat) => run_neq_map_nil (P := Tryz.prog) w 91 _ _ r Tryz.underlying91
  go_enter Tryz.func115, Tryz.ntmps115
  go_wp2
  go_ret
  exact ⟨rfl, rfl⟩
def isR (r : Int) : Bool := decide (0 ≤ r) && decide (r < 8)
theorem vis (w : World) (r : Int) : Calls Tryz.prog 116 #[.int .i64 r] w fun e w' => e = .returned (.bool (isR r)) ∧ w = w' := by
  unfold isR
  by_cases h1 : 0 ≤ r <;> by_cases h2 : r < 8
  all_goals
    simp only [h1, h2, decide_true, decide_false, Bool.and_true, Bool.and_false]
    go_enter Tryz.func116, Tryz.ntmps116
    go_wp2
    go_ret
    exact ⟨rfl, rfl⟩
end Go.Proofs.YtmflpeklalgibaaGreat

namespace Go.Proofs.YtmflpeklalgibaaGreat
open Go.RowKit
/-- Bytes. -/
def Bs (w : World) (v : Value) (bs : List Int) : Prop := bs.length ≤ 9223372036854775807 ∧ ∃ (a : Option Addr) (c : Nat), v = .slice a bs.length c ∧ ∀ (i : Nat) (x : Int), bs[i]? = some x → 0 ≤ x ∧ x < 256 ∧ ∃ ad, a = some ad ∧ w.cell? (ad.add i) = some (.int .u8 x)
theorem Bs.nil (w : World) : Bs w (.slice none 0 0) [] := ⟨by simp, none, 0, rfl, fun i x h => by simp at h⟩
theorem Bs.fr {S : Nat → Prop} {w w' : World} {v : Value} {bs : List Int} (h : Bs w v bs) (hf : Fr S w w') (hS : ∀ b, S b → w.heap.size ≤ b) : Bs w' v bs := by
  obtain ⟨h0, a, c, e, h1⟩ := h
  refine ⟨h0, a, c, e, fun i x hx => ?_⟩
  obtain ⟨b1, b2, ad, e, hc⟩ := h1 i x hx
  exact ⟨b1, b2, ad, e, hf.cell hc (fun hs => by have := hS _ hs; have := World.block_lt_of_cell? w _ hc; omega)⟩
end Go.Proofs.YtmflpeklalgibaaGreat

namespace Go.Proofs.YtmflpeklalgibaaGreat
open Go.RowKit Go.Maps
theorem infoU8 : (Tryz.prog.info? 5).map (fun i => (i.zero, i.size, i.bytes)) = some (some (.int .u8 0), 1, 1) := by kernel_rfl
/-- k bytes of u, the highest first. -/
def beB (u : Nat) : Nat → List Int
  | 0 => []
  | k + 1 => ((u / 256 ^ k % 256 : Nat) : Int) :: beB u k
def nSz (u : Nat) : Nat := (Lib.bitLen u + 7) / 8
def numH (n : Int) : Int := if n < 0 then 144 else 128
def numU (n : Int) : Nat := if n < 0 then (-1 - n).toNat else n.toNat
/-- A number's cell. -/
def numB (n : Int) : List Int := if 0 ≤ n ∧ n < 128 then [n] else (numH n + nSz (numU n)) :: beB (numU n) (nSz (numU n))
theorem beB_len (u : Nat) : ∀ k, (beB u k).length = k
  | 0 => rfl
  | k + 1 => by simp [beB, beB_len u k]
/-- Bytes as values. -/
def u8s (l : List Int) : List Value := l.map (.int .u8)
/-- Bytes that lie in memory from block B on. -/
def Bn (B : Nat) (w : World) (v : Value) (bs : List Int) : Prop := Bs w v bs ∧ ∀ b, v.ownBlock = some b → B ≤ b
theorem beB_mem {u k : Nat} {x : Int} (h : x ∈ beB u k) : 0 ≤ x ∧ x < 256 := by
  induction k with
  | zero => cases h
  | succ k ih =>
    simp only [beB, List.mem_cons] at h
    rcases h with rfl | h
    · omega
    · exact ih h
theorem nSz_le {u : Nat} (h : u < 18446744073709551616) : nSz u ≤ 8 := by
  have := Lib.bitLen_le u 64 (by omega) h
  unfold nSz; omega
theorem numU_lt {n : Int} (h : okI n) : numU n < 9223372036854775808 := by unfold numU okI at *; split <;> omega
theorem numB_len {n : Int} (h : okI n) : 1 ≤ (numB n).length ∧ (numB n).length ≤ 9 := by
  unfold numB
  split
  · simp
  · have := nSz_le (u := numU n) (by have := numU_lt h; omega)
    simp [beB_len]; omega
/-- A row of the call's own, read as bytes. -/
theorem Bs.own {w : World} {base : Nat} {v : Value} {bs : List Int} (h : w.ownsRow base 5 1 v bs.length (u8s bs)) (hb : ∀ x ∈ bs, 0 ≤ x ∧ x < 256) : Bn base w v bs := by
  rcases Nat.eq_zero_or_pos bs.length with h0 | h0
  · have : bs = [] := List.eq_nil_of_length_eq_zero h0
    subst this
    obtain ⟨hl, h1 | ⟨g, cap, cur, rfl, hbs, hh, hn, hm, hs, ht⟩⟩ := h
    · obtain ⟨rfl, -⟩ := h1
      exact ⟨Bs.nil w, fun b hb => by cases hb⟩
    · exact ⟨⟨by simp, _, cap, rfl, fun i x hx => by simp at hx⟩, fun b hb => by cases hb; exact hbs⟩
  · obtain ⟨g, cap, rfl, hg, hlt⟩ := h.form h0
    refine ⟨⟨?_, _, cap, rfl, fun i x hx => ?_⟩, fun b hb => by cases hb; exact hg⟩
    · obtain ⟨-, h1 | ⟨g', cap', cur, e, _, _, hn, hm, _, _⟩⟩ := h
      · omega
      · have hm : cap' ≤ 9223372036854775807 := hm
        omega
    · have hi := (List.getElem?_eq_some_iff.1 hx).1
      have hmem : x ∈ bs := List.mem_of_getElem? hx
      refine ⟨(hb x hmem).1, (hb x hmem).2, _, rfl, ?_⟩
      have := h.cellAt (g := g) (j := i) (by simpa using hi)
      rw [show (⟨g, 0, none⟩ : Addr).add i = ⟨g, i, none⟩ by simp [Addr.add]; omega, this]
      simp [u8s, hx]
end Go.Proofs.YtmflpeklalgibaaGreat

namespace Go.Proofs.YtmflpeklalgibaaGreat
open Go.RowKit Go.Maps
theorem beB_get (u : Nat) : ∀ {s k : Nat}, k < s → (beB u s)[k]? = some ((u / 256 ^ (s - 1 - k) % 256 : Nat) : Int)
  | 0, _, h => by omega
  | s + 1, 0, _ => by simp [beB]
  | s + 1, k + 1, h => by
    have := beB_get u (s := s) (k := k) (by omega)
    simp only [beB, List.getElem?_cons_succ]
    rw [this, show s + 1 - 1 - (k + 1) = s - 1 - k by omega]
theorem cClip (w : World) (a : Addr) (n c : Nat) (h : n ≤ c) (hc : c ≤ 9223372036854775807) : Calls Tryz.prog 123 #[.slice (some a) n c] w fun e w' => e = .returned (.slice (some a) n n) ∧ w = w' := by
  go_enter Tryz.func123, Tryz.ntmps123
  go_wp2
  go_ret
  exact ⟨rfl, rfl⟩
theorem pow256 (U m : Nat) : ((U : Int) / 2 ^ (8 * m)) % 256 = ((U / 256 ^ m % 256 : Nat) : Int) := by
  have : (2 : Int) ^ (8 * m) = ((256 ^ m : Nat) : Int) := by
    rw [Int.pow_mul]; simp
  rw [this]; simp
theorem own_cap {w : World} {base : Nat} {e : TypeId} {size n m cap : Nat} {a : Addr} {xs : List Value} (h : w.ownsRow base e size (.slice (some a) n cap) m xs) : n ≤ cap ∧ cap ≤ 9223372036854775807 := by
  rcases h.2 with ⟨h0, _⟩ | ⟨g, c, cur, e1, _, _, h1, h2, _⟩
  · cases h0
  · injection e1 with e2 e3 e4
    subst e3 e4
    exact ⟨h1, h2⟩
theorem Bn.clip {B : Nat} {w : World} {a : Option Addr} {n c c' : Nat} {bs : List Int} (h : Bn B w (.slice a n c) bs) : Bn B w (.slice a n c') bs := by
  obtain ⟨⟨h0, a', c1, e, h1⟩, h2⟩ := h
  injection e with e1 e2 e3
  subst e1 e2
  exact ⟨⟨h0, _, c', rfl, h1⟩, fun b hb => h2 b (by cases a <;> exact hb)⟩
theorem xorOnes (m : Nat) (h : m < 18446744073709551616) : 18446744073709551615 ^^^ m = 18446744073709551615 - m := by
  have h1 := congrArg BitVec.toNat (BitVec.allOnes_xor (x := BitVec.ofNat 64 m))
  rw [BitVec.toNat_xor, BitVec.toNat_not, BitVec.toNat_allOnes, BitVec.toNat_ofNat, Nat.mod_eq_of_lt (by simpa using h)] at h1
  simpa using h1
theorem notU64 {n : Int} (h0 : -9223372036854775808 ≤ n) (h1 : n < 0) : bits BinOp.xor IntKind.u64 IntKind.u64.max (IntKind.u64.wrap n) = ((-1 - n).toNat : Int) := by
  have e1 : IntKind.u64.max = ((18446744073709551615 : Nat) : Int) := by decide
  have e2 : IntKind.u64.wrap n = ((n + 18446744073709551616).toNat : Int) := by
    show n % 18446744073709551616 = _
    omega
  rw [e1, e2, u64_xor_nat _ _ (by omega) (by omega), xorOnes _ (by omega)]
  omega
set_option maxRecDepth 100000 in
set_option maxHeartbeats 2000000 in
theorem cNum (w : World) (n : Int) (hn : okI n) : Calls Tryz.prog 103 #[.int .i64 n] w fun e w' => ∃ v, e = .returned v ∧ Bn w.heap.size w' v (numB n) ∧ Below w.heap.size w w' := by
  obtain ⟨i0, hi', hz0, hz1, hz2⟩ := info_parts infoU8
  have HN := Lib.hid hn
  unfold okI at hn
  by_cases h : 0 ≤ n ∧ n < 128
  · obtain ⟨h0, h1⟩ := h
    have e : numB n = [n] := by unfold numB; rw [if_pos ⟨h0, h1⟩]
    rw [e]
    go_enter Tryz.func103, Tryz.ntmps103
    go_wp2
    go_ret
    exact ⟨_, rfl, Bs.own (w := w.alloc (.cells #[.int .u8 n] 5)) (base := w.heap.size) ⟨by simp [u8s], .inr ⟨_, _, _, rfl, Nat.le_refl _, heap_new _ _, by simp, by decide, by simp, by simp [u8s]⟩⟩ (fun x hx => by simp at hx; omega), (Below.refl _ _).alloc (Nat.le_refl _) _⟩
  · obtain ⟨U, hU⟩ : ∃ U, numU n = U := ⟨_, rfl⟩
    have hU1 := numU_lt HN.out
    have e : numB n = (numH n + nSz U) :: beB U (nSz U) := by unfold numB; rw [if_neg h, hU]
    rw [e]
    rw [hU] at hU1
    obtain ⟨s, hs⟩ : ∃ s, nSz U = s := ⟨_, rfl⟩
    rw [hs]
    have hs8 : s ≤ 8 := by rw [← hs]; exact nSz_le (by omega)
    have hLen := bLen64 (U : Int) w (by omega) (by omega)
    rw [show (U : Int).toNat = U from rfl] at hLen
    obtain ⟨bl, hbl⟩ : ∃ bl, Lib.bitLen U = bl := ⟨_, rfl⟩
    have hbs : (bl + 7) / 8 = s := by rw [← hs, ← hbl]; rfl
    rw [hbl] at hLen
    have hbl64 : bl ≤ 64 := by rw [← hbl]; exact Lib.bitLen_le U 64 (by omega) (by omega)
    have HL := Lib.hid hLen
    clear hLen
    rcases (by omega : n < 0 ∨ 128 ≤ n) with hneg | hpos
    · have hH : numH n = 144 := if_pos hneg
      have hX := notU64 hn.1 hneg
      have hUn : (-1 - n).toNat = U := by rw [← hU]; unfold numU; rw [if_pos hneg]
      rw [hUn] at hX
      rw [hH]
      clear hU hs hbl h e
      go_enter Tryz.func103, Tryz.ntmps103
      go_wp2_with fail
      refine HL.out.mono ?_
      rintro e w' ⟨rfl, hww⟩
      have hww := hww.symm
      subst hww
      go_wp2_with fail
      go_loopw [6, 7] (fun o i wr => ∃ k : Nat, k ≤ s ∧ i = .int .i64 ((s : Int) - 1 - k) ∧ wr.ownsRow w.heap.size 5 1 o (1 + k) (u8s ((144 + (s : Int)) :: (beB U s).take k)) ∧ Below w.heap.size w wr) (fun _ i _ => (intOf i + 1).toNat)
      case atStart =>
        refine ⟨0, by omega, val_int (by omega), ⟨by simp [u8s], .inr ⟨_, _, _, rfl, Nat.le_refl _, heap_new _ _, by simp, by decide, by simp, ?_⟩⟩, (Below.refl _ _).alloc (Nat.le_refl _) _⟩
        simp [u8s]; omega
      case round =>
        obtain ⟨k, hk, rfl, hown, hB⟩ := hrel
        by_cases hks : k < s
        · have HOW := Lib.hid hown; have HBB := Lib.hid hB
          have hBs := hB.size
          clear hown hB
          go_wp2_with (at_builtin; refine wpList_append_own_at _ rfl _ _ 56 rfl w.heap.size 5 i0 (.int .u8 0) 1 1 Tryz.underlying56 hi' hz0 hz1 hz2 rfl (by decide) _ (1 + k) _ rfl (HOW.out.alloc _) ⟨wr.heap.size, 0, none⟩ 1 1 [.int .u8 _] rfl rfl (cell_one_new _ _ _) (by simp [Value.oneCell']) (by unfold maxLen; omega) (by omega) (by simp; omega) ?_; intro v' w1 hown' hgrow _ _)
          go_roundw
          case rel =>
            refine ⟨k + 1, by omega, val_int (by omega), ?_, (HBB.out.alloc hBs _).grown hgrow (by simp; omega) (fun r hr => (HOW.out.lt r hr).1)⟩
            rw [List.take_add_one, beB_get U hks, ← pow256]
            rw [show 1 + (k + 1) = 1 + k + 1 by omega]
            simpa [u8s] using hown'
          case measure => simp [intOf]; omega
        · have hke : k = s := by omega
          subst hke
          obtain ⟨g, cap, rfl, hg, hlt⟩ := hown.form (by omega)
          have HOW := Lib.hid hown; have HBB := Lib.hid hB
          clear hown hB
          go_wp2_with fail
          refine (cClip wr _ _ _ (own_cap HOW.out).1 (own_cap HOW.out).2).mono ?_
          rintro e w3 ⟨rfl, rfl⟩
          go_wp2_with fail
          go_ret
          have hle : (beB U k).take k = beB U k := List.take_of_length_le (by rw [beB_len]; omega)
          have hown := HOW.out
          rw [hle] at hown
          have hl1 : ((144 + (k : Int)) :: beB U k).length = 1 + k := by rw [List.length_cons, beB_len, Nat.add_comm]
          refine ⟨_, rfl, (Bs.own (v := .slice (some ⟨g, 0, none⟩) (1 + k) cap) (bs := (144 + (k : Int)) :: beB U k) (by rw [hl1]; exact hown) (fun x hx => ?_)).clip, HBB.out⟩
          rcases List.mem_cons.1 hx with rfl | hx
          · omega
          · exact beB_mem hx
    · have hH : numH n = 128 := if_neg (by omega)
      have hUn : n = (U : Int) := by rw [← hU]; unfold numU; rw [if_neg (by omega)]; omega
      rw [hH]
      clear hU hs hbl h e HN
      subst hUn
      go_enter Tryz.func103, Tryz.ntmps103
      go_wp2_with fail
      refine HL.out.mono ?_
      rintro e w' ⟨rfl, hww⟩
      have hww := hww.symm
      subst hww
      go_wp2_with fail
      go_loopw [6, 7] (fun o i wr => ∃ k : Nat, k ≤ s ∧ i = .int .i64 ((s : Int) - 1 - k) ∧ wr.ownsRow w.heap.size 5 1 o (1 + k) (u8s ((128 + (s : Int)) :: (beB U s).take k)) ∧ Below w.heap.size w wr) (fun _ i _ => (intOf i + 1).toNat)
      case atStart =>
        refine ⟨0, by omega, val_int (by omega), ⟨by simp [u8s], .inr ⟨_, _, _, rfl, Nat.le_refl _, heap_new _ _, by simp, by decide, by simp, ?_⟩⟩, (Below.refl _ _).alloc (Nat.le_refl _) _⟩
        simp [u8s]; omega
      case round =>
        obtain ⟨k, hk, rfl, hown, hB⟩ := hrel
        by_cases hks : k < s
        · have HOW := Lib.hid hown; have HBB := Lib.hid hB
          have hBs := hB.size
          clear hown hB
          go_wp2_with (at_builtin; refine wpList_append_own_at _ rfl _ _ 56 rfl w.heap.size 5 i0 (.int .u8 0) 1 1 Tryz.underlying56 hi' hz0 hz1 hz2 rfl (by decide) _ (1 + k) _ rfl (HOW.out.alloc _) ⟨wr.heap.size, 0, none⟩ 1 1 [.int .u8 _] rfl rfl (cell_one_new _ _ _) (by simp [Value.oneCell']) (by unfold maxLen; omega) (by omega) (by simp; omega) ?_; intro v' w1 hown' hgrow _ _)
          go_roundw
          case rel =>
            refine ⟨k + 1, by omega, val_int (by omega), ?_, (HBB.out.alloc hBs _).grown hgrow (by simp; omega) (fun r hr => (HOW.out.lt r hr).1)⟩
            rw [List.take_add_one, beB_get U hks, ← pow256]
            rw [show 1 + (k + 1) = 1 + k + 1 by omega]
            simpa [u8s] using hown'
          case measure => simp [intOf]; omega
        · have hke : k = s := by omega
          subst hke
          obtain ⟨g, cap, rfl, hg, hlt⟩ := hown.form (by omega)
          have HOW := Lib.hid hown; have HBB := Lib.hid hB
          clear hown hB
          go_wp2_with fail
          refine (cClip wr _ _ _ (own_cap HOW.out).1 (own_cap HOW.out).2).mono ?_
          rintro e w3 ⟨rfl, rfl⟩
          go_wp2_with fail
          go_ret
          have hle : (beB U k).take k = beB U k := List.take_of_length_le (by rw [beB_len]; omega)
          have hown := HOW.out
          rw [hle] at hown
          have hl1 : ((128 + (k : Int)) :: beB U k).length = 1 + k := by rw [List.length_cons, beB_len, Nat.add_comm]
          refine ⟨_, rfl, (Bs.own (v := .slice (some ⟨g, 0, none⟩) (1 + k) cap) (bs := (128 + (k : Int)) :: beB U k) (by rw [hl1]; exact hown) (fun x hx => ?_)).clip, HBB.out⟩
          rcases List.mem_cons.1 hx with rfl | hx
          · omega
          · exact beB_mem hx
end Go.Proofs.YtmflpeklalgibaaGreat

namespace Go.Proofs.YtmflpeklalgibaaGreat
open Go.RowKit Go.Maps
theorem run_append_zeros {P : Program} (w : World) (t ty e ti : TypeId) (i : TypeInfo) (z : Value) (ht : P.underlying t = some (.slice e)) (hti : P.underlying ti = some (.int .i64)) (hi : P.info? e = some i) (hz : i.zero = some z) (hby : i.bytes = 1) (hsz : i.size = 1)
    (n : Nat) (h0 : 0 < n) (h63 : n ≤ 1099511627776) :
    (Builtin.append_ #[t, ti] ty #[.slice none 0 0, .int .i64 n]).run P w =
      .ok (.slice (some ⟨w.heap.size, 0, none⟩) n (grownCap w n 0 e)) (w.drew.alloc (.cells (Builtin.zeroCells z.cells n ++ Builtin.zeroCells z.cells (grownCap w n 0 e - n)) e)) := by
  have hn : n ≠ 0 := by omega
  have h63' : ¬ (9223372036854775807 < (n : Int)) := by omega
  have h48' : ¬ (281474976710656 < Builtin.nextslicecap n 0) := by rw [nextslicecap_zero h0]; omega
  have hw : IntKind.i64.wrap (n : Int) = n := by rw [IntKind.wrap_i64]; omega
  have hl : ¬ ((n : Int) < 0) := by omega
  have hl2 : ¬ (281474976710656 < (n : Int)) := by omega
  simp [Builtin.append_, run_underlying ht, run_underlying hti, sizeOf, typeInfo, zeroValue, hi, hz, hby, hsz, asInt, asIntOf, hw, hl, hl2, hn, h63', h48', Question.forced, run_firstCells_none, newRow, grownCap]
theorem wpList_append_zeros {P : Program} (w : World) {ops : Array Oper} {rest : List Oper} {o : Oper} {a : Act} {Q : Exit → Act → World → Prop} (hgd : o.guard = none) (s x : Operand) (t e ti : TypeId)
    (ho : o.op = .call { callee := .builtin .append, args := #[s, x], argTypes := #[t, ti] }) (i : TypeInfo) (z : Value) (ht : P.underlying t = some (.slice e)) (hti : P.underlying ti = some (.int .i64)) (hi : P.info? e = some i) (hz : i.zero = some z) (hby : i.bytes = 1) (hsz : i.size = 1)
    (n : Nat) (h0 : 0 < n) (h63 : n ≤ 1099511627776) (hs : a.eval s = .slice none 0 0) (hx : a.eval x = .int .i64 n)
    (h : wpList P ops Q rest (a.put o.dst (.slice (some ⟨w.heap.size, 0, none⟩) n (grownCap w n 0 e))) (w.drew.alloc (.cells (Builtin.zeroCells z.cells n ++ Builtin.zeroCells z.cells (grownCap w n 0 e - n)) e))) :
    wpList P ops Q (o :: rest) a w := by
  refine wpList_plain hgd fun K hK => ?_
  have hr := run_append_zeros (P := P) w t o.type e ti i z ht hti hi hz hby hsz n h0 h63
  unfold Oper.wp execOp
  simp only [ho, resolve, invoke, builtin, Sem.run_bind, Sem.run_pure, Result.andThen_ok, List.map_toArray, List.map_cons, List.map_nil, hs, hx, hr]
  exact hK _ _ h
theorem zeroCells_size (z : Array Value) (hz : z.size = 1) (n : Nat) : (Builtin.zeroCells z n).size = n := by simp [Builtin.zeroCells, hz]
set_option maxRecDepth 100000 in
theorem cGrow (w : World) (n : Nat) (hn : (n : Int) ≤ 1099511627776) : Calls Tryz.prog 135 #[.slice none 0 0, .int .i64 n] w fun e w' =>
    ∃ v, e = .returned v ∧ w'.ownsRow w.heap.size 5 1 v 0 [] ∧ Below w.heap.size w w' := by
  obtain ⟨i0, hi', hz0, hz1, hz2⟩ := info_parts infoU8
  by_cases h0 : n = 0
  · subst h0
    go_enter Tryz.func135, Tryz.ntmps135
    go_wp2
    go_ret
    exact ⟨_, rfl, World.ownsRow_nil _ _ _ _, Below.refl _ _⟩
  · have hpos : 0 < n := by omega
    have hcap := Lib.hid (grownCap_ge w n 0 5)
    have hcm := Lib.hid (grownCap_le_maxLen w n 0 5 (by unfold maxLen; omega))
    go_enter Tryz.func135, Tryz.ntmps135
    go_wp2_with (at_builtin; refine wpList_append_zeros _ rfl _ _ 56 5 3 rfl i0 (.int .u8 0) Tryz.underlying56 Tryz.underlying3 hi' hz0 hz2 hz1 n hpos (by omega) rfl rfl ?_)
    go_ret
    refine ⟨_, rfl, World.ownsRow_made (w := w.drew) _ _ (Nat.le_refl _) hcm.out ?_, (Below.refl _ w).drew.alloc (Nat.le_refl _) _⟩
    rw [Array.size_append, zeroCells_size _ rfl, zeroCells_size _ rfl]
    have := hcap.out
    omega
end Go.Proofs.YtmflpeklalgibaaGreat

namespace Go.Proofs.YtmflpeklalgibaaGreat
open Go.RowKit Go.Maps
def Parts (w : World) (v : Value) (L : List (Value × List Int)) : Prop := ∃ a c, v = .slice (some a) L.length c ∧ ∀ i p, L[i]? = some p → w.cell? (a.add i) = some p.1 ∧ Bs w p.1 p.2 ∧ ∃ ad n c, p.1 = .slice (some ad) n c
def catL (L : List (Value × List Int)) : List Int := L.flatMap (·.2)
theorem catL_take {L : List (Value × List Int)} {k : Nat} {p : Value × List Int} (h : L[k]? = some p) : catL (L.take (k + 1)) = catL (L.take k) ++ p.2 := by
  unfold catL
  rw [List.take_add_one, h]; simp
theorem catL_le (L : List (Value × List Int)) (k : Nat) : (catL (L.take k)).length ≤ (catL L).length := by
  have : catL L = catL (L.take k) ++ catL (L.drop k) := by
    unfold catL
    rw [← List.flatMap_append, List.take_append_drop]
  rw [this, List.length_append]; omega
theorem Parts.fr {S : Nat → Prop} {w w' : World} {v : Value} {L : List (Value × List Int)} (h : Parts w v L) (hf : Fr S w w') (hS : ∀ b, S b → w.heap.size ≤ b) : Parts w' v L := by
  obtain ⟨a, c, e, h1⟩ := h
  refine ⟨a, c, e, fun i p hp => ⟨?_, (h1 i p hp).2.1.fr hf hS, (h1 i p hp).2.2⟩⟩
  have hc := (h1 i p hp).1
  exact hf.cell hc (fun hs => by have := hS _ hs; have := World.block_lt_of_cell? w _ hc; omega)
set_option maxRecDepth 100000 in
set_option maxHeartbeats 1000000 in
theorem cConcat (w : World) (v : Value) (L : List (Value × List Int)) (h : Parts w v L) (hl : (L.length : Int) ≤ 1000) (hn : ((catL L).length : Int) ≤ 1099511627776) : Calls Tryz.prog 121 #[v] w fun e w' =>
    ∃ v', e = .returned v' ∧ w'.ownsRow w.heap.size 5 1 v' (catL L).length (u8s (catL L)) ∧ Below w.heap.size w w' := by
  obtain ⟨i0, hi', hz0, hz1, hz2⟩ := info_parts infoU8
  obtain ⟨a, c, rfl, -⟩ := id h
  have HP := Lib.hid h
  clear h
  obtain ⟨ln, hln⟩ : ∃ ln, L.length = ln := ⟨_, rfl⟩
  have HLN := Lib.hid hln
  rw [hln] at hl HP ⊢
  clear hln
  have hle := fun k => catL_le L k
  obtain ⟨tot, htot⟩ : ∃ t, (catL L).length = t := ⟨_, rfl⟩
  have HTOT := Lib.hid htot
  rw [htot] at hn hle ⊢
  have HLE := Lib.hid hle
  clear htot hle
  go_enter Tryz.func121, Tryz.ntmps121
  go_wp2
  go_loopw [3, 11] (fun z i wr => ∃ k : Nat, (k : Int) ≤ ln ∧ z = .int .i64 ((catL (L.take k)).length : Nat) ∧ i = .int .i64 k ∧ wr = w) (fun _ i _ => ln - (intOf i).toNat)
  case atStart => exact ⟨0, by omega, by simp [catL], rfl, rfl⟩
  case round =>
    obtain ⟨k, hk, rfl, rfl, rfl⟩ := hrel
    by_cases hkl : (k : Int) < ln
    · obtain ⟨p, hp⟩ : ∃ p, L[k]? = some p := ⟨L[k]'(by have := HLN.out; omega), List.getElem?_eq_getElem _⟩
      obtain ⟨a', c', e, h1⟩ := HP.out
      have hc := (h1 k p hp).1
      obtain ⟨hb1, ba, bc, hbe, -⟩ := id (h1 k p hp).2.1
      injection e with e1 e2 e3
      cases e1
      have e3 := e3.symm
      subst e3
      have HT := Lib.hid (congrArg List.length (catL_take hp))
      have HLE1 := HLE.out (k + 1)
      rw [HT.out, List.length_append] at HLE1
      rw [hbe] at hc
      obtain ⟨pl, hpl⟩ : ∃ n, p.2.length = n := ⟨_, rfl⟩
      rw [hpl] at hc HLE1 hb1
      obtain ⟨z, hz⟩ : ∃ z, (catL (L.take k)).length = z := ⟨_, rfl⟩
      rw [hz] at HLE1 ⊢
      have HZ := Lib.hid hz; have HPL := Lib.hid hpl
      clear h1 hp hz hpl e2 hbe
      go_wp2
      go_roundw
      case rel => exact ⟨k + 1, by omega, val_int (by rw [HT.out, List.length_append, HZ.out, HPL.out]; omega), by go_num, by trivial⟩
      case measure => simp [intOf]; omega
    · have hke : k = ln := by omega
      have hz : (catL (L.take k)).length = tot := by rw [List.take_of_length_le (by have := HLN.out; omega)]; exact HTOT.out
      rw [hz]
      subst hke
      clear hz
      go_wp2_with fail
      refine (cGrow _ _ hn).mono ?_
      rintro e w1 ⟨v1, rfl, hown, hB⟩
      have HOW := Lib.hid hown; have HBB := Lib.hid hB
      clear hown hB
      go_wp2_with fail
      obtain ⟨W0, rfl⟩ : ∃ W0 : World, W0 = wr := ⟨_, rfl⟩
      go_loopw [6, 27] (fun o i w2 => ∃ j : Nat, (j : Int) ≤ k ∧ i = .int .i64 j ∧ w2.ownsRow W0.heap.size 5 1 o (catL (L.take j)).length (u8s (catL (L.take j))) ∧ Below W0.heap.size W0 w2) (fun _ i _ => k - (intOf i).toNat)
      case atStart => exact ⟨0, by omega, rfl, HOW.out, HBB.out⟩
      case round =>
        obtain ⟨j, hj, rfl, hown2, hB2⟩ := hrel
        by_cases hjl : (j : Int) < k
        · obtain ⟨p, hp⟩ : ∃ p, L[j]? = some p := ⟨L[j]'(by have := HLN.out; omega), List.getElem?_eq_getElem _⟩
          obtain ⟨a', c', e, h1⟩ := HP.out
          have hc := (h1 j p hp).1
          obtain ⟨ad, pl', pc, hpe⟩ := (h1 j p hp).2.2
          obtain ⟨hb1, ba, bc, hbe, hbx⟩ := id (h1 j p hp).2.1
          rw [hpe] at hbe
          injection hbe with g1 g2 g3
          subst g1 g2 g3
          injection e with e1 e2 e3
          cases e1
          have e3 := e3.symm
          subst e3
          rw [hpe] at hc
          have hc2 := (hB2.cell (p := a.add j) (World.block_lt_of_cell? W0 _ hc)).trans hc
          have hT := catL_take hp
          have hLE1 := HLE.out (j + 1)
          rw [hT, List.length_append] at hLE1
          have hnews : ∀ (i : Nat) (u : Value), (u8s p.2)[i]? = some u → wr.cell? (ad.add i) = some u := fun i u hu => by
            unfold u8s at hu
            rw [List.getElem?_map] at hu
            obtain ⟨x, hx, rfl⟩ := Option.map_eq_some_iff.1 hu
            obtain ⟨-, -, ad', e, hcell⟩ := hbx i x hx
            cases e
            exact (hB2.cell (World.block_lt_of_cell? W0 _ hcell)).trans hcell
          have hall : ∀ u ∈ u8s p.2, u.oneCell' = true := fun u hu => by
            unfold u8s at hu
            obtain ⟨x, _, rfl⟩ := List.mem_map.1 hu
            rfl
          have hul : (u8s p.2).length = p.2.length := by simp [u8s]
          have HNEWS := Lib.hid hnews; have HALL := Lib.hid hall; have HUL := Lib.hid hul; have HT := Lib.hid hT; have HO2 := Lib.hid hown2; have HB2 := Lib.hid hB2
          obtain ⟨pl, hpl⟩ : ∃ n, p.2.length = n := ⟨_, rfl⟩
          obtain ⟨z, hz⟩ : ∃ z, (catL (L.take j)).length = z := ⟨_, rfl⟩
          have hBs := hB2.size
          rw [hpl] at hc2 hLE1 HUL
          rw [hz] at hLE1 HO2
          have HPL := Lib.hid hpl; have HZ := Lib.hid hz
          clear hnews hall hul hT hown2 hB2 h1 hp hc hbx e2 hb1 hpl hz hpe
          go_wp2_with (at_builtin; refine wpList_append_own_at _ rfl _ _ 56 rfl W0.heap.size 5 i0 (.int .u8 0) 1 1 Tryz.underlying56 hi' hz0 hz1 hz2 rfl (by decide) _ z _ rfl HO2.out ad pl _ (u8s p.2) rfl (by rw [HUL.out, Nat.mul_one]) HNEWS.out HALL.out (by unfold maxLen; omega) (by omega) hBs ?_; intro v' w5 hown' hgrow _ _)
          go_roundw
          case rel =>
            refine ⟨j + 1, by omega, by go_num, ?_, HB2.out.grown hgrow hBs (fun r hr => (HO2.out.lt r hr).1)⟩
            rw [HT.out, List.length_append, HZ.out, HPL.out]
            unfold u8s at hown' ⊢
            rw [List.map_append]
            exact hown'
          case measure => simp [intOf]; omega
        · have hje : j = k := by omega
          subst hje
          rw [List.take_of_length_le (by have := HLN.out; omega), HTOT.out] at hown2
          go_wp2_with fail
          go_ret
          exact ⟨_, rfl, hown2, hB2⟩
end Go.Proofs.YtmflpeklalgibaaGreat

namespace Go.Proofs.YtmflpeklalgibaaGreat
open Go.RowKit Go.Maps
/-- A maker that holds bs. -/
structure MK (w : World) (g : Nat) (TS : Nat → Prop) (bs : List Int) (long : Bool) : Prop where
  ex : ∃ v, w.heap[g]? = some (.cells #[v, .bool long] 153) ∧ w.ownsRow 0 5 1 v bs.length (u8s bs) ∧ ∀ b, v.ownBlock = some b → TS b ∧ b ≠ g
  own : TS g
  lt : ∀ b, TS b → b < w.heap.size
  len : (bs.length : Int) ≤ 262144
def putB (bs : List Int) (long : Bool) (c : List Int) : List Int := if long = true ∨ 262144 < bs.length + c.length then bs else bs ++ c
def putL (bs : List Int) (long : Bool) (c : List Int) : Bool := long || decide (262144 < bs.length + c.length)
theorem MK.fr {S TS : Nat → Prop} {w w' : World} {g : Nat} {bs : List Int} {long : Bool} (h : MK w g TS bs long) (hf : Fr S w w') (hS : ∀ b, TS b → ¬ S b) : MK w' g TS bs long := by
  obtain ⟨⟨v, h1, h2, h3⟩, h4, h5, h6⟩ := h
  exact ⟨⟨v, hf.at_ h1 (hS _ h4), hf.row h2 (fun b hb => hS _ (h3 b hb).1), h3⟩, h4, fun b hb => Nat.lt_of_lt_of_le (h5 b hb) hf.size, h6⟩
set_option maxRecDepth 100000 in
theorem cMNew (w : World) : Calls Tryz.prog 70 #[] w fun e w' => e = .returned (.pointer (some ⟨w.heap.size, 0, none⟩)) ∧ MK w' w.heap.size (fun b => b = w.heap.size) [] false ∧ Fr (fun _ => False) w w' := by
  go_enter Tryz.func70, Tryz.ntmps70
  go_wp2
  go_ret
  exact ⟨rfl, ⟨⟨_, heap_new _ _, World.ownsRow_nil _ _ _ _, fun b hb => by cases hb⟩, rfl, fun b hb => by simp [hb], by simp⟩, (Fr.refl _ _).alloc _⟩
set_option maxRecDepth 100000 in
set_option maxHeartbeats 1000000 in
theorem cPut (w : World) (g : Nat) (TS : Nat → Prop) (bs : List Int) (long : Bool) (v : Value) (L : List (Value × List Int)) (h : MK w g TS bs long) (hP : Parts w v L) (hl : (L.length : Int) ≤ 1000) (hn : ((catL L).length : Int) ≤ 1099511627776) (hn0 : 0 < (catL L).length) :
    Calls Tryz.prog 102 #[.pointer (some ⟨g, 0, none⟩), v] w fun e w' => e = .returned (.pointer (some ⟨g, 0, none⟩)) ∧ ∃ TS', MK w' g TS' (putB bs long (catL L)) (putL bs long (catL L)) ∧ Stp TS w w' TS' := by
  obtain ⟨i0, hi', hz0, hz1, hz2⟩ := info_parts infoU8
  go_enter Tryz.func102, Tryz.ntmps102
  go_wp2_with fail
  refine (cConcat w v L hP hl hn).mono ?_
  rintro e w1 ⟨v', rfl, hown, hB⟩
  obtain ⟨g', cap, rfl, hg', hlt'⟩ := hown.form hn0
  have hM := h.fr (Fr.below hB) (fun _ _ h => h)
  obtain ⟨⟨vm, h1, h2, h3⟩, h4, h5, h6⟩ := id hM
  have hgw : g < w.heap.size := h.lt g h.own
  have HLT := Lib.hid h.lt; have HGO := Lib.hid h4
  obtain ⟨am, cm, rfl⟩ : ∃ a c, vm = .slice a bs.length c := by
    rcases h2.2 with ⟨e1, e2⟩ | ⟨_, _, _, e1, _⟩
    · exact ⟨_, _, by rw [e1, e2]⟩
    · exact ⟨_, _, e1⟩
  have b0 := cell_obj h1 0 (.slice am bs.length cm) rfl
  have b1 := cell_obj h1 1 (.bool long) rfl
  have f0 := obj_frozen h1 0
  have f1 := obj_frozen h1 1
  obtain ⟨n, hn1⟩ : ∃ n, bs.length = n := ⟨_, rfl⟩
  obtain ⟨k, hk1⟩ : ∃ k, (catL L).length = k := ⟨_, rfl⟩
  rw [hn1] at b0 h6
  rw [hk1] at hn hn0 ⊢
  have HM := Lib.hid hM; have HN := Lib.hid hn1; have HK := Lib.hid hk1; have HB := Lib.hid hB; have HO := Lib.hid hown; have H1 := Lib.hid h1; have H2 := Lib.hid h2; have H3 := Lib.hid h3
  clear h hM h1 h2 h3 h4 h5 hn1 hk1 hB hown hP hl
  have hlong : ∀ (bs' : List Int), (bs'.length : Int) ≤ 262144 → bs' = bs → ∃ TS', MK (w1.setCell ⟨g, 1, none⟩ (.bool true)) g TS' bs' true ∧ Stp TS w (w1.setCell ⟨g, 1, none⟩ (.bool true)) TS' := by
    rintro bs' h1 rfl
    have hF : Fr (fun b => b = g) w1 (w1.setCell ⟨g, 1, none⟩ (.bool true)) := (Fr.refl (fun b => b = g) w1).setCell (p := ⟨g, 1, none⟩) (fun _ => rfl) _
    exact ⟨TS, ⟨⟨_, obj_set H1.out 1 (.bool true), hF.row H2.out (fun b hb => (H3.out b hb).2), H3.out⟩, HGO.out, fun b hb => by have := HLT.out b hb; have := HB.out.size; have := hF.size; omega, h1⟩,
      ((Fr.below HB.out).mono (S := fun _ => False) (S' := TS) (fun _ _ h => h.elim)).trans' hF (fun b _ e => e ▸ HGO.out), fun b hb => .inl hb⟩
  have HLONG := Lib.hid hlong
  clear hlong
  cases long with
  | true =>
    go_wp2_with fail
    go_ret
    have e1 : putB bs true (catL L) = bs := by simp [putB]
    have e2 : putL bs true (catL L) = true := by simp [putL]
    rw [e1, e2]
    exact ⟨rfl, HLONG.out bs (by have := HN.out; omega) rfl⟩
  | false =>
    by_cases ho : 262144 - (n : Int) < k
    · go_wp2_with fail
      go_ret
      have hov : 262144 < bs.length + (catL L).length := by have := HN.out; have := HK.out; omega
      have e1 : putB bs false (catL L) = bs := by simp [putB, hov]
      have e2 : putL bs false (catL L) = true := by simp [putL, hov]
      rw [e1, e2]
      exact ⟨rfl, HLONG.out bs (by have := HN.out; omega) rfl⟩
    · have hno : ¬ 262144 < bs.length + (catL L).length := by have := HN.out; have := HK.out; omega
      have e1 : putB bs false (catL L) = bs ++ catL L := by simp [putB, hno]
      have e2 : putL bs false (catL L) = false := by simp [putL, hno]
      have HE1 := Lib.hid e1; have HE2 := Lib.hid e2; have HNO := Lib.hid hno
      clear HLONG e1 e2 hno
      have hd : decide (262144 - (n : Int) < k) = false := by simpa using ho
      have hF : Fr (fun b => b = g) w1 (w1.setCell ⟨g, 1, none⟩ (.bool false)) := (Fr.refl (fun b => b = g) w1).setCell (p := ⟨g, 1, none⟩) (fun _ => rfl) _
      have hG := obj_set H1.out 1 (.bool false)
      have hrow := hF.row H2.out (fun b hb => (H3.out b hb).2)
      have hrowc := hF.row HO.out (fun b hb => by cases hb; show ¬ g' = g; omega)
      have hnews : ∀ (i : Nat) (u : Value), (u8s (catL L))[i]? = some u → (w1.setCell ⟨g, 1, none⟩ (.bool false)).cell? ((⟨g', 0, none⟩ : Addr).add i) = some u := fun i u hu => by
        have hi := (List.getElem?_eq_some_iff.1 hu).1
        have := hrowc.cellAt (g := g') (j := i) (by simpa [u8s] using hi)
        rw [show (⟨g', 0, none⟩ : Addr).add i = ⟨g', i, none⟩ by simp [Addr.add]; omega, this]
        exact hu
      have hall : ∀ u ∈ u8s (catL L), u.oneCell' = true := fun u hu => by
        unfold u8s at hu
        obtain ⟨x, _, rfl⟩ := List.mem_map.1 hu
        rfl
      have hul : (u8s (catL L)).length = k * 1 := by have := HK.out; simp [u8s]; exact this
      have HNEWS := Lib.hid hnews; have HALL := Lib.hid hall; have HUL := Lib.hid hul; have HROW := Lib.hid hrow; have HG := Lib.hid hG; have HF := Lib.hid hF
      rw [HN.out] at HROW
      clear hnews hall hul hrow hG hF hrowc ho
      have c0 := cell_obj HG.out 0 (.slice am n cm) (by rw [← HN.out]; rfl)
      have h3 := H3.out
      rw [HN.out] at h3
      have HNB := Lib.hid h3
      clear h3
      go_wp2_with (at_builtin; refine wpList_append_own_at _ rfl _ _ 56 rfl 0 5 i0 (.int .u8 0) 1 1 Tryz.underlying56 hi' hz0 hz1 hz2 rfl (by decide) (.slice am n cm) n (u8s bs) rfl HROW.out ⟨g', 0, none⟩ k _ (u8s (catL L)) rfl HUL.out HNEWS.out HALL.out (by unfold maxLen; omega) (by omega) (Nat.zero_le _) ?_; intro v' w5 hown' hgrow _ hat; obtain ⟨g5, cap5, rfl, -, hl5⟩ := hown'.form (by omega); have hG5 := (hgrow.block g (Array.getElem?_eq_some_iff.1 HG.out).1 (fun e => (HNB.out g e.symm).2 rfl)).trans HG.out; have c5 := cell_obj hG5 0 (.slice am n cm) (by rw [← HN.out]; rfl); have f5 := obj_frozen hG5 0)
      go_ret
      rw [HE1.out, HE2.out]
      have hs1 : (w1.setCell ⟨g, 1, none⟩ (.bool false)).heap.size = w1.heap.size := by simp [World.setCell]
      have hat2 : TS g5 ∧ g5 ≠ g ∨ g5 = w1.heap.size := by
        rcases hat with e | e
        · exact .inl (HNB.out g5 e.symm)
        · rw [hs1] at e; exact .inr (by injection e)
      have hBs := HB.out.size
      have hne : g5 ≠ g := by
        rcases hat2 with e | e
        · exact e.2
        · omega
      have hF6 : Fr (fun b => b = g) w5 (w5.setCell ⟨g, 0, none⟩ (.slice (some ⟨g5, 0, none⟩) (n + k) cap5)) := (Fr.refl (fun b => b = g) w5).setCell (p := ⟨g, 0, none⟩) (fun _ => rfl) _
      have hs5 := hgrow.size
      have hs6 := hF6.size
      refine ⟨rfl, fun b => TS b ∨ b = g5, ⟨⟨_, obj_set hG5 0 _, ?_, fun b hb => ?_⟩, .inl HGO.out, ?_, ?_⟩, ?_, ?_⟩
      · have hl : (bs ++ catL L).length = n + k := by rw [List.length_append, HN.out, HK.out]
        rw [hl]
        unfold u8s at hown' ⊢
        rw [List.map_append]
        exact hF6.row hown' (fun b hb => by cases hb; exact hne)
      · cases hb; exact ⟨.inr rfl, hne⟩
      · rintro b (hb | rfl)
        · have := HLT.out b hb; omega
        · omega
      · have := HNO.out; rw [List.length_append]; omega
      · refine ((((Fr.below HB.out).mono (S := fun _ => False) (S' := TS) (fun _ _ h => h.elim)).trans' HF.out (fun b _ e => e ▸ HGO.out)).trans' (Fr.grown (S := fun b => TS b) hgrow (fun r hr _ => (HNB.out r hr).1)) (fun b _ e => e)).trans' hF6 (fun b _ e => e ▸ HGO.out)
      · rintro b (hb | rfl)
        · exact .inl hb
        · rcases hat2 with e | e
          · exact .inl e.1
          · exact .inr (by omega)
end Go.Proofs.YtmflpeklalgibaaGreat

namespace Go.Proofs.YtmflpeklalgibaaGreat
open Go.RowKit Go.Maps
theorem Bs.at0 {w : World} {v : Value} {bs : List Int} (h : Bs w v bs) (h0 : 0 < bs.length) : ∃ ad c, v = .slice (some ad) bs.length c := by
  obtain ⟨_, a, c, e, h1⟩ := h
  obtain ⟨x, hx⟩ : ∃ x, bs[0]? = some x := ⟨bs[0], List.getElem?_eq_getElem h0⟩
  obtain ⟨_, _, ad, ea, _⟩ := h1 0 x hx
  exact ⟨ad, c, by rw [e, ea]⟩
theorem Parts.one {w : World} {v : Value} {bs : List Int} {B : Nat} (h : Bn B w v bs) (h0 : 0 < bs.length) (b : Nat) (hb : b = w.heap.size) : Parts (w.alloc (.cells #[v] 56)) (.slice (some ⟨b, 0, none⟩) 1 1) [(v, bs)] := by
  subst hb
  obtain ⟨ad, c, e⟩ := h.1.at0 h0
  refine ⟨_, _, rfl, fun i p hp => ?_⟩
  match i, hp with
  | 0, hp =>
    cases hp
    refine ⟨?_, h.1.fr ((Fr.refl (fun _ => False) _).alloc _) (fun _ h => h.elim), ad, _, c, e⟩
    exact cell_obj (heap_new _ _) 0 v rfl
set_option maxRecDepth 100000 in
theorem cMNum (w : World) (g : Nat) (TS : Nat → Prop) (bs : List Int) (long : Bool) (n : Int) (h : MK w g TS bs long) (hn : okI n) :
    Calls Tryz.prog 73 #[.pointer (some ⟨g, 0, none⟩), .int .i64 n] w fun e w' => e = .returned (.pointer (some ⟨g, 0, none⟩)) ∧ ∃ TS', MK w' g TS' (putB bs long (numB n)) (putL bs long (numB n)) ∧ Stp TS w w' TS' := by
  have hl := numB_len hn
  go_enter Tryz.func73, Tryz.ntmps73
  go_wp2_with fail
  refine (cNum w n hn).mono ?_
  rintro e w1 ⟨v, rfl, hb, hB⟩
  obtain ⟨ad, c, rfl⟩ := hb.1.at0 (by omega)
  have hP := Parts.one hb (by omega) w1.heap.size rfl
  have hF : Fr (fun _ => False) w (w1.alloc (.cells #[.slice (some ad) (numB n).length c] 56)) := ((Fr.below hB).mono (fun _ _ h => h)).alloc _
  have hM := h.fr hF (fun _ _ h => h)
  have hcat : catL [(Value.slice (some ad) (numB n).length c, numB n)] = numB n := by simp [catL]
  have HP := Lib.hid hP; have HM := Lib.hid hM; have HF := Lib.hid hF; have HC := Lib.hid hcat; have HL := Lib.hid hl
  clear hb hP hM hF hcat hB h hl
  go_wp2_with fail
  refine (cPut _ g TS bs long _ _ HM.out HP.out (by simp) (by rw [HC.out]; have := HL.out; omega) (by rw [HC.out]; have := HL.out; omega)).mono ?_
  rw [HC.out]
  rintro e w2 ⟨rfl, TS', hM2, hs⟩
  go_wp2_with fail
  go_ret
  exact ⟨rfl, TS', hM2, (Stp.refl HF.out).trans hs⟩
end Go.Proofs.YtmflpeklalgibaaGreat

namespace Go.Proofs.YtmflpeklalgibaaGreat
open Go.RowKit Go.Maps
abbrev Mst := List Int × Bool
def mkP (s : Mst) (c : List Int) : Mst := (putB s.1 s.2 c, putL s.1 s.2 c)
def mkAll (s : Mst) (cs : List (List Int)) : Mst := cs.foldl mkP s
def Byt (l : List Int) : Prop := ∀ x ∈ l, 0 ≤ x ∧ x < 256
end Go.Proofs.YtmflpeklalgibaaGreat

namespace Go.Proofs.YtmflpeklalgibaaGreat
open Go.RowKit Go.Maps
/-- A text's bytes. -/
def sB (s : Str) : List Int := s.map fun c => (c.toNat : Int)
theorem sB_len (s : Str) : (sB s).length = s.length := by simp [sB]
theorem sB_byt (s : Str) : Byt (sB s) := by
  intro x hx
  obtain ⟨c, -, rfl⟩ := List.mem_map.1 hx
  have := c.toNat_lt
  omega
/-- A text's cell. -/
def textB (s : Str) : List Int := numB (s.length : Int) ++ sB s
theorem bytesWorld_fr (w : World) (e : TypeId) (s : ByteArray) : Fr (fun _ => False) w (Lib.bytesWorld w e s) :=
  ⟨rfl, rfl, rfl, by rw [Lib.bytesWorld_size]; omega, fun b hb _ => Lib.bytesWorld_at_old w e s b hb⟩
theorem bytesWorld_bs (w : World) (s : Str) (c : Nat) (hs : s.length ≤ 65536) : Bs (Lib.bytesWorld w 5 ⟨s.toArray⟩) (.slice (some ⟨w.heap.size, 0, none⟩) s.length c) (sB s) := by
  refine ⟨by rw [sB_len]; omega, some ⟨w.heap.size, 0, none⟩, c, by rw [sB_len], fun i x hx => ?_⟩
  have hb := sB_byt s x (List.mem_of_getElem? hx)
  refine ⟨hb.1, hb.2, _, rfl, ?_⟩
  have hi : i < s.length := by have := (List.getElem?_eq_some_iff.1 hx).1; rwa [sB_len] at this
  have := Lib.bytesWorld_cell w 5 ⟨s.toArray⟩ i (by simpa [ByteArray.size] using hi)
  rw [show (⟨w.heap.size, 0, none⟩ : Addr).add i = ⟨w.heap.size, i, none⟩ by simp [Addr.add]; omega, this]
  unfold sB at hx
  rw [List.getElem?_map, List.getElem?_eq_getElem hi] at hx
  injection hx with hx
  subst hx
  simp [List.getD, hi]
set_option maxRecDepth 100000 in
set_option maxHeartbeats 2000000 in
theorem cMText (w : World) (g : Nat) (TS : Nat → Prop) (bs : List Int) (long : Bool) (s : Str) (h : MK w g TS bs long) (hs : s.length ≤ 65536) :
    Calls Tryz.prog 71 #[.pointer (some ⟨g, 0, none⟩), vS s] w fun e w' => e = .returned (.pointer (some ⟨g, 0, none⟩)) ∧ ∃ TS', MK w' g TS' (putB bs long (textB s)) (putL bs long (textB s)) ∧ Stp TS w w' TS' := by
  have hn : okI (s.length : Int) := by unfold okI; omega
  have hl := numB_len hn
  have hN := Lib.hid (cNum w (s.length : Int) hn)
  have hcv := fun (W : World) => Lib.run_convert_string_bytes (P := Tryz.prog) W 9 56 5 ⟨s.toArray⟩ Tryz.underlying9 Tryz.underlying56 Tryz.underlying5
  have HH := Lib.hid h; have HL := Lib.hid hl
  have hsz : (ByteArray.mk s.toArray).size = s.length := by simp [ByteArray.size]
  simp only [hsz] at hcv
  clear h hl hsz
  go_enter Tryz.func71, Tryz.ntmps71
  go_wp2_with fail
  refine hN.out.mono ?_
  rintro e w1 ⟨v, rfl, hb, hB⟩
  obtain ⟨ad, c, rfl⟩ := hb.1.at0 (by have := HL.out; omega)
  have HBN := Lib.hid hb; have HB := Lib.hid hB
  clear hb hB
  go_wp2_with fail
  obtain ⟨cc, hcc⟩ : ∃ cc, grownCap w1 s.length 0 5 = cc := ⟨_, rfl⟩
  rw [hcc]
  have hFb := bytesWorld_fr w1 5 ⟨s.toArray⟩
  have hBs := bytesWorld_bs w1 s cc hs
  obtain ⟨V, hV⟩ : ∃ V, Lib.bytesWorld w1 5 ⟨s.toArray⟩ = V := ⟨_, rfl⟩
  rw [hV] at hFb hBs ⊢
  have hF2 : Fr (fun _ => False) w1 (V.alloc (.cells #[.slice (some ad) (numB (s.length : Int)).length c, .slice (some ⟨w1.heap.size, 0, none⟩) s.length cc] 56)) := hFb.alloc _
  have hF : Fr (fun _ => False) w _ := (Fr.below HB.out).trans hF2
  have hM := HH.out.fr hF (fun _ _ h => h)
  have hcat : catL [(Value.slice (some ad) (numB (s.length : Int)).length c, numB (s.length : Int)), (Value.slice (some ⟨w1.heap.size, 0, none⟩) s.length cc, sB s)] = textB s := by simp [catL, textB]
  have hblk := heap_new V (.cells #[.slice (some ad) (numB (s.length : Int)).length c, .slice (some ⟨w1.heap.size, 0, none⟩) s.length cc] 56)
  have hP : Parts (V.alloc (.cells #[.slice (some ad) (numB (s.length : Int)).length c, .slice (some ⟨w1.heap.size, 0, none⟩) s.length cc] 56)) (.slice (some ⟨V.heap.size, 0, none⟩) 2 2) [(Value.slice (some ad) (numB (s.length : Int)).length c, numB (s.length : Int)), (Value.slice (some ⟨w1.heap.size, 0, none⟩) s.length cc, sB s)] := by
    refine ⟨_, _, rfl, fun i p hp => ?_⟩
    match i, hp with
    | 0, hp =>
      cases hp
      exact ⟨cell_obj hblk 0 _ rfl, HBN.out.1.fr hF2 (fun _ h => h.elim), ad, _, c, rfl⟩
    | 1, hp =>
      cases hp
      exact ⟨cell_obj hblk 1 _ rfl, hBs.fr ((Fr.refl (fun _ => False) _).alloc _) (fun _ h => h.elim), ⟨w1.heap.size, 0, none⟩, _, cc, rfl⟩
  have HM := Lib.hid hM; have HP := Lib.hid hP; have HC := Lib.hid hcat; have HF := Lib.hid hF
  have hlt : Hid (0 < (textB s).length ∧ ((textB s).length : Int) ≤ 1099511627776) := Lib.hid (by have := HL.out; unfold textB; rw [List.length_append, sB_len]; omega)
  clear hFb hBs hV hF2 hF hM hcat hblk hP hcc
  refine (cPut _ g TS bs long _ _ HM.out HP.out (by simp) (by rw [HC.out]; exact hlt.out.2) (by rw [HC.out]; exact hlt.out.1)).mono ?_
  rw [HC.out]
  rintro e w2 ⟨rfl, TS', hM2, hs2⟩
  go_wp2_with fail
  go_ret
  exact ⟨rfl, TS', hM2, (Stp.refl HF.out).trans hs2⟩
end Go.Proofs.YtmflpeklalgibaaGreat

namespace Go.Proofs.YtmflpeklalgibaaGreat
open Go.RowKit Go.Maps
theorem goodB_len {s : Str} (h : goodB s = true) : s.length ≤ 16 := by
  unfold goodB at h
  simp at h
  omega
end Go.Proofs.YtmflpeklalgibaaGreat

namespace Go.Proofs.YtmflpeklalgibaaGreat
open Go.RowKit Go.Maps
attribute [local go_sem] Oper.semAt_some
theorem mk_fa {B : Nat} {w w' : World} {g : Nat} {TS : Nat → Prop} {bs : List Int} {long : Bool} (h : MK w g TS bs long) (hf : Fa B w w') : MK w' g TS bs long := by
  obtain ⟨⟨v, h1, h2, h3⟩, h4, h5, h6⟩ := h
  exact ⟨⟨v, Fa.cells hf h1, Fa.row hf h2, h3⟩, h4, fun b hb => Nat.lt_of_lt_of_le (h5 b hb) hf.size, h6⟩
theorem mkAll_app (s : Mst) (a b : List (List Int)) : mkAll s (a ++ b) = mkAll (mkAll s a) b := List.foldl_append
/-- Items' cells. -/
def itC (L : Its) : List (List Int) := L.flatMap fun p => [textB p.1, numB p.2]
theorem itC_take {L : Its} {j : Nat} {p : Str × Int} (h : L[j]? = some p) : itC (L.take (j + 1)) = itC (L.take j) ++ [textB p.1, numB p.2] := by
  unfold itC
  rw [List.take_add_one, h, List.flatMap_append]
  simp
/-- A list's cells. -/
def liC (L : Its) : List (List Int) := numB (L.length : Int) :: itC L
structure PmS (w : World) (TS0 : Nat → Prop) (n0 : Nat) (W : World) (g : Nat) (TM : Nat → Prop) (s : Mst) : Prop where
  mkr : MK W g TM s.1 s.2
  box : W.heap[n0]? = some (.cells #[.pointer (some ⟨g, 0, none⟩)] 125)
  nb : ¬ TM n0
  st : Stp TS0 w W TM
section
variable {W0 W W' : World} {TS0 TM TM' : Nat → Prop} {n0 g : Nat} {s s' : Mst}
theorem PmS.fa {B : Nat} (h : PmS W0 TS0 n0 W g TM s) (hf : Fa B W W') (hB : W0.heap.size ≤ B) : PmS W0 TS0 n0 W' g TM s :=
  ⟨mk_fa h.mkr hf, Fa.cells hf h.box, h.nb, Fa.old hf h.st.1 hB, h.st.2⟩
theorem PmS.step (h : PmS W0 TS0 n0 W g TM s) (hm : MK W' g TM' s'.1 s'.2) (hs : Stp TM W W' TM') : PmS W0 TS0 n0 W' g TM' s' :=
  have hl := (Array.getElem?_eq_some_iff.1 h.box).1
  ⟨hm, hs.1.at_ h.box h.nb, fun e => (hs.2 _ e).elim h.nb (fun e => by omega), h.st.trans hs⟩
theorem PmS.keep (h : PmS W0 TS0 n0 W g TM s) (hf : Fr (fun _ => False) W W') : PmS W0 TS0 n0 W' g TM s :=
  ⟨h.mkr.fr hf (fun _ _ e => e), hf.at_ h.box (fun e => e), h.nb, h.st.trans (Stp.refl hf)⟩
theorem PmS.num (h : PmS W0 TS0 n0 W g TM s) (n : Int) (hn : okI n) : Calls Tryz.prog 73 #[.pointer (some ⟨g, 0, none⟩), .int .i64 n] W fun e w' => e = .returned (.pointer (some ⟨g, 0, none⟩)) ∧ ∃ TM', PmS W0 TS0 n0 w' g TM' (mkP s (numB n)) ∧ Stp TM W w' TM' := by
  refine (cMNum W g TM s.1 s.2 n h.mkr hn).mono ?_
  rintro e w' ⟨rfl, TM', h1, h2⟩
  exact ⟨rfl, TM', h.step h1 h2, h2⟩
theorem PmS.text (h : PmS W0 TS0 n0 W g TM s) (t : Str) (ht : t.length ≤ 65536) : Calls Tryz.prog 71 #[.pointer (some ⟨g, 0, none⟩), vS t] W fun e w' => e = .returned (.pointer (some ⟨g, 0, none⟩)) ∧ ∃ TM', PmS W0 TS0 n0 w' g TM' (mkP s (textB t)) ∧ Stp TM W w' TM' := by
  refine (cMText W g TM s.1 s.2 t h.mkr ht).mono ?_
  rintro e w' ⟨rfl, TM', h1, h2⟩
  exact ⟨rfl, TM', h.step h1 h2, h2⟩
end
def PmI (W0 : World) (TS0 : Nat → Prop) (n0 g : Nat) (TM0 : Nat → Prop) (s : Mst) (L : Its) (k : Nat) (C : Nat → Prop) (W : World) : Prop :=
  ∃ TM, PmS W0 TS0 n0 W g TM (mkAll s (itC (L.take k))) ∧ ∀ b, TM b → TM0 b ∨ C b
set_option maxRecDepth 100000 in
set_option maxHeartbeats 8000000 in
theorem hPut (w : World) (g : Nat) (TS : Nat → Prop) (s : Mst) (v : Value) (its : Its) (h : MK w g TS s.1 s.2) (hi : Il w v its) (hT : its ≠ [] → ∀ b, v.ownBlock = some b → ¬ TS b) (hits : ∀ p ∈ its, p.1.length ≤ 16 ∧ okI p.2) :
    Calls Tryz.prog 74 #[.pointer (some ⟨g, 0, none⟩), v] w fun e w' => (∃ v, e = .returned v) ∧ ∃ TS', MK w' g TS' (mkAll s (liC its)).1 (mkAll s (liC its)).2 ∧ Stp TS w w' TS' := by
  obtain ⟨n0, hn0⟩ : ∃ n0, w.heap.size = n0 := ⟨_, rfl⟩
  have okN : Hid (okI (its.length : Int)) := Lib.hid (by have := hi.1; unfold okI; omega)
  obtain ⟨la, lc, rfl⟩ := hi.sl
  obtain ⟨N, hN⟩ : ∃ N : Nat, its.length = N := ⟨_, rfl⟩
  obtain ⟨W0, hW0⟩ : ∃ W0, w.alloc (.cells #[.pointer (some ⟨g, 0, none⟩)] 125) = W0 := ⟨_, rfl⟩
  have hF0 : Fr (fun _ => False) w W0 := by rw [← hW0]; exact (Fr.refl _ w).alloc _
  have hb0 : W0.heap[n0]? = some (.cells #[.pointer (some ⟨g, 0, none⟩)] 125) := by rw [← hW0]; exact heap_at hn0.symm _
  have hP0 : PmS w TS n0 W0 g TS s := ⟨h.fr hF0 (fun _ _ e => e), hb0, fun e => by have := h.lt _ e; omega, Stp.refl hF0⟩
  have HIL := Lib.hid hi; have HOB := Lib.hid hi.lt; have HT := Lib.hid hT
  have hits := Lib.hid hits
  have HN := Lib.hid hN; have HS := Lib.hid hn0; have HP0 := Lib.hid hP0; have HF0 := Lib.hid hF0
  have hTlt := Lib.hid h.lt
  have hfin : Hid (mkAll s (liC its) = mkAll (mkP s (numB (N : Int))) (itC its)) := Lib.hid (by unfold liC; rw [hN]; rfl)
  rw [hN] at HIL HOB HT okN ⊢
  have c0 := cell_obj hb0 0 (.pointer (some ⟨g, 0, none⟩)) rfl
  clear h hi hT hN hP0 hb0
  refine (callsIn_wide (n := 0)).1 ?_
  refine callsIn_of_wp_marks Tryz.func74 rfl trivial ?_ rfl
  simp only [Tryz.ntmps74, List.size_toArray, List.length_cons, List.length_nil, Nat.reduceAdd, Nat.reduceSub, Array.replicate_succ, Array.replicate_zero, List.push_toArray, List.append_toArray, List.nil_append, List.cons_append]
  have hfn : ∀ f, Fence.wide.fn f := fun _ => trivial
  have hdp : Fence.wide.depth.isSome = false := rfl
  gi_wp2_with (first
    | (gi_at_call 73; refine (callsIn_wide.2 (HP0.out.num _ okN.out)).mono ?_; rintro e w1 ⟨rfl, TS1, hP1, hs1⟩; have HP1 := Lib.hid hP1; clear hP1 hs1)
    | (gi_at_call 69; refine (callsIn_wide.2 (iAll _ _ _ _)).mono ?_; rintro e w2 ⟨rfl, rfl⟩))
  obtain ⟨s1, hs1⟩ : ∃ s1, mkP s (numB (N : Int)) = s1 := ⟨_, rfl⟩
  rw [hs1] at hfin HP1
  have hPs := HP1.out
  obtain ⟨z1, hz1⟩ : ∃ z1, w1.heap.size = z1 := ⟨_, rfl⟩
  clear hs1 c0 hW0 HP1 HP0
  have hF2 : Fr (fun _ => False) w1 (w1.alloc (.cells #[.slice la N lc] 23)) := (Fr.refl _ _).alloc _
  have hBx : Boxed (w1.alloc (.cells #[.slice la N lc] 23)) w1.heap.size 23 (.slice la N lc) := heap_new _ _
  have hs2 : (w1.alloc (.cells #[.slice la N lc] 23)).heap.size = w1.heap.size + 1 := by simp
  obtain ⟨W2, hW2⟩ : ∃ W2, w1.alloc (.cells #[.slice la N lc] 23) = W2 := ⟨_, rfl⟩
  rw [hW2] at hF2 hBx hs2 ⊢
  rw [hz1] at hBx hs2 ⊢
  have hn1 : n0 < z1 := by rw [← hz1]; exact (Array.getElem?_eq_some_iff.1 hPs.box).1
  have hT1 : Hid (∀ b, TS1 b → b < z1) := Lib.hid (fun b hb => by rw [← hz1]; exact hPs.mkr.lt b hb)
  have hne : Hid (its ≠ [] → ∀ b, la.map (·.block) = some b → ¬ TS1 b) := Lib.hid (fun hne b hb e => by
    have h2 : (Value.slice la N lc).ownBlock = some b := by cases la <;> simp_all [Value.ownBlock]
    have h3 := HOB.out hne b h2
    have hs := HS.out
    rcases hPs.st.2 b e with e | e
    · exact HT.out hne b h2 e
    · omega)
  have hP2 := hPs.keep hF2
  have hIL2 : Il W2 (.slice la N lc) its := HIL.out.keep hP2.st.1 (fun hne b hb => HT.out hne b hb)
  have HP2 := Lib.hid hP2; have HS2 := Lib.hid hs2
  have hz0 : Hid (w.heap.size ≤ W2.heap.size) := Lib.hid hP2.st.1.size
  have HN1 := Lib.hid hn1
  clear hPs hP2 hF2 hz1 hW2 hn1
  refine rangeX (w0 := W2) (X := its) (S := TS1) rfl (enters_of Tryz.func101 (by kernel_rfl) rfl)
    (iAll1 _ W2 z1 _ its hBx hIL2 (fun e => by have := hT1.out _ e; omega) (fun hne' b hb e => hne.out hne' b (by cases la <;> simp_all [Value.ownBlock]) hb)) (Below.refl _ _) (fun b hb => by have := HS2.out; have := hT1.out b hb; omega) (fun _ => rfl)
    (PmI w TS n0 g TS1 s1 its) (fun _ _ _ _ => False)
    (fun k C W W' hs hf => hs.elim fun TM h => ⟨TM, h.1.fa hf hz0.out, h.2⟩) (fun c k C W W' hs hf => hs)
    ⟨TS1, by simpa [itC, mkAll] using HP2.out, fun b hb => .inl hb⟩ ?round ?done ?stop
  case stop => intro D c k C W hD hk hX; exact hX.elim
  case round =>
    rintro lp j x C W hx hlp hi hr
    dsimp only [encIt]
    gi_wp2
    refine Took.mk (Fr.refl _ _) hi ?_
    rintro Wb ⟨TM, hPb, hTC⟩ hrb hf hsz hsw hCC _
    obtain ⟨ok1, ok2⟩ := hits.out x (List.mem_of_getElem? hx)
    have hcm := cell_obj hPb.box 0 (.pointer (some ⟨g, 0, none⟩)) rfl
    have HX := Lib.hid (itC_take hx)
    obtain ⟨gx, nx⟩ := x
    dsimp only at ok1 ok2 HX
    have ok1' : gx.length ≤ 65536 := by omega
    have HPB := Lib.hid hPb; have HTC := Lib.hid hTC; have HCC := Lib.hid hCC; have HSZ := Lib.hid hsz
    have OK1 := Lib.hid ok1'; have OK2 := Lib.hid ok2
    clear hi hr hf hrb hx hPb hTC hCC ok1 ok2 ok1'
    gi_wp2_with (first
      | (gi_at_call 71; refine (callsIn_wide.2 (HPB.out.text gx OK1.out)).mono ?_; rintro e w8 ⟨rfl, TM8, hM8, hS8⟩; have HM8 := Lib.hid hM8; have HS8 := Lib.hid hS8; clear hM8 hS8)
      | (gi_at_call 73; refine (callsIn_wide.2 (HM8.out.num nx OK2.out)).mono ?_; rintro e w9 ⟨rfl, TM9, hM9, hS9⟩; have HM9 := Lib.hid hM9; have HS9 := Lib.hid hS9; clear hM9 hS9))
    have hst := HS8.out.trans HS9.out
    refine ⟨hst.1.mono (fun b hb e => (HTC.out b e).elim .inl (fun e => .inr (.inl e))), TM9, ?_, ?_⟩
    · rw [HX.out, mkAll_app]
      exact HM9.out
    · intro b hb
      rcases hst.2 b hb with e | e
      · exact (HTC.out b e).elim .inl (fun e => .inr (.inl e))
      · exact .inr (.inr ⟨by have := HSZ.out; omega, HM9.out.mkr.lt b hb⟩)
  case done =>
    rintro D C W hD ⟨TM, hPS, -⟩ hr hK
    rw [List.take_length] at hPS
    have HPS := Lib.hid hPS; have HKK := Lib.hid hK
    clear hPS hK hr
    gi_wp2_with fail
    have hz := hz0.out
    have hs := HS.out
    refine ⟨by simp, .inl ⟨_, _, rfl, run_takeDeferred HKK.out, ?_⟩⟩
    refine ⟨_, results_none rfl _ _ _, ⟨_, rfl⟩, TM, ?_, ?_⟩
    · rw [hfin.out]
      exact mk_fa HPS.out.mkr (frPut (B := n0) (.deferred none) (by omega) HKK.out rfl)
    · exact ⟨HPS.out.st.1.trans' ((Fr.refl (fun b => b = D) W).putObj (l := D) (fun _ => rfl) _) (fun b hb e => by omega), HPS.out.st.2⟩
end Go.Proofs.YtmflpeklalgibaaGreat

namespace Go.Proofs.YtmflpeklalgibaaGreat
open Go.RowKit Go.Maps
def HV.num (x : HV) : Nat := x.he.length + x.pi.length + x.sh.length
def setH (l : List (Int × HV)) (x : HV) : List (Int × HV) := if x.num = 0 then delS l x.o else putS ktI.lt l x.o x
section
variable {W W' : World} {g gs m : Nat} {T0 TB TB' : Nat → Prop} {A : Stk} {l : List (Int × HV)}
theorem SB.more (h : SB W g gs m T0 TB A l) (hT : ∀ b, TB b → TB' b) (hB : ∀ b, TB' b → b < W.heap.size ∧ ¬ T0 b ∧ b ≠ g ∧ b ≠ m) : SB W g gs m T0 TB' A l := by
  obtain ⟨h1, h2, h3, h4, h5, h6, h7, h8⟩ := h
  exact ⟨h1, h2, h3, fun p hp => ⟨(h4 p hp).1, (h4 p hp).2.mono hT⟩, ⟨h5.1, fun e => (hB g e).2.2.1 rfl, h5.2.2⟩, ⟨h6.1, fun e => (hB m e).2.2.2 rfl⟩, fun b hb => (hB b hb).2.1, fun b hb => (hB b hb).1⟩
end
set_option maxRecDepth 100000 in
set_option maxHeartbeats 4000000 in
theorem hset (w : World) (g gs m : Nat) (T0 TB TB' : Nat → Prop) (A : Stk) (l : List (Int × HV)) (x : HV) (h : SB w g gs m T0 TB A l) (hT : ∀ b, TB b → TB' b) (hk : HOk w TB' x) (hB : ∀ b, TB' b → b < w.heap.size ∧ ¬ T0 b ∧ b ≠ g ∧ b ≠ m) (hl : l.length ≤ 1000000) (hx : x.he.length ≤ 1000 ∧ x.pi.length ≤ 1000 ∧ x.sh.length ≤ 1000) :
    Calls Tryz.prog 53 #[.pointer (some ⟨g, 0, none⟩), x.enc] w fun e w' => e = .returned (.tuple #[]) ∧ SB w' g gs m T0 TB' A (setH l x) ∧ Fr (fun b => b = m) w w' := by
  have HH := Lib.hid h; have HK := Lib.hid hk; have HT := Lib.hid hT; have HB := Lib.hid hB
  obtain ⟨a1, c1, e1⟩ := hk.lh.1.sl
  obtain ⟨a2, c2, e2⟩ := hk.lp.1.sl
  obtain ⟨a3, c3, e3⟩ := hk.ls.1.sl
  have ho := hk.o
  have hmn := h.ng.2.2
  unfold setH HV.num
  obtain ⟨o, xh, xp, xs, he, pi, sh⟩ := x
  dsimp only at e1 e2 e3 hx ho
  subst e1; subst e2; subst e3
  obtain ⟨n1, hn1⟩ : ∃ n, he.length = n := ⟨_, rfl⟩
  obtain ⟨n2, hn2⟩ : ∃ n, pi.length = n := ⟨_, rfl⟩
  obtain ⟨n3, hn3⟩ : ∃ n, sh.length = n := ⟨_, rfl⟩
  dsimp only [HV.enc]
  rw [hn1, hn2, hn3] at HK hx ⊢
  have hst : ∀ W, Fr (fun _ => False) w W → ∃ w', (Instr.mapUpdate 88 (.map (some m)) (.int .i64 o) (.agg #[.int .i64 o, .slice a1 n1 c1, .slice a2 n2 c2, .slice a3 n3 c3])).run Tryz.prog W = .ok () w' ∧ Mp Tryz.prog w' 3 ktI HV.enc m (putS ktI.lt l o ⟨o, .slice a1 n1 c1, .slice a2 n2 c2, .slice a3 n3 c3, he, pi, sh⟩) ∧ W.mapTurned w' m := fun W hW =>
    (hW.mp HH.out.mp (fun h => h)).store kHI Tryz.underlying88 (by omega) ho (⟨o, .slice a1 n1 c1, .slice a2 n2 c2, .slice a3 n3 c3, he, pi, sh⟩ : HV)
  have hdl : ∀ W ty, Fr (fun _ => False) w W → ∃ w', (Builtin.delete_ #[88, 3] ty #[.map (some m), .int .i64 o]).run Tryz.prog W = .ok (.tuple #[]) w' ∧ Mp Tryz.prog w' 3 ktI HV.enc m (delS l o) ∧ W.mapTurned w' m := fun W ty hW =>
    (hW.mp HH.out.mp (fun h => h)).drop kHI Tryz.underlying88 ho ty
  have HST := Lib.hid hst; have HDL := Lib.hid hdl
  obtain ⟨n0, hn0⟩ : ∃ n0, w.heap.size = n0 := ⟨_, rfl⟩
  have HN0 := Lib.hid hn0
  have hbx : (w.alloc (.cells #[.int .i64 o, .slice a1 n1 c1, .slice a2 n2 c2, .slice a3 n3 c3] 54)).heap[n0]? = some (.cells #[.int .i64 o, .slice a1 n1 c1, .slice a2 n2 c2, .slice a3 n3 c3] 54) := heap_at hn0.symm _
  have HBX := Lib.hid hbx
  have hw1 : IntKind.i64.wrap ((n1 : Int) + n2) = (n1 : Int) + n2 := IntWalk.i64_in _ ⟨by omega, by omega⟩
  have hw2 : IntKind.i64.wrap ((n1 : Int) + n2 + n3) = (n1 : Int) + n2 + n3 := IntWalk.i64_in _ ⟨by omega, by omega⟩
  clear h hk hT hB hst hdl hbx hn1 hn2 hn3
  by_cases hz : n1 + n2 + n3 = 0
  · rw [if_pos hz]
    obtain ⟨rfl, rfl, rfl⟩ : n1 = 0 ∧ n2 = 0 ∧ n3 = 0 := by omega
    clear hw1 hw2 hz hx
    go_enter Tryz.func53, Tryz.ntmps53
    go_wp2_with fail
    refine wp_region_still_tail 6 (by kernel_rfl) (by kernel_rfl) ?_
    simp only [List.take_succ_cons, List.take_zero, List.drop_succ_cons, List.drop_zero]
    subst hn0
    obtain ⟨W1, hW1⟩ : ∃ W1, w.alloc (.cells #[.int .i64 o, .slice a1 0 c1, .slice a2 0 c2, .slice a3 0 c3] 54) = W1 := ⟨_, rfl⟩
    have hF0 : Fr (fun _ => False) w W1 := by rw [← hW1]; exact (Fr.refl _ w).alloc _
    rw [hW1] at HBX ⊢
    have hF : Fr (fun _ => False) w W1.drew := hF0.drew
    have hB3 : W1.drew.heap[w.heap.size]? = some (.cells #[.int .i64 o, .slice a1 0 c1, .slice a2 0 c2, .slice a3 0 c3] 54) := HBX.out
    change wpStill _ _ W1.drew (fun a' => wpList _ _ _ _ a' W1.drew) _ _
    generalize W1.drew = V at hF hB3 ⊢
    obtain ⟨w5, hst5, hm5, ht5⟩ := HDL.out V 0 hF
    have hSV := HH.out.keep hF (fun _ _ e => e)
    obtain ⟨cg0, cg1⟩ := hSV.cells
    have d0 := cell_obj hB3 0 (.int .i64 o) rfl
    have HSV := Lib.hid hSV; have HF := Lib.hid hF; have HM5 := Lib.hid hm5; have HT5 := Lib.hid ht5
    clear hSV hF hB3 hm5 ht5 hF0 hW1
    repeat still_step
    refine wpStill_nil ?_
    go_wp2_with fail
    have hF5 : Fr (fun b => b = m) w w5 := (HF.out.mono (fun _ _ h => h.elim)).trans' (Fr.turned (S := fun b => b = m) HT5.out rfl) (fun b _ e => e)
    have hz2 := hF5.size
    refine bodyPost_ret (v := .tuple #[]) (by simp [results, Tryz.results53, go_sem]) rfl ?_
    exact ⟨rfl, (HSV.out.del HM5.out HT5.out).more HT.out (fun b hb => ⟨by have := (HB.out b hb).1; omega, (HB.out b hb).2⟩), hF5⟩
  · rw [if_neg hz]
    have hzI : ((n1 : Int) + n2 + n3 == 0) = false := by simp; omega
    clear hz
    go_enter Tryz.func53, Tryz.ntmps53
    go_wp2_with fail
    refine wp_region_still_tail 7 (by kernel_rfl) (by kernel_rfl) ?_
    simp only [List.take_succ_cons, List.take_zero, List.drop_succ_cons, List.drop_zero]
    subst hn0
    obtain ⟨W1, hW1⟩ : ∃ W1, w.alloc (.cells #[.int .i64 o, .slice a1 n1 c1, .slice a2 n2 c2, .slice a3 n3 c3] 54) = W1 := ⟨_, rfl⟩
    have hF0 : Fr (fun _ => False) w W1 := by rw [← hW1]; exact (Fr.refl _ w).alloc _
    rw [hW1] at HBX ⊢
    have hF : Fr (fun _ => False) w W1.drew := hF0.drew
    have hB3 : W1.drew.heap[w.heap.size]? = some (.cells #[.int .i64 o, .slice a1 n1 c1, .slice a2 n2 c2, .slice a3 n3 c3] 54) := HBX.out
    change wpStill _ _ W1.drew (fun a' => wpList _ _ _ _ a' W1.drew) _ _
    generalize W1.drew = V at hF hB3 ⊢
    obtain ⟨w5, hst5, hm5, ht5⟩ := HST.out V hF
    have hSV := HH.out.keep hF (fun _ _ e => e)
    obtain ⟨cg0, cg1⟩ := hSV.cells
    have d0 := cell_obj hB3 0 (.int .i64 o) rfl
    have d1 := cell_obj hB3 1 (.slice a1 n1 c1) rfl
    have d2 := cell_obj hB3 2 (.slice a2 n2 c2) rfl
    have d3 := cell_obj hB3 3 (.slice a3 n3 c3) rfl
    have HSV := Lib.hid hSV; have HF := Lib.hid hF; have HM5 := Lib.hid hm5; have HT5 := Lib.hid ht5
    clear hSV hF hB3 hm5 ht5 hF0 hW1
    repeat still_step
    refine wpStill_nil ?_
    go_wp2_with fail
    go_end0
    have hF5 : Fr (fun b => b = m) w w5 := (HF.out.mono (fun _ _ h => h.elim)).trans' (Fr.turned (S := fun b => b = m) HT5.out rfl) (fun b _ e => e)
    exact ⟨rfl, HSV.out.put (h' := ⟨o, .slice a1 n1 c1, .slice a2 n2 c2, .slice a3 n3 c3, he, pi, sh⟩) HM5.out HT5.out HT.out (HK.out.keep HF.out (fun _ _ e => e)) (fun b hb => ⟨by have := (HB.out b hb).1; have := HF.out.size; omega, (HB.out b hb).2⟩), hF5⟩
end Go.Proofs.YtmflpeklalgibaaGreat

namespace Go.Proofs.YtmflpeklalgibaaGreat
open Go.RowKit Go.Maps
theorem its_cons {last : Str} {p : Str × Int} {r : Its} (h : itsOk last (p :: r) = true) : goodB p.1 = true ∧ 1 ≤ p.2 ∧ p.2 ≤ 1099511627776 ∧ last < p.1 ∧ itsOk p.1 r = true := by
  unfold itsOk at h
  simp only [Bool.and_eq_true, decide_eq_true_eq, mayI_iff] at h
  exact ⟨h.1.1.1.1, h.1.1.1.2, h.1.1.2.2, h.1.2, h.2⟩
theorem its_all : ∀ {L : Its} {last : Str}, itsOk last L = true → RiseS L ∧ ∀ p ∈ L, goodB p.1 = true ∧ 1 ≤ p.2 ∧ p.2 ≤ 1099511627776 ∧ last < p.1
  | [], _, _ => ⟨List.Pairwise.nil, fun p hp => by cases hp⟩
  | q :: r, last, h => by
    obtain ⟨h1, h2, h3, h4, h5⟩ := its_cons h
    obtain ⟨i1, i2⟩ := its_all h5
    refine ⟨List.pairwise_cons.2 ⟨fun p hp => (i2 p hp).2.2.2, i1⟩, fun p hp => ?_⟩
    rcases List.mem_cons.1 hp with rfl | hp
    · exact ⟨h1, h2, h3, h4⟩
    · obtain ⟨j1, j2, j3, j4⟩ := i2 p hp
      exact ⟨j1, j2, j3, str_trans h4 j4⟩
theorem mayL_iff {L : Its} : mayL L = true ↔ itsOk [] L = true ∧ L.length ≤ 16 := by
  unfold mayL; rw [Bool.and_eq_true, decide_eq_true_eq]
end Go.Proofs.YtmflpeklalgibaaGreat

namespace Go.Proofs.YtmflpeklalgibaaGreat
open Go.RowKit Go.Maps
end Go.Proofs.YtmflpeklalgibaaGreat

namespace Go.Proofs.YtmflpeklalgibaaGreat
open Go.RowKit
def sumI (L : Its) : Int := (L.map (·.2)).sum
def getI (L : Its) (s : Str) : Int := sumI (L.filter fun p => decide (p.1 = s))
theorem sumI_app (A B : Its) : sumI (A ++ B) = sumI A + sumI B := by simp [sumI]
theorem sumI_cons (p : Str × Int) (B : Its) : sumI (p :: B) = p.2 + sumI B := by simp [sumI]
theorem sumI_nn {L : Its} (h : ∀ p ∈ L, 0 ≤ p.2) : 0 ≤ sumI L := by
  induction L with
  | nil => exact Int.le_refl _
  | cons p r ih =>
    rw [sumI_cons]
    have := h p List.mem_cons_self
    have := ih (fun q hq => h q (List.mem_cons_of_mem _ hq))
    omega
theorem getI_nn {L : Its} (s : Str) (hp : ∀ p ∈ L, 0 ≤ p.2) : 0 ≤ getI L s := sumI_nn (fun q hq => hp q ((List.mem_filter.1 hq).1))
end Go.Proofs.YtmflpeklalgibaaGreat

namespace Go.Proofs.YtmflpeklalgibaaGreat
open Go.RowKit Go.Maps
def badIt (p : Str × Int) : Bool := !(goodB p.1 && mayI p.2)
def sumAt (m : Its) (p : Str × Int) : Int := (getS m p.1).getD 0 + p.2
def sumStep (r : Option Its) (p : Str × Int) : Option Its := match r with
  | none => none
  | some m => if 1099511627776 < sumAt m p then none else some (putS ktS.lt m p.1 (sumAt m p))
def sumsM (L : Its) : Option Its := L.foldl sumStep (some [])
/-- The sums of all goods, or what is wrong. -/
def sumsF (L : Its) : Int × Its := if L.any badIt = true then (60, []) else match sumsM L with | some m => (0, m) | none => (50, [])
def posF (m : Its) : Its := m.filter fun p => decide (0 < p.2)
/-- A list put in order. -/
def normF (L : Its) : Its × Int := if (sumsF L).1 = 0 then (if 16 < (posF (sumsF L).2).length then ([], 3) else (posF (sumsF L).2, 0)) else ([], (sumsF L).1)
/-- Two lists together. -/
def plusF (a b : Its) : Its × Int := if mayL a = true ∧ mayL b = true then normF (a ++ b) else ([], 60)
theorem sumsM_take {L : Its} {k : Nat} {p : Str × Int} (h : L[k]? = some p) : sumsM (L.take (k + 1)) = sumStep (sumsM (L.take k)) p := by
  unfold sumsM
  rw [List.take_add_one, h, List.foldl_append]
  rfl
theorem sumStep_none : ∀ L : Its, L.foldl sumStep none = none
  | [] => rfl
  | _ :: r => sumStep_none r
theorem sumsM_no {L : Its} {k : Nat} (h : sumsM (L.take k) = none) : sumsM L = none := by
  have : sumsM L = (L.drop k).foldl sumStep (sumsM (L.take k)) := by
    unfold sumsM
    rw [← List.foldl_append, List.take_append_drop]
  rw [this, h, sumStep_none]
theorem getI_app (A B : Its) (s : Str) : getI (A ++ B) s = getI A s + getI B s := by
  unfold getI; rw [List.filter_append, sumI_app]
theorem getI_cons (p : Str × Int) (B : Its) (s : Str) : getI (p :: B) s = (if p.1 = s then p.2 else 0) + getI B s := by
  unfold getI
  rw [List.filter_cons]
  by_cases e : p.1 = s
  · rw [if_pos (by simpa using e), if_pos e, sumI_cons]
  · rw [if_neg (by simpa using e), if_neg e]; omega
theorem getI_nil (s : Str) : getI [] s = 0 := rfl
theorem getI_rise : ∀ {m : Its} (s : Str), RiseS m → getI m s = (getS m s).getD 0
  | [], _, _ => rfl
  | p :: r, s, h => by
    obtain ⟨h1, h2⟩ := List.pairwise_cons.1 h
    rw [getI_cons]
    by_cases e : p.1 = s
    · rw [if_pos e]
      have : getI r s = 0 := by
        rw [getI_rise s h2, getK_none.2 (fun y hy e2 => by have := h1 y hy; rw [e, e2] at this; exact str_irr _ this)]
        rfl
      rw [this]
      simp only [getS, if_pos e, Option.getD_some]
      omega
    · rw [if_neg e, getI_rise s h2]
      simp only [getS, if_neg e]
      omega
structure SumOk (m : Its) (L : Its) : Prop where
  rise : RiseS m
  row : ∀ p ∈ m, goodB p.1 = true ∧ 0 ≤ p.2 ∧ p.2 ≤ 1099511627776
  get : ∀ s, getI m s = getI L s
  key : ∀ p ∈ m, ∃ q ∈ L, q.1 = p.1
theorem SumOk.nil : SumOk [] [] := ⟨List.Pairwise.nil, fun p hp => (by cases hp), fun s => rfl, fun p hp => (by cases hp)⟩
theorem SumOk.nd {m L : Its} (h : SumOk m L) : (m.map (·.1)).Nodup := riseS_nd h.rise
theorem SumOk.at_ {m L : Its} (h : SumOk m L) (s : Str) : 0 ≤ (getS m s).getD 0 ∧ (getS m s).getD 0 ≤ 1099511627776 := by
  cases e : getS m s with
  | none => exact ⟨Int.le_refl _, by simp⟩
  | some v => exact (h.row _ (getK_mem e)).2
theorem SumOk.step {m L : Its} {p : Str × Int} (h : SumOk m L) (hp : badIt p = false) (hs : ¬ 1099511627776 < sumAt m p) : SumOk (putS ktS.lt m p.1 (sumAt m p)) (L ++ [p]) := by
  have hp2 : goodB p.1 = true ∧ 0 ≤ p.2 ∧ p.2 ≤ 1099511627776 := by
    unfold badIt at hp
    have h3 : (goodB p.1 && mayI p.2) = true := by simpa using hp
    rw [Bool.and_eq_true, mayI_iff] at h3
    exact h3
  have h0 := h.at_ p.1
  refine ⟨riseS_put h.rise, fun q hq => ?_, fun s => ?_, fun q hq => ?_⟩
  · rcases mem_putK.1 hq with rfl | ⟨hq, -⟩
    · refine ⟨hp2.1, ?_, ?_⟩ <;> (unfold sumAt at hs ⊢; dsimp only; omega)
    · exact h.row q hq
  · rw [getI_rise s (riseS_put h.rise), getK_put h.nd, getI_app, getI_cons, getI_nil, ← h.get s, getI_rise s h.rise]
    by_cases e : p.1 = s
    · rw [if_pos e, if_pos e]
      subst e
      simp only [Option.getD_some]
      unfold sumAt
      omega
    · rw [if_neg e, if_neg e]; omega
  · rcases mem_putK.1 hq with rfl | ⟨hq, -⟩
    · exact ⟨p, by simp, rfl⟩
    · obtain ⟨r, hr, e⟩ := h.key q hq
      exact ⟨r, by simp [hr], e⟩
theorem sumsM_ok : ∀ (B A m : Its) (m' : Its), SumOk m A → (∀ p ∈ B, badIt p = false) → B.foldl sumStep (some m) = some m' → SumOk m' (A ++ B)
  | [], A, m, m', h, _, e => by
    obtain rfl : m = m' := Option.some.inj e
    rw [List.append_nil]; exact h
  | p :: r, A, m, m', h, hb, e => by
    rw [List.foldl_cons] at e
    by_cases hs : 1099511627776 < sumAt m p
    · have : sumStep (some m) p = none := by simp only [sumStep, if_pos hs]
      rw [this, sumStep_none] at e; cases e
    · have h1 : sumStep (some m) p = some (putS ktS.lt m p.1 (sumAt m p)) := by simp only [sumStep, if_neg hs]
      rw [h1] at e
      have := sumsM_ok r (A ++ [p]) _ m' (h.step (hb p (by simp)) hs) (fun q hq => hb q (by simp [hq])) e
      rw [List.append_assoc] at this
      exact this
theorem sumsF_ok {L m : Its} (h : sumsF L = (0, m)) : SumOk m L := by
  unfold sumsF at h
  split at h
  · cases h
  · rename_i hb
    split at h
    · rename_i m' hm
      injection h with _ h
      subst h
      have hb2 : ∀ p ∈ L, badIt p = false := fun p hp => by
        cases e : badIt p with
        | false => rfl
        | true => exact absurd (List.any_eq_true.2 ⟨p, hp, e⟩) hb
      exact sumsM_ok L [] [] m' SumOk.nil hb2 hm
    · cases h
theorem getI_pos {m : Its} (h : ∀ p ∈ m, 0 ≤ p.2) (s : Str) : getI (posF m) s = getI m s := by
  induction m with
  | nil => rfl
  | cons p r ih =>
    have i1 := ih (fun q hq => h q (by simp [hq]))
    have h1 := h p (by simp)
    unfold posF at i1 ⊢
    rw [List.filter_cons]
    by_cases e : 0 < p.2
    · rw [if_pos (by simpa using e), getI_cons, getI_cons, i1]
    · rw [if_neg (by simpa using e), getI_cons, i1]
      split <;> omega
/-- A list in order: what it is. -/
structure NormOk (r L : Its) : Prop where
  rise : RiseS r
  row : ∀ p ∈ r, goodB p.1 = true ∧ 1 ≤ p.2 ∧ p.2 ≤ 1099511627776
  get : ∀ s, getI r s = getI L s
  len : r.length ≤ 16
theorem normF_ok {L r : Its} (h : normF L = (r, 0)) : NormOk r L := by
  unfold normF at h
  split at h
  · rename_i h0
    split at h
    · injection h with _ h; exact absurd h (by omega)
    · rename_i h1
      injection h with h _
      have hk : SumOk (sumsF L).2 L := sumsF_ok (Prod.ext h0 rfl)
      subst h
      refine ⟨List.Pairwise.sublist List.filter_sublist hk.rise, fun p hp => ?_, fun s => ?_, by omega⟩
      · obtain ⟨h2, h3⟩ := List.mem_filter.1 hp
        have := hk.row p h2
        have : 0 < p.2 := by simpa using h3
        exact ⟨(hk.row p h2).1, by omega, (hk.row p h2).2.2⟩
      · rw [getI_pos (fun p hp => (hk.row p hp).2.1), hk.get s]
  · rename_i h0
    injection h with _ h
    exact absurd h h0
theorem itsOk_of : ∀ {L : Its} {last : Str}, RiseS L → (∀ p ∈ L, goodB p.1 = true ∧ 1 ≤ p.2 ∧ p.2 ≤ 1099511627776 ∧ last < p.1) → itsOk last L = true
  | [], _, _, _ => rfl
  | p :: r, last, h, hx => by
    obtain ⟨h1, h2⟩ := List.pairwise_cons.1 h
    obtain ⟨a, b, c, d⟩ := hx p (by simp)
    unfold itsOk
    rw [itsOk_of h2 (fun q hq => by have := hx q (by simp [hq]); exact ⟨this.1, this.2.1, this.2.2.1, h1 q hq⟩)]
    simp only [Bool.and_eq_true, decide_eq_true_eq, mayI_iff]
    exact ⟨⟨⟨⟨a, b⟩, by omega, c⟩, d⟩, trivial⟩
theorem good_posN {s : Str} (h : goodB s = true) : ([] : Str) < s := by
  cases s with
  | nil => simp [goodB] at h
  | cons a r => exact List.nil_lt_cons a r
theorem NormOk.may {r L : Its} (h : NormOk r L) : mayL r = true := mayL_iff.2 ⟨itsOk_of h.rise (fun p hp => ⟨(h.row p hp).1, (h.row p hp).2.1, (h.row p hp).2.2, good_posN (h.row p hp).1⟩), h.len⟩
theorem mayL_all {L : Its} (h : mayL L = true) : NormOk L L := by
  have h1 := mayL_iff.1 h
  have h2 := its_all h1.1
  exact ⟨h2.1, fun p hp => ⟨(h2.2 p hp).1, (h2.2 p hp).2.1, (h2.2 p hp).2.2.1⟩, fun s => rfl, h1.2⟩
theorem plusF_ok {a b r : Its} (h : plusF a b = (r, 0)) : mayL r = true ∧ mayL a = true ∧ mayL b = true ∧ ∀ s, getI r s = getI a s + getI b s := by
  unfold plusF at h
  split at h
  · rename_i hm
    have hk := normF_ok h
    exact ⟨hk.may, hm.1, hm.2, fun s => by rw [hk.get, getI_app]⟩
  · injection h with _ h; exact absurd h (by omega)
end Go.Proofs.YtmflpeklalgibaaGreat

namespace Go.Proofs.YtmflpeklalgibaaGreat
open Go.RowKit Go.Maps
abbrev Hes := List (Int × HE)
def HE.num (x : HE) : Nat := x.he.length + x.pi.length + x.sh.length
def heOf (le : Hes) (o : Int) : HE := (getS le o).getD ⟨o, [], [], []⟩
def setE (le : Hes) (x : HE) : Hes := if x.num = 0 then delS le x.o else putS ktI.lt le x.o x
def mapE (l : List (Int × HV)) : Hes := l.map fun p => (p.1, p.2.e)
section
variable {κ ν μ : Type} [DecidableEq κ] (f : ν → μ)
theorem getS_map (l : List (κ × ν)) (x : κ) : getS (l.map fun p => (p.1, f p.2)) x = (getS l x).map f := by
  induction l with
  | nil => rfl
  | cons p r ih =>
    simp only [List.map_cons, getS]
    by_cases e : p.1 = x
    · rw [if_pos e, if_pos e]; rfl
    · rw [if_neg e, if_neg e, ih]
theorem delS_map (l : List (κ × ν)) (x : κ) : delS (l.map fun p => (p.1, f p.2)) x = (delS l x).map fun p => (p.1, f p.2) := by
  unfold delS
  rw [List.filter_map]
  rfl
omit [DecidableEq κ] in
theorem insS_map (lt : κ → κ → Bool) (x : κ × ν) : ∀ l : List (κ × ν), insS lt (x.1, f x.2) (l.map fun p => (p.1, f p.2)) = (insS lt x l).map fun p => (p.1, f p.2)
  | [] => rfl
  | y :: r => by
    show (if lt x.1 y.1 = true then _ else _) = List.map _ (if lt x.1 y.1 = true then _ else _)
    cases lt x.1 y.1
    · simp only [Bool.false_eq_true, if_false, List.map_cons, insS_map lt x r]
    · simp
theorem putS_map (lt : κ → κ → Bool) (l : List (κ × ν)) (x : κ) (v : ν) : putS lt (l.map fun p => (p.1, f p.2)) x (f v) = (putS lt l x v).map fun p => (p.1, f p.2) := by
  unfold putS
  rw [delS_map]
  exact insS_map f lt (x, v) _
end
theorem heOf_map (l : List (Int × HV)) (o : Int) : heOf (mapE l) o = (holdOf l o).e := by
  unfold heOf holdOf mapE
  rw [getS_map]
  cases getS l o <;> rfl
theorem getE_none (l : List (Int × HV)) (o : Int) : (getS (mapE l) o).isNone = (getS l o).isNone := by
  unfold mapE
  rw [getS_map]
  cases getS l o <;> rfl
theorem setE_map (l : List (Int × HV)) (x : HV) : mapE (setH l x) = setE (mapE l) x.e := by
  have h1 : x.e.num = x.num := rfl
  have h2 : x.e.o = x.o := rfl
  unfold setH setE
  rw [h1, h2]
  split
  · unfold mapE; rw [delS_map]
  · unfold mapE; rw [putS_map]
theorem mapE_len (l : List (Int × HV)) : (mapE l).length = l.length := by unfold mapE; rw [List.length_map]
/-- What Take answers, and what it leaves. -/
def takeE (A : Stk) (le : Hes) (o : Int) (L : Its) : (Its × Int) × Stk × Hes :=
  if mayO o ≠ 0 then (([], mayO o), A, le)
  else if mayL L = false then (([], 60), A, le)
  else if 0 < (heOf le o).pi.length + (heOf le o).sh.length then (([], 80), A, le)
  else if offerS A L = [] then (([], 0), A, le)
  else if (getS le o).isNone = true ∧ 256 ≤ le.length then (([], 2), A, le)
  else if (plusF (heOf le o).he (offerS A L)).2 ≠ 0 then (([], (plusF (heOf le o).he (offerS A L)).2), A, le)
  else if (doS A 2 (offerS A L)).1 ≠ 0 then (([], (doS A 2 (offerS A L)).1), A, le)
  else ((offerS A L, 0), (doS A 2 (offerS A L)).2, setE le { heOf le o with he := (plusF (heOf le o).he (offerS A L)).1 })
/-- A hold's lists, by their places. -/
def HE.get (x : HE) : Nat → Its
  | 0 => x.he
  | 1 => x.pi
  | _ => x.sh
def HE.set (x : HE) (i : Nat) (L : Its) : HE := match i with
  | 0 => { x with he := L }
  | 1 => { x with pi := L }
  | _ => { x with sh := L }
/-- What moving all of list i to list j (or to none) answers, and what it leaves. -/
def moveS (A : Stk) (le : Hes) (o k : Int) (i : Nat) (j : Option Nat) : (Its × Int) × Stk × Hes :=
  if mayO o ≠ 0 then (([], mayO o), A, le)
  else if (heOf le o).get i = [] then (([], 4), A, le)
  else match j with
    | none => if (doS A k ((heOf le o).get i)).1 ≠ 0 then (([], (doS A k ((heOf le o).get i)).1), A, le)
      else (((heOf le o).get i, 0), (doS A k ((heOf le o).get i)).2, setE le ((heOf le o).set i []))
    | some j => if (plusF ((heOf le o).get j) ((heOf le o).get i)).2 ≠ 0 then (([], (plusF ((heOf le o).get j) ((heOf le o).get i)).2), A, le)
      else if (doS A k ((heOf le o).get i)).1 ≠ 0 then (([], (doS A k ((heOf le o).get i)).1), A, le)
      else (((heOf le o).get i, 0), (doS A k ((heOf le o).get i)).2, setE le (((heOf le o).set i []).set j (plusF ((heOf le o).get j) ((heOf le o).get i)).1))
def freeE (A : Stk) (le : Hes) (o : Int) : (Its × Int) × Stk × Hes :=
  if mayO o ≠ 0 then (([], mayO o), A, le)
  else if 0 < (heOf le o).pi.length then (([], 80), A, le)
  else moveS A le o 3 0 none
def pickE (A : Stk) (le : Hes) (o : Int) := moveS A le o 4 0 (some 1)
def shipE (A : Stk) (le : Hes) (o : Int) := moveS A le o 6 1 (some 2)
/-- A shelf's lists all may be. -/
structure HEok (o : Int) (x : HE) : Prop where
  eq : x.o = o
  may : 1 ≤ o ∧ o ≤ 1099511627776
  he : mayL x.he = true
  pi : mayL x.pi = true
  sh : mayL x.sh = true
  num : x.num ≠ 0
structure ShOk (A : Stk) (le : Hes) : Prop where
  stk : SOk A
  rise : le.Pairwise (fun p q => p.1 < q.1)
  row : ∀ p ∈ le, HEok p.1 p.2
  len : le.length ≤ 256
theorem offer_len (A : Stk) (L : Its) : (offerS A L).length ≤ L.length := List.length_filterMap_le _ _
theorem heOf_o {le : Hes} {o : Int} (h : ∀ p ∈ le, p.1 = p.2.o) : (heOf le o).o = o := by
  unfold heOf
  cases e : getS le o with
  | none => rfl
  | some x => exact (h _ (getK_mem e)).symm
theorem heOf_may {le : Hes} (h : ∀ p ∈ le, HEok p.1 p.2) (o : Int) : mayL (heOf le o).he = true ∧ mayL (heOf le o).pi = true ∧ mayL (heOf le o).sh = true := by
  unfold heOf
  cases e : getS le o with
  | none => exact ⟨rfl, rfl, rfl⟩
  | some x =>
    have := h _ (getK_mem e)
    exact ⟨this.he, this.pi, this.sh⟩
theorem heOf_len {le : Hes} (h : ∀ p ∈ le, HEok p.1 p.2) (o : Int) : (heOf le o).he.length ≤ 16 ∧ (heOf le o).pi.length ≤ 16 ∧ (heOf le o).sh.length ≤ 16 := by
  have := heOf_may h o
  exact ⟨(mayL_iff.1 this.1).2, (mayL_iff.1 this.2.1).2, (mayL_iff.1 this.2.2).2⟩
end Go.Proofs.YtmflpeklalgibaaGreat

namespace Go.Proofs.YtmflpeklalgibaaGreat
open Go.RowKit Go.Maps Go.Sort Go.Shelf Go.Proofs
theorem sortsS (m : Nat) : AnyZ.SortsIn Tryz.prog Tryz.laysSortedS_ren Fence.wide m :=
  ⟨fun blk off cap ss W hH hblk hsz => callsIn_wide.2 (AnyM.slices_Sort_string Tryz.laysSortS blk off cap ss W hH hblk hsz),
   fun p cap W => callsIn_wide.2 (AnyM.slices_Sort_string_none Tryz.laysSortS p cap W)⟩
/-- A map's keys as an iterator, and its sorted row: both contracts, at a map of strings. -/
theorem keysSorted {ν : Type} (w : World) (b : Nat) (enc : ν → Value) (l : List (Str × ν)) (h : Mp Tryz.prog w 9 ktS enc b l) (hl : (l.length : Int) ≤ 1099511627776) :
    CallsIn Fence.wide 5 Tryz.prog 94 #[.map (some b)] w (fun e w' => e = .returned (.func (.func 114) #[] #[.pointer (some ⟨w.heap.size, 0, none⟩)]) ∧ w' = w.alloc (.cells #[.map (some b)] 84)) ∧
    CallsIn Fence.wide 5 Tryz.prog 93 #[.func (.func 114) #[] #[.pointer (some ⟨w.heap.size, 0, none⟩)]] (w.alloc (.cells #[.map (some b)] 84)) (fun e w' => ∃ v, e = .returned v ∧ w'.ownsRow w.heap.size 9 1 v l.length (l.map fun p => vS p.1) ∧ Below w.heap.size w w') := by
  obtain ⟨nn, hown⟩ := id h
  have hord := riseS_of (h.ok (koS Tryz.underlying9)).2
  have hsz : Maps.size (ktS.dat enc l) = l.length := dat_size ktS enc l
  have hk : strKeys (ktS.dat enc l) = l.map (·.1) := strKeys_dat enc l
  have hsort : ∀ ss : List Str, ss.Perm (l.map (·.1)) → ss.mergeSort (fun x y => decide (x ≤ y)) = l.map (·.1) := fun ss hp => strs_sorted hord hp
  have hbl := hown.lt
  have hseq : SeqGives Fence.wide 2 Tryz.prog 114 #[.pointer (some ⟨w.heap.size, 0, none⟩)] encStr (fun ss => ss.Perm (strKeys (ktS.dat enc l))) (Maps.size (ktS.dat enc l)) (w.alloc (.cells #[.map (some b)] 84)) :=
    AnyZ.keys_gives (ρ := Tryz.laysKeysS_ren) { Tryz.laysKeysS with } Fence.wide _ trivial rfl (by omega) w.heap.size b nn _ _ (by simp) (by simp) (by
      obtain ⟨es, clock, hb, Ft, hs, hD⟩ := hown
      exact ⟨es, clock, (Below.heap_alloc _ _ b hbl).trans hb, Ft, hs, hD⟩)
  refine ⟨AnyZ.keys_in Tryz.laysKeysS Fence.wide 5 trivial rfl (some b) w, ?_⟩
  have cS := AnyZ.sorted_in Tryz.laysSortedS Fence.wide 5 trivial trivial trivial trivial rfl (by omega) (sortsS _) (enters_of Tryz.func113 (by kernel_rfl) rfl) 114 #[.pointer (some ⟨w.heap.size, 0, none⟩)] trivial (enters_of Tryz.func114 (by kernel_rfl) rfl) _ _ (by rw [hsz]; unfold maxLen; omega) (by rw [hsz]; omega) _ hseq
  change CallsIn _ _ Tryz.prog 93 _ _ _ at cS
  refine cS.mono ?_
  rintro e w' ⟨v, ss, rfl, hS, hrow, hnil, hb⟩
  rw [hk] at hS
  rw [hsort ss hS] at hrow
  have hlen : ss.length = l.length := by rw [hS.length_eq]; simp
  rw [hlen, List.map_map] at hrow
  exact ⟨v, rfl, ownsRow_base_a hrow (by simp), ((Below.refl _ w).alloc (Nat.le_refl _) _).trans (hb.mono (by simp))⟩
end Go.Proofs.YtmflpeklalgibaaGreat

namespace Go.Proofs.YtmflpeklalgibaaGreat
open Go.RowKit
/-- A world in which all that was there in w lies as it did. -/
structure FrW (w : World) where
  val : World
  fr : Fr (fun _ => False) w val
instance frW_nonempty (w : World) : Nonempty (FrW w) := ⟨⟨w, Fr.refl _ w⟩⟩
theorem FrW.cell {w : World} {p : Addr} {v : Value} (hc : w.cell? p = some v) (X : FrW w) : X.val.cell? p = some v := X.fr.cell hc (fun h => h)
theorem FrW.at_ {w : World} {b : Nat} {o : Obj} (hc : w.heap[b]? = some o) (X : FrW w) : X.val.heap[b]? = some o := X.fr.at_ hc (fun h => h)
theorem wp_region_fr {P : Program} {id : Nat} {Q : Exit → Act → World → Prop} {a : Act} {w : World} {l : List Oper} (hm : P.follows .mixedOrders = true) (hB : Region.lexB .any l.toArray = true)
    (h : wpQuiet P l.toArray (fun w' => ∃ X : FrW w, w' = X.val) (fun a' => ∀ w', (∃ X : FrW w, w' = X.val) → Q .normal a' w') l a) : (Code.region id l.toArray true).wp P Q a w :=
  wp_region_quiet (C := fun w' => ∃ X : FrW w, w' = X.val) hm hB ⟨⟨_, (Fr.refl _ w).drew⟩, rfl⟩ (by simpa using h)
end Go.Proofs.YtmflpeklalgibaaGreat

namespace Go.Proofs.YtmflpeklalgibaaGreat
open Go.RowKit Go.Maps
theorem sum_wraps {r : SR} (h : SRb r) : IntKind.i64.wrap (r.free + r.held) = r.free + r.held ∧ IntKind.i64.wrap (r.free + r.held + r.picked) = r.free + r.held + r.picked ∧ IntKind.i64.wrap (r.free + r.held + r.picked + r.aside) = r.free + r.held + r.picked + r.aside := by
  obtain ⟨a0, a1, a2, a3, -, -, -, -, -, -⟩ := h
  refine ⟨?_, ?_, ?_⟩ <;> (rw [IntKind.wrap_i64]; omega)
set_option maxRecDepth 100000 in
set_option maxHeartbeats 4000000 in
theorem sRight (w : World) (b : Nat) (r : SR) (h : RowAt w b r) : Calls Tryz.prog 91 #[.pointer (some ⟨b, 0, none⟩)] w fun e w' => e = .returned (.bool r.right) ∧ Fr (fun _ => False) w w' := by
  have HEv := Lib.hid (fun X : FrW w => sEach X.val b r (X.at_ h))
  cases hE : r.each with
  | false =>
    have e : r.right = false := by simp [SR.right, hE]
    rw [e]
    rw [hE] at HEv
    clear h hE e
    go_enter Tryz.func91, Tryz.ntmps91
    go_wp2_with fail
    refine wp_region_fr (by kernel_rfl) (by kernel_rfl) ?_
    repeat (go_big_quiet_step ((go_at_call 111; rename_i X; refine (HEv.out X).mono ?_; rintro e w1 ⟨rfl, hF⟩; exact ⟨rfl, ⟨w1, X.fr.trans hF⟩, rfl⟩)))
    refine wpQuiet_nil ?_
    rintro _ ⟨⟨V, hV⟩, rfl⟩
    go_wp2_with fail
    go_ret
    exact ⟨rfl, hV⟩
  | true =>
    have e : r.right = mayI r.sum := by simp [SR.right, hE]
    rw [e]
    obtain ⟨w1, w2, w3⟩ := sum_wraps (SR.each_iff.1 hE)
    rw [hE] at HEv
    obtain ⟨S, hS⟩ : ∃ S, mayI r.sum = S := ⟨_, rfl⟩
    have HMv := Lib.hid (fun W => kMay W r.sum)
    rw [hS] at HMv ⊢
    unfold SR.sum at HMv
    have p0 := FrW.cell (cell_obj h 0 (.int .i64 r.free) rfl)
    have p1 := FrW.cell (cell_obj h 1 (.int .i64 r.held) rfl)
    have p2 := FrW.cell (cell_obj h 2 (.int .i64 r.picked) rfl)
    have p3 := FrW.cell (cell_obj h 3 (.int .i64 r.aside) rfl)
    clear h hE e hS
    go_enter Tryz.func91, Tryz.ntmps91
    go_wp2_with fail
    refine wp_region_fr (by kernel_rfl) (by kernel_rfl) ?_
    repeat (go_big_quiet_step (first | (go_at_call 111; rename_i X; refine (HEv.out X).mono ?_; rintro e w1 ⟨rfl, hF⟩; exact ⟨rfl, ⟨w1, X.fr.trans hF⟩, rfl⟩) | (go_at_call 78; rename_i X; refine (HMv.out _).mono ?_; rintro e w2 ⟨rfl, rfl⟩; exact ⟨rfl, X, rfl⟩)))
    refine wpQuiet_nil ?_
    rintro _ ⟨⟨V, hV⟩, rfl⟩
    go_wp2_with fail
    go_ret
    exact ⟨rfl, hV⟩
def SR.lev (r : SR) : Value := .agg #[.int .i64 r.free, .int .i64 r.held, .int .i64 r.picked, .int .i64 r.aside]
end Go.Proofs.YtmflpeklalgibaaGreat

namespace Go.Proofs.YtmflpeklalgibaaGreat
open Go.RowKit Go.Maps
theorem mp_row {w : World} {m : Nat} {A : Stk} {s : Str} (h : Mp Tryz.prog w 9 ktS SR.enc m A) (hs : okS s) : (Instr.lookup 84 (.map (some m)) (vS s) false).run Tryz.prog w = .ok (rowAt A s).enc w := by
  have := h.look kS Tryz.underlying84 (zeroSR w) (x := s) hs
  unfold rowAt
  cases e : getS A s <;> rw [e] at this <;> exact this
theorem mp_row_ok {w : World} {m : Nat} {A : Stk} {s : Str} (h : Mp Tryz.prog w 9 ktS SR.enc m A) (hs : okS s) : (Instr.lookup 84 (.map (some m)) (vS s) true).run Tryz.prog w = .ok (.tuple #[(rowAt A s).enc, .bool (getS A s).isSome]) w := by
  have := h.look_ok kS Tryz.underlying84 (zeroSR w) (x := s) hs
  unfold rowAt
  cases e : getS A s <;> rw [e] at this <;> exact this
theorem SA.cell {w : World} {g : Nat} {TS : Nat → Prop} {A : Stk} (h : SA w g TS A) : ∃ m, w.cell? ⟨g, 0, none⟩ = some (.map (some m)) ∧ Mp Tryz.prog w 9 ktS SR.enc m A ∧ TS m := by
  obtain ⟨⟨m, h1, h2, h3⟩, -, -⟩ := h
  exact ⟨m, cell_obj h1 0 _ rfl, h2, h3⟩
set_option maxRecDepth 100000 in
set_option maxHeartbeats 2000000 in
theorem sLevel (w : World) (g : Nat) (TS : Nat → Prop) (A : Stk) (s : Str) (h : SA w g TS A) (hs : okS s) :
    Calls Tryz.prog 12 #[.pointer (some ⟨g, 0, none⟩), vS s] w fun e w' => e = .returned (rowAt A s).lev ∧ Fr (fun _ => False) w w' := by
  have h1 := h.fr ((Fr.refl (fun _ => False) w).alloc (.cells #[.int .i64 0, .int .i64 0, .int .i64 0, .int .i64 0] 47)) (fun _ _ h => h)
  obtain ⟨m, hc, hm, -⟩ := h1.cell
  have hlk := mp_row hm hs
  have hmd := Lib.hid (smade _ g m hc)
  unfold SR.lev
  unfold SR.enc SR.cs at hlk
  generalize rowAt A s = r at hlk ⊢
  obtain ⟨f0, f1, f2, f3, f4, f5, f6, f7, f8, f9, f10⟩ := r
  dsimp only at hlk ⊢
  have hfl : ∀ W, (Instr.field 83 (.agg #[.int .i64 f0, .int .i64 f1, .int .i64 f2, .int .i64 f3, .int .i64 f4, .int .i64 f5, .int .i64 f6, .int .i64 f7, .int .i64 f8, .int .i64 f9, .int .i64 f10]) 0).run Tryz.prog W = .ok (.agg #[.int .i64 f0, .int .i64 f1, .int .i64 f2, .int .i64 f3]) W := fun W => by kernel_rfl
  clear h h1 hm
  go_enter Tryz.func12, Tryz.ntmps12
  go_wp2_with (go_at_call 34; refine hmd.out.mono ?_; rintro e w' ⟨rfl, rfl⟩)
  go_returns
  exact ⟨rfl, (Fr.refl _ _).alloc _⟩
theorem sClone (w : World) (m : Nat) (A : Stk) (h : Mp Tryz.prog w 9 ktS SR.enc m A) : Calls Tryz.prog 88 #[.map (some m)] w fun e w' => e = .returned (.map (some w.heap.size)) ∧ Mp Tryz.prog w' 9 ktS SR.enc w.heap.size A ∧ Below w.heap.size w w' := by
  obtain ⟨n, hown⟩ := h
  have hcon := AnyW.maps_Clone_owns Tryz.laysCloneS 9 _ m n _ w hown
  change Calls Tryz.prog 88 _ _ _ at hcon
  refine hcon.mono ?_
  rintro e w' ⟨rfl, h1, _, hB⟩
  exact ⟨rfl, ⟨n, h1⟩, hB⟩
set_option maxRecDepth 100000 in
set_option maxHeartbeats 2000000 in
theorem sFork (w : World) (g : Nat) (TS : Nat → Prop) (A : Stk) (h : SA w g TS A) :
    Calls Tryz.prog 65 #[.pointer (some ⟨g, 0, none⟩)] w fun e w' => ∃ g' TS', e = .returned (.pointer (some ⟨g', 0, none⟩)) ∧ SA w' g' TS' A ∧ Fr (fun _ => False) w w' ∧ ∀ b, TS' b → w.heap.size ≤ b := by
  obtain ⟨m, hc, hm, -⟩ := h.cell
  have hmd := Lib.hid (smade _ g m hc)
  have hcl := Lib.hid (sClone w m A hm)
  clear h hm
  go_enter Tryz.func65, Tryz.ntmps65
  go_wp2_with (first
    | (go_at_call 34; refine hmd.out.mono ?_; rintro e w' ⟨rfl, rfl⟩)
    | (go_at_call 88; refine hcl.out.mono ?_; rintro e w1 ⟨rfl, h1, hB⟩; have H1 := Lib.hid h1; have HB := Lib.hid hB; clear h1 hB))
  go_ret
  have hsz := HB.out.size
  have hlt := H1.out.lt
  refine ⟨_, fun b => b = w.heap.size ∨ b = w1.heap.size, rfl, ⟨⟨_, heap_new _ _, H1.out.alloc _, .inl rfl⟩, .inr rfl, fun b hb => by simp; omega⟩, (Fr.below HB.out).alloc _, fun b hb => by omega⟩
end Go.Proofs.YtmflpeklalgibaaGreat

namespace Go.Proofs.YtmflpeklalgibaaGreat
open Go.RowKit Go.Maps
set_option maxRecDepth 100000 in
set_option maxHeartbeats 4000000 in
theorem sCount (w : World) (g : Nat) (TS : Nat → Prop) (A : Stk) (s : Str) (n : Int) (h : SA w g TS A) (hs : okS s) (hA : SOk A) :
    Calls Tryz.prog 95 #[.pointer (some ⟨g, 0, none⟩), vS s, .int .i64 n] w fun e w' => e = .returned (.tuple #[.int .i64 (countS A s n).1, .int .i64 (countS A s n).2.1]) ∧ SA w' g TS (countS A s n).2.2 ∧ Fr TS w w' := by
  have HSA := Lib.hid h
  have h1 := h.fr ((Fr.refl (fun _ => False) w).alloc (.cells (rowAt A s).cs 83)) (fun _ _ h => h)
  have HS1 := Lib.hid h1
  obtain ⟨m, hc, hm, hTm⟩ := h.cell
  have hlk := mp_row_ok hm hs
  have hmd := Lib.hid (smade _ g m hc)
  have hok := hA.at_ s
  have hMay := Lib.hid (fun W => kMay W n)
  have hHM := Lib.hid hm
  clear h h1 hm
  cases hn : mayI n with
  | false =>
    have e : countS A s n = (0, 1, A) := by simp [countS, hn]
    rw [e]
    rw [hn] at hMay
    dsimp only
    unfold SR.enc at hlk
    obtain ⟨R, hR⟩ : ∃ R, rowAt A s = R := ⟨_, rfl⟩
    rw [hR] at hlk HS1
    unfold SR.cs at hlk HS1
    obtain ⟨B, hB⟩ : ∃ B, (getS A s).isSome = B := ⟨_, rfl⟩
    rw [hB] at hlk
    clear e hn hok hR hB
    go_enter Tryz.func95, Tryz.ntmps95
    go_wp2_with (first
      | (go_at_call 34; refine hmd.out.mono ?_; rintro e w' ⟨rfl, rfl⟩)
      | (go_at_call 78; refine (hMay.out _).mono ?_; rintro e w' ⟨rfl, rfl⟩))
    go_ret2
    exact ⟨rfl, HS1.out, (Fr.refl _ _).alloc _⟩
  | true =>
    rw [hn] at hMay
    obtain ⟨n0, n1⟩ := mayI_iff.1 hn
    cases hg : getS A s with
    | none =>
      have e : countS A s n = (0, 71, A) := by simp [countS, hn, hg]
      rw [e]
      rw [hg] at hlk
      dsimp only [Option.isSome] at hlk ⊢
      unfold SR.enc at hlk
      obtain ⟨R, hR⟩ : ∃ R, rowAt A s = R := ⟨_, rfl⟩
      rw [hR] at hlk HS1
      unfold SR.cs at hlk HS1
      clear e hn hok hR hg n0 n1
      go_enter Tryz.func95, Tryz.ntmps95
      go_wp2_with (first
        | (go_at_call 34; refine hmd.out.mono ?_; rintro e w' ⟨rfl, rfl⟩)
        | (go_at_call 78; refine (hMay.out _).mono ?_; rintro e w' ⟨rfl, rfl⟩))
      go_ret2
      exact ⟨rfl, HS1.out, (Fr.refl _ _).alloc _⟩
    | some r =>
      have hr : rowAt A s = r := by simp [rowAt, hg]
      rw [hr] at hlk HS1 hok
      rw [hg] at hlk
      dsimp only [Option.isSome] at hlk
      have hcs : countS A s n = (if n < r.held then (0, 70, A) else if (SR.mk (r.free + (n - r.held - r.free)) r.held r.picked r.aside r.received r.returned (r.counted + (n - r.held - r.free)) r.came r.shipped r.scrapped r.sent).right = true then (n - r.held - r.free, 0, putS ktS.lt A s (SR.mk (r.free + (n - r.held - r.free)) r.held r.picked r.aside r.received r.returned (r.counted + (n - r.held - r.free)) r.came r.shipped r.scrapped r.sent)) else (0, 50, A)) := by
        simp only [countS, hn, hg]
        rfl
      rw [hcs]
      have hcb := hok.counted
      obtain ⟨a0, a0'⟩ := hok.b.a0
      obtain ⟨a1, a1'⟩ := hok.b.a1
      obtain ⟨c0, c1⟩ := hcb
      unfold SR.enc SR.cs at hlk
      unfold SR.cs at HS1
      have HOK := Lib.hid hok
      obtain ⟨f0, f1, f2, f3, f4, f5, f6, f7, f8, f9, f10⟩ := r
      dsimp only at hlk HS1 a0 a0' a1 a1' c0 c1 ⊢
      clear hn hcs hr hg hok
      by_cases hlt : n < f1
      · rw [if_pos hlt]
        go_enter Tryz.func95, Tryz.ntmps95
        go_wp2_with (first
          | (go_at_call 34; refine hmd.out.mono ?_; rintro e w' ⟨rfl, rfl⟩)
          | (go_at_call 78; refine (hMay.out _).mono ?_; rintro e w' ⟨rfl, rfl⟩))
        go_ret2
        exact ⟨rfl, HS1.out, (Fr.refl _ _).alloc _⟩
      · rw [if_neg hlt]
        have hb2 : RowAt (w.alloc (.cells #[.int .i64 (f0 + (n - f1 - f0)), .int .i64 f1, .int .i64 f2, .int .i64 f3, .int .i64 f4, .int .i64 f5, .int .i64 (f6 + (n - f1 - f0)), .int .i64 f7, .int .i64 f8, .int .i64 f9, .int .i64 f10] 83)) w.heap.size ⟨f0 + (n - f1 - f0), f1, f2, f3, f4, f5, f6 + (n - f1 - f0), f7, f8, f9, f10⟩ := heap_new _ _
        have HRt := Lib.hid (sRight _ _ _ hb2)
        have HB2 := Lib.hid hb2
        obtain ⟨rt, hrt⟩ : ∃ rt, (SR.mk (f0 + (n - f1 - f0)) f1 f2 f3 f4 f5 (f6 + (n - f1 - f0)) f7 f8 f9 f10).right = rt := ⟨_, rfl⟩
        rw [hrt] at HRt ⊢
        have HRT := Lib.hid hrt
        clear hb2 hrt
        cases rt with
        | false =>
          simp only [Bool.false_eq_true, if_false]
          go_enter Tryz.func95, Tryz.ntmps95
          go_wp2_with (first
            | (go_at_call 34; refine hmd.out.mono ?_; rintro e w' ⟨rfl, rfl⟩)
            | (go_at_call 78; refine (hMay.out _).mono ?_; rintro e w' ⟨rfl, rfl⟩)
            | (go_at_call 91; refine HRt.out.mono ?_; rintro e w2 ⟨rfl, hF2⟩; have HF2 := Lib.hid hF2; clear hF2))
          go_ret2
          have hF : Fr (fun _ => False) w w2 := ((Fr.refl _ w).alloc _).trans HF2.out
          exact ⟨rfl, HSA.out.fr hF (fun _ _ h => h), hF.mono (fun _ _ h => h.elim)⟩
        | true =>
          simp only [if_true]
          have hg' : w.heap[g]? = some (.cells #[.map (some m)] 86) := by
            obtain ⟨⟨m', e1, e2, e3⟩, -, -⟩ := HSA.out
            have := cell_obj e1 0 _ rfl
            rw [hc] at this
            cases this
            exact e1
          have HG := Lib.hid hg'
          have hgS : TS g := HSA.out.own
          have hst : ∀ W, Fr (fun _ => False) w W → ∃ w', (Instr.mapUpdate 84 (.map (some m)) (vS s) (.agg #[.int .i64 (f0 + (n - f1 - f0)), .int .i64 f1, .int .i64 f2, .int .i64 f3, .int .i64 f4, .int .i64 f5, .int .i64 (f6 + (n - f1 - f0)), .int .i64 f7, .int .i64 f8, .int .i64 f9, .int .i64 f10])).run Tryz.prog W = .ok () w' ∧ Mp Tryz.prog w' 9 ktS SR.enc m (putS ktS.lt A s ⟨f0 + (n - f1 - f0), f1, f2, f3, f4, f5, f6 + (n - f1 - f0), f7, f8, f9, f10⟩) ∧ W.mapTurned w' m := fun W hW =>
            (hW.mp hHM.out (fun h => h)).store kS Tryz.underlying84 (by have := hA.len; omega) hs (SR.mk (f0 + (n - f1 - f0)) f1 f2 f3 f4 f5 (f6 + (n - f1 - f0)) f7 f8 f9 f10)
          have HST := Lib.hid hst
          clear hg' hst
          go_enter Tryz.func95, Tryz.ntmps95
          go_wp2_with (first
            | (go_at_call 34; refine hmd.out.mono ?_; rintro e w' ⟨rfl, rfl⟩)
            | (go_at_call 78; refine (hMay.out _).mono ?_; rintro e w' ⟨rfl, rfl⟩)
            | (go_at_call 91; refine HRt.out.mono ?_; rintro e w2 ⟨rfl, hF2⟩; have HF2 := Lib.hid hF2; clear hF2))
          refine wp_region_still_tail 6 (by kernel_rfl) (by kernel_rfl) ?_
          simp only [List.take_succ_cons, List.take_zero, List.drop_succ_cons, List.drop_zero]
          have hF : Fr (fun _ => False) w w2.drew := (((Fr.refl _ w).alloc _).trans HF2.out).drew
          have hB3 : RowAt w2.drew w.heap.size ⟨f0 + (n - f1 - f0), f1, f2, f3, f4, f5, f6 + (n - f1 - f0), f7, f8, f9, f10⟩ := HF2.out.at_ HB2.out (fun h => h)
          change wpStill _ _ w2.drew (fun a' => wpList _ _ _ _ a' w2.drew) _ _
          generalize w2.drew = V at hF hB3 ⊢
          obtain ⟨w5, hst5, hm5, ht5⟩ := HST.out V hF
          have cg := cell_obj (hF.at_ HG.out (fun h => h)) 0 (.map (some m)) rfl
          have d0 := cell_obj hB3 0 (.int .i64 (f0 + (n - f1 - f0))) rfl
          have d1 := cell_obj hB3 1 (.int .i64 f1) rfl
          have d2 := cell_obj hB3 2 (.int .i64 f2) rfl
          have d3 := cell_obj hB3 3 (.int .i64 f3) rfl
          have d4 := cell_obj hB3 4 (.int .i64 f4) rfl
          have d5 := cell_obj hB3 5 (.int .i64 f5) rfl
          have d6 := cell_obj hB3 6 (.int .i64 (f6 + (n - f1 - f0))) rfl
          have d7 := cell_obj hB3 7 (.int .i64 f7) rfl
          have d8 := cell_obj hB3 8 (.int .i64 f8) rfl
          have d9 := cell_obj hB3 9 (.int .i64 f9) rfl
          have d10 := cell_obj hB3 10 (.int .i64 f10) rfl
          have HF := Lib.hid hF; have HM5 := Lib.hid hm5; have HT5 := Lib.hid ht5
          clear hF hB3 hm5 ht5
          repeat still_step
          refine wpStill_nil ?_
          go_wp2_with fail
          go_ret2
          have hF5 : Fr (fun b => b = m) w w5 := (HF.out.mono (fun _ _ h => h.elim)).trans' (Fr.turned (S := fun b => b = m) HT5.out rfl) (fun b _ e => e)
          have hne : g ≠ m := map_ne_cells hHM.out HG.out
          refine ⟨rfl, ⟨⟨m, hF5.at_ HG.out hne, HM5.out, hTm⟩, hgS, fun b hb => Nat.lt_of_lt_of_le (HSA.out.lt b hb) hF5.size⟩, hF5.mono (fun b _ e => e ▸ hTm)⟩
end Go.Proofs.YtmflpeklalgibaaGreat

namespace Go.Proofs.YtmflpeklalgibaaGreat
open Go.RowKit Go.Maps
attribute [local go_sem] Oper.semAt_some
theorem itsOk_cons (last : Str) (p : Str × Int) (r : Its) : itsOk last (p :: r) = (goodB p.1 && decide (1 ≤ p.2) && mayI p.2 && decide (last < p.1) && itsOk p.1 r) := rfl
/-- Two blocks of the call's own are as told, and all else that was there is as it was. -/
structure MyI (w0 w : World) (n0 : Nat) (r : Bool) (last : Str) : Prop where
  res : w.heap[n0]? = some (.cells #[.bool r] 4)
  last : w.heap[n0 + 1]? = some (.cells #[vS last] 9)
  fr : Fr (fun b => n0 ≤ b) w0 w
theorem MyI.fa {B : Nat} {w0 w w' : World} {n0 : Nat} {r : Bool} {last : Str} (h : MyI w0 w n0 r last) (hf : Fa B w w') (hB : w0.heap.size ≤ B) : MyI w0 w' n0 r last :=
  ⟨Fa.cells hf h.res, Fa.cells hf h.last, h.fr.trans' hf (fun b hb e => by have := e.1; omega)⟩
theorem MyI.keep {w0 w w' : World} {n0 : Nat} {r : Bool} {last : Str} (h : MyI w0 w n0 r last) (hf : Fr (fun _ => False) w w') : MyI w0 w' n0 r last :=
  ⟨hf.at_ h.res (fun h => h), hf.at_ h.last (fun h => h), h.fr.trans' hf (fun _ _ e => e.elim)⟩
theorem MyI.putL {w0 w : World} {n0 : Nat} {r : Bool} {last : Str} (h : MyI w0 w n0 r last) (s : Str) : MyI w0 (w.setCell ⟨n0 + 1, 0, none⟩ (vS s)) n0 r s := by
  have hF : Fr (fun b => b = n0 + 1) w (w.setCell ⟨n0 + 1, 0, none⟩ (vS s)) := (Fr.refl (fun b => b = n0 + 1) w).setCell (p := ⟨n0 + 1, 0, none⟩) (fun _ => rfl) _
  exact ⟨hF.at_ h.res (by omega), obj_set h.last 0 _, h.fr.trans' hF (fun b _ e => by omega)⟩
theorem MyI.putR {w0 w : World} {n0 : Nat} {r : Bool} {last : Str} (h : MyI w0 w n0 r last) (b : Bool) : MyI w0 (w.setCell ⟨n0, 0, none⟩ (.bool b)) n0 b last := by
  have hF : Fr (fun b => b = n0) w (w.setCell ⟨n0, 0, none⟩ (.bool b)) := (Fr.refl (fun b => b = n0) w).setCell (p := ⟨n0, 0, none⟩) (fun _ => rfl) _
  exact ⟨obj_set h.res 0 _, hF.at_ h.last (by omega), h.fr.trans' hF (fun b _ e => by omega)⟩
def MyJ (w0 : World) (n0 : Nat) (L : Its) (k : Nat) (_ : Nat → Prop) (W : World) : Prop := ∃ last, MyI w0 W n0 false last ∧ itsOk [] L = itsOk last (L.drop k)
def MyX (w0 : World) (n0 : Nat) (L : Its) (c : Code) (_ : Nat) (_ : Nat → Prop) (W : World) : Prop := c = .ret ∧ itsOk [] L = false ∧ ∃ last, MyI w0 W n0 false last
set_option maxRecDepth 100000 in
set_option maxHeartbeats 8000000 in
theorem iMay (w : World) (v : Value) (L : Its) (h : Il w v L) : Calls Tryz.prog 44 #[v] w fun e w' => e = .returned (.bool (mayL L)) ∧ Fr (fun _ => False) w w' := by
  obtain ⟨n0, hn0⟩ : ∃ n0, w.heap.size = n0 := ⟨_, rfl⟩
  have HS := Lib.hid hn0
  have HL := Lib.hid h
  have hob := h.lt
  have HOB := Lib.hid hob
  have hokl : Hid (∀ (k : Nat) (p : Str × Int), L[k]? = some p → okS p.1) := Lib.hid (fun k p hp => by obtain ⟨_, _, _, _, hx⟩ := h; exact (hx k p hp).1)
  obtain ⟨a, c, rfl⟩ := h.sl
  obtain ⟨N, hN⟩ : ∃ N, L.length = N := ⟨_, rfl⟩
  have HN := Lib.hid hN
  have hNb : (N : Int) ≤ 9223372036854775807 := by have := h.1; omega
  rw [hN] at HL HOB ⊢
  clear h hob hN
  refine (callsIn_wide (n := 0)).1 ?_
  refine callsIn_of_wp_marks Tryz.func44 rfl trivial ?_ rfl
  simp only [Tryz.ntmps44, List.size_toArray, List.length_cons, List.length_nil, Nat.reduceAdd, Nat.reduceSub, Array.replicate_succ, Array.replicate_zero, List.push_toArray, List.append_toArray, List.nil_append, List.cons_append]
  have hfn : ∀ f, Fence.wide.fn f := fun _ => trivial
  have hdp : Fence.wide.depth.isSome = false := rfl
  gi_wp2_with (gi_at_call 69; refine (callsIn_wide.2 (iAll _ _ _ _)).mono ?_; rintro e w1 ⟨rfl, rfl⟩)
  have hI0 : MyI w (((w.alloc (.cells #[.bool false] 4)).alloc (.cells #[vS []] 9)).alloc (.cells #[.slice a N c] 23)) n0 false [] := by
    refine ⟨heap_keep (heap_keep (heap_at hn0.symm _) _) _, heap_keep (heap_at (by simp; omega) _) _, (((Fr.refl _ w).alloc _).alloc _).alloc _⟩
  have hB0 : Boxed (((w.alloc (.cells #[.bool false] 4)).alloc (.cells #[vS []] 9)).alloc (.cells #[.slice a N c] 23)) (n0 + 2) 23 (.slice a N c) := heap_at (by simp; omega) _
  obtain ⟨W0, hW0⟩ : ∃ W0, (((w.alloc (.cells #[.bool false] 4)).alloc (.cells #[vS []] 9)).alloc (.cells #[.slice a N c] 23)) = W0 := ⟨_, rfl⟩
  have hs0 : W0.heap.size = n0 + 3 := by rw [← hW0]; simp; omega
  rw [hW0] at hI0 hB0 ⊢
  have hL0 := HL.out.fr hI0.fr (fun b hb => by omega)
  have HI0 := Lib.hid hI0; have HS0 := Lib.hid hs0
  clear hW0 hI0
  refine rangeX (w0 := W0) (X := L) (S := fun b => b = n0 ∨ b = n0 + 1) rfl (enters_of Tryz.func101 (by kernel_rfl) rfl)
    (iAll1 _ W0 (n0 + 2) _ L hB0 hL0 (by omega) (fun hl b hb e => by have := HOB.out hl b e; omega)) (Below.refl _ _) (fun b hb => by omega) (fun _ => rfl)
    (MyJ w n0 L) (MyX w n0 L)
    (fun k C W W' hs hf => by obtain ⟨l, h1, h2⟩ := hs; exact ⟨l, h1.fa hf (by omega), h2⟩) (fun c k C W W' hs hf => by obtain ⟨e, e2, l, h1⟩ := hs; exact ⟨e, e2, l, h1.fa hf (by omega)⟩)
    ⟨[], HI0.out, rfl⟩ ?round ?done ?stop
  case round =>
    rintro lp k x C W hx hlp hi hr
    dsimp only [encIt]
    gi_wp2
    refine Took.mk (Fr.refl _ _) hi ?_
    rintro Wb ⟨last, hM, hrest⟩ hrb hf hsz hsw hCC _
    have hdr : L.drop k = x :: L.drop (k + 1) := List.drop_eq_getElem?_toList_append |>.trans (by rw [hx]; rfl)
    rw [hdr, itsOk_cons] at hrest
    have hok := hokl.out k x hx
    obtain ⟨g, n⟩ := x
    dsimp only at hrest hok ⊢
    have HM := Lib.hid hM; have HOK := Lib.hid hok
    clear hM hok hi hr hf hrb hdr hx
    by_cases hg : goodB g = true
    · rw [hg, Bool.true_and] at hrest
      by_cases h1 : 1 ≤ n
      · rw [decide_eq_true h1, Bool.true_and] at hrest
        cases hm : mayI n with
        | false =>
          have HNO : Hid (itsOk [] L = false) := Lib.hid (by rw [hrest, hm]; rfl)
          clear hrest
          gi_wp2_with (first
        | (gi_at_call 77; refine (callsIn_wide.2 (iGood _ g HOK.out)).mono ?_; rw [hg]; rintro e w2 ⟨rfl, hf2⟩; have hM2 := HM.out.keep hf2; have HM2 := Lib.hid hM2; have HF2 := Lib.hid hf2; have c0 := cell_obj hM2.last 0 (vS last) rfl; have f0 := obj_frozen hM2.last 0; have cr := cell_obj hM2.res 0 (.bool false) rfl; have fr := obj_frozen hM2.res 0; clear hM2 hf2)
        | (gi_at_call 78; refine (callsIn_wide.2 (kMay _ n)).mono ?_; rw [hm]; rintro e w3 ⟨rfl, rfl⟩))
          refine ⟨(HF2.out.mono (fun _ _ e => e.elim)).setCell (p := ⟨n0, 0, none⟩) (fun _ => .inl (.inl rfl)) _, rfl, HNO.out, last, HM2.out.putR false⟩
        | true =>
          rw [hm, Bool.true_and] at hrest
          rcases str_tri last g with hlt | heq | hgt
          · have HYES : Hid (itsOk [] L = itsOk g (L.drop (k + 1))) := Lib.hid (by rw [hrest, decide_eq_true hlt, Bool.true_and])
            have q1 : Op.bytesLess g last = false := by rw [bytesLess_eq]; simpa using str_asym hlt
            have q2 : (g == last) = false := by
              simp only [beq_eq_false_iff_ne, ne_eq]
              rintro rfl; exact str_irr _ hlt
            clear hrest hlt
            gi_wp2_with (first
        | (gi_at_call 77; refine (callsIn_wide.2 (iGood _ g HOK.out)).mono ?_; rw [hg]; rintro e w2 ⟨rfl, hf2⟩; have hM2 := HM.out.keep hf2; have HM2 := Lib.hid hM2; have HF2 := Lib.hid hf2; have c0 := cell_obj hM2.last 0 (vS last) rfl; have f0 := obj_frozen hM2.last 0; have cr := cell_obj hM2.res 0 (.bool false) rfl; have fr := obj_frozen hM2.res 0; clear hM2 hf2)
        | (gi_at_call 78; refine (callsIn_wide.2 (kMay _ n)).mono ?_; rw [hm]; rintro e w3 ⟨rfl, rfl⟩))
            exact ⟨(HF2.out.mono (fun _ _ e => e.elim)).setCell (p := ⟨n0 + 1, 0, none⟩) (fun _ => .inl (.inr rfl)) _, g, HM2.out.putL g, HYES.out⟩
          · have HNO : Hid (itsOk [] L = false) := Lib.hid (by rw [hrest, heq, decide_eq_false (str_irr g), Bool.false_and])
            have q2 : (g == last) = true := by simp [heq]
            clear hrest heq
            gi_wp2_with (first
        | (gi_at_call 77; refine (callsIn_wide.2 (iGood _ g HOK.out)).mono ?_; rw [hg]; rintro e w2 ⟨rfl, hf2⟩; have hM2 := HM.out.keep hf2; have HM2 := Lib.hid hM2; have HF2 := Lib.hid hf2; have c0 := cell_obj hM2.last 0 (vS last) rfl; have f0 := obj_frozen hM2.last 0; have cr := cell_obj hM2.res 0 (.bool false) rfl; have fr := obj_frozen hM2.res 0; clear hM2 hf2)
        | (gi_at_call 78; refine (callsIn_wide.2 (kMay _ n)).mono ?_; rw [hm]; rintro e w3 ⟨rfl, rfl⟩))
            refine ⟨(HF2.out.mono (fun _ _ e => e.elim)).setCell (p := ⟨n0, 0, none⟩) (fun _ => .inl (.inl rfl)) _, rfl, HNO.out, last, HM2.out.putR false⟩
          · have HNO : Hid (itsOk [] L = false) := Lib.hid (by rw [hrest, decide_eq_false (str_asym hgt), Bool.false_and])
            have q1 : Op.bytesLess g last = true := by rw [bytesLess_eq]; simpa using hgt
            clear hrest hgt
            gi_wp2_with (first
        | (gi_at_call 77; refine (callsIn_wide.2 (iGood _ g HOK.out)).mono ?_; rw [hg]; rintro e w2 ⟨rfl, hf2⟩; have hM2 := HM.out.keep hf2; have HM2 := Lib.hid hM2; have HF2 := Lib.hid hf2; have c0 := cell_obj hM2.last 0 (vS last) rfl; have f0 := obj_frozen hM2.last 0; have cr := cell_obj hM2.res 0 (.bool false) rfl; have fr := obj_frozen hM2.res 0; clear hM2 hf2)
        | (gi_at_call 78; refine (callsIn_wide.2 (kMay _ n)).mono ?_; rw [hm]; rintro e w3 ⟨rfl, rfl⟩))
            refine ⟨(HF2.out.mono (fun _ _ e => e.elim)).setCell (p := ⟨n0, 0, none⟩) (fun _ => .inl (.inl rfl)) _, rfl, HNO.out, last, HM2.out.putR false⟩
      · have HNO : Hid (itsOk [] L = false) := Lib.hid (by rw [hrest, decide_eq_false h1, Bool.false_and, Bool.false_and, Bool.false_and])
        have h1' : n < 1 := by omega
        clear hrest
        gi_wp2_with (first
        | (gi_at_call 77; refine (callsIn_wide.2 (iGood _ g HOK.out)).mono ?_; rw [hg]; rintro e w2 ⟨rfl, hf2⟩; have hM2 := HM.out.keep hf2; have HM2 := Lib.hid hM2; have HF2 := Lib.hid hf2; have c0 := cell_obj hM2.last 0 (vS last) rfl; have f0 := obj_frozen hM2.last 0; have cr := cell_obj hM2.res 0 (.bool false) rfl; have fr := obj_frozen hM2.res 0; clear hM2 hf2)
        | (gi_at_call 78; refine (callsIn_wide.2 (kMay _ n)).mono ?_; rw [hm]; rintro e w3 ⟨rfl, rfl⟩))
        refine ⟨(HF2.out.mono (fun _ _ e => e.elim)).setCell (p := ⟨n0, 0, none⟩) (fun _ => .inl (.inl rfl)) _, rfl, HNO.out, last, HM2.out.putR false⟩
    · have hg : goodB g = false := by simpa using hg
      have HNO : Hid (itsOk [] L = false) := Lib.hid (by rw [hrest, hg]; rfl)
      clear hrest
      gi_wp2_with (first
        | (gi_at_call 77; refine (callsIn_wide.2 (iGood _ g HOK.out)).mono ?_; rw [hg]; rintro e w2 ⟨rfl, hf2⟩; have hM2 := HM.out.keep hf2; have HM2 := Lib.hid hM2; have HF2 := Lib.hid hf2; have c0 := cell_obj hM2.last 0 (vS last) rfl; have f0 := obj_frozen hM2.last 0; have cr := cell_obj hM2.res 0 (.bool false) rfl; have fr := obj_frozen hM2.res 0; clear hM2 hf2)
        | (gi_at_call 78; refine (callsIn_wide.2 (kMay _ n)).mono ?_; rw [hm]; rintro e w3 ⟨rfl, rfl⟩))
      refine ⟨(HF2.out.mono (fun _ _ e => e.elim)).setCell (p := ⟨n0, 0, none⟩) (fun _ => .inl (.inl rfl)) _, rfl, HNO.out, last, HM2.out.putR false⟩
  case stop =>
    rintro D c k C W hD hk ⟨rfl, hF, last, hM⟩ hr hK
    have HM := Lib.hid hM; have HNO := Lib.hid hF
    have hc5 := cell_obj (Fa.cells (frPut (B := n0) (.deferred none) (by omega) hK rfl) hM.res) 0 (.bool false) rfl
    clear hM hF hr
    gi_wp2_with fail
    refine ⟨by simp, .inl ⟨_, _, rfl, run_takeDeferred hK, ?_⟩⟩
    refine ⟨.bool (mayL L), by simp [results, Tryz.results44, go_sem, hc5, mayL, HNO.out], rfl, ?_⟩
    exact (HM.out.fr.putObj (l := D) (fun _ => by omega) _).mono (fun b hb e => by omega)
  case done =>
    rintro D C W hD ⟨last, hM, hrest⟩ hr hK
    have HYES : Hid (itsOk [] L = true) := Lib.hid (by rw [hrest, List.drop_length]; rfl)
    have HM := Lib.hid hM
    have cr := cell_obj hM.res 0 (.bool false) rfl
    have fr := obj_frozen hM.res 0
    have hR5 := (hM.putR (decide ((N : Int) ≤ 16))).res
    have hK5 := (Below.heap_setCell W ⟨n0, 0, none⟩ (.bool (decide ((N : Int) ≤ 16))) D (by simp; omega)).trans hK
    have HR5 := Lib.hid hR5; have HK5 := Lib.hid hK5
    clear hM hrest hr hK hR5 hK5
    gi_wp2_with fail
    have hc5 := cell_obj (Fa.cells (frPut (B := n0) (.deferred none) (by omega) HK5.out rfl) HR5.out) 0 (.bool (decide ((N : Int) ≤ 16))) rfl
    refine ⟨by simp, .inl ⟨_, _, rfl, run_takeDeferred HK5.out, ?_⟩⟩
    refine ⟨.bool (decide ((N : Int) ≤ 16)), by simp [results, Tryz.results44, go_sem, hc5], ?_, ?_⟩
    · have : mayL L = decide ((N : Int) ≤ 16) := by
        unfold mayL
        rw [HYES.out, Bool.true_and, HN.out]
        by_cases h : N ≤ 16
        · rw [decide_eq_true h, decide_eq_true (by omega)]
        · rw [decide_eq_false h, decide_eq_false (by omega)]
      rw [this]
    · exact ((HM.out.putR _).fr.putObj (l := D) (fun _ => by omega) _).mono (fun b hb e => by omega)
end Go.Proofs.YtmflpeklalgibaaGreat

namespace Go.Proofs.YtmflpeklalgibaaGreat
open Go.RowKit Go.Maps
attribute [local go_sem] Oper.semAt_some
@[local go_sem] theorem optP_none (b : Nat) : optP b none = .pointer none := rfl
@[local go_sem] theorem optP_some (b i : Nat) : optP b (some i) = .pointer (some ⟨b, i, none⟩) := rfl
/-- Three boxes of the call's own: the stock, a kind, a result. -/
structure QI (w0 W : World) (n0 g : Nat) (k e : Int) : Prop where
  s : W.heap[n0]? = some (.cells #[.pointer (some ⟨g, 0, none⟩)] 41)
  k : W.heap[n0 + 1]? = some (.cells #[.int .i64 k] 3)
  e : W.heap[n0 + 1 + 1]? = some (.cells #[.int .i64 e] 25)
  fr : Fr (fun b => n0 ≤ b) w0 W
section
variable {w0 W W' : World} {n0 g : Nat} {k e : Int}
theorem QI.fa {B : Nat} (h : QI w0 W n0 g k e) (hf : Fa B W W') (hB : w0.heap.size ≤ B) : QI w0 W' n0 g k e :=
  ⟨Fa.cells hf h.s, Fa.cells hf h.k, Fa.cells hf h.e, h.fr.trans' hf (fun b hb e => by have := e.1; omega)⟩
theorem QI.keep (h : QI w0 W n0 g k e) (hf : Fr (fun _ => False) W W') : QI w0 W' n0 g k e :=
  ⟨hf.at_ h.s (fun h => h), hf.at_ h.k (fun h => h), hf.at_ h.e (fun h => h), h.fr.trans' hf (fun _ _ e => e.elim)⟩
theorem QI.put (h : QI w0 W n0 g k e) (e' : Int) : QI w0 (W.setCell ⟨n0 + 1 + 1, 0, none⟩ (.int .i64 e')) n0 g k e' := by
  have hF : Fr (fun b => b = n0 + 1 + 1) W (W.setCell ⟨n0 + 1 + 1, 0, none⟩ (.int .i64 e')) := (Fr.refl (fun b => b = n0 + 1 + 1) W).setCell (p := ⟨n0 + 1 + 1, 0, none⟩) (fun _ => rfl) _
  exact ⟨hF.at_ h.s (by omega), hF.at_ h.k (by omega), obj_set h.e 0 _, h.fr.trans' hF (fun b _ e => by omega)⟩
end
theorem doMay_71 {A : Stk} {k : Int} {L : Its} {i j : Nat} {p : Str × Int} (hr : (roadF k).1 = some i) (hp : L[j]? = some p) (hn : getS A p.1 = none) : doMay A k L = 71 := by
  unfold doMay
  rw [hr]
  have : (L.any fun p => (getS A p.1).isNone) = true := List.any_eq_true.2 ⟨p, List.mem_of_getElem? hp, by rw [hn]; rfl⟩
  simp only [this, if_true]
theorem doMay_known {A : Stk} {k : Int} {L : Its} {i : Nat} (hr : (roadF k).1 = some i) (hk : ∀ (j : Nat) (p : Str × Int), j < L.length → L[j]? = some p → (getS A p.1).isSome = true) :
    doMay A k L = if L.any (fun p => decide ((rowAt A p.1).get i < p.2)) = true then 51 else 0 := by
  unfold doMay
  rw [hr]
  have : (L.any fun p => (getS A p.1).isNone) = false := by
    refine Bool.eq_false_iff.2 (fun ht => ?_)
    obtain ⟨p, hp, hn⟩ := List.any_eq_true.1 ht
    obtain ⟨j, hj, rfl⟩ := List.getElem_of_mem hp
    have := hk j _ hj (List.getElem?_eq_getElem hj)
    cases e : getS A L[j].1 <;> rw [e] at this hn
    · cases this
    · cases hn
  simp only [this, Bool.false_eq_true, if_false]
def Mi1 (w : World) (n0 g : Nat) (k : Int) (A : Stk) (L : Its) (j : Nat) (_ : Nat → Prop) (W : World) : Prop := QI w W n0 g k 0 ∧ ∀ (i : Nat) (p : Str × Int), i < j → L[i]? = some p → (getS A p.1).isSome = true
def Mx1 (w : World) (n0 g : Nat) (k : Int) (A : Stk) (L : Its) (c : Code) (_ : Nat) (_ : Nat → Prop) (W : World) : Prop := c = .ret ∧ doMay A k L = 71 ∧ QI w W n0 g k 71
def Mi2 (w : World) (n0 g D : Nat) (k : Int) (A : Stk) (L : Its) (i0 : Nat) (j : Nat) (_ : Nat → Prop) (W : World) : Prop := (QI w W n0 g k 0 ∧ W.heap[D]? = some (.deferred (some []))) ∧ ∀ (i : Nat) (p : Str × Int), i < j → L[i]? = some p → ¬ (rowAt A p.1).get i0 < p.2
def Mx2 (w : World) (n0 g D : Nat) (k : Int) (A : Stk) (L : Its) (c : Code) (_ : Nat) (_ : Nat → Prop) (W : World) : Prop := c = .ret ∧ doMay A k L = 51 ∧ QI w W n0 g k 51 ∧ W.heap[D]? = some (.deferred (some []))
theorem def_fa {B D : Nat} {W W' : World} (h : W.heap[D]? = some (.deferred (some []))) (hf : Fa B W W') (hD : D < B) : W'.heap[D]? = some (.deferred (some [])) :=
  hf.at_ h (fun e => by have := e.1; omega)
set_option maxRecDepth 100000 in
set_option maxHeartbeats 8000000 in
theorem sMay (w : World) (g : Nat) (TS : Nat → Prop) (A : Stk) (k : Int) (v : Value) (L : Its) (h : SA w g TS A) (hA : SOk A) (hv : Il w v L) :
    Calls Tryz.prog 87 #[.pointer (some ⟨g, 0, none⟩), .int .i64 k, v] w fun e w' => e = .returned (.int .i64 (doMay A k L)) ∧ Fr (fun _ => False) w w' := by
  obtain ⟨n0, hn0⟩ : ∃ n0, w.heap.size = n0 := ⟨_, rfl⟩
  have HS := Lib.hid hn0
  have HL := Lib.hid hv
  have hob := hv.lt
  have HOB := Lib.hid hob
  have hokl : Hid (∀ (j : Nat) (p : Str × Int), L[j]? = some p → okS p.1) := Lib.hid (fun j p hp => by obtain ⟨_, _, _, _, hx⟩ := hv; exact (hx j p hp).1)
  obtain ⟨a, c, rfl⟩ := hv.sl
  obtain ⟨N, hN⟩ : ∃ N, L.length = N := ⟨_, rfl⟩
  have HN := Lib.hid hN
  rw [hN] at HL HOB ⊢
  obtain ⟨m, hc, hm, hTm⟩ := h.cell
  have HC := Lib.hid hc; have HM := Lib.hid hm; have HAA := Lib.hid hA
  have HGL : Hid (g < w.heap.size) := Lib.hid (h.lt g h.own)
  have hroad := Lib.hid (fun W b => sRoad W b k)
  have hrl := roadF_lt k
  clear hv hob hN h hm hTm hc hA
  refine (callsIn_wide (n := 0)).1 ?_
  refine callsIn_of_wp_marks Tryz.func87 rfl trivial ?_ rfl
  simp only [Tryz.ntmps87, List.size_toArray, List.length_cons, List.length_nil, Nat.reduceAdd, Nat.reduceSub, Array.replicate_succ, Array.replicate_zero, List.push_toArray, List.append_toArray, List.nil_append, List.cons_append]
  have hfn : ∀ f, Fence.wide.fn f := fun _ => trivial
  have hdp : Fence.wide.depth.isSome = false := rfl
  have hI0 : QI w ((((w.alloc (.cells #[.pointer (some ⟨g, 0, none⟩)] 41)).alloc (.cells #[.int .i64 k] 3)).alloc (.cells #[.int .i64 0] 25)).alloc (.cells SR.zero.cs 83)) n0 g k 0 :=
    ⟨heap_keep (heap_keep (heap_keep (heap_at hn0.symm _) _) _) _, heap_keep (heap_keep (heap_at (by simp; omega) _) _) _, heap_keep (heap_at (by simp; omega) _) _, ((((Fr.refl _ w).alloc _).alloc _).alloc _).alloc _⟩
  have hs0 : ((((w.alloc (.cells #[.pointer (some ⟨g, 0, none⟩)] 41)).alloc (.cells #[.int .i64 k] 3)).alloc (.cells #[.int .i64 0] 25)).alloc (.cells SR.zero.cs 83)).heap.size = n0 + 4 := by simp; omega
  dsimp only [SR.cs, SR.zero] at hI0 hs0
  have HI0 := Lib.hid hI0; have HS0 := Lib.hid hs0
  clear hI0 hs0
  obtain ⟨⟨rf, rt, ro⟩, hR⟩ : ∃ R, roadF k = R := ⟨_, rfl⟩
  rw [hR] at hroad hrl
  dsimp only at hroad hrl
  have hrf : Hid (∀ i, rf = some i → (roadF k).1 = some i) := Lib.hid (fun i e => by rw [hR]; exact e)
  have hrn : Hid (rf = none → doMay A k L = 0) := Lib.hid (fun e => by unfold doMay; rw [hR, e])
  clear hR
  cases rf with
  | none =>
    have hz := Lib.hid (hrn.out rfl)
    gi_wp2_with (gi_at_call 89; refine (callsIn_wide.2 (hroad.out _ _)).mono ?_; rintro e w1 ⟨rfl, q, rfl⟩)
    have hc5 := cell_obj (HI0.out.keep ((Fr.refl _ _).drewN q)).e 0 (.int .i64 0) rfl
    refine ⟨.int .i64 0, by simp [results, Tryz.results87, go_sem, hc5], ?_, ?_⟩
    · rw [hz.out]
    · exact ((((((Fr.refl _ w).alloc _).alloc _).alloc _).alloc _).drewN _).setCell (p := ⟨n0 + 1 + 1, 0, none⟩) (fun h => by have := HS.out; have h : n0 + 1 + 1 < w.heap.size := h; omega) _
  | some i0 =>
    have hi4 := hrl.1 i0 rfl
    have hroadI := hrf.out i0 rfl
    have HRO := Lib.hid hroadI
    clear hrl hrn hrf hroadI
    gi_wp2_with (first
      | (gi_at_call 89; refine (callsIn_wide.2 (hroad.out _ _)).mono ?_; rintro e w1 ⟨rfl, q, rfl⟩)
      | (gi_at_call 69; refine (callsIn_wide.2 (iAll _ _ _ _)).mono ?_; rintro e w1 ⟨rfl, rfl⟩))
    have hI1 := HI0.out.keep (((Fr.refl (fun _ => False) _).drewN q).alloc (.cells #[.slice a N c] 23))
    have hB1 : Boxed (((((((w.alloc (.cells #[.pointer (some ⟨g, 0, none⟩)] 41)).alloc (.cells #[.int .i64 k] 3)).alloc (.cells #[.int .i64 0] 25)).alloc (.cells #[.int .i64 0, .int .i64 0, .int .i64 0, .int .i64 0, .int .i64 0, .int .i64 0, .int .i64 0, .int .i64 0, .int .i64 0, .int .i64 0, .int .i64 0] 83)).drewN q)).alloc (.cells #[.slice a N c] 23)) (n0 + 4) 23 (.slice a N c) := heap_at (by have := HS0.out; exact this.symm) _
    obtain ⟨W1, hW1⟩ : ∃ W1, (((((((w.alloc (.cells #[.pointer (some ⟨g, 0, none⟩)] 41)).alloc (.cells #[.int .i64 k] 3)).alloc (.cells #[.int .i64 0] 25)).alloc (.cells #[.int .i64 0, .int .i64 0, .int .i64 0, .int .i64 0, .int .i64 0, .int .i64 0, .int .i64 0, .int .i64 0, .int .i64 0, .int .i64 0, .int .i64 0] 83)).drewN q)).alloc (.cells #[.slice a N c] 23)) = W1 := ⟨_, rfl⟩
    have hs1 : W1.heap.size = n0 + 5 := by rw [← hW1]; simp; omega
    rw [hW1] at hI1 hB1 ⊢
    have hL1 := HL.out.fr hI1.fr (fun b hb => by omega)
    have HI1 := Lib.hid hI1; have HS1 := Lib.hid hs1
    clear hW1 hI1 HI0 HS0
    refine rangeX (w0 := W1) (X := L) (S := fun b => b = n0 + 1 + 1) rfl (enters_of Tryz.func101 (by kernel_rfl) rfl)
      (iAll1 _ W1 (n0 + 4) _ L hB1 hL1 (by omega) (fun hl b hb e => by have := HOB.out hl b e; omega)) (Below.refl _ _) (fun b hb => by omega) (fun _ => rfl)
      (Mi1 w n0 g k A L) (Mx1 w n0 g k A L)
      (fun k C W W' hs hf => ⟨hs.1.fa hf (by omega), hs.2⟩) (fun c k C W W' hs hf => ⟨hs.1, hs.2.1, hs.2.2.fa hf (by omega)⟩)
      ⟨HI1.out, fun i p hi => by omega⟩ ?round ?done ?stop
    case round =>
      rintro lp j x C W hx hlp hi hr
      dsimp only [encIt]
      gi_wp2
      refine Took.mk (Fr.refl _ _) hi ?_
      rintro Wb ⟨hQ, hkn⟩ hrb hf hsz hsw hCC _
      have hok := hokl.out j x hx
      obtain ⟨gd, n⟩ := x
      dsimp only at hok ⊢
      have cs := cell_obj hQ.s 0 (.pointer (some ⟨g, 0, none⟩)) rfl
      have ce := cell_obj hQ.e 0 (.int .i64 0) rfl
      have fe := obj_frozen hQ.e 0
      have cg := hQ.fr.cell HC.out (by have := HGL.out; show ¬ n0 ≤ g; omega)
      have hlk := mp_row_ok (hQ.fr.mp HM.out (by have := HM.out.lt; omega)) hok
      unfold SR.enc at hlk
      obtain ⟨R, hRR⟩ : ∃ R, rowAt A gd = R := ⟨_, rfl⟩
      rw [hRR] at hlk
      unfold SR.cs at hlk
      have HX := Lib.hid hx; have HQ := Lib.hid hQ; have HKN := Lib.hid hkn
      clear hi hr hf hrb hx hQ hkn hok hRR
      cases hg : getS A gd with
      | none =>
        rw [hg] at hlk
        dsimp only [Option.isSome] at hlk
        have hno := Lib.hid (doMay_71 HRO.out HX.out hg)
        have hQ2 := HQ.out.keep ((Fr.refl (fun _ => False) Wb).alloc (.cells #[.int .i64 R.free, .int .i64 R.held, .int .i64 R.picked, .int .i64 R.aside, .int .i64 R.received, .int .i64 R.returned, .int .i64 R.counted, .int .i64 R.came, .int .i64 R.shipped, .int .i64 R.scrapped, .int .i64 R.sent] 83))
        have ce2 := cell_obj hQ2.e 0 (.int .i64 0) rfl
        have fe2 := obj_frozen hQ2.e 0
        have HQ2 := Lib.hid hQ2
        clear hg ce fe hQ2
        gi_wp2_with fail
        refine ⟨((Fr.refl _ _).alloc _).setCell (p := ⟨n0 + 1 + 1, 0, none⟩) (fun _ => .inl rfl) _, rfl, hno.out, HQ2.out.put 71⟩
      | some r =>
        rw [hg] at hlk
        dsimp only [Option.isSome] at hlk
        have hyes : Hid (∀ (i : Nat) (p : Str × Int), i < j + 1 → L[i]? = some p → (getS A p.1).isSome = true) := Lib.hid (fun i p hi hp => by
          by_cases e : i = j
          · subst e
            rw [HX.out] at hp
            cases hp
            rw [hg]; rfl
          · exact HKN.out i p (by omega) hp)
        clear hg
        gi_wp2_with fail
        exact ⟨(Fr.refl _ _).alloc _, HQ.out.keep ((Fr.refl _ _).alloc _), hyes.out⟩
    case stop =>
      rintro D c j C W hD hk ⟨rfl, hno, hQ⟩ hr hK
      have HQ := Lib.hid hQ; have HNO := Lib.hid hno
      have hc5 := cell_obj (Fa.cells (frPut (B := n0) (.deferred none) (by omega) hK rfl) hQ.e) 0 (.int .i64 71) rfl
      clear hQ hno hr
      gi_wp2_with fail
      refine ⟨by simp, .inl ⟨_, _, rfl, run_takeDeferred hK, ?_⟩⟩
      refine ⟨.int .i64 71, by simp [results, Tryz.results87, go_sem, hc5], ?_, ?_⟩
      · rw [HNO.out]
      · exact (HQ.out.fr.putObj (l := D) (fun _ => by omega) _).mono (fun b hb e => by omega)
    case done =>
      rintro D C W hD ⟨hQ, hkn⟩ hr hK
      have HQ := Lib.hid hQ
      have hkn' := Lib.hid (doMay_known HRO.out hkn)
      have hDl := (Array.getElem?_eq_some_iff.1 hK).1
      clear hkn hQ hr hB1 hL1
      gi_wp2_with (gi_at_call 69; refine (callsIn_wide.2 (iAll _ _ _ _)).mono ?_; rintro e w2 ⟨rfl, rfl⟩)
      have hQ2 := HQ.out.keep ((Fr.refl (fun _ => False) W).alloc (.cells #[.slice a N c] 23))
      have hB2 := Boxed.new W 23 (.slice a N c)
      have hK2 := heap_keep hK (.cells #[.slice a N c] 23)
      obtain ⟨W2, hW2⟩ : ∃ W2, W.alloc (.cells #[.slice a N c] 23) = W2 := ⟨_, rfl⟩
      have hs2 : W2.heap.size = W.heap.size + 1 := by rw [← hW2]; simp
      rw [hW2] at hQ2 hB2 hK2 ⊢
      have hL2 := HL.out.fr hQ2.fr (fun b hb => by omega)
      have HQ2 := Lib.hid hQ2; have HK2 := Lib.hid hK2
      have hnD : n0 + 5 ≤ D := by have := HS1.out; omega
      clear hW2 hQ2 hK2 HQ hK
      refine rangeX (w0 := W2) (X := L) (S := fun b => b = n0 + 1 + 1) rfl (enters_of Tryz.func101 (by kernel_rfl) rfl)
        (iAll1 _ W2 _ _ L hB2 hL2 (by omega) (fun hl b hb e => by have := HOB.out hl b e; omega)) (Below.refl _ _) (fun b hb => by omega) (fun _ => rfl)
        (Mi2 w n0 g D k A L i0) (Mx2 w n0 g D k A L)
        (fun k C W W' hs hf => ⟨⟨hs.1.1.fa hf (by omega), def_fa hs.1.2 hf (by omega)⟩, hs.2⟩) (fun c k C W W' hs hf => ⟨hs.1, hs.2.1, hs.2.2.1.fa hf (by omega), def_fa hs.2.2.2 hf (by omega)⟩)
        ⟨⟨HQ2.out, HK2.out⟩, fun i p hi => by omega⟩ ?round2 ?done2 ?stop2
      case round2 =>
        rintro lp j x C3 W3 hx hlp hi hr
        dsimp only [encIt]
        gi_wp2
        refine Took.mk (Fr.refl _ _) hi ?_
        rintro Wb ⟨⟨hQ, hKb⟩, hkn⟩ hrb hf hsz hsw hCC _
        have hok := hokl.out j x hx
        obtain ⟨gd, n⟩ := x
        dsimp only at hok ⊢
        have cs := cell_obj hQ.s 0 (.pointer (some ⟨g, 0, none⟩)) rfl
        have ck := cell_obj (heap_keep hQ.k (.cells (rowAt A gd).cs 83)) 0 (.int .i64 k) rfl
        have cg := hQ.fr.cell HC.out (by have := HGL.out; show ¬ n0 ≤ g; omega)
        have hlk := mp_row (hQ.fr.mp HM.out (by have := HM.out.lt; omega)) hok
        have hcl := cell_obj (heap_new Wb (.cells (rowAt A gd).cs 83)) i0 _ ((rowAt A gd).cs_get (show i0 < 11 by omega))
        unfold SR.enc at hlk
        obtain ⟨R, hRR⟩ : ∃ R, rowAt A gd = R := ⟨_, rfl⟩
        rw [hRR] at hlk hcl ck
        obtain ⟨have_, hhv⟩ : ∃ x, R.get i0 = x := ⟨_, rfl⟩
        rw [hhv] at hcl
        have HHV : Hid ((rowAt A gd).get i0 = have_) := Lib.hid (by rw [hRR, hhv])
        unfold SR.cs at hlk hcl ck
        have hQ3 := HQ2.out
        have hQa := hQ.keep (((Fr.refl (fun _ => False) Wb).alloc (.cells #[.int .i64 R.free, .int .i64 R.held, .int .i64 R.picked, .int .i64 R.aside, .int .i64 R.received, .int .i64 R.returned, .int .i64 R.counted, .int .i64 R.came, .int .i64 R.shipped, .int .i64 R.scrapped, .int .i64 R.sent] 83)))
        have HX := Lib.hid hx; have HQ := Lib.hid hQ; have HQA := Lib.hid hQa; have HKN := Lib.hid hkn; have HKB := Lib.hid hKb
        clear hi hr hf hrb hx hQ hkn hok hRR hhv hQ3 hQa hKb
        by_cases hlt : have_ < n
        · have hno : Hid (doMay A k L = 51) := Lib.hid (by
            rw [hkn'.out, if_pos]
            exact List.any_eq_true.2 ⟨_, List.mem_of_getElem? HX.out, by rw [decide_eq_true_eq, HHV.out]; exact hlt⟩)
          have ce2 := cell_obj HQA.out.e 0 (.int .i64 0) rfl
          have fe2 := obj_frozen HQA.out.e 0
          gi_wp2_with (gi_at_call 89; refine (callsIn_wide.2 (hroad.out _ _)).mono ?_; rintro e w5 ⟨rfl, q5, rfl⟩)
          have hFq : Fr (fun b => b = n0 + 1 + 1) Wb (((Wb.alloc (.cells #[.int .i64 R.free, .int .i64 R.held, .int .i64 R.picked, .int .i64 R.aside, .int .i64 R.received, .int .i64 R.returned, .int .i64 R.counted, .int .i64 R.came, .int .i64 R.shipped, .int .i64 R.scrapped, .int .i64 R.sent] 83)).drewN q5).setCell ⟨n0 + 1 + 1, 0, none⟩ (.int .i64 51)) := (((Fr.refl (fun b => b = n0 + 1 + 1) Wb).alloc _).drewN _).setCell (p := ⟨n0 + 1 + 1, 0, none⟩) (fun _ => rfl) _
          exact ⟨hFq.mono (fun _ _ e => .inl e), rfl, hno.out, (HQA.out.keep ((Fr.refl _ _).drewN q5)).put 51, hFq.at_ HKB.out (by omega)⟩
        · have hyes : Hid (∀ (i : Nat) (p : Str × Int), i < j + 1 → L[i]? = some p → ¬ (rowAt A p.1).get i0 < p.2) := Lib.hid (fun i p hi hp => by
            by_cases e : i = j
            · subst e
              rw [HX.out] at hp
              cases hp
              rw [HHV.out]; exact hlt
            · exact HKN.out i p (by omega) hp)
          gi_wp2_with (gi_at_call 89; refine (callsIn_wide.2 (hroad.out _ _)).mono ?_; rintro e w5 ⟨rfl, q5, rfl⟩)
          exact ⟨((Fr.refl _ _).alloc _).drewN _, ⟨HQA.out.keep ((Fr.refl _ _).drewN q5), heap_keep HKB.out _⟩, fun i p hi hp => by have := hyes.out i p hi hp; omega⟩
      case stop2 =>
        rintro D2 c j C3 W3 hD2 hk ⟨rfl, hno, hQ, hK1⟩ hr hK
        have HQ := Lib.hid hQ; have HNO := Lib.hid hno
        have hK1' := (World.putObj_heap_other (w := W3) (r := D2) (o := .deferred none) (k := D) (by omega)).trans hK1
        have hFx : Fa n0 W3 ((W3.putObj D2 (.deferred none)).putObj D (.deferred none)) := (frPut (B := n0) (.deferred none) (by omega) hK rfl).trans' (frPut (B := n0) (.deferred none) (by omega) hK1' rfl) (fun b hb e => ⟨e.1, by
          obtain ⟨-, o, ho, hx⟩ := e
          by_cases hbD : b = D2
          · subst hbD; exact ⟨_, hK, rfl⟩
          · exact ⟨o, (World.putObj_heap_other hbD).symm.trans ho, hx⟩⟩)
        have hc5 := cell_obj (Fa.cells hFx hQ.e) 0 (.int .i64 51) rfl
        clear hQ hno hr
        gi_wp2_with fail
        refine ⟨by simp, .inl ⟨_, _, rfl, run_takeDeferred hK, ?_⟩⟩
        refine ⟨by simp, .inl ⟨_, _, rfl, run_takeDeferred hK1', ?_⟩⟩
        refine ⟨.int .i64 51, by simp [results, Tryz.results87, go_sem, hc5], ?_, ?_⟩
        · rw [HNO.out]
        · exact ((HQ.out.fr.putObj (l := D2) (fun _ => by omega) _).putObj (l := D) (fun _ => by omega) _).mono (fun b hb e => by omega)
      case done2 =>
        rintro D2 C3 W3 hD2 ⟨⟨hQ, hK1⟩, hkn⟩ hr hK
        have HQ := Lib.hid (hQ.put 0)
        have hz : Hid (doMay A k L = 0) := Lib.hid (by
          rw [hkn'.out, if_neg]
          intro ht
          obtain ⟨p, hp, hlt⟩ := List.any_eq_true.1 ht
          obtain ⟨i, hi, rfl⟩ := List.getElem_of_mem hp
          have := hkn i _ hi (List.getElem?_eq_getElem hi)
          simp only [decide_eq_true_eq] at hlt
          exact this hlt)
        have ce2 := cell_obj hQ.e 0 (.int .i64 0) rfl
        have fe2 := obj_frozen hQ.e 0
        have hKs := (Below.heap_setCell W3 ⟨n0 + 1 + 1, 0, none⟩ (.int .i64 0) D2 (by simp; omega)).trans hK
        have hK1s := (Below.heap_setCell W3 ⟨n0 + 1 + 1, 0, none⟩ (.int .i64 0) D (by simp; omega)).trans hK1
        have hK1' := (World.putObj_heap_other (w := W3.setCell ⟨n0 + 1 + 1, 0, none⟩ (.int .i64 0)) (r := D2) (o := .deferred none) (k := D) (by omega)).trans hK1s
        have hFx : Fa n0 (W3.setCell ⟨n0 + 1 + 1, 0, none⟩ (.int .i64 0)) (((W3.setCell ⟨n0 + 1 + 1, 0, none⟩ (.int .i64 0)).putObj D2 (.deferred none)).putObj D (.deferred none)) := (frPut (B := n0) (.deferred none) (by omega) hKs rfl).trans' (frPut (B := n0) (.deferred none) (by omega) hK1' rfl) (fun b hb e => ⟨e.1, by
          obtain ⟨-, o, ho, hx⟩ := e
          by_cases hbD : b = D2
          · subst hbD; exact ⟨_, hKs, rfl⟩
          · exact ⟨o, (World.putObj_heap_other hbD).symm.trans ho, hx⟩⟩)
        have hc5 := cell_obj (Fa.cells hFx (hQ.put 0).e) 0 (.int .i64 0) rfl
        clear hQ hkn hr hK hK1
        gi_wp2_with fail
        refine ⟨by simp, .inl ⟨_, _, rfl, run_takeDeferred hKs, ?_⟩⟩
        refine ⟨by simp, .inl ⟨_, _, rfl, run_takeDeferred hK1', ?_⟩⟩
        refine ⟨.int .i64 0, by simp [results, Tryz.results87, go_sem, hc5], ?_, ?_⟩
        · rw [hz.out]
        · exact ((HQ.out.fr.putObj (l := D2) (fun _ => by omega) _).putObj (l := D) (fun _ => by omega) _).mono (fun b hb e => by omega)
end Go.Proofs.YtmflpeklalgibaaGreat

namespace Go.Proofs.YtmflpeklalgibaaGreat
open Go.RowKit Go.Maps
attribute [local go_sem] Oper.semAt_some
theorem SR.get_ok {r : SR} (h : SRb r) {i : Nat} (hi : i < 11) (h6 : i ≠ 6) : 0 ≤ r.get i ∧ r.get i ≤ 72057594037927936 := by
  obtain ⟨a0, a1, a2, a3, b0, b1, b2, b3, b4, b5⟩ := h
  match i, hi, h6 with
  | 0, _, _ => exact ⟨a0.1, by have := a0.2; show r.free ≤ _; omega⟩
  | 1, _, _ => exact ⟨a1.1, by have := a1.2; show r.held ≤ _; omega⟩
  | 2, _, _ => exact ⟨a2.1, by have := a2.2; show r.picked ≤ _; omega⟩
  | 3, _, _ => exact ⟨a3.1, by have := a3.2; show r.aside ≤ _; omega⟩
  | 4, _, _ => exact b0
  | 5, _, _ => exact b1
  | 6, _, h => exact absurd rfl h
  | 7, _, _ => exact b2
  | 8, _, _ => exact b3
  | 9, _, _ => exact b4
  | 10, _, _ => exact b5
theorem SR.get_set (r : SR) (i j : Nat) (n : Int) (hi : i < 11) (hj : j < 11) : (r.set i n).get j = if i = j then n else r.get j := by
  have h : ∀ (i j : Fin 11), (r.set i.val n).get j.val = if i = j then n else r.get j.val := by
    intro i j
    match i, j with
    | ⟨i, hi⟩, ⟨j, hj⟩ =>
      match i, hi, j, hj with
      | 0, _, j, hj => match j, hj with | 0, _ | 1, _ | 2, _ | 3, _ | 4, _ | 5, _ | 6, _ | 7, _ | 8, _ | 9, _ | 10, _ => rfl
      | 1, _, j, hj => match j, hj with | 0, _ | 1, _ | 2, _ | 3, _ | 4, _ | 5, _ | 6, _ | 7, _ | 8, _ | 9, _ | 10, _ => rfl
      | 2, _, j, hj => match j, hj with | 0, _ | 1, _ | 2, _ | 3, _ | 4, _ | 5, _ | 6, _ | 7, _ | 8, _ | 9, _ | 10, _ => rfl
      | 3, _, j, hj => match j, hj with | 0, _ | 1, _ | 2, _ | 3, _ | 4, _ | 5, _ | 6, _ | 7, _ | 8, _ | 9, _ | 10, _ => rfl
      | 4, _, j, hj => match j, hj with | 0, _ | 1, _ | 2, _ | 3, _ | 4, _ | 5, _ | 6, _ | 7, _ | 8, _ | 9, _ | 10, _ => rfl
      | 5, _, j, hj => match j, hj with | 0, _ | 1, _ | 2, _ | 3, _ | 4, _ | 5, _ | 6, _ | 7, _ | 8, _ | 9, _ | 10, _ => rfl
      | 6, _, j, hj => match j, hj with | 0, _ | 1, _ | 2, _ | 3, _ | 4, _ | 5, _ | 6, _ | 7, _ | 8, _ | 9, _ | 10, _ => rfl
      | 7, _, j, hj => match j, hj with | 0, _ | 1, _ | 2, _ | 3, _ | 4, _ | 5, _ | 6, _ | 7, _ | 8, _ | 9, _ | 10, _ => rfl
      | 8, _, j, hj => match j, hj with | 0, _ | 1, _ | 2, _ | 3, _ | 4, _ | 5, _ | 6, _ | 7, _ | 8, _ | 9, _ | 10, _ => rfl
      | 9, _, j, hj => match j, hj with | 0, _ | 1, _ | 2, _ | 3, _ | 4, _ | 5, _ | 6, _ | 7, _ | 8, _ | 9, _ | 10, _ => rfl
      | 10, _, j, hj => match j, hj with | 0, _ | 1, _ | 2, _ | 3, _ | 4, _ | 5, _ | 6, _ | 7, _ | 8, _ | 9, _ | 10, _ => rfl
  have := h ⟨i, hi⟩ ⟨j, hj⟩
  simpa [Fin.ext_iff] using this
/-- What the three additions need: nothing wraps. -/
theorem SR.adds {r : SR} (h : SRb r) {k n : Int} (hn : 0 ≤ n ∧ n ≤ 1099511627776) :
    (∀ i, (roadF k).1 = some i → i < 11 ∧ okI (r.get i + -n)) ∧ (∀ i, (roadF k).2.1 = some i → i < 11 ∧ okI ((r.add (roadF k).1 (-n)).get i + n)) ∧
    (∀ i, (roadF k).2.2 = some i → i < 11 ∧ okI (((r.add (roadF k).1 (-n)).add (roadF k).2.1 n).get i + n)) := by
  obtain ⟨h1, h2, h3⟩ := roadF_lt k
  have key : ∀ (o : Option Nat) (d : Int) (i : Nat) (s : SR), (∀ j, o = some j → j < 11) → i < 11 → -1099511627776 ≤ d → d ≤ 1099511627776 → s.get i - 1099511627776 ≤ (s.add o d).get i ∧ (s.add o d).get i ≤ s.get i + 1099511627776 := by
    intro o d i s ho hi d0 d1
    cases o with
    | none => exact ⟨by show s.get i - _ ≤ s.get i; omega, by show s.get i ≤ _; omega⟩
    | some j =>
      show s.get i - _ ≤ (s.set j (s.get j + d)).get i ∧ (s.set j (s.get j + d)).get i ≤ _
      rw [SR.get_set _ _ _ _ (ho j rfl) hi]
      by_cases e : j = i
      · subst e; rw [if_pos rfl]; omega
      · rw [if_neg e]; omega
  obtain ⟨n0, n1⟩ := hn
  refine ⟨fun i hi => ?_, fun i hi => ?_, fun i hi => ?_⟩
  · have := h1 i hi
    have := SR.get_ok h (i := i) (by omega) (by omega)
    exact ⟨by omega, by unfold okI; omega⟩
  · have := h2 i hi
    have h0 := SR.get_ok h (i := i) (by omega) (by omega)
    have := key (roadF k).1 (-n) i r (fun j hj => by have := h1 j hj; omega) (by omega) (by omega) (by omega)
    exact ⟨by omega, by unfold okI; omega⟩
  · have := h3 i hi
    have h0 := SR.get_ok h (i := i) (by omega) (by omega)
    have h4 := key (roadF k).1 (-n) i r (fun j hj => by have := h1 j hj; omega) (by omega) (by omega) (by omega)
    have h5 := key (roadF k).2.1 n i (r.add (roadF k).1 (-n)) (fun j hj => by have := h2 j hj; omega) (by omega) (by omega) (by omega)
    exact ⟨by omega, by unfold okI; omega⟩
theorem doFold_cons (k : Int) (B : Stk) (p : Str × Int) (r : Its) : doFold k B (p :: r) = if ((rowAt B p.1).move k p.2).right = true then doFold k (putS ktS.lt B p.1 ((rowAt B p.1).move k p.2)) r else none := rfl
theorem right_b {r : SR} (h : r.right = true) : SRb r := by
  unfold SR.right at h
  rw [Bool.and_eq_true, SR.each_iff] at h
  exact h.1
theorem rowAt_b {B : Stk} (h : ∀ p ∈ B, SRb p.2) (g : Str) : SRb (rowAt B g) := by
  show SRb ((getS B g).getD SR.zero)
  cases e : getS B g with
  | none => exact SRok.zero.b
  | some v => exact h _ (getS_memS e)
/-- What Do keeps on its way. -/
structure DoI (w0 W : World) (n0 nb mb : Nat) (k e : Int) (B : Stk) : Prop where
  k : W.heap[n0]? = some (.cells #[.int .i64 k] 3)
  e : W.heap[n0 + 1]? = some (.cells #[.int .i64 e] 25)
  nx : W.heap[nb]? = some (.cells #[.map (some mb)] 84)
  map : Mp Tryz.prog W 9 ktS SR.enc mb B
  rows : ∀ p ∈ B, SRb p.2
  fr : Fr (fun b => n0 ≤ b) w0 W
  hn : n0 + 1 < nb ∧ n0 + 1 < mb ∧ nb ≠ mb
section
variable {w0 W W' : World} {n0 nb mb : Nat} {k e : Int} {B : Stk}
theorem DoI.fa {C : Nat} (h : DoI w0 W n0 nb mb k e B) (hf : Fa C W W') (hB : w0.heap.size ≤ C) : DoI w0 W' n0 nb mb k e B :=
  ⟨Fa.cells hf h.k, Fa.cells hf h.e, Fa.cells hf h.nx, Fa.mp hf h.map, h.rows, h.fr.trans' hf (fun b hb e => by have := e.1; omega), h.hn⟩
theorem DoI.keep (h : DoI w0 W n0 nb mb k e B) (hf : Fr (fun _ => False) W W') : DoI w0 W' n0 nb mb k e B :=
  ⟨hf.at_ h.k (fun h => h), hf.at_ h.e (fun h => h), hf.at_ h.nx (fun h => h), hf.mp h.map (fun h => h), h.rows, h.fr.trans' hf (fun _ _ e => e.elim), h.hn⟩
theorem DoI.side {S : Nat → Prop} (h : DoI w0 W n0 nb mb k e B) (hf : Fr S W W') (hS : ∀ b, S b → W.heap.size ≤ b) : DoI w0 W' n0 nb mb k e B := by
  have l1 := (Array.getElem?_eq_some_iff.1 h.k).1
  have l2 := (Array.getElem?_eq_some_iff.1 h.e).1
  have l3 := (Array.getElem?_eq_some_iff.1 h.nx).1
  have l4 := h.map.lt
  exact ⟨hf.at_ h.k (fun e => by have := hS _ e; omega), hf.at_ h.e (fun e => by have := hS _ e; omega), hf.at_ h.nx (fun e => by have := hS _ e; omega), hf.mp h.map (fun e => by have := hS _ e; omega), h.rows, h.fr.trans' hf (fun b _ e => by have := hS _ e; have := h.fr.size; omega), h.hn⟩
theorem DoI.put (h : DoI w0 W n0 nb mb k e B) (e' : Int) : DoI w0 (W.setCell ⟨n0 + 1, 0, none⟩ (.int .i64 e')) n0 nb mb k e' B := by
  have hF : Fr (fun b => b = n0 + 1) W (W.setCell ⟨n0 + 1, 0, none⟩ (.int .i64 e')) := (Fr.refl (fun b => b = n0 + 1) W).setCell (p := ⟨n0 + 1, 0, none⟩) (fun _ => rfl) _
  have := h.hn
  exact ⟨hF.at_ h.k (by omega), obj_set h.e 0 _, hF.at_ h.nx (by omega), hF.mp h.map (by omega), h.rows, h.fr.trans' hF (fun b _ e => by omega), h.hn⟩
theorem DoI.turn {s : Str} {r : SR} (h : DoI w0 W n0 nb mb k e B) (ht : W.mapTurned W' mb) (hm : Mp Tryz.prog W' 9 ktS SR.enc mb (putS ktS.lt B s r)) (hr : SRb r) : DoI w0 W' n0 nb mb k e (putS ktS.lt B s r) := by
  have hF : Fr (fun b => b = mb) W W' := Fr.turned ht rfl
  have := h.hn
  refine ⟨hF.at_ h.k (by omega), hF.at_ h.e (by omega), hF.at_ h.nx this.2.2, hm, fun p hp => ?_, h.fr.trans' hF (fun b _ e => by omega), h.hn⟩
  rcases mem_putK.1 hp with rfl | ⟨hp3, -⟩
  · exact hr
  · exact h.rows p hp3
end
end Go.Proofs.YtmflpeklalgibaaGreat

