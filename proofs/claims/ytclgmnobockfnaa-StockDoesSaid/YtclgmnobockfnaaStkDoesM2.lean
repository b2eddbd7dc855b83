/- Texts of this claim, joined: items: lists of goods: All, Good; items: May; stock: may; stock: Do; stock: Do: the walk; stock: Goods, the iterator; Offer; Slices of bytes; cells: numbers as bytes: Num; cells.Num: walked; slices.Grow, slices.Concat, slices.Clone at bytes; slices.Concat, slices.Clone at bytes; cells.Maker: put, Num, Flag, New, Done. -/
import Derived.Test.YtclgmnobockfnaaStkDoesM1
import Derived.Laws.RangeAny
import Derived.Laws.Cover1
import Derived.Shelf.Abstract
import Derived.Test.YtclgmnobockfnaaLen64
import Derived.Maps.AppendAt
import Derived.RangeFuncBox
import Derived.OwnWalk
import Derived.Laws.BitsAllLaws
import Derived.Deep.LoopGhost
import Derived.Deep.RegionWith
import Derived.Deep.QuietTactic
import Derived.BigQuiet
namespace Go.Proofs.Ytclgmnobockfnaa
open Go.RowKit Go.Maps
/-- A slice of items. -/
def Il (w : World) (v : Value) (L : Its) : Prop := L.length ≤ 9223372036854775807 ∧ ∃ (a : Option Addr) (c : Nat), v = .slice a L.length c ∧ ∀ (i : Nat) (p : Str × Int), L[i]? = some p → okS p.1 ∧ okI p.2 ∧
  ∃ ad, a = some ad ∧ w.cell? (ad.add (i * 2)) = some (vS p.1) ∧ w.cell? ⟨(ad.add (i * 2)).block, (ad.add (i * 2)).off + 1, none⟩ = some (.int .i64 p.2)
theorem add_block (ad : Addr) (i : Nat) : (ad.add i).block = ad.block := by unfold Addr.add; split <;> rfl
theorem Il.keep {S : Nat → Prop} {w w' : World} {v : Value} {L : Its} (h : Il w v L) (hf : Fr S w w') (hS : L ≠ [] → ∀ b, v.ownBlock = some b → ¬ S b) : Il w' v L := by
  obtain ⟨h0, a, c, rfl, h1⟩ := h
  refine ⟨h0, a, c, rfl, fun i p hp => ?_⟩
  obtain ⟨b1, b2, ad, rfl, c0, c1⟩ := h1 i p hp
  have hb := add_block ad (i * 2)
  have hne : L ≠ [] := fun e => by rw [e] at hp; simp at hp
  exact ⟨b1, b2, ad, rfl, hf.cell c0 (fun e => hS hne ad.block rfl (hb ▸ e)), hf.cell c1 (fun e => hS hne ad.block rfl (hb ▸ e))⟩
theorem Il.fr {S : Nat → Prop} {w w' : World} {v : Value} {L : Its} (h : Il w v L) (hf : Fr S w w') (hS : ∀ b, S b → w.heap.size ≤ b) : Il w' v L := by
  obtain ⟨h0, a, c, rfl, h1⟩ := h
  refine ⟨h0, a, c, rfl, fun i p hp => ?_⟩
  obtain ⟨b1, b2, ad, rfl, c0, c1⟩ := h1 i p hp
  exact ⟨b1, b2, ad, rfl, hf.cell c0 (fun e => by have := hS _ e; have := World.block_lt_of_cell? w _ c0; omega), hf.cell c1 (fun e => by have := hS _ e; have := World.block_lt_of_cell? w _ c1; omega)⟩
theorem Il.sl {w : World} {v : Value} {L : Its} (h : Il w v L) : ∃ a c, v = .slice a L.length c := by
  obtain ⟨_, a, c, e, _⟩ := h
  exact ⟨a, c, e⟩
theorem Il.lt {w : World} {v : Value} {L : Its} (h : Il w v L) (hL : L ≠ []) : ∀ b, v.ownBlock = some b → b < w.heap.size := fun b hb => by
  obtain ⟨_, a, c, rfl, h1⟩ := h
  cases L with
  | nil => exact absurd rfl hL
  | cons p r =>
    obtain ⟨_, _, ad, rfl, c0, _⟩ := h1 0 p rfl
    have := World.block_lt_of_cell? w _ c0
    rw [add_block] at this
    obtain rfl : ad.block = b := (by simpa [Value.ownBlock] using hb)
    exact this
theorem iAll (a : Option Addr) (n c : Nat) (w : World) : Calls Try.prog 35 #[.slice a n c] w fun e w' =>
    e = .returned (.func (.func 68) #[] #[.pointer (some ⟨w.heap.size, 0, none⟩)]) ∧ w' = w.alloc (.cells #[.slice a n c] 23) := by
  go_enter Try.func35, Try.ntmps35
  go_wp2
  go_ret
  exact ⟨rfl, rfl⟩
def encIt (p : Str × Int) : Array Value := #[vS p.1, .int .i64 p.2]
set_option maxRecDepth 100000 in
set_option maxHeartbeats 4000000 in
theorem iAll1 (S : Nat → Prop) (w : World) (Bt : Nat) (v : Value) (L : Its) (hBt : Boxed w Bt 23 v) (h : Il w v L) (n1 : ¬ S Bt) (n2 : L ≠ [] → ∀ b, S b → v.ownBlock ≠ some b) :
    ItX 68 #[.pointer (some ⟨Bt, 0, none⟩)] encIt L S w := by
  intro lp S' J Jx W hW hS' hJ hY hJx h0
  have hBW := boxed_below hBt hW hBt.lt
  have hLW : Il W v L := h.fr (Fr.below (S := fun _ => False) hW) (fun _ h => h.elim)
  have s2 : L ≠ [] → ∀ b, v.ownBlock = some b → ¬ S' b := fun hl b hb e => n2 hl _ ((hS' _ e).2 (h.lt hl b hb)) hb
  have hltW : L ≠ [] → ∀ b, v.ownBlock = some b → b < W.heap.size := fun hl b hb => Nat.lt_of_lt_of_le (h.lt hl b hb) hW.size
  have hcB := hBW.cell
  obtain ⟨a, c, rfl⟩ := h.sl
  obtain ⟨N, hN⟩ : ∃ N, L.length = N := ⟨_, rfl⟩
  have hNb : (N : Int) ≤ 9223372036854775807 := by have := h.1; omega
  have HS := Lib.hid hS'; have HL := Lib.hid hLW; have S2 := Lib.hid s2; have HN := Lib.hid hN; have HLT := Lib.hid hltW
  rw [hN] at hcB S2 HLT HL ⊢
  have hfn : ∀ f, Fence.wide.fn f := fun _ => trivial
  have hdp : Fence.wide.depth.isSome = false := rfl
  clear hBt h n1 n2 hS' hLW hBW s2 hW hN hltW
  refine (callsIn_wide (n := 0)).1 ?_
  refine callsIn_of_wp Try.func68 rfl trivial ?_ rfl
  simp only [Try.ntmps68, List.size_toArray, List.length_cons, List.length_nil, Nat.reduceAdd, Nat.reduceSub, Array.replicate_succ, Array.replicate_zero, List.push_toArray, List.append_toArray, List.nil_append, List.cons_append]
  gi_wp2_with fail
  gi_loopw [7] (fun i wr => ∃ (k : Nat) (C : Nat → Prop), k ≤ N ∧ i = .int .i64 k ∧ J k C wr ∧ (∀ b, C b → W.heap.size ≤ b ∧ b < wr.heap.size) ∧ Fr (fun b => S' b ∨ C b) W wr) (fun i _ => N - (intOf i).toNat)
  case atStart => exact ⟨0, _, Nat.zero_le _, rfl, h0, fun _ h => False.elim h, Fr.refl _ _⟩
  case round =>
    obtain ⟨k, C, hk, rfl, hJr, hC, hkp⟩ := hrel
    by_cases hlt : k < N
    · obtain ⟨p, hp⟩ : ∃ p, L[k]? = some p := ⟨L[k]'(by rw [HN.out]; exact hlt), List.getElem?_eq_getElem _⟩
      have hne : L ≠ [] := fun e => by rw [e] at hp; simp at hp
      have hLr := HL.out.keep hkp (fun hl b hb e => e.elim (S2.out hl b hb) (fun e => by have := hC _ e; have := HLT.out hl b hb; omega))
      clear hne
      obtain ⟨_, a', c', e, hx⟩ := hLr
      obtain ⟨ok1, ok2, ad, ea, x0, x1⟩ := hx k p hp
      rw [HN.out] at e
      injection e with e1 _ e3
      rw [ea] at e1
      subst e1 e3
      obtain ⟨g, n⟩ := p
      dsimp only at x0 x1 ok1 ok2
      have hJ2 := hJ k C _ _ hJr (frAlloc (B := W.heap.size) (.cells #[vS g, .int .i64 n] 66))
      obtain ⟨fn, tmps, assign, body, hy, hR⟩ := hY k (g, n) C _ hp hJ2
      dsimp only [encIt] at hy
      have hlI : (k : Int) < N := by omega
      have HC := Lib.hid hC; have HK := Lib.hid hkp; have HP := Lib.hid hp
      clear hC hkp hp hJr hJ2 hx ea ok1 ok2
      gi_wp2
      refine hR.mono ?_
      rintro e W3 (⟨rfl, hJ3, hk3⟩ | ⟨rfl, hJx3, _⟩)
      · gi_wp2
        go_roundw
        case rel =>
          refine ⟨k + 1, _, by omega, by go_num, hJ3, ?_, ?_⟩
          · have hs3 := hk3.size
            have hsa : (wr.alloc (.cells #[vS g, .int .i64 n] 66)).heap.size = wr.heap.size + 1 := by simp
            rintro b (e | e)
            · have := HC.out b e; exact ⟨this.1, by omega⟩
            · have := HK.out.size; exact ⟨by omega, e.2⟩
          · exact (((HK.out.alloc _).mono (fun b _ e => e.elim .inl (fun e => .inr (.inl e))))).trans (hk3.mono (fun b _ e => e.elim .inl (fun e => .inr (.inl e))))
        case measure => simp [intOf]; omega
      · gi_wp2
        refine bodyPost_ret (results_none rfl _ _ _) rfl ?_
        refine ⟨⟨_, rfl⟩, .inr ⟨_, _, ?_, hJx3⟩⟩
        have := HN.out
        omega
    · have : k = N := by omega
      subst this
      gi_wp2
      go_end0
      exact ⟨⟨_, rfl⟩, .inl ⟨C, hJr⟩⟩
theorem str_get (s : Str) (k : Nat) (h : k < (ByteArray.mk s.toArray).size) : (ByteArray.mk s.toArray)[k]'h = s[k]'(by simpa [ByteArray.size] using h) := rfl
theorem goodC_lt {c : UInt8} (h : goodC c = true) : c.toNat < 128 := by
  simp [goodC] at h; omega
theorem goodB_bad {s : Str} {k : Nat} (h : k < s.length) (hb : goodC s[k] = false) : goodB s = false := by
  have : s.all goodC = false := by
    refine Bool.eq_false_iff.2 (fun ht => ?_)
    have := List.all_eq_true.1 ht s[k] (List.getElem_mem h)
    rw [hb] at this; cases this
  simp [goodB, this]
set_option maxRecDepth 100000 in
set_option maxHeartbeats 4000000 in
theorem iGood (w : World) (s : Str) (hs : okS s) : Calls Try.prog 47 #[vS s] w fun e w' => e = .returned (.bool (goodB s)) ∧ Fr (fun _ => False) w w' := by
  obtain ⟨G, hG⟩ : ∃ G, goodB s = G := ⟨_, rfl⟩
  rw [hG]
  have HG := Lib.hid hG
  obtain ⟨B, hB⟩ : ∃ B, ByteArray.mk s.toArray = B := ⟨_, rfl⟩
  have hsz : B.size = s.length := by rw [← hB]; simp [ByteArray.size]
  have hge : ∀ k (h : k < B.size) (h' : k < s.length), B[k]'h = s[k]'h' := by subst hB; exact fun k h h' => rfl
  have HSZ := Lib.hid hsz; have HGE := Lib.hid hge; have HBB := Lib.hid hB
  have hs : (s.length : Int) ≤ 9223372036854775807 := by unfold okS maxLen at hs; omega
  rw [← hsz] at hs
  unfold vS
  rw [hB]
  clear hG hB hsz hge
  go_enter Try.func47, Try.ntmps47
  go_wp2_with fail
  go_loopw [4] (fun _ wr => ∃ k : Nat, k ≤ B.size ∧ wr = w.iter B k ∧ ∀ j (h : j < s.length), j < k → goodC s[j] = true) (fun _ wr => B.size - wr.iterPos w.heap.size)
  case atStart => exact ⟨0, Nat.zero_le _, rfl, fun j _ hj => by omega⟩
  case round =>
    obtain ⟨k, hk, rfl, hall⟩ := hrel
    have HA := Lib.hid hall
    clear hall
    by_cases hp : k < B.size
    · have hnx : ∀ ty, (Instr.next (.pointer (some ⟨w.heap.size, 0, none⟩)) true ty).run Try.prog (w.iter B k) = _ := fun ty => run_next_any w B k ty hp
      have hkl : k < s.length := by rw [← HSZ.out]; exact hp
      have hc := HGE.out k hp hkl
      obtain ⟨x, hx⟩ : ∃ x : Nat, (B[k]'hp).toNat = x := ⟨_, rfl⟩
      have hno : Hid (goodC s[k] = false → G = false) := Lib.hid (fun h => by rw [← HG.out]; exact goodB_bad hkl h)
      have hgc : Hid (goodC s[k] = ((decide (97 ≤ x) && decide (x ≤ 122)) || (decide (48 ≤ x) && decide (x ≤ 57)) || decide (x = 45))) := Lib.hid (by rw [← hx, hc]; rfl)
      have hF : Hid (∀ p, Fr (fun _ => False) w (w.iter B p)) := Lib.hid (fun p => (Fr.refl _ w).alloc _)
      by_cases ha : x < 128
      · have hd : Utf8.decode B k = (x, 1) := by rw [decode_ascii B k hp (by omega), hx]
        rw [hd] at hnx
        have hstep : Hid (goodC s[k] = true → ∀ j (h : j < s.length), j < k + 1 → goodC s[j] = true) := Lib.hid (fun hg j h hj => by
          by_cases e : j = k
          · subst e; exact hg
          · exact HA.out j h (by omega))
        clear hd hc hx
        rcases (by omega : (97 ≤ x ∧ x ≤ 122) ∨ x < 48 ∧ x ≠ 45 ∨ x = 45 ∨ (48 ≤ x ∧ x ≤ 57) ∨ (57 < x ∧ x < 97) ∨ 122 < x) with h | h | h | h | h | h
        · have hy := Lib.hid (hstep.out (by rw [hgc.out]; simp [h.1, h.2]))
          obtain ⟨h1, h2⟩ := h
          have q1 : ¬ (x : Int) < 97 := by omega
          have q2 : ¬ (122 : Int) < (x : Int) := by omega
          go_wp2_with fail
          go_roundw
          case rel => exact ⟨k + 1, by omega, rfl, hy.out⟩
          case measure => simp; omega
        · have hn := Lib.hid (hno.out (by rw [hgc.out]; simp; omega))
          obtain ⟨h1, h2⟩ := h
          have q1 : (x : Int) < 48 := by omega
          have q2 : ((x : Int) != 45) = true := by simp; omega
          have q3 : (x : Int) < 97 := by omega
          go_wp2_with fail
          go_ret
          exact ⟨by rw [hn.out]; rfl, hF.out _⟩
        · have hy := Lib.hid (hstep.out (by rw [hgc.out]; simp [h]))
          subst h
          go_wp2_with fail
          go_roundw
          case rel => exact ⟨k + 1, by omega, rfl, hy.out⟩
          case measure => simp; omega
        · have hy := Lib.hid (hstep.out (by rw [hgc.out]; simp [h.1, h.2]))
          obtain ⟨h1, h2⟩ := h
          have q1 : ¬ (x : Int) < 48 := by omega
          have q2 : ¬ (57 : Int) < (x : Int) := by omega
          have q3 : (x : Int) < 97 := by omega
          go_wp2_with fail
          go_roundw
          case rel => exact ⟨k + 1, by omega, rfl, hy.out⟩
          case measure => simp; omega
        · have hn := Lib.hid (hno.out (by rw [hgc.out]; simp; omega))
          obtain ⟨h1, h2⟩ := h
          have q1 : ¬ (x : Int) < 48 := by omega
          have q2 : (57 : Int) < (x : Int) := by omega
          have q3 : (x : Int) < 97 := by omega
          have q4 : ((x : Int) != 45) = true := by simp; omega
          go_wp2_with fail
          go_ret
          exact ⟨by rw [hn.out]; rfl, hF.out _⟩
        · have hn := Lib.hid (hno.out (by rw [hgc.out]; simp; omega))
          have q1 : ¬ (x : Int) < 48 := by omega
          have q2 : (57 : Int) < (x : Int) := by omega
          have q3 : ¬ (x : Int) < 97 := by omega
          have q4 : ((x : Int) != 45) = true := by simp; omega
          have q5 : (122 : Int) < (x : Int) := by omega
          go_wp2_with fail
          go_ret
          exact ⟨by rw [hn.out]; rfl, hF.out _⟩
      · obtain ⟨hr1, hr2⟩ := decode_high B k hp (by omega)
        obtain ⟨y, hy⟩ : ∃ y, (Utf8.decode B k).1 = y := ⟨_, rfl⟩
        obtain ⟨z, hz⟩ : ∃ z, (Utf8.decode B k).2 = z := ⟨_, rfl⟩
        have hyl := decode_le B k
        rw [hy, hz] at hnx
        rw [hy] at hr1 hyl
        have hn := Lib.hid (hno.out (by rw [hgc.out]; simp; omega))
        have q1 : ¬ (y : Int) < 48 := by omega
        have q2 : (57 : Int) < (y : Int) := by omega
        have q3 : ¬ (y : Int) < 97 := by omega
        have q4 : ((y : Int) != 45) = true := by simp; omega
        have q5 : (122 : Int) < (y : Int) := by omega
        clear hy hz hc hx hr2 ha
        go_wp2_with fail
        go_ret
        exact ⟨by rw [hn.out]; rfl, hF.out _⟩
    · obtain rfl : k = B.size := by omega
      have hnx : ∀ ty, (Instr.next (.pointer (some ⟨w.heap.size, 0, none⟩)) true ty).run Try.prog (w.iter B B.size) = _ := fun ty => run_next_end w B B.size ty hp
      have hF : Hid (∀ p, Fr (fun _ => False) w (w.iter B p)) := Lib.hid (fun p => (Fr.refl _ w).alloc _)
      have hall : Hid (s.all goodC = true) := Lib.hid (List.all_eq_true.2 (fun c hc => by
        obtain ⟨j, hj, rfl⟩ := List.getElem_of_mem hc
        exact HA.out j hj (by rw [HSZ.out]; exact hj)))
      have hGE : Hid (G = (decide (0 < B.size) && decide (B.size ≤ 16))) := Lib.hid (by rw [← HG.out, HSZ.out]; simp [goodB, hall.out])
      have hemp : Hid (B.toList.isEmpty = decide (B.size = 0)) := Lib.hid (by
        rw [← HBB.out]
        cases s <;> simp [ByteArray.size])
      clear hp
      by_cases h0 : B.size = 0
      · have he : B.toList.isEmpty = true := by rw [hemp.out]; simp [h0]
        have hg : Hid (G = false) := Lib.hid (by rw [hGE.out]; simp [h0])
        clear h0
        go_wp2_with fail
        go_ret
        exact ⟨by rw [hg.out]; rfl, hF.out _⟩
      · have he : B.toList.isEmpty = false := by rw [hemp.out]; simp [h0]
        by_cases h16 : B.size ≤ 16
        · have hg : Hid (G = true) := Lib.hid (by rw [hGE.out]; simp; omega)
          have hI : (B.size : Int) ≤ 16 := by omega
          clear h0
          go_wp2_with fail
          go_ret
          exact ⟨by rw [hg.out]; rfl, hF.out _⟩
        · have hg : Hid (G = false) := Lib.hid (by rw [hGE.out]; simp; omega)
          have hI : ¬ (B.size : Int) ≤ 16 := by omega
          clear h0
          go_wp2_with fail
          go_ret
          exact ⟨by rw [hg.out]; rfl, hF.out _⟩
end Go.Proofs.Ytclgmnobockfnaa
namespace Go.Proofs.Ytclgmnobockfnaa
open Go.RowKit Go.Maps
attribute [local go_sem] Oper.semAt_some
theorem itsOk_cons (last : Str) (p : Str × Int) (r : Its) : itsOk last (p :: r) = (goodB p.1 && decide (1 ≤ p.2) && mayI p.2 && decide (last < p.1) && itsOk p.1 r) := rfl
/-- Two blocks of the call's own are as told, and all else that was there is as it was. -/
structure MyI (w0 w : World) (n0 : Nat) (r : Bool) (last : Str) : Prop where
  res : w.heap[n0]? = some (.cells #[.bool r] 4)
  last : w.heap[n0 + 1]? = some (.cells #[vS last] 9)
  fr : Fr (fun b => n0 ≤ b) w0 w
theorem MyI.fa {B : Nat} {w0 w w' : World} {n0 : Nat} {r : Bool} {last : Str} (h : MyI w0 w n0 r last) (hf : Fa B w w') (hB : w0.heap.size ≤ B) : MyI w0 w' n0 r last :=
  ⟨Fa.cells hf h.res, Fa.cells hf h.last, h.fr.trans' hf (fun b hb e => by have := e.1; omega)⟩
theorem MyI.keep {w0 w w' : World} {n0 : Nat} {r : Bool} {last : Str} (h : MyI w0 w n0 r last) (hf : Fr (fun _ => False) w w') : MyI w0 w' n0 r last :=
  ⟨hf.at_ h.res (fun h => h), hf.at_ h.last (fun h => h), h.fr.trans' hf (fun _ _ e => e.elim)⟩
theorem MyI.putL {w0 w : World} {n0 : Nat} {r : Bool} {last : Str} (h : MyI w0 w n0 r last) (s : Str) : MyI w0 (w.setCell ⟨n0 + 1, 0, none⟩ (vS s)) n0 r s := by
  have hF : Fr (fun b => b = n0 + 1) w (w.setCell ⟨n0 + 1, 0, none⟩ (vS s)) := (Fr.refl (fun b => b = n0 + 1) w).setCell (p := ⟨n0 + 1, 0, none⟩) (fun _ => rfl) _
  exact ⟨hF.at_ h.res (by omega), obj_set h.last 0 _, h.fr.trans' hF (fun b _ e => by omega)⟩
theorem MyI.putR {w0 w : World} {n0 : Nat} {r : Bool} {last : Str} (h : MyI w0 w n0 r last) (b : Bool) : MyI w0 (w.setCell ⟨n0, 0, none⟩ (.bool b)) n0 b last := by
  have hF : Fr (fun b => b = n0) w (w.setCell ⟨n0, 0, none⟩ (.bool b)) := (Fr.refl (fun b => b = n0) w).setCell (p := ⟨n0, 0, none⟩) (fun _ => rfl) _
  exact ⟨obj_set h.res 0 _, hF.at_ h.last (by omega), h.fr.trans' hF (fun b _ e => by omega)⟩
def MyJ (w0 : World) (n0 : Nat) (L : Its) (k : Nat) (_ : Nat → Prop) (W : World) : Prop := ∃ last, MyI w0 W n0 false last ∧ itsOk [] L = itsOk last (L.drop k)
def MyX (w0 : World) (n0 : Nat) (L : Its) (c : Code) (_ : Nat) (_ : Nat → Prop) (W : World) : Prop := c = .ret ∧ itsOk [] L = false ∧ ∃ last, MyI w0 W n0 false last
set_option maxRecDepth 100000 in
set_option maxHeartbeats 8000000 in
theorem iMay (w : World) (v : Value) (L : Its) (h : Il w v L) : Calls Try.prog 32 #[v] w fun e w' => e = .returned (.bool (mayL L)) ∧ Fr (fun _ => False) w w' := by
  obtain ⟨n0, hn0⟩ : ∃ n0, w.heap.size = n0 := ⟨_, rfl⟩
  have HS := Lib.hid hn0
  have HL := Lib.hid h
  have hob := h.lt
  have HOB := Lib.hid hob
  have hokl : Hid (∀ (k : Nat) (p : Str × Int), L[k]? = some p → okS p.1) := Lib.hid (fun k p hp => by obtain ⟨_, _, _, _, hx⟩ := h; exact (hx k p hp).1)
  obtain ⟨a, c, rfl⟩ := h.sl
  obtain ⟨N, hN⟩ : ∃ N, L.length = N := ⟨_, rfl⟩
  have HN := Lib.hid hN
  have hNb : (N : Int) ≤ 9223372036854775807 := by have := h.1; omega
  rw [hN] at HL HOB ⊢
  clear h hob hN
  refine (callsIn_wide (n := 0)).1 ?_
  refine callsIn_of_wp_marks Try.func32 rfl trivial ?_ rfl
  simp only [Try.ntmps32, List.size_toArray, List.length_cons, List.length_nil, Nat.reduceAdd, Nat.reduceSub, Array.replicate_succ, Array.replicate_zero, List.push_toArray, List.append_toArray, List.nil_append, List.cons_append]
  have hfn : ∀ f, Fence.wide.fn f := fun _ => trivial
  have hdp : Fence.wide.depth.isSome = false := rfl
  gi_wp2_with (gi_at_call 35; refine (callsIn_wide.2 (iAll _ _ _ _)).mono ?_; rintro e w1 ⟨rfl, rfl⟩)
  have hI0 : MyI w (((w.alloc (.cells #[.bool false] 4)).alloc (.cells #[vS []] 9)).alloc (.cells #[.slice a N c] 23)) n0 false [] := by
    refine ⟨heap_keep (heap_keep (heap_at hn0.symm _) _) _, heap_keep (heap_at (by simp; omega) _) _, (((Fr.refl _ w).alloc _).alloc _).alloc _⟩
  have hB0 : Boxed (((w.alloc (.cells #[.bool false] 4)).alloc (.cells #[vS []] 9)).alloc (.cells #[.slice a N c] 23)) (n0 + 2) 23 (.slice a N c) := heap_at (by simp; omega) _
  obtain ⟨W0, hW0⟩ : ∃ W0, (((w.alloc (.cells #[.bool false] 4)).alloc (.cells #[vS []] 9)).alloc (.cells #[.slice a N c] 23)) = W0 := ⟨_, rfl⟩
  have hs0 : W0.heap.size = n0 + 3 := by rw [← hW0]; simp; omega
  rw [hW0] at hI0 hB0 ⊢
  have hL0 := HL.out.fr hI0.fr (fun b hb => by omega)
  have HI0 := Lib.hid hI0; have HS0 := Lib.hid hs0
  clear hW0 hI0
  refine rangeX (w0 := W0) (X := L) (S := fun b => b = n0 ∨ b = n0 + 1) rfl (enters_of Try.func68 (by kernel_rfl) rfl)
    (iAll1 _ W0 (n0 + 2) _ L hB0 hL0 (by omega) (fun hl b hb e => by have := HOB.out hl b e; omega)) (Below.refl _ _) (fun b hb => by omega) (fun _ => rfl)
    (MyJ w n0 L) (MyX w n0 L)
    (fun k C W W' hs hf => by obtain ⟨l, h1, h2⟩ := hs; exact ⟨l, h1.fa hf (by omega), h2⟩) (fun c k C W W' hs hf => by obtain ⟨e, e2, l, h1⟩ := hs; exact ⟨e, e2, l, h1.fa hf (by omega)⟩)
    ⟨[], HI0.out, rfl⟩ ?round ?done ?stop
  case round =>
    rintro lp k x C W hx hlp hi hr
    dsimp only [encIt]
    gi_wp2
    refine Took.mk (Fr.refl _ _) hi ?_
    rintro Wb ⟨last, hM, hrest⟩ hrb hf hsz hsw hCC _
    have hdr : L.drop k = x :: L.drop (k + 1) := List.drop_eq_getElem?_toList_append |>.trans (by rw [hx]; rfl)
    rw [hdr, itsOk_cons] at hrest
    have hok := hokl.out k x hx
    obtain ⟨g, n⟩ := x
    dsimp only at hrest hok ⊢
    have HM := Lib.hid hM; have HOK := Lib.hid hok
    clear hM hok hi hr hf hrb hdr hx
    by_cases hg : goodB g = true
    · rw [hg, Bool.true_and] at hrest
      by_cases h1 : 1 ≤ n
      · rw [decide_eq_true h1, Bool.true_and] at hrest
        cases hm : mayI n with
        | false =>
          have HNO : Hid (itsOk [] L = false) := Lib.hid (by rw [hrest, hm]; rfl)
          clear hrest
          gi_wp2_with (first
        | (gi_at_call 47; refine (callsIn_wide.2 (iGood _ g HOK.out)).mono ?_; rw [hg]; rintro e w2 ⟨rfl, hf2⟩; have hM2 := HM.out.keep hf2; have HM2 := Lib.hid hM2; have HF2 := Lib.hid hf2; have c0 := cell_obj hM2.last 0 (vS last) rfl; have f0 := obj_frozen hM2.last 0; have cr := cell_obj hM2.res 0 (.bool false) rfl; have fr := obj_frozen hM2.res 0; clear hM2 hf2)
        | (gi_at_call 56; refine (callsIn_wide.2 (kMay _ n)).mono ?_; rw [hm]; rintro e w3 ⟨rfl, rfl⟩))
          refine ⟨(HF2.out.mono (fun _ _ e => e.elim)).setCell (p := ⟨n0, 0, none⟩) (fun _ => .inl (.inl rfl)) _, rfl, HNO.out, last, HM2.out.putR false⟩
        | true =>
          rw [hm, Bool.true_and] at hrest
          rcases str_tri last g with hlt | heq | hgt
          · have HYES : Hid (itsOk [] L = itsOk g (L.drop (k + 1))) := Lib.hid (by rw [hrest, decide_eq_true hlt, Bool.true_and])
            have q1 : Op.bytesLess g last = false := by rw [bytesLess_eq]; simpa using str_asym hlt
            have q2 : (g == last) = false := by
              simp only [beq_eq_false_iff_ne, ne_eq]
              rintro rfl; exact str_irr _ hlt
            clear hrest hlt
            gi_wp2_with (first
        | (gi_at_call 47; refine (callsIn_wide.2 (iGood _ g HOK.out)).mono ?_; rw [hg]; rintro e w2 ⟨rfl, hf2⟩; have hM2 := HM.out.keep hf2; have HM2 := Lib.hid hM2; have HF2 := Lib.hid hf2; have c0 := cell_obj hM2.last 0 (vS last) rfl; have f0 := obj_frozen hM2.last 0; have cr := cell_obj hM2.res 0 (.bool false) rfl; have fr := obj_frozen hM2.res 0; clear hM2 hf2)
        | (gi_at_call 56; refine (callsIn_wide.2 (kMay _ n)).mono ?_; rw [hm]; rintro e w3 ⟨rfl, rfl⟩))
            exact ⟨(HF2.out.mono (fun _ _ e => e.elim)).setCell (p := ⟨n0 + 1, 0, none⟩) (fun _ => .inl (.inr rfl)) _, g, HM2.out.putL g, HYES.out⟩
          · have HNO : Hid (itsOk [] L = false) := Lib.hid (by rw [hrest, heq, decide_eq_false (str_irr g), Bool.false_and])
            have q2 : (g == last) = true := by simp [heq]
            clear hrest heq
            gi_wp2_with (first
        | (gi_at_call 47; refine (callsIn_wide.2 (iGood _ g HOK.out)).mono ?_; rw [hg]; rintro e w2 ⟨rfl, hf2⟩; have hM2 := HM.out.keep hf2; have HM2 := Lib.hid hM2; have HF2 := Lib.hid hf2; have c0 := cell_obj hM2.last 0 (vS last) rfl; have f0 := obj_frozen hM2.last 0; have cr := cell_obj hM2.res 0 (.bool false) rfl; have fr := obj_frozen hM2.res 0; clear hM2 hf2)
        | (gi_at_call 56; refine (callsIn_wide.2 (kMay _ n)).mono ?_; rw [hm]; rintro e w3 ⟨rfl, rfl⟩))
            refine ⟨(HF2.out.mono (fun _ _ e => e.elim)).setCell (p := ⟨n0, 0, none⟩) (fun _ => .inl (.inl rfl)) _, rfl, HNO.out, last, HM2.out.putR false⟩
          · have HNO : Hid (itsOk [] L = false) := Lib.hid (by rw [hrest, decide_eq_false (str_asym hgt), Bool.false_and])
            have q1 : Op.bytesLess g last = true := by rw [bytesLess_eq]; simpa using hgt
            clear hrest hgt
            gi_wp2_with (first
        | (gi_at_call 47; refine (callsIn_wide.2 (iGood _ g HOK.out)).mono ?_; rw [hg]; rintro e w2 ⟨rfl, hf2⟩; have hM2 := HM.out.keep hf2; have HM2 := Lib.hid hM2; have HF2 := Lib.hid hf2; have c0 := cell_obj hM2.last 0 (vS last) rfl; have f0 := obj_frozen hM2.last 0; have cr := cell_obj hM2.res 0 (.bool false) rfl; have fr := obj_frozen hM2.res 0; clear hM2 hf2)
        | (gi_at_call 56; refine (callsIn_wide.2 (kMay _ n)).mono ?_; rw [hm]; rintro e w3 ⟨rfl, rfl⟩))
            refine ⟨(HF2.out.mono (fun _ _ e => e.elim)).setCell (p := ⟨n0, 0, none⟩) (fun _ => .inl (.inl rfl)) _, rfl, HNO.out, last, HM2.out.putR false⟩
      · have HNO : Hid (itsOk [] L = false) := Lib.hid (by rw [hrest, decide_eq_false h1, Bool.false_and, Bool.false_and, Bool.false_and])
        have h1' : n < 1 := by omega
        clear hrest
        gi_wp2_with (first
        | (gi_at_call 47; refine (callsIn_wide.2 (iGood _ g HOK.out)).mono ?_; rw [hg]; rintro e w2 ⟨rfl, hf2⟩; have hM2 := HM.out.keep hf2; have HM2 := Lib.hid hM2; have HF2 := Lib.hid hf2; have c0 := cell_obj hM2.last 0 (vS last) rfl; have f0 := obj_frozen hM2.last 0; have cr := cell_obj hM2.res 0 (.bool false) rfl; have fr := obj_frozen hM2.res 0; clear hM2 hf2)
        | (gi_at_call 56; refine (callsIn_wide.2 (kMay _ n)).mono ?_; rw [hm]; rintro e w3 ⟨rfl, rfl⟩))
        refine ⟨(HF2.out.mono (fun _ _ e => e.elim)).setCell (p := ⟨n0, 0, none⟩) (fun _ => .inl (.inl rfl)) _, rfl, HNO.out, last, HM2.out.putR false⟩
    · have hg : goodB g = false := by simpa using hg
      have HNO : Hid (itsOk [] L = false) := Lib.hid (by rw [hrest, hg]; rfl)
      clear hrest
      gi_wp2_with (first
        | (gi_at_call 47; refine (callsIn_wide.2 (iGood _ g HOK.out)).mono ?_; rw [hg]; rintro e w2 ⟨rfl, hf2⟩; have hM2 := HM.out.keep hf2; have HM2 := Lib.hid hM2; have HF2 := Lib.hid hf2; have c0 := cell_obj hM2.last 0 (vS last) rfl; have f0 := obj_frozen hM2.last 0; have cr := cell_obj hM2.res 0 (.bool false) rfl; have fr := obj_frozen hM2.res 0; clear hM2 hf2)
        | (gi_at_call 56; refine (callsIn_wide.2 (kMay _ n)).mono ?_; rw [hm]; rintro e w3 ⟨rfl, rfl⟩))
      refine ⟨(HF2.out.mono (fun _ _ e => e.elim)).setCell (p := ⟨n0, 0, none⟩) (fun _ => .inl (.inl rfl)) _, rfl, HNO.out, last, HM2.out.putR false⟩
  case stop =>
    rintro D c k C W hD hk ⟨rfl, hF, last, hM⟩ hr hK
    have HM := Lib.hid hM; have HNO := Lib.hid hF
    have hc5 := cell_obj (Fa.cells (frPut (B := n0) (.deferred none) (by omega) hK rfl) hM.res) 0 (.bool false) rfl
    clear hM hF hr
    gi_wp2_with fail
    refine ⟨by simp, .inl ⟨_, _, rfl, run_takeDeferred hK, ?_⟩⟩
    refine ⟨.bool (mayL L), by simp [results, Try.results32, go_sem, hc5, mayL, HNO.out], rfl, ?_⟩
    exact (HM.out.fr.putObj (l := D) (fun _ => by omega) _).mono (fun b hb e => by omega)
  case done =>
    rintro D C W hD ⟨last, hM, hrest⟩ hr hK
    have HYES : Hid (itsOk [] L = true) := Lib.hid (by rw [hrest, List.drop_length]; rfl)
    have HM := Lib.hid hM
    have cr := cell_obj hM.res 0 (.bool false) rfl
    have fr := obj_frozen hM.res 0
    have hR5 := (hM.putR (decide ((N : Int) ≤ 16))).res
    have hK5 := (Below.heap_setCell W ⟨n0, 0, none⟩ (.bool (decide ((N : Int) ≤ 16))) D (by simp; omega)).trans hK
    have HR5 := Lib.hid hR5; have HK5 := Lib.hid hK5
    clear hM hrest hr hK hR5 hK5
    gi_wp2_with fail
    have hc5 := cell_obj (Fa.cells (frPut (B := n0) (.deferred none) (by omega) HK5.out rfl) HR5.out) 0 (.bool (decide ((N : Int) ≤ 16))) rfl
    refine ⟨by simp, .inl ⟨_, _, rfl, run_takeDeferred HK5.out, ?_⟩⟩
    refine ⟨.bool (decide ((N : Int) ≤ 16)), by simp [results, Try.results32, go_sem, hc5], ?_, ?_⟩
    · have : mayL L = decide ((N : Int) ≤ 16) := by
        unfold mayL
        rw [HYES.out, Bool.true_and, HN.out]
        by_cases h : N ≤ 16
        · rw [decide_eq_true h, decide_eq_true (by omega)]
        · rw [decide_eq_false h, decide_eq_false (by omega)]
      rw [this]
    · exact ((HM.out.putR _).fr.putObj (l := D) (fun _ => by omega) _).mono (fun b hb e => by omega)
end Go.Proofs.Ytclgmnobockfnaa
namespace Go.Proofs.Ytclgmnobockfnaa
open Go.RowKit Go.Maps
attribute [local go_sem] Oper.semAt_some
@[local go_sem] theorem optP_none (b : Nat) : optP b none = .pointer none := rfl
@[local go_sem] theorem optP_some (b i : Nat) : optP b (some i) = .pointer (some ⟨b, i, none⟩) := rfl
/-- Three boxes of the call's own: the stock, a kind, a result. -/
structure QI (w0 W : World) (n0 g : Nat) (k e : Int) : Prop where
  s : W.heap[n0]? = some (.cells #[.pointer (some ⟨g, 0, none⟩)] 24)
  k : W.heap[n0 + 1]? = some (.cells #[.int .i64 k] 3)
  e : W.heap[n0 + 1 + 1]? = some (.cells #[.int .i64 e] 29)
  fr : Fr (fun b => n0 ≤ b) w0 W
section
variable {w0 W W' : World} {n0 g : Nat} {k e : Int}
theorem QI.fa {B : Nat} (h : QI w0 W n0 g k e) (hf : Fa B W W') (hB : w0.heap.size ≤ B) : QI w0 W' n0 g k e :=
  ⟨Fa.cells hf h.s, Fa.cells hf h.k, Fa.cells hf h.e, h.fr.trans' hf (fun b hb e => by have := e.1; omega)⟩
theorem QI.keep (h : QI w0 W n0 g k e) (hf : Fr (fun _ => False) W W') : QI w0 W' n0 g k e :=
  ⟨hf.at_ h.s (fun h => h), hf.at_ h.k (fun h => h), hf.at_ h.e (fun h => h), h.fr.trans' hf (fun _ _ e => e.elim)⟩
theorem QI.put (h : QI w0 W n0 g k e) (e' : Int) : QI w0 (W.setCell ⟨n0 + 1 + 1, 0, none⟩ (.int .i64 e')) n0 g k e' := by
  have hF : Fr (fun b => b = n0 + 1 + 1) W (W.setCell ⟨n0 + 1 + 1, 0, none⟩ (.int .i64 e')) := (Fr.refl (fun b => b = n0 + 1 + 1) W).setCell (p := ⟨n0 + 1 + 1, 0, none⟩) (fun _ => rfl) _
  exact ⟨hF.at_ h.s (by omega), hF.at_ h.k (by omega), obj_set h.e 0 _, h.fr.trans' hF (fun b _ e => by omega)⟩
end
theorem doMay_71 {A : Stk} {k : Int} {L : Its} {i j : Nat} {p : Str × Int} (hr : (roadF k).1 = some i) (hp : L[j]? = some p) (hn : getS A p.1 = none) : doMay A k L = 71 := by
  unfold doMay
  rw [hr]
  have : (L.any fun p => (getS A p.1).isNone) = true := List.any_eq_true.2 ⟨p, List.mem_of_getElem? hp, by rw [hn]; rfl⟩
  simp only [this, if_true]
theorem doMay_known {A : Stk} {k : Int} {L : Its} {i : Nat} (hr : (roadF k).1 = some i) (hk : ∀ (j : Nat) (p : Str × Int), j < L.length → L[j]? = some p → (getS A p.1).isSome = true) :
    doMay A k L = if L.any (fun p => decide ((rowAt A p.1).get i < p.2)) = true then 51 else 0 := by
  unfold doMay
  rw [hr]
  have : (L.any fun p => (getS A p.1).isNone) = false := by
    refine Bool.eq_false_iff.2 (fun ht => ?_)
    obtain ⟨p, hp, hn⟩ := List.any_eq_true.1 ht
    obtain ⟨j, hj, rfl⟩ := List.getElem_of_mem hp
    have := hk j _ hj (List.getElem?_eq_getElem hj)
    cases e : getS A L[j].1 <;> rw [e] at this hn
    · cases this
    · cases hn
  simp only [this, Bool.false_eq_true, if_false]
def Mi1 (w : World) (n0 g : Nat) (k : Int) (A : Stk) (L : Its) (j : Nat) (_ : Nat → Prop) (W : World) : Prop := QI w W n0 g k 0 ∧ ∀ (i : Nat) (p : Str × Int), i < j → L[i]? = some p → (getS A p.1).isSome = true
def Mx1 (w : World) (n0 g : Nat) (k : Int) (A : Stk) (L : Its) (c : Code) (_ : Nat) (_ : Nat → Prop) (W : World) : Prop := c = .ret ∧ doMay A k L = 71 ∧ QI w W n0 g k 71
def Mi2 (w : World) (n0 g D : Nat) (k : Int) (A : Stk) (L : Its) (i0 : Nat) (j : Nat) (_ : Nat → Prop) (W : World) : Prop := (QI w W n0 g k 0 ∧ W.heap[D]? = some (.deferred (some []))) ∧ ∀ (i : Nat) (p : Str × Int), i < j → L[i]? = some p → ¬ (rowAt A p.1).get i0 < p.2
def Mx2 (w : World) (n0 g D : Nat) (k : Int) (A : Stk) (L : Its) (c : Code) (_ : Nat) (_ : Nat → Prop) (W : World) : Prop := c = .ret ∧ doMay A k L = 51 ∧ QI w W n0 g k 51 ∧ W.heap[D]? = some (.deferred (some []))
theorem def_fa {B D : Nat} {W W' : World} (h : W.heap[D]? = some (.deferred (some []))) (hf : Fa B W W') (hD : D < B) : W'.heap[D]? = some (.deferred (some [])) :=
  hf.at_ h (fun e => by have := e.1; omega)
set_option maxRecDepth 100000 in
set_option maxHeartbeats 8000000 in
theorem sMay (w : World) (g : Nat) (TS : Nat → Prop) (A : Stk) (k : Int) (v : Value) (L : Its) (h : SA w g TS A) (hA : SOk A) (hv : Il w v L) :
    Calls Try.prog 33 #[.pointer (some ⟨g, 0, none⟩), .int .i64 k, v] w fun e w' => e = .returned (.int .i64 (doMay A k L)) ∧ Fr (fun _ => False) w w' := by
  obtain ⟨n0, hn0⟩ : ∃ n0, w.heap.size = n0 := ⟨_, rfl⟩
  have HS := Lib.hid hn0
  have HL := Lib.hid hv
  have hob := hv.lt
  have HOB := Lib.hid hob
  have hokl : Hid (∀ (j : Nat) (p : Str × Int), L[j]? = some p → okS p.1) := Lib.hid (fun j p hp => by obtain ⟨_, _, _, _, hx⟩ := hv; exact (hx j p hp).1)
  obtain ⟨a, c, rfl⟩ := hv.sl
  obtain ⟨N, hN⟩ : ∃ N, L.length = N := ⟨_, rfl⟩
  have HN := Lib.hid hN
  rw [hN] at HL HOB ⊢
  obtain ⟨m, hc, hm, hTm⟩ := h.cell
  have HC := Lib.hid hc; have HM := Lib.hid hm; have HAA := Lib.hid hA
  have HGL : Hid (g < w.heap.size) := Lib.hid (h.lt g h.own)
  have hroad := Lib.hid (fun W b => sRoad W b k)
  have hrl := roadF_lt k
  clear hv hob hN h hm hTm hc hA
  refine (callsIn_wide (n := 0)).1 ?_
  refine callsIn_of_wp_marks Try.func33 rfl trivial ?_ rfl
  simp only [Try.ntmps33, List.size_toArray, List.length_cons, List.length_nil, Nat.reduceAdd, Nat.reduceSub, Array.replicate_succ, Array.replicate_zero, List.push_toArray, List.append_toArray, List.nil_append, List.cons_append]
  have hfn : ∀ f, Fence.wide.fn f := fun _ => trivial
  have hdp : Fence.wide.depth.isSome = false := rfl
  have hI0 : QI w ((((w.alloc (.cells #[.pointer (some ⟨g, 0, none⟩)] 24)).alloc (.cells #[.int .i64 k] 3)).alloc (.cells #[.int .i64 0] 29)).alloc (.cells SR.zero.cs 69)) n0 g k 0 :=
    ⟨heap_keep (heap_keep (heap_keep (heap_at hn0.symm _) _) _) _, heap_keep (heap_keep (heap_at (by simp; omega) _) _) _, heap_keep (heap_at (by simp; omega) _) _, ((((Fr.refl _ w).alloc _).alloc _).alloc _).alloc _⟩
  have hs0 : ((((w.alloc (.cells #[.pointer (some ⟨g, 0, none⟩)] 24)).alloc (.cells #[.int .i64 k] 3)).alloc (.cells #[.int .i64 0] 29)).alloc (.cells SR.zero.cs 69)).heap.size = n0 + 4 := by simp; omega
  dsimp only [SR.cs, SR.zero] at hI0 hs0
  have HI0 := Lib.hid hI0; have HS0 := Lib.hid hs0
  clear hI0 hs0
  obtain ⟨⟨rf, rt, ro⟩, hR⟩ : ∃ R, roadF k = R := ⟨_, rfl⟩
  rw [hR] at hroad hrl
  dsimp only at hroad hrl
  have hrf : Hid (∀ i, rf = some i → (roadF k).1 = some i) := Lib.hid (fun i e => by rw [hR]; exact e)
  have hrn : Hid (rf = none → doMay A k L = 0) := Lib.hid (fun e => by unfold doMay; rw [hR, e])
  clear hR
  cases rf with
  | none =>
    have hz := Lib.hid (hrn.out rfl)
    gi_wp2_with (gi_at_call 36; refine (callsIn_wide.2 (hroad.out _ _)).mono ?_; rintro e w1 ⟨rfl, q, rfl⟩)
    have hc5 := cell_obj (HI0.out.keep ((Fr.refl _ _).drewN q)).e 0 (.int .i64 0) rfl
    refine ⟨.int .i64 0, by simp [results, Try.results33, go_sem, hc5], ?_, ?_⟩
    · rw [hz.out]
    · exact ((((((Fr.refl _ w).alloc _).alloc _).alloc _).alloc _).drewN _).setCell (p := ⟨n0 + 1 + 1, 0, none⟩) (fun h => by have := HS.out; have h : n0 + 1 + 1 < w.heap.size := h; omega) _
  | some i0 =>
    have hi4 := hrl.1 i0 rfl
    have hroadI := hrf.out i0 rfl
    have HRO := Lib.hid hroadI
    clear hrl hrn hrf hroadI
    gi_wp2_with (first
      | (gi_at_call 36; refine (callsIn_wide.2 (hroad.out _ _)).mono ?_; rintro e w1 ⟨rfl, q, rfl⟩)
      | (gi_at_call 35; refine (callsIn_wide.2 (iAll _ _ _ _)).mono ?_; rintro e w1 ⟨rfl, rfl⟩))
    have hI1 := HI0.out.keep (((Fr.refl (fun _ => False) _).drewN q).alloc (.cells #[.slice a N c] 23))
    have hB1 : Boxed (((((((w.alloc (.cells #[.pointer (some ⟨g, 0, none⟩)] 24)).alloc (.cells #[.int .i64 k] 3)).alloc (.cells #[.int .i64 0] 29)).alloc (.cells #[.int .i64 0, .int .i64 0, .int .i64 0, .int .i64 0, .int .i64 0, .int .i64 0, .int .i64 0, .int .i64 0, .int .i64 0, .int .i64 0, .int .i64 0] 69)).drewN q)).alloc (.cells #[.slice a N c] 23)) (n0 + 4) 23 (.slice a N c) := heap_at (by have := HS0.out; exact this.symm) _
    obtain ⟨W1, hW1⟩ : ∃ W1, (((((((w.alloc (.cells #[.pointer (some ⟨g, 0, none⟩)] 24)).alloc (.cells #[.int .i64 k] 3)).alloc (.cells #[.int .i64 0] 29)).alloc (.cells #[.int .i64 0, .int .i64 0, .int .i64 0, .int .i64 0, .int .i64 0, .int .i64 0, .int .i64 0, .int .i64 0, .int .i64 0, .int .i64 0, .int .i64 0] 69)).drewN q)).alloc (.cells #[.slice a N c] 23)) = W1 := ⟨_, rfl⟩
    have hs1 : W1.heap.size = n0 + 5 := by rw [← hW1]; simp; omega
    rw [hW1] at hI1 hB1 ⊢
    have hL1 := HL.out.fr hI1.fr (fun b hb => by omega)
    have HI1 := Lib.hid hI1; have HS1 := Lib.hid hs1
    clear hW1 hI1 HI0 HS0
    refine rangeX (w0 := W1) (X := L) (S := fun b => b = n0 + 1 + 1) rfl (enters_of Try.func68 (by kernel_rfl) rfl)
      (iAll1 _ W1 (n0 + 4) _ L hB1 hL1 (by omega) (fun hl b hb e => by have := HOB.out hl b e; omega)) (Below.refl _ _) (fun b hb => by omega) (fun _ => rfl)
      (Mi1 w n0 g k A L) (Mx1 w n0 g k A L)
      (fun k C W W' hs hf => ⟨hs.1.fa hf (by omega), hs.2⟩) (fun c k C W W' hs hf => ⟨hs.1, hs.2.1, hs.2.2.fa hf (by omega)⟩)
      ⟨HI1.out, fun i p hi => by omega⟩ ?round ?done ?stop
    case round =>
      rintro lp j x C W hx hlp hi hr
      dsimp only [encIt]
      gi_wp2
      refine Took.mk (Fr.refl _ _) hi ?_
      rintro Wb ⟨hQ, hkn⟩ hrb hf hsz hsw hCC _
      have hok := hokl.out j x hx
      obtain ⟨gd, n⟩ := x
      dsimp only at hok ⊢
      have cs := cell_obj hQ.s 0 (.pointer (some ⟨g, 0, none⟩)) rfl
      have ce := cell_obj hQ.e 0 (.int .i64 0) rfl
      have fe := obj_frozen hQ.e 0
      have cg := hQ.fr.cell HC.out (by have := HGL.out; show ¬ n0 ≤ g; omega)
      have hlk := mp_row_ok (hQ.fr.mp HM.out (by have := HM.out.lt; omega)) hok
      unfold SR.enc at hlk
      obtain ⟨R, hRR⟩ : ∃ R, rowAt A gd = R := ⟨_, rfl⟩
      rw [hRR] at hlk
      unfold SR.cs at hlk
      have HX := Lib.hid hx; have HQ := Lib.hid hQ; have HKN := Lib.hid hkn
      clear hi hr hf hrb hx hQ hkn hok hRR
      cases hg : getS A gd with
      | none =>
        rw [hg] at hlk
        dsimp only [Option.isSome] at hlk
        have hno := Lib.hid (doMay_71 HRO.out HX.out hg)
        have hQ2 := HQ.out.keep ((Fr.refl (fun _ => False) Wb).alloc (.cells #[.int .i64 R.free, .int .i64 R.held, .int .i64 R.picked, .int .i64 R.aside, .int .i64 R.received, .int .i64 R.returned, .int .i64 R.counted, .int .i64 R.came, .int .i64 R.shipped, .int .i64 R.scrapped, .int .i64 R.sent] 69))
        have ce2 := cell_obj hQ2.e 0 (.int .i64 0) rfl
        have fe2 := obj_frozen hQ2.e 0
        have HQ2 := Lib.hid hQ2
        clear hg ce fe hQ2
        gi_wp2_with fail
        refine ⟨((Fr.refl _ _).alloc _).setCell (p := ⟨n0 + 1 + 1, 0, none⟩) (fun _ => .inl rfl) _, rfl, hno.out, HQ2.out.put 71⟩
      | some r =>
        rw [hg] at hlk
        dsimp only [Option.isSome] at hlk
        have hyes : Hid (∀ (i : Nat) (p : Str × Int), i < j + 1 → L[i]? = some p → (getS A p.1).isSome = true) := Lib.hid (fun i p hi hp => by
          by_cases e : i = j
          · subst e
            rw [HX.out] at hp
            cases hp
            rw [hg]; rfl
          · exact HKN.out i p (by omega) hp)
        clear hg
        gi_wp2_with fail
        exact ⟨(Fr.refl _ _).alloc _, HQ.out.keep ((Fr.refl _ _).alloc _), hyes.out⟩
    case stop =>
      rintro D c j C W hD hk ⟨rfl, hno, hQ⟩ hr hK
      have HQ := Lib.hid hQ; have HNO := Lib.hid hno
      have hc5 := cell_obj (Fa.cells (frPut (B := n0) (.deferred none) (by omega) hK rfl) hQ.e) 0 (.int .i64 71) rfl
      clear hQ hno hr
      gi_wp2_with fail
      refine ⟨by simp, .inl ⟨_, _, rfl, run_takeDeferred hK, ?_⟩⟩
      refine ⟨.int .i64 71, by simp [results, Try.results33, go_sem, hc5], ?_, ?_⟩
      · rw [HNO.out]
      · exact (HQ.out.fr.putObj (l := D) (fun _ => by omega) _).mono (fun b hb e => by omega)
    case done =>
      rintro D C W hD ⟨hQ, hkn⟩ hr hK
      have HQ := Lib.hid hQ
      have hkn' := Lib.hid (doMay_known HRO.out hkn)
      have hDl := (Array.getElem?_eq_some_iff.1 hK).1
      clear hkn hQ hr hB1 hL1
      gi_wp2_with (gi_at_call 35; refine (callsIn_wide.2 (iAll _ _ _ _)).mono ?_; rintro e w2 ⟨rfl, rfl⟩)
      have hQ2 := HQ.out.keep ((Fr.refl (fun _ => False) W).alloc (.cells #[.slice a N c] 23))
      have hB2 := Boxed.new W 23 (.slice a N c)
      have hK2 := heap_keep hK (.cells #[.slice a N c] 23)
      obtain ⟨W2, hW2⟩ : ∃ W2, W.alloc (.cells #[.slice a N c] 23) = W2 := ⟨_, rfl⟩
      have hs2 : W2.heap.size = W.heap.size + 1 := by rw [← hW2]; simp
      rw [hW2] at hQ2 hB2 hK2 ⊢
      have hL2 := HL.out.fr hQ2.fr (fun b hb => by omega)
      have HQ2 := Lib.hid hQ2; have HK2 := Lib.hid hK2
      have hnD : n0 + 5 ≤ D := by have := HS1.out; omega
      clear hW2 hQ2 hK2 HQ hK
      refine rangeX (w0 := W2) (X := L) (S := fun b => b = n0 + 1 + 1) rfl (enters_of Try.func68 (by kernel_rfl) rfl)
        (iAll1 _ W2 _ _ L hB2 hL2 (by omega) (fun hl b hb e => by have := HOB.out hl b e; omega)) (Below.refl _ _) (fun b hb => by omega) (fun _ => rfl)
        (Mi2 w n0 g D k A L i0) (Mx2 w n0 g D k A L)
        (fun k C W W' hs hf => ⟨⟨hs.1.1.fa hf (by omega), def_fa hs.1.2 hf (by omega)⟩, hs.2⟩) (fun c k C W W' hs hf => ⟨hs.1, hs.2.1, hs.2.2.1.fa hf (by omega), def_fa hs.2.2.2 hf (by omega)⟩)
        ⟨⟨HQ2.out, HK2.out⟩, fun i p hi => by omega⟩ ?round2 ?done2 ?stop2
      case round2 =>
        rintro lp j x C3 W3 hx hlp hi hr
        dsimp only [encIt]
        gi_wp2
        refine Took.mk (Fr.refl _ _) hi ?_
        rintro Wb ⟨⟨hQ, hKb⟩, hkn⟩ hrb hf hsz hsw hCC _
        have hok := hokl.out j x hx
        obtain ⟨gd, n⟩ := x
        dsimp only at hok ⊢
        have cs := cell_obj hQ.s 0 (.pointer (some ⟨g, 0, none⟩)) rfl
        have ck := cell_obj (heap_keep hQ.k (.cells (rowAt A gd).cs 69)) 0 (.int .i64 k) rfl
        have cg := hQ.fr.cell HC.out (by have := HGL.out; show ¬ n0 ≤ g; omega)
        have hlk := mp_row (hQ.fr.mp HM.out (by have := HM.out.lt; omega)) hok
        have hcl := cell_obj (heap_new Wb (.cells (rowAt A gd).cs 69)) i0 _ ((rowAt A gd).cs_get (show i0 < 11 by omega))
        unfold SR.enc at hlk
        obtain ⟨R, hRR⟩ : ∃ R, rowAt A gd = R := ⟨_, rfl⟩
        rw [hRR] at hlk hcl ck
        obtain ⟨have_, hhv⟩ : ∃ x, R.get i0 = x := ⟨_, rfl⟩
        rw [hhv] at hcl
        have HHV : Hid ((rowAt A gd).get i0 = have_) := Lib.hid (by rw [hRR, hhv])
        unfold SR.cs at hlk hcl ck
        have hQ3 := HQ2.out
        have hQa := hQ.keep (((Fr.refl (fun _ => False) Wb).alloc (.cells #[.int .i64 R.free, .int .i64 R.held, .int .i64 R.picked, .int .i64 R.aside, .int .i64 R.received, .int .i64 R.returned, .int .i64 R.counted, .int .i64 R.came, .int .i64 R.shipped, .int .i64 R.scrapped, .int .i64 R.sent] 69)))
        have HX := Lib.hid hx; have HQ := Lib.hid hQ; have HQA := Lib.hid hQa; have HKN := Lib.hid hkn; have HKB := Lib.hid hKb
        clear hi hr hf hrb hx hQ hkn hok hRR hhv hQ3 hQa hKb
        by_cases hlt : have_ < n
        · have hno : Hid (doMay A k L = 51) := Lib.hid (by
            rw [hkn'.out, if_pos]
            exact List.any_eq_true.2 ⟨_, List.mem_of_getElem? HX.out, by rw [decide_eq_true_eq, HHV.out]; exact hlt⟩)
          have ce2 := cell_obj HQA.out.e 0 (.int .i64 0) rfl
          have fe2 := obj_frozen HQA.out.e 0
          gi_wp2_with (gi_at_call 36; refine (callsIn_wide.2 (hroad.out _ _)).mono ?_; rintro e w5 ⟨rfl, q5, rfl⟩)
          have hFq : Fr (fun b => b = n0 + 1 + 1) Wb (((Wb.alloc (.cells #[.int .i64 R.free, .int .i64 R.held, .int .i64 R.picked, .int .i64 R.aside, .int .i64 R.received, .int .i64 R.returned, .int .i64 R.counted, .int .i64 R.came, .int .i64 R.shipped, .int .i64 R.scrapped, .int .i64 R.sent] 69)).drewN q5).setCell ⟨n0 + 1 + 1, 0, none⟩ (.int .i64 51)) := (((Fr.refl (fun b => b = n0 + 1 + 1) Wb).alloc _).drewN _).setCell (p := ⟨n0 + 1 + 1, 0, none⟩) (fun _ => rfl) _
          exact ⟨hFq.mono (fun _ _ e => .inl e), rfl, hno.out, (HQA.out.keep ((Fr.refl _ _).drewN q5)).put 51, hFq.at_ HKB.out (by omega)⟩
        · have hyes : Hid (∀ (i : Nat) (p : Str × Int), i < j + 1 → L[i]? = some p → ¬ (rowAt A p.1).get i0 < p.2) := Lib.hid (fun i p hi hp => by
            by_cases e : i = j
            · subst e
              rw [HX.out] at hp
              cases hp
              rw [HHV.out]; exact hlt
            · exact HKN.out i p (by omega) hp)
          gi_wp2_with (gi_at_call 36; refine (callsIn_wide.2 (hroad.out _ _)).mono ?_; rintro e w5 ⟨rfl, q5, rfl⟩)
          exact ⟨((Fr.refl _ _).alloc _).drewN _, ⟨HQA.out.keep ((Fr.refl _ _).drewN q5), heap_keep HKB.out _⟩, fun i p hi hp => by have := hyes.out i p hi hp; omega⟩
      case stop2 =>
        rintro D2 c j C3 W3 hD2 hk ⟨rfl, hno, hQ, hK1⟩ hr hK
        have HQ := Lib.hid hQ; have HNO := Lib.hid hno
        have hK1' := (World.putObj_heap_other (w := W3) (r := D2) (o := .deferred none) (k := D) (by omega)).trans hK1
        have hFx : Fa n0 W3 ((W3.putObj D2 (.deferred none)).putObj D (.deferred none)) := (frPut (B := n0) (.deferred none) (by omega) hK rfl).trans' (frPut (B := n0) (.deferred none) (by omega) hK1' rfl) (fun b hb e => ⟨e.1, by
          obtain ⟨-, o, ho, hx⟩ := e
          by_cases hbD : b = D2
          · subst hbD; exact ⟨_, hK, rfl⟩
          · exact ⟨o, (World.putObj_heap_other hbD).symm.trans ho, hx⟩⟩)
        have hc5 := cell_obj (Fa.cells hFx hQ.e) 0 (.int .i64 51) rfl
        clear hQ hno hr
        gi_wp2_with fail
        refine ⟨by simp, .inl ⟨_, _, rfl, run_takeDeferred hK, ?_⟩⟩
        refine ⟨by simp, .inl ⟨_, _, rfl, run_takeDeferred hK1', ?_⟩⟩
        refine ⟨.int .i64 51, by simp [results, Try.results33, go_sem, hc5], ?_, ?_⟩
        · rw [HNO.out]
        · exact ((HQ.out.fr.putObj (l := D2) (fun _ => by omega) _).putObj (l := D) (fun _ => by omega) _).mono (fun b hb e => by omega)
      case done2 =>
        rintro D2 C3 W3 hD2 ⟨⟨hQ, hK1⟩, hkn⟩ hr hK
        have HQ := Lib.hid (hQ.put 0)
        have hz : Hid (doMay A k L = 0) := Lib.hid (by
          rw [hkn'.out, if_neg]
          intro ht
          obtain ⟨p, hp, hlt⟩ := List.any_eq_true.1 ht
          obtain ⟨i, hi, rfl⟩ := List.getElem_of_mem hp
          have := hkn i _ hi (List.getElem?_eq_getElem hi)
          simp only [decide_eq_true_eq] at hlt
          exact this hlt)
        have ce2 := cell_obj hQ.e 0 (.int .i64 0) rfl
        have fe2 := obj_frozen hQ.e 0
        have hKs := (Below.heap_setCell W3 ⟨n0 + 1 + 1, 0, none⟩ (.int .i64 0) D2 (by simp; omega)).trans hK
        have hK1s := (Below.heap_setCell W3 ⟨n0 + 1 + 1, 0, none⟩ (.int .i64 0) D (by simp; omega)).trans hK1
        have hK1' := (World.putObj_heap_other (w := W3.setCell ⟨n0 + 1 + 1, 0, none⟩ (.int .i64 0)) (r := D2) (o := .deferred none) (k := D) (by omega)).trans hK1s
        have hFx : Fa n0 (W3.setCell ⟨n0 + 1 + 1, 0, none⟩ (.int .i64 0)) (((W3.setCell ⟨n0 + 1 + 1, 0, none⟩ (.int .i64 0)).putObj D2 (.deferred none)).putObj D (.deferred none)) := (frPut (B := n0) (.deferred none) (by omega) hKs rfl).trans' (frPut (B := n0) (.deferred none) (by omega) hK1' rfl) (fun b hb e => ⟨e.1, by
          obtain ⟨-, o, ho, hx⟩ := e
          by_cases hbD : b = D2
          · subst hbD; exact ⟨_, hKs, rfl⟩
          · exact ⟨o, (World.putObj_heap_other hbD).symm.trans ho, hx⟩⟩)
        have hc5 := cell_obj (Fa.cells hFx (hQ.put 0).e) 0 (.int .i64 0) rfl
        clear hQ hkn hr hK hK1
        gi_wp2_with fail
        refine ⟨by simp, .inl ⟨_, _, rfl, run_takeDeferred hKs, ?_⟩⟩
        refine ⟨by simp, .inl ⟨_, _, rfl, run_takeDeferred hK1', ?_⟩⟩
        refine ⟨.int .i64 0, by simp [results, Try.results33, go_sem, hc5], ?_, ?_⟩
        · rw [hz.out]
        · exact ((HQ.out.fr.putObj (l := D2) (fun _ => by omega) _).putObj (l := D) (fun _ => by omega) _).mono (fun b hb e => by omega)
end Go.Proofs.Ytclgmnobockfnaa
namespace Go.Proofs.Ytclgmnobockfnaa
open Go.RowKit Go.Maps
attribute [local go_sem] Oper.semAt_some
theorem SR.get_ok {r : SR} (h : SRb r) {i : Nat} (hi : i < 11) (h6 : i ≠ 6) : 0 ≤ r.get i ∧ r.get i ≤ 72057594037927936 := by
  obtain ⟨a0, a1, a2, a3, b0, b1, b2, b3, b4, b5⟩ := h
  match i, hi, h6 with
  | 0, _, _ => exact ⟨a0.1, by have := a0.2; show r.free ≤ _; omega⟩
  | 1, _, _ => exact ⟨a1.1, by have := a1.2; show r.held ≤ _; omega⟩
  | 2, _, _ => exact ⟨a2.1, by have := a2.2; show r.picked ≤ _; omega⟩
  | 3, _, _ => exact ⟨a3.1, by have := a3.2; show r.aside ≤ _; omega⟩
  | 4, _, _ => exact b0
  | 5, _, _ => exact b1
  | 6, _, h => exact absurd rfl h
  | 7, _, _ => exact b2
  | 8, _, _ => exact b3
  | 9, _, _ => exact b4
  | 10, _, _ => exact b5
theorem SR.get_set (r : SR) (i j : Nat) (n : Int) (hi : i < 11) (hj : j < 11) : (r.set i n).get j = if i = j then n else r.get j := by
  have h : ∀ (i j : Fin 11), (r.set i.val n).get j.val = if i = j then n else r.get j.val := by
    intro i j
    match i, j with
    | ⟨i, hi⟩, ⟨j, hj⟩ =>
      match i, hi, j, hj with
      | 0, _, j, hj => match j, hj with | 0, _ | 1, _ | 2, _ | 3, _ | 4, _ | 5, _ | 6, _ | 7, _ | 8, _ | 9, _ | 10, _ => rfl
      | 1, _, j, hj => match j, hj with | 0, _ | 1, _ | 2, _ | 3, _ | 4, _ | 5, _ | 6, _ | 7, _ | 8, _ | 9, _ | 10, _ => rfl
      | 2, _, j, hj => match j, hj with | 0, _ | 1, _ | 2, _ | 3, _ | 4, _ | 5, _ | 6, _ | 7, _ | 8, _ | 9, _ | 10, _ => rfl
      | 3, _, j, hj => match j, hj with | 0, _ | 1, _ | 2, _ | 3, _ | 4, _ | 5, _ | 6, _ | 7, _ | 8, _ | 9, _ | 10, _ => rfl
      | 4, _, j, hj => match j, hj with | 0, _ | 1, _ | 2, _ | 3, _ | 4, _ | 5, _ | 6, _ | 7, _ | 8, _ | 9, _ | 10, _ => rfl
      | 5, _, j, hj => match j, hj with | 0, _ | 1, _ | 2, _ | 3, _ | 4, _ | 5, _ | 6, _ | 7, _ | 8, _ | 9, _ | 10, _ => rfl
      | 6, _, j, hj => match j, hj with | 0, _ | 1, _ | 2, _ | 3, _ | 4, _ | 5, _ | 6, _ | 7, _ | 8, _ | 9, _ | 10, _ => rfl
      | 7, _, j, hj => match j, hj with | 0, _ | 1, _ | 2, _ | 3, _ | 4, _ | 5, _ | 6, _ | 7, _ | 8, _ | 9, _ | 10, _ => rfl
      | 8, _, j, hj => match j, hj with | 0, _ | 1, _ | 2, _ | 3, _ | 4, _ | 5, _ | 6, _ | 7, _ | 8, _ | 9, _ | 10, _ => rfl
      | 9, _, j, hj => match j, hj with | 0, _ | 1, _ | 2, _ | 3, _ | 4, _ | 5, _ | 6, _ | 7, _ | 8, _ | 9, _ | 10, _ => rfl
      | 10, _, j, hj => match j, hj with | 0, _ | 1, _ | 2, _ | 3, _ | 4, _ | 5, _ | 6, _ | 7, _ | 8, _ | 9, _ | 10, _ => rfl
  have := h ⟨i, hi⟩ ⟨j, hj⟩
  simpa [Fin.ext_iff] using this
/-- What the three additions need: nothing wraps. -/
theorem SR.adds {r : SR} (h : SRb r) {k n : Int} (hn : 0 ≤ n ∧ n ≤ 1099511627776) :
    (∀ i, (roadF k).1 = some i → i < 11 ∧ okI (r.get i + -n)) ∧ (∀ i, (roadF k).2.1 = some i → i < 11 ∧ okI ((r.add (roadF k).1 (-n)).get i + n)) ∧
    (∀ i, (roadF k).2.2 = some i → i < 11 ∧ okI (((r.add (roadF k).1 (-n)).add (roadF k).2.1 n).get i + n)) := by
  obtain ⟨h1, h2, h3⟩ := roadF_lt k
  have key : ∀ (o : Option Nat) (d : Int) (i : Nat) (s : SR), (∀ j, o = some j → j < 11) → i < 11 → -1099511627776 ≤ d → d ≤ 1099511627776 → s.get i - 1099511627776 ≤ (s.add o d).get i ∧ (s.add o d).get i ≤ s.get i + 1099511627776 := by
    intro o d i s ho hi d0 d1
    cases o with
    | none => exact ⟨by show s.get i - _ ≤ s.get i; omega, by show s.get i ≤ _; omega⟩
    | some j =>
      show s.get i - _ ≤ (s.set j (s.get j + d)).get i ∧ (s.set j (s.get j + d)).get i ≤ _
      rw [SR.get_set _ _ _ _ (ho j rfl) hi]
      by_cases e : j = i
      · subst e; rw [if_pos rfl]; omega
      · rw [if_neg e]; omega
  obtain ⟨n0, n1⟩ := hn
  refine ⟨fun i hi => ?_, fun i hi => ?_, fun i hi => ?_⟩
  · have := h1 i hi
    have := SR.get_ok h (i := i) (by omega) (by omega)
    exact ⟨by omega, by unfold okI; omega⟩
  · have := h2 i hi
    have h0 := SR.get_ok h (i := i) (by omega) (by omega)
    have := key (roadF k).1 (-n) i r (fun j hj => by have := h1 j hj; omega) (by omega) (by omega) (by omega)
    exact ⟨by omega, by unfold okI; omega⟩
  · have := h3 i hi
    have h0 := SR.get_ok h (i := i) (by omega) (by omega)
    have h4 := key (roadF k).1 (-n) i r (fun j hj => by have := h1 j hj; omega) (by omega) (by omega) (by omega)
    have h5 := key (roadF k).2.1 n i (r.add (roadF k).1 (-n)) (fun j hj => by have := h2 j hj; omega) (by omega) (by omega) (by omega)
    exact ⟨by omega, by unfold okI; omega⟩
theorem doFold_cons (k : Int) (B : Stk) (p : Str × Int) (r : Its) : doFold k B (p :: r) = if ((rowAt B p.1).move k p.2).right = true then doFold k (putS ktS.lt B p.1 ((rowAt B p.1).move k p.2)) r else none := rfl
theorem right_b {r : SR} (h : r.right = true) : SRb r := by
  unfold SR.right at h
  rw [Bool.and_eq_true, SR.each_iff] at h
  exact h.1
theorem rowAt_b {B : Stk} (h : ∀ p ∈ B, SRb p.2) (g : Str) : SRb (rowAt B g) := by
  show SRb ((getS B g).getD SR.zero)
  cases e : getS B g with
  | none => exact SRok.zero.b
  | some v => exact h _ (getS_memS e)
/-- What Do keeps on its way. -/
structure DoI (w0 W : World) (n0 nb mb : Nat) (k e : Int) (B : Stk) : Prop where
  k : W.heap[n0]? = some (.cells #[.int .i64 k] 3)
  e : W.heap[n0 + 1]? = some (.cells #[.int .i64 e] 29)
  nx : W.heap[nb]? = some (.cells #[.map (some mb)] 62)
  map : Mp Try.prog W 9 ktS SR.enc mb B
  rows : ∀ p ∈ B, SRb p.2
  fr : Fr (fun b => n0 ≤ b) w0 W
  hn : n0 + 1 < nb ∧ n0 + 1 < mb ∧ nb ≠ mb
section
variable {w0 W W' : World} {n0 nb mb : Nat} {k e : Int} {B : Stk}
theorem DoI.fa {C : Nat} (h : DoI w0 W n0 nb mb k e B) (hf : Fa C W W') (hB : w0.heap.size ≤ C) : DoI w0 W' n0 nb mb k e B :=
  ⟨Fa.cells hf h.k, Fa.cells hf h.e, Fa.cells hf h.nx, Fa.mp hf h.map, h.rows, h.fr.trans' hf (fun b hb e => by have := e.1; omega), h.hn⟩
theorem DoI.keep (h : DoI w0 W n0 nb mb k e B) (hf : Fr (fun _ => False) W W') : DoI w0 W' n0 nb mb k e B :=
  ⟨hf.at_ h.k (fun h => h), hf.at_ h.e (fun h => h), hf.at_ h.nx (fun h => h), hf.mp h.map (fun h => h), h.rows, h.fr.trans' hf (fun _ _ e => e.elim), h.hn⟩
theorem DoI.side {S : Nat → Prop} (h : DoI w0 W n0 nb mb k e B) (hf : Fr S W W') (hS : ∀ b, S b → W.heap.size ≤ b) : DoI w0 W' n0 nb mb k e B := by
  have l1 := (Array.getElem?_eq_some_iff.1 h.k).1
  have l2 := (Array.getElem?_eq_some_iff.1 h.e).1
  have l3 := (Array.getElem?_eq_some_iff.1 h.nx).1
  have l4 := h.map.lt
  exact ⟨hf.at_ h.k (fun e => by have := hS _ e; omega), hf.at_ h.e (fun e => by have := hS _ e; omega), hf.at_ h.nx (fun e => by have := hS _ e; omega), hf.mp h.map (fun e => by have := hS _ e; omega), h.rows, h.fr.trans' hf (fun b _ e => by have := hS _ e; have := h.fr.size; omega), h.hn⟩
theorem DoI.put (h : DoI w0 W n0 nb mb k e B) (e' : Int) : DoI w0 (W.setCell ⟨n0 + 1, 0, none⟩ (.int .i64 e')) n0 nb mb k e' B := by
  have hF : Fr (fun b => b = n0 + 1) W (W.setCell ⟨n0 + 1, 0, none⟩ (.int .i64 e')) := (Fr.refl (fun b => b = n0 + 1) W).setCell (p := ⟨n0 + 1, 0, none⟩) (fun _ => rfl) _
  have := h.hn
  exact ⟨hF.at_ h.k (by omega), obj_set h.e 0 _, hF.at_ h.nx (by omega), hF.mp h.map (by omega), h.rows, h.fr.trans' hF (fun b _ e => by omega), h.hn⟩
theorem DoI.turn {s : Str} {r : SR} (h : DoI w0 W n0 nb mb k e B) (ht : W.mapTurned W' mb) (hm : Mp Try.prog W' 9 ktS SR.enc mb (putS ktS.lt B s r)) (hr : SRb r) : DoI w0 W' n0 nb mb k e (putS ktS.lt B s r) := by
  have hF : Fr (fun b => b = mb) W W' := Fr.turned ht rfl
  have := h.hn
  refine ⟨hF.at_ h.k (by omega), hF.at_ h.e (by omega), hF.at_ h.nx this.2.2, hm, fun p hp => ?_, h.fr.trans' hF (fun b _ e => by omega), h.hn⟩
  rcases mem_putK.1 hp with rfl | ⟨hp3, -⟩
  · exact hr
  · exact h.rows p hp3
end
end Go.Proofs.Ytclgmnobockfnaa
namespace Go.Proofs.Ytclgmnobockfnaa
open Go.RowKit Go.Maps
attribute [local go_sem] Oper.semAt_some
theorem itsOk_pos : ∀ {L : Its} {last : Str}, itsOk last L = true → ∀ p ∈ L, goodB p.1 = true ∧ 1 ≤ p.2 ∧ p.2 ≤ 1099511627776
  | [], _, _, p, hp => by cases hp
  | q :: r, last, h, p, hp => by
    rw [itsOk_cons] at h
    simp only [Bool.and_eq_true, decide_eq_true_eq, mayI_iff] at h
    rcases List.mem_cons.1 hp with rfl | hp
    · exact ⟨h.1.1.1.1, h.1.1.1.2, h.1.1.2.2⟩
    · exact itsOk_pos h.2 p hp
theorem mayL_pos {L : Its} (h : mayL L = true) : ∀ p ∈ L, 0 ≤ p.2 ∧ p.2 ≤ 1099511627776 := fun p hp => by
  unfold mayL at h
  rw [Bool.and_eq_true] at h
  have := itsOk_pos h.1 p hp
  omega
def DoJ (w : World) (n0 nb mb : Nat) (k : Int) (A : Stk) (L : Its) (j : Nat) (_ : Nat → Prop) (W : World) : Prop := ∃ B, DoI w W n0 nb mb k 0 B ∧ doFold k A L = doFold k B (L.drop j) ∧ B.length ≤ A.length + j
def DoX (w : World) (n0 nb mb : Nat) (k : Int) (A : Stk) (L : Its) (c : Code) (_ : Nat) (_ : Nat → Prop) (W : World) : Prop := c = .ret ∧ doFold k A L = none ∧ ∃ B, DoI w W n0 nb mb k 50 B
set_option maxRecDepth 100000 in
set_option maxHeartbeats 16000000 in
theorem sDo (w : World) (g : Nat) (TS : Nat → Prop) (A : Stk) (k : Int) (v : Value) (L : Its) (h : SA w g TS A) (hA : SOk A) (hv : Il w v L) :
    Calls Try.prog 12 #[.pointer (some ⟨g, 0, none⟩), .int .i64 k, v] w fun e w' => e = .returned (.int .i64 (doS A k L).1) ∧ ∃ TS', SA w' g TS' (doS A k L).2 ∧ Stp TS w w' TS' := by
  obtain ⟨n0, hn0⟩ : ∃ n0, w.heap.size = n0 := ⟨_, rfl⟩
  have HS := Lib.hid hn0
  have HL := Lib.hid hv
  have hob := hv.lt
  have HOB := Lib.hid hob
  have hokl : Hid (∀ (j : Nat) (p : Str × Int), L[j]? = some p → okS p.1) := Lib.hid (fun j p hp => by obtain ⟨_, _, _, _, hx⟩ := hv; exact (hx j p hp).1)
  obtain ⟨a, c, rfl⟩ := hv.sl
  obtain ⟨N, hN⟩ : ∃ N, L.length = N := ⟨_, rfl⟩
  have HN := Lib.hid hN
  rw [hN] at HL HOB ⊢
  have HSA := Lib.hid h
  have HAA := Lib.hid hA
  have HGL : Hid (g < w.heap.size) := Lib.hid (h.lt g h.own)
  obtain ⟨m, hc, hm, hTm⟩ := h.cell
  have HC := Lib.hid hc; have HM := Lib.hid hm
  have hmd := Lib.hid (fun W (hW : W.cell? ⟨g, 0, none⟩ = some (.map (some m))) => smade W g m hW)
  clear hv hob hN h hm hTm hA
  refine (callsIn_wide (n := 0)).1 ?_
  refine callsIn_of_wp_marks Try.func12 rfl trivial ?_ rfl
  simp only [Try.ntmps12, List.size_toArray, List.length_cons, List.length_nil, Nat.reduceAdd, Nat.reduceSub, Array.replicate_succ, Array.replicate_zero, List.push_toArray, List.append_toArray, List.nil_append, List.cons_append]
  have hfn : ∀ f, Fence.wide.fn f := fun _ => trivial
  have hdp : Fence.wide.depth.isSome = false := rfl
  obtain ⟨W0, hW0⟩ : ∃ W0, (w.alloc (.cells #[.int .i64 k] 3)).alloc (.cells #[.int .i64 0] 29) = W0 := ⟨_, rfl⟩
  have hF0 : Fr (fun _ => False) w W0 := by rw [← hW0]; exact ((Fr.refl _ w).alloc _).alloc _
  have hs0 : W0.heap.size = n0 + 2 := by rw [← hW0]; simp; omega
  have hk0 : W0.heap[n0]? = some (.cells #[.int .i64 k] 3) := by rw [← hW0]; exact heap_keep (heap_at hn0.symm _) _
  have he0 : W0.heap[n0 + 1]? = some (.cells #[.int .i64 0] 29) := by rw [← hW0]; exact heap_at (by simp; omega) _
  have HF0 := Lib.hid hF0; have HS0 := Lib.hid hs0; have HK0 := Lib.hid hk0; have HE0 := Lib.hid he0; have HW0 := Lib.hid hW0
  have hcg0 : W0.cell? ⟨g, 0, none⟩ = some (.map (some m)) := hF0.cell hc (fun h => h)
  have hckk := cell_obj hk0 0 (.int .i64 k) rfl
  have hcee := cell_obj he0 0 (.int .i64 0) rfl
  have hfee := obj_frozen he0 0
  clear hF0 hs0 hk0 he0 hc
  have hrefuse : ∀ W x, Fr (fun _ => False) w W → ∃ TS', SA (W.setCell ⟨n0 + 1, 0, none⟩ (.int .i64 x)) g TS' A ∧ Stp TS w (W.setCell ⟨n0 + 1, 0, none⟩ (.int .i64 x)) TS' := fun W x hf => by
    have hF' : Fr (fun _ => False) w (W.setCell ⟨n0 + 1, 0, none⟩ (.int .i64 x)) := hf.setCell (p := ⟨n0 + 1, 0, none⟩) (fun h => by have := HS.out; have h : n0 + 1 < w.heap.size := h; omega) _
    exact ⟨TS, HSA.out.fr hF' (fun _ _ h => h), Stp.refl hF'⟩
  have HRF := Lib.hid hrefuse
  have hmdc := Lib.hid (fun W (hW : W.cell? ⟨g, 0, none⟩ = some (.map (some m))) => (callsIn_wide (n := 0)).2 (hmd.out W hW))
  clear hrefuse hmd
  by_cases hkr : k < 1 ∨ 11 < k
  · have hd : Hid (doS A k L = (1, A)) := Lib.hid (by unfold doS; rw [if_pos hkr])
    have hres := cell_obj (obj_set HE0.out 0 (.int .i64 1)) 0 (.int .i64 1) rfl
    rcases (by omega : k < 1 ∨ (1 ≤ k ∧ 11 < k)) with h1 | ⟨h1, h2⟩
    all_goals
      gi_wp2_with (gi_at_call 31; refine (hmdc.out _ hcg0).mono ?_; rintro e w1 ⟨rfl, rfl⟩)
      refine ⟨.int .i64 1, by simp [results, Try.results12, go_sem, hres], ?_, ?_⟩
      · rw [hd.out]
      · rw [hd.out]; exact HRF.out _ _ HF0.out
  · have hk1 : 1 ≤ k := by omega
    have hk2 : k ≤ 11 := by omega
    have hL0 := HL.out.fr HF0.out (fun b hb => hb.elim)
    have hIM := Lib.hid (iMay W0 (.slice a N c) L hL0)
    clear hL0
    cases hml : mayL L with
    | false =>
      have hd : Hid (doS A k L = (60, A)) := Lib.hid (by unfold doS; rw [if_neg hkr, if_pos hml])
      rw [hml] at hIM
      clear hkr hml
      gi_wp2_with (first
        | (gi_at_call 31; refine (hmdc.out _ hcg0).mono ?_; rintro e w1 ⟨rfl, rfl⟩)
        | (gi_at_call 32; refine (callsIn_wide.2 hIM.out).mono ?_; rintro e w2 ⟨rfl, hf2⟩; have hE2 := Lib.hid (hf2.at_ HE0.out (fun h => h)); have ce2 := cell_obj hE2.out 0 (.int .i64 0) rfl; have fe2 := obj_frozen hE2.out 0; have HF2 := Lib.hid (HF0.out.trans hf2); clear hf2))
      have hres := cell_obj (obj_set hE2.out 0 (.int .i64 60)) 0 (.int .i64 60) rfl
      refine ⟨.int .i64 60, by simp [results, Try.results12, go_sem, hres], ?_, ?_⟩
      · rw [hd.out]
      · rw [hd.out]; exact HRF.out _ _ HF2.out
    | true =>
      rw [hml] at hIM
      have hpos : Hid (∀ p ∈ L, 0 ≤ p.2 ∧ p.2 ≤ 1099511627776) := Lib.hid (mayL_pos hml)
      have h16 : Hid (L.length ≤ 16) := Lib.hid (by unfold mayL at hml; simp at hml; exact hml.2)
      have hSM : Hid (∀ W, Fr (fun _ => False) w W → Calls Try.prog 33 #[.pointer (some ⟨g, 0, none⟩), .int .i64 k, .slice a N c] W fun e w' => e = .returned (.int .i64 (doMay A k L)) ∧ Fr (fun _ => False) W w') := Lib.hid (fun W hf =>
        sMay W g TS A k (.slice a N c) L (HSA.out.fr hf (fun _ _ h => h)) HAA.out (HL.out.fr hf (fun b hb => hb.elim)))
      obtain ⟨x, hx⟩ : ∃ x, doMay A k L = x := ⟨_, rfl⟩
      rw [hx] at hSM
      by_cases hx0 : x = 0
      · subst hx0
        have hd : Hid (doS A k L = (match doFold k A L with | none => (50, A) | some B => if 64 < B.length then (2, A) else (0, B))) := Lib.hid (by
          unfold doS
          rw [if_neg hkr, if_neg (by rw [hml]; decide), if_neg (by rw [hx]; simp)]
          cases doFold k A L <;> rfl)
        clear hkr hml hx
        gi_wp2_with (first
          | (gi_at_call 31; refine (hmdc.out _ hcg0).mono ?_; rintro e w1 ⟨rfl, rfl⟩)
          | (gi_at_call 32; refine (callsIn_wide.2 hIM.out).mono ?_; rintro e w2 ⟨rfl, hf2⟩; have HF2 := Lib.hid (HF0.out.trans hf2); have hck2 := cell_obj (hf2.at_ HK0.out (fun h => h)) 0 (.int .i64 k) rfl; have HX2 := Lib.hid hf2; clear hf2)
          | (gi_at_call 33; refine (callsIn_wide.2 (hSM.out _ HF2.out)).mono ?_; rintro e w3 ⟨rfl, hf3⟩; have HF3 := Lib.hid (HF2.out.trans hf3); have hcg3 := HF3.out.cell HC.out (fun h => h); have HX3 := Lib.hid (HX2.out.trans hf3); clear hf3))
        refine (callsIn_wide.2 (sClone w3 m A (HF3.out.mp HM.out (fun h => h)))).mono ?_
        rintro e w4 ⟨rfl, hm4, hB4⟩
        obtain ⟨mb, hmb⟩ : ∃ mb, w3.heap.size = mb := ⟨_, rfl⟩
        rw [hmb] at hm4
        have hF4 := HF3.out.trans (Fr.below hB4)
        have hX4 := HX3.out.trans (Fr.below (S := fun _ => False) hB4)
        have hsz3 := HX3.out.size
        have hsz4 := hB4.size
        have hs4 : mb < w4.heap.size := hm4.lt
        rw [HS0.out, hmb] at hsz3
        rw [hmb] at hsz4
        have hI4 : DoI w ((w4.alloc (.cells #[.map (some mb)] 62)).alloc (.cells #[.slice a N c] 23)) n0 w4.heap.size mb k 0 A :=
          ⟨heap_keep (heap_keep (hX4.at_ HK0.out (fun h => h)) _) _, heap_keep (heap_keep (hX4.at_ HE0.out (fun h => h)) _) _, heap_keep (heap_new _ _) _, (hm4.alloc _).alloc _, fun p hp => (HAA.out.row p hp).b, ((hF4.mono (fun _ _ h => h.elim)).alloc _).alloc _, by omega, by omega, by omega⟩
        have hBx : Boxed ((w4.alloc (.cells #[.map (some mb)] 62)).alloc (.cells #[.slice a N c] 23)) (w4.heap.size + 1) 23 (.slice a N c) := heap_at (by simp) _
        have HI4 := Lib.hid hI4; have HBX := Lib.hid hBx
        rw [hmb]
        clear hmb hm4 hB4 hF4 hX4 hI4 hBx hck2 hcg3 HX2 HX3 HF2 HF3 hIM hSM
        gi_wp2_with (gi_at_call 35; refine (callsIn_wide.2 (iAll _ _ _ _)).mono ?_; rintro e w5 ⟨rfl, rfl⟩)
        obtain ⟨nb, hnb⟩ : ∃ nb, w4.heap.size = nb := ⟨_, rfl⟩
        obtain ⟨W5, hW5⟩ : ∃ W5, (w4.alloc (.cells #[.map (some mb)] 62)).alloc (.cells #[.slice a N c] 23) = W5 := ⟨_, rfl⟩
        have hs5 : W5.heap.size = nb + 2 := by rw [← hW5]; simp; omega
        rw [hW5, hnb] at HI4 HBX
        rw [hW5]
        simp only [hnb]
        rw [hnb] at hs4 hsz4
        have hL5 := HL.out.fr HI4.out.fr (fun b hb => by omega)
        clear hW5 hnb
        refine rangeX (w0 := W5) (X := L) (S := fun b => b = n0 + 1 ∨ b = mb) rfl (enters_of Try.func68 (by kernel_rfl) rfl)
          (iAll1 _ W5 _ _ L HBX.out hL5 (by omega) (fun hl b hb e => by have := HOB.out hl b e; omega)) (Below.refl _ _) (fun b hb => by omega) (fun _ => rfl)
          (DoJ w n0 nb mb k A L) (DoX w n0 nb mb k A L)
          (fun k C W W' hs hf => by obtain ⟨B, h1, h2⟩ := hs; exact ⟨B, h1.fa hf (by omega), h2⟩) (fun c k C W W' hs hf => by obtain ⟨e, e2, B, h1⟩ := hs; exact ⟨e, e2, B, h1.fa hf (by omega)⟩)
          ⟨A, HI4.out, rfl, by omega⟩ ?round ?done ?stop
        case round =>
          rintro lp j x C W hx hlp hi hr
          dsimp only [encIt]
          gi_wp2
          refine Took.mk (Fr.refl _ _) hi ?_
          rintro Wb ⟨B, hI, hrest, hBl⟩ hrb hf hsz hsw hCC _
          have hdr : L.drop j = x :: L.drop (j + 1) := List.drop_eq_getElem?_toList_append |>.trans (by rw [hx]; rfl)
          rw [hdr, doFold_cons] at hrest
          have hok := hokl.out j x hx
          have hpos := hpos.out x (List.mem_of_getElem? hx)
          obtain ⟨gd, n⟩ := x
          dsimp only at hok hrest hpos ⊢
          have cnx := cell_obj hI.nx 0 (.map (some mb)) rfl
          have hlk := mp_row hI.map hok
          have hRb := rowAt_b hI.rows gd
          obtain ⟨R, hRR⟩ : ∃ R, rowAt B gd = R := ⟨_, rfl⟩
          rw [hRR] at hlk hRb hrest
          have hadd := SR.adds (k := k) hRb hpos
          obtain ⟨ad1, ad2, ad3⟩ := hadd
          unfold SR.enc SR.cs at hlk
          have hnn : IntKind.i64.wrap (-n) = -n := by rw [IntKind.wrap_i64]; omega
          have hIa := hI.keep ((Fr.refl (fun _ => False) Wb).alloc (.cells R.cs 69))
          have hra : RowAt (Wb.alloc (.cells R.cs 69)) Wb.heap.size R := heap_new _ _
          have hcka := cell_obj hIa.k 0 (.int .i64 k) rfl
          unfold SR.cs at hIa hra hcka
          obtain ⟨rb, hrb⟩ : ∃ rb, Wb.heap.size = rb := ⟨_, rfl⟩
          have HI := Lib.hid hI; have HIA := Lib.hid hIa; have HRA := Lib.hid hra; have HREST := Lib.hid hrest; have HBL := Lib.hid hBl; have HRB := Lib.hid hrb; have AD1 := Lib.hid ad1; have AD2 := Lib.hid ad2; have AD3 := Lib.hid ad3
          have hokh := Lib.hid hok; have HXX := Lib.hid hx
          clear hi hr hf hrb hdr hrest hok hI hIa hra hBl ad1 ad2 ad3 hRb hRR hx
          obtain ⟨⟨rf, rt, ro⟩, hR3⟩ : ∃ R, roadF k = R := ⟨_, rfl⟩
          have hroad := Lib.hid (fun W b => sRoad W b k)
          have hmv : Hid (R.move k n = ((R.add rf (-n)).add rt n).add ro n) := Lib.hid (by unfold SR.move; rw [hR3])
          rw [hR3] at AD1 AD2 AD3 hroad
          dsimp only at AD1 AD2 AD3 hroad
          clear hR3 hsz hsw hCC hlp hpos
          gi_wp2_with (gi_at_call 36; refine (callsIn_wide.2 (hroad.out _ _)).mono ?_; rintro e w6 ⟨rfl, q, rfl⟩)
          refine (callsIn_wide.2 (sAdd _ _ R rf (-n) (by exact HRA.out) AD1.out)).mono ?_
          rintro e w7 ⟨⟨v7, rfl⟩, hr7, hf7⟩
          have HR7 := Lib.hid hr7
          have HF7 := Lib.hid ((((Fr.refl (fun b => b = Wb.heap.size) Wb).alloc _).drewN q).trans' hf7 (fun b _ e => e))
          clear hr7 hf7 hcka cnx hlk
          gi_wp2_with fail
          refine (callsIn_wide.2 (sAdd w7 _ _ rt n HR7.out AD2.out)).mono ?_
          rintro e w8 ⟨⟨v8, rfl⟩, hr8, hf8⟩
          have HR8 := Lib.hid hr8
          have HF8 := Lib.hid (HF7.out.trans' hf8 (fun b _ e => e))
          clear hr8 hf8
          gi_wp2_with fail
          refine (callsIn_wide.2 (sAdd w8 _ _ ro n HR8.out AD3.out)).mono ?_
          rintro e w9 ⟨⟨v9, rfl⟩, hr9, hf9⟩
          rw [← hmv.out] at hr9
          have HF9 := Lib.hid (HF8.out.trans' hf9 (fun b _ e => e))
          obtain ⟨M, hM⟩ : ∃ M, R.move k n = M := ⟨_, rfl⟩
          rw [hM] at hr9 HREST
          have HR9 := Lib.hid hr9
          clear hr9 hf9 hM hmv HR7 HR8 HF7 HF8
          gi_wp2_with fail
          refine (callsIn_wide.2 (sRight w9 _ M HR9.out)).mono ?_
          rintro e w10 ⟨rfl, hf10⟩
          have HF10 := Lib.hid (HF9.out.trans' hf10 (fun b _ e => e.elim))
          have hr10 := hf10.at_ HR9.out (fun h => h)
          have hI10 := HI.out.side HF10.out (fun b e => by omega)
          have ce10 := cell_obj hI10.e 0 (.int .i64 0) rfl
          have fe10 := obj_frozen hI10.e 0
          have HI10 := Lib.hid hI10
          have hn' := hI10.hn
          cases hMr : M.right with
          | false =>
            have hno : Hid (doFold k A L = none) := Lib.hid (by rw [HREST.out, if_neg (by rw [hMr]; decide)])
            clear hf10 hr10 hI10 hMr
            gi_wp2_with fail
            exact ⟨((HF10.out.mono (S' := fun b => b = n0 + 1 ∨ b = Wb.heap.size) (fun _ _ e => .inr e)).setCell (p := ⟨n0 + 1, 0, none⟩) (fun _ => .inl rfl) _).mono (fun b hb e => e.elim (fun e => .inl (.inl e)) (fun e => by omega)), rfl, hno.out, B, HI10.out.put 50⟩
          | true =>
            have hyes : Hid (doFold k A L = doFold k (putS ktS.lt B gd M) (L.drop (j + 1))) := Lib.hid (by rw [HREST.out, if_pos hMr])
            have hMb := Lib.hid (right_b hMr)
            have e0 := cell_obj hr10 0 (.int .i64 M.free) rfl
            have e1 := cell_obj hr10 1 (.int .i64 M.held) rfl
            have e2 := cell_obj hr10 2 (.int .i64 M.picked) rfl
            have e3 := cell_obj hr10 3 (.int .i64 M.aside) rfl
            have e4 := cell_obj hr10 4 (.int .i64 M.received) rfl
            have e5 := cell_obj hr10 5 (.int .i64 M.returned) rfl
            have e6 := cell_obj hr10 6 (.int .i64 M.counted) rfl
            have e7 := cell_obj hr10 7 (.int .i64 M.came) rfl
            have e8 := cell_obj hr10 8 (.int .i64 M.shipped) rfl
            have e9 := cell_obj hr10 9 (.int .i64 M.scrapped) rfl
            have e10 := cell_obj hr10 10 (.int .i64 M.sent) rfl
            have cnx := cell_obj hI10.nx 0 (.map (some mb)) rfl
            obtain ⟨w11, hst, hm11, ht11⟩ := hI10.map.store kS Try.underlying62 (by have := HBL.out; have := HAA.out.len; have := (List.getElem?_eq_some_iff.1 HXX.out).1; have := h16.out; omega) hokh.out M
            have hst : (Instr.mapUpdate 62 (.map (some mb)) (vS gd) (.agg #[.int .i64 M.free, .int .i64 M.held, .int .i64 M.picked, .int .i64 M.aside, .int .i64 M.received, .int .i64 M.returned, .int .i64 M.counted, .int .i64 M.came, .int .i64 M.shipped, .int .i64 M.scrapped, .int .i64 M.sent])).run Try.prog w10 = .ok () w11 := hst
            have HI11 := Lib.hid (hI10.turn ht11 hm11 hMb.out)
            have HT11 := Lib.hid ht11
            clear hf10 hr10 hI10 hMr hm11 ht11 ce10 fe10
            gi_wp2_with fail
            refine ⟨(HF10.out.mono (fun b hb e => by omega)).trans' (Fr.turned (S := fun b => b = mb) HT11.out rfl) (fun b _ e => .inl (.inr e)), _, HI11.out, hyes.out, ?_⟩
            have := putK_len ktS.lt B gd M
            have := HBL.out
            omega
        case stop =>
          rintro D c j C W hD hk ⟨rfl, hno, B, hI⟩ hr hK
          have hc5 := cell_obj (Fa.cells (frPut (B := n0) (.deferred none) (by omega) hK rfl) hI.e) 0 (.int .i64 50) rfl
          have hd2 : Hid (doS A k L = (50, A)) := Lib.hid (by rw [hd.out, hno])
          have hF : Hid (Fr (fun _ => False) w (W.putObj D (.deferred none))) := Lib.hid ((hI.fr.putObj (l := D) (fun _ => by omega) _).mono (fun b hb e => by omega))
          clear hI hr hno
          gi_wp2_with fail
          refine ⟨by simp, .inl ⟨_, _, rfl, run_takeDeferred hK, ?_⟩⟩
          refine ⟨.int .i64 50, by simp [results, Try.results12, go_sem, hc5], ?_, ?_⟩
          · rw [hd2.out]
          · rw [hd2.out]; exact ⟨TS, HSA.out.fr hF.out (fun _ _ h => h), Stp.refl hF.out⟩
        case done =>
          rintro D C W hD ⟨B, hI, hrest, hBl⟩ hr hK
          have hdd : doFold k A L = some B := by rw [hrest, List.drop_length]; rfl
          have hlen := hI.map.len Try.underlying62 3
          have cnx := cell_obj hI.nx 0 (.map (some mb)) rfl
          have hg0 : w.heap[g]? = some (.cells #[.map (some m)] 64) := by
            obtain ⟨⟨m', e1, e2, e3⟩, -, -⟩ := HSA.out
            have := cell_obj e1 0 _ rfl
            rw [HC.out] at this
            cases this
            exact e1
          have hgW := hI.fr.at_ hg0 (by have := HGL.out; omega)
          have hbl2 : (B.length : Int) ≤ 80 := by have := HAA.out.len; have := h16.out; omega
          obtain ⟨bl, hbl⟩ : ∃ bl, B.length = bl := ⟨_, rfl⟩
          rw [hbl] at hlen hbl2
          have HI := Lib.hid hI; have HGW := Lib.hid hgW
          by_cases h64 : (64 : Int) < bl
          · have hd2 : Hid (doS A k L = (2, A)) := Lib.hid (by rw [hd.out, hdd]; show (if 64 < B.length then _ else _) = _; rw [if_pos (by omega)])
            have ce := cell_obj hI.e 0 (.int .i64 0) rfl
            have fe := obj_frozen hI.e 0
            have hKs := (Below.heap_setCell W ⟨n0 + 1, 0, none⟩ (.int .i64 2) D (by show D ≠ n0 + 1; omega)).trans hK
            have hc5 := cell_obj (Fa.cells (frPut (B := n0) (.deferred none) (by omega) hKs rfl) (hI.put 2).e) 0 (.int .i64 2) rfl
            have hF : Hid (Fr (fun _ => False) w ((W.setCell ⟨n0 + 1, 0, none⟩ (.int .i64 2)).putObj D (.deferred none))) := Lib.hid (((hI.put 2).fr.putObj (l := D) (fun _ => by omega) _).mono (fun b hb e => by omega))
            clear hI hr hrest hdd hBl hgW hK
            gi_wp2_with fail
            refine ⟨by simp, .inl ⟨_, _, rfl, run_takeDeferred hKs, ?_⟩⟩
            refine ⟨.int .i64 2, by simp [results, Try.results12, go_sem, hc5], ?_, ?_⟩
            · rw [hd2.out]
            · rw [hd2.out]; exact ⟨TS, HSA.out.fr hF.out (fun _ _ h => h), Stp.refl hF.out⟩
          · have hd2 : Hid (doS A k L = (0, B)) := Lib.hid (by rw [hd.out, hdd]; show (if 64 < B.length then _ else _) = _; rw [if_neg (by omega)])
            have cgW := cell_obj hgW 0 (.map (some m)) rfl
            have fgW := obj_frozen hgW 0
            have hgne : g ≠ n0 + 1 := by have := HGL.out; omega
            have hFg : Fr (fun b => b = g) W (W.setCell ⟨g, 0, none⟩ (.map (some mb))) := (Fr.refl (fun b => b = g) W).setCell (p := ⟨g, 0, none⟩) (fun _ => rfl) _
            have hE1 := hFg.at_ hI.e (fun e => hgne e.symm)
            have ce := cell_obj hE1 0 (.int .i64 0) rfl
            have fe := obj_frozen hE1 0
            obtain ⟨V, hV⟩ : ∃ V, (W.setCell ⟨g, 0, none⟩ (.map (some mb))).setCell ⟨n0 + 1, 0, none⟩ (.int .i64 0) = V := ⟨_, rfl⟩
            have hFV : Fr (fun b => b = g ∨ b = n0 + 1) W V := by
              rw [← hV]
              exact (hFg.mono (fun _ _ e => .inl e)).setCell (p := ⟨n0 + 1, 0, none⟩) (fun _ => .inr rfl) _
            have hEV : V.heap[n0 + 1]? = some (.cells #[.int .i64 0] 29) := by rw [← hV]; exact obj_set hE1 0 _
            have hGV : V.heap[g]? = some (.cells #[.map (some mb)] 64) := by
              rw [← hV]
              exact ((Fr.refl (fun b => b = n0 + 1) _).setCell (p := ⟨n0 + 1, 0, none⟩) (fun _ => rfl) _).at_ (obj_set hgW 0 _) hgne
            have hKs : V.heap[D]? = some (.deferred (some [])) := hFV.at_ hK (by have := HGL.out; omega)
            have hn' := hI.hn
            have hmV := hFV.mp hI.map (by have := HGL.out; omega)
            have hc5 := cell_obj (Fa.cells (frPut (B := n0) (.deferred none) (by omega) hKs rfl) hEV) 0 (.int .i64 0) rfl
            have hP := frPut (B := n0) (.deferred none) (show n0 ≤ D by omega) hKs rfl
            have hfin : SA (V.putObj D (.deferred none)) g (fun b => TS b ∨ b = mb) B ∧ Stp TS w (V.putObj D (.deferred none)) (fun b => TS b ∨ b = mb) := by
              have hFt : Fr (fun b => b = g ∨ n0 ≤ b) w (V.putObj D (.deferred none)) :=
                ((hI.fr.mono (S' := fun b => b = g ∨ n0 ≤ b) (fun b hb e => .inr e)).trans (hFV.mono (S' := fun b => b = g ∨ n0 ≤ b) (fun b _ e => e.imp id (fun e => by omega)))).trans (hP.mono (S' := fun b => b = g ∨ n0 ≤ b) (fun b _ e => .inr e.1))
              have hmlt := hI.map.lt
              have hsW := hFV.size
              refine ⟨⟨⟨mb, Fa.cells hP hGV, Fa.mp hP hmV, .inr rfl⟩, .inl HSA.out.own, fun b hb => ?_⟩, hFt.mono (fun b hb e => e.elim (fun e => e ▸ HSA.out.own) (fun e => by omega)), fun b hb => hb.elim .inl (fun e => .inr (by omega))⟩
              have := hFt.size
              rcases hb with hb | rfl
              · have := HSA.out.lt b hb; omega
              · have := hP.size; omega
            have HFIN := Lib.hid hfin; have HKS := Lib.hid hKs
            clear hI hr hrest hdd hBl hgW hK hFg hE1 hFV hEV hGV hKs hmV hP hfin
            gi_wp2_with fail
            refine ⟨by simp, .inl ⟨_, _, rfl, run_takeDeferred HKS.out, ?_⟩⟩
            refine ⟨.int .i64 0, by simp [results, Try.results12, go_sem, hc5], ?_, ?_⟩
            · rw [hd2.out]
            · rw [hd2.out]; exact ⟨_, HFIN.out⟩
      · have hd : Hid (doS A k L = (x, A)) := Lib.hid (by
          unfold doS
          rw [if_neg hkr, if_neg (by rw [hml]; decide), if_pos (by rw [hx]; exact hx0), hx])
        have hxB : (x != 0) = true := by simp; exact hx0
        clear hkr hml hx hx0
        gi_wp2_with (first
          | (gi_at_call 31; refine (hmdc.out _ hcg0).mono ?_; rintro e w1 ⟨rfl, rfl⟩)
          | (gi_at_call 32; refine (callsIn_wide.2 hIM.out).mono ?_; rintro e w2 ⟨rfl, hf2⟩; have HF2 := Lib.hid (HF0.out.trans hf2); have hck2 := cell_obj (hf2.at_ HK0.out (fun h => h)) 0 (.int .i64 k) rfl; have HX2 := Lib.hid hf2; clear hf2)
          | (gi_at_call 33; refine (callsIn_wide.2 (hSM.out _ HF2.out)).mono ?_; rintro e w3 ⟨rfl, hf3⟩; have hE3 := Lib.hid ((HX2.out.trans hf3).at_ HE0.out (fun h => h)); have ce3 := cell_obj hE3.out 0 (.int .i64 0) rfl; have fe3 := obj_frozen hE3.out 0; have HF3 := Lib.hid (HF2.out.trans hf3); clear hf3))
        have hres := cell_obj (obj_set hE3.out 0 (.int .i64 x)) 0 (.int .i64 x) rfl
        refine ⟨.int .i64 x, by simp [results, Try.results12, go_sem, hres], ?_, ?_⟩
        · rw [hd.out]
        · rw [hd.out]; exact HRF.out _ _ HF3.out
end Go.Proofs.Ytclgmnobockfnaa
namespace Go.Proofs.Ytclgmnobockfnaa
open Go.RowKit Go.Maps
theorem sGoods (p : Option Addr) (w : World) : Calls Try.prog 28 #[.pointer p] w fun e w' =>
    e = .returned (.func (.func 64) #[] #[.pointer (some ⟨w.heap.size, 0, none⟩)]) ∧ w' = w.alloc (.cells #[.pointer p] 24) := by
  go_enter Try.func28, Try.ntmps28
  go_wp2
  go_ret
  exact ⟨rfl, rfl⟩
def encS (s : Str) : Array Value := #[vS s]
set_option maxRecDepth 100000 in
set_option maxHeartbeats 4000000 in
theorem sGoods1 (S : Nat → Prop) (w : World) (Bt g : Nat) (TS : Nat → Prop) (A : Stk) (hBt : Boxed w Bt 24 (.pointer (some ⟨g, 0, none⟩))) (h : SA w g TS A) (hl : A.length ≤ 1000) (n1 : ¬ S Bt) (n2 : ∀ b, TS b → ¬ S b) :
    ItX 64 #[.pointer (some ⟨Bt, 0, none⟩)] encS (A.map (·.1)) S w := by
  intro lp S' J Jx W hW hS' hJ hY hJx h0
  have hBW := boxed_below hBt hW hBt.lt
  have hAW := h.fr (Fr.below (S := fun _ => False) hW) (fun _ _ h => h)
  obtain ⟨m, hc, hm, hTm⟩ := hAW.cell
  have hkS := keysSorted W m SR.enc A hm (by omega)
  have HK1 := Lib.hid (callsIn_wide.1 hkS.1); have HK2 := Lib.hid (callsIn_wide.1 hkS.2)
  have hcB := hBW.cell
  obtain ⟨N, hN⟩ : ∃ N, A.length = N := ⟨_, rfl⟩
  have HN := Lib.hid hN
  have HS := Lib.hid hS'
  have HX : Hid ((A.map (·.1)).length = N) := Lib.hid (by rw [List.length_map]; exact hN)
  rw [hN] at HK2 hl
  have hfn : ∀ f, Fence.wide.fn f := fun _ => trivial
  have hdp : Fence.wide.depth.isSome = false := rfl
  clear hBt h n1 n2 hS' hBW hW hm hN hkS hAW hTm
  refine (callsIn_wide (n := 0)).1 ?_
  refine callsIn_of_wp Try.func64 rfl trivial ?_ rfl
  simp only [Try.ntmps64, List.size_toArray, List.length_cons, List.length_nil, Nat.reduceAdd, Nat.reduceSub, Array.replicate_succ, Array.replicate_zero, List.push_toArray, List.append_toArray, List.nil_append, List.cons_append]
  gi_wp2_with (first
    | (gi_at_call 31; refine (callsIn_wide.2 (smade _ g m hc)).mono ?_; rintro e w1 ⟨rfl, rfl⟩)
    | (gi_at_call 66; refine (callsIn_wide.2 HK1.out).mono ?_; rintro e w1 ⟨rfl, rfl⟩)
    | (gi_at_call 65; refine (callsIn_wide.2 HK2.out).mono ?_; rintro e w1 ⟨v, rfl, hown, hb⟩; obtain ⟨a, c, rfl⟩ := row_slice hown))
  have hJ1 := hJ 0 _ _ _ h0 (Fr.below hb)
  have HW1 : Hid (W.heap.size ≤ w1.heap.size) := Lib.hid hb.size
  have HO := Lib.hid hown; have HJ1 := Lib.hid hJ1
  clear h0 hcB hc hown hb hJ1
  gi_loopw [15] (fun i wr => ∃ (k : Nat) (C : Nat → Prop), k ≤ N ∧ i = .int .i64 k ∧ J k C wr ∧ (∀ b, C b → w1.heap.size ≤ b ∧ b < wr.heap.size) ∧ Fr (fun b => S' b ∨ C b) w1 wr) (fun i _ => N - (intOf i).toNat)
  case atStart => exact ⟨0, _, Nat.zero_le _, rfl, HJ1.out, fun _ h => False.elim h, Fr.refl _ _⟩
  case round =>
    obtain ⟨k, C, hk, rfl, hJr, hC, hkp⟩ := hrel
    by_cases hlt : k < N
    · obtain ⟨p, hp⟩ : ∃ p, A[k]? = some p := ⟨A[k]'(by rw [HN.out]; exact hlt), List.getElem?_eq_getElem _⟩
      obtain ⟨g', rfl, hg1, hg2⟩ := row_addr HO.out (by omega)
      have m5 : ¬ (S' g' ∨ C g') := fun e => e.elim (fun e => by have := (HS.out _ e).1; omega) (fun e => by have := hC _ e; omega)
      have hownr := hkp.row HO.out (fun b e => by obtain rfl : g' = b := (by simpa [Value.ownBlock] using e); exact m5)
      have hcx : wr.cell? ⟨g', k, none⟩ = some (vS p.1) := by
        have := hownr.cellAt (g := g') (j := k) (by omega)
        rw [this]; simp [hp]
      have hxx : (A.map (·.1))[k]? = some p.1 := by rw [List.getElem?_map, hp]; rfl
      obtain ⟨fn, tmps, assign, body, hy, hR⟩ := hY k p.1 C wr hxx hJr
      dsimp only [encS] at hy
      have hlI : (k : Int) < N := by omega
      have HC := Lib.hid hC; have HK := Lib.hid hkp
      clear hC hkp hp hJr hownr hxx
      gi_wp2
      refine hR.mono ?_
      rintro e W3 (⟨rfl, hJ3, hk3⟩ | ⟨rfl, hJx3, _⟩)
      · gi_wp2
        go_roundw
        case rel =>
          refine ⟨k + 1, _, by omega, by go_num, hJ3, ?_, ?_⟩
          · have hs3 := hk3.size
            rintro b (e | e)
            · have := HC.out b e; exact ⟨this.1, by omega⟩
            · have := HK.out.size; exact ⟨by omega, e.2⟩
          · exact (HK.out.mono (fun b _ e => e.elim .inl (fun e => .inr (.inl e)))).trans (hk3.mono (fun b _ e => e.elim .inl (fun e => .inr (.inl e))))
        case measure => simp [intOf]; omega
      · gi_wp2
        refine bodyPost_ret (results_none rfl _ _ _) rfl ?_
        refine ⟨⟨_, rfl⟩, .inr ⟨_, _, ?_, hJx3⟩⟩
        have := HX.out
        omega
    · have : k = N := by omega
      subst this
      gi_wp2
      go_end0
      exact ⟨⟨_, rfl⟩, .inl ⟨C, by rw [HX.out]; exact hJr⟩⟩
end Go.Proofs.Ytclgmnobockfnaa
namespace Go.Proofs.Ytclgmnobockfnaa
open Go.RowKit
/-- Bytes. -/
def Bs (w : World) (v : Value) (bs : List Int) : Prop := bs.length ≤ 9223372036854775807 ∧ ∃ (a : Option Addr) (c : Nat), v = .slice a bs.length c ∧ ∀ (i : Nat) (x : Int), bs[i]? = some x → 0 ≤ x ∧ x < 256 ∧ ∃ ad, a = some ad ∧ w.cell? (ad.add i) = some (.int .u8 x)
theorem Bs.nil (w : World) : Bs w (.slice none 0 0) [] := ⟨by simp, none, 0, rfl, fun i x h => by simp at h⟩
theorem Bs.fr {S : Nat → Prop} {w w' : World} {v : Value} {bs : List Int} (h : Bs w v bs) (hf : Fr S w w') (hS : ∀ b, S b → w.heap.size ≤ b) : Bs w' v bs := by
  obtain ⟨h0, a, c, e, h1⟩ := h
  refine ⟨h0, a, c, e, fun i x hx => ?_⟩
  obtain ⟨b1, b2, ad, e, hc⟩ := h1 i x hx
  exact ⟨b1, b2, ad, e, hf.cell hc (fun hs => by have := hS _ hs; have := World.block_lt_of_cell? w _ hc; omega)⟩
theorem wrapU {x : Int} (h0 : 0 ≤ x) (h1 : x < 18446744073709551616) : IntKind.u64.wrap x = x := by
  show x % 18446744073709551616 = x
  omega
end Go.Proofs.Ytclgmnobockfnaa
namespace Go.Proofs.Ytclgmnobockfnaa
open Go.RowKit Go.Maps
theorem infoU8 : (Try.prog.info? 5).map (fun i => (i.zero, i.size, i.bytes)) = some (some (.int .u8 0), 1, 1) := by kernel_rfl
/-- k bytes of u, the highest first. -/
def beB (u : Nat) : Nat → List Int
  | 0 => []
  | k + 1 => ((u / 256 ^ k % 256 : Nat) : Int) :: beB u k
def nSz (u : Nat) : Nat := (Lib.bitLen u + 7) / 8
def numH (n : Int) : Int := if n < 0 then 144 else 128
def numU (n : Int) : Nat := if n < 0 then (-1 - n).toNat else n.toNat
/-- A number's cell. -/
def numB (n : Int) : List Int := if 0 ≤ n ∧ n < 128 then [n] else (numH n + nSz (numU n)) :: beB (numU n) (nSz (numU n))
theorem beB_len (u : Nat) : ∀ k, (beB u k).length = k
  | 0 => rfl
  | k + 1 => by simp [beB, beB_len u k]
/-- Bytes as values. -/
def u8s (l : List Int) : List Value := l.map (.int .u8)
/-- Bytes that lie in memory from block B on. -/
def Bn (B : Nat) (w : World) (v : Value) (bs : List Int) : Prop := Bs w v bs ∧ ∀ b, v.ownBlock = some b → B ≤ b
theorem beB_mem {u k : Nat} {x : Int} (h : x ∈ beB u k) : 0 ≤ x ∧ x < 256 := by
  induction k with
  | zero => cases h
  | succ k ih =>
    simp only [beB, List.mem_cons] at h
    rcases h with rfl | h
    · omega
    · exact ih h
theorem nSz_le {u : Nat} (h : u < 18446744073709551616) : nSz u ≤ 8 := by
  have := Lib.bitLen_le u 64 (by omega) h
  unfold nSz; omega
theorem numU_lt {n : Int} (h : okI n) : numU n < 9223372036854775808 := by unfold numU okI at *; split <;> omega
theorem numB_mem {n : Int} (h : okI n) {x : Int} (hx : x ∈ numB n) : 0 ≤ x ∧ x < 256 := by
  unfold numB at hx
  split at hx
  · simp at hx; omega
  · simp only [List.mem_cons] at hx
    rcases hx with rfl | hx
    · have := nSz_le (u := numU n) (by have := numU_lt h; omega)
      unfold numH; split <;> omega
    · exact beB_mem hx
theorem numB_len {n : Int} (h : okI n) : 1 ≤ (numB n).length ∧ (numB n).length ≤ 9 := by
  unfold numB
  split
  · simp
  · have := nSz_le (u := numU n) (by have := numU_lt h; omega)
    simp [beB_len]; omega
/-- A row of the call's own, read as bytes. -/
theorem Bs.own {w : World} {base : Nat} {v : Value} {bs : List Int} (h : w.ownsRow base 5 1 v bs.length (u8s bs)) (hb : ∀ x ∈ bs, 0 ≤ x ∧ x < 256) : Bn base w v bs := by
  rcases Nat.eq_zero_or_pos bs.length with h0 | h0
  · have : bs = [] := List.eq_nil_of_length_eq_zero h0
    subst this
    obtain ⟨hl, h1 | ⟨g, cap, cur, rfl, hbs, hh, hn, hm, hs, ht⟩⟩ := h
    · obtain ⟨rfl, -⟩ := h1
      exact ⟨Bs.nil w, fun b hb => by cases hb⟩
    · exact ⟨⟨by simp, _, cap, rfl, fun i x hx => by simp at hx⟩, fun b hb => by cases hb; exact hbs⟩
  · obtain ⟨g, cap, rfl, hg, hlt⟩ := h.form h0
    refine ⟨⟨?_, _, cap, rfl, fun i x hx => ?_⟩, fun b hb => by cases hb; exact hg⟩
    · obtain ⟨-, h1 | ⟨g', cap', cur, e, _, _, hn, hm, _, _⟩⟩ := h
      · omega
      · have hm : cap' ≤ 9223372036854775807 := hm
        omega
    · have hi := (List.getElem?_eq_some_iff.1 hx).1
      have hmem : x ∈ bs := List.mem_of_getElem? hx
      refine ⟨(hb x hmem).1, (hb x hmem).2, _, rfl, ?_⟩
      have := h.cellAt (g := g) (j := i) (by simpa using hi)
      rw [show (⟨g, 0, none⟩ : Addr).add i = ⟨g, i, none⟩ by simp [Addr.add]; omega, this]
      simp [u8s, hx]
end Go.Proofs.Ytclgmnobockfnaa
namespace Go.Proofs.Ytclgmnobockfnaa
open Go.RowKit Go.Maps
theorem beB_get (u : Nat) : ∀ {s k : Nat}, k < s → (beB u s)[k]? = some ((u / 256 ^ (s - 1 - k) % 256 : Nat) : Int)
  | 0, _, h => by omega
  | s + 1, 0, _ => by simp [beB]
  | s + 1, k + 1, h => by
    have := beB_get u (s := s) (k := k) (by omega)
    simp only [beB, List.getElem?_cons_succ]
    rw [this, show s + 1 - 1 - (k + 1) = s - 1 - k by omega]
theorem cClip (w : World) (a : Addr) (n c : Nat) (h : n ≤ c) (hc : c ≤ 9223372036854775807) : Calls Try.prog 83 #[.slice (some a) n c] w fun e w' => e = .returned (.slice (some a) n n) ∧ w = w' := by
  go_enter Try.func83, Try.ntmps83
  go_wp2
  go_ret
  exact ⟨rfl, rfl⟩
theorem pow256 (U m : Nat) : ((U : Int) / 2 ^ (8 * m)) % 256 = ((U / 256 ^ m % 256 : Nat) : Int) := by
  have : (2 : Int) ^ (8 * m) = ((256 ^ m : Nat) : Int) := by
    rw [Int.pow_mul]; simp
  rw [this]; simp
theorem own_cap {w : World} {base : Nat} {e : TypeId} {size n m cap : Nat} {a : Addr} {xs : List Value} (h : w.ownsRow base e size (.slice (some a) n cap) m xs) : n ≤ cap ∧ cap ≤ 9223372036854775807 := by
  rcases h.2 with ⟨h0, _⟩ | ⟨g, c, cur, e1, _, _, h1, h2, _⟩
  · cases h0
  · injection e1 with e2 e3 e4
    subst e3 e4
    exact ⟨h1, h2⟩
theorem Bn.clip {B : Nat} {w : World} {a : Option Addr} {n c c' : Nat} {bs : List Int} (h : Bn B w (.slice a n c) bs) : Bn B w (.slice a n c') bs := by
  obtain ⟨⟨h0, a', c1, e, h1⟩, h2⟩ := h
  injection e with e1 e2 e3
  subst e1 e2
  exact ⟨⟨h0, _, c', rfl, h1⟩, fun b hb => h2 b (by cases a <;> exact hb)⟩
theorem xorOnes (m : Nat) (h : m < 18446744073709551616) : 18446744073709551615 ^^^ m = 18446744073709551615 - m := by
  have h1 := congrArg BitVec.toNat (BitVec.allOnes_xor (x := BitVec.ofNat 64 m))
  rw [BitVec.toNat_xor, BitVec.toNat_not, BitVec.toNat_allOnes, BitVec.toNat_ofNat, Nat.mod_eq_of_lt (by simpa using h)] at h1
  simpa using h1
theorem notU64 {n : Int} (h0 : -9223372036854775808 ≤ n) (h1 : n < 0) : bits BinOp.xor IntKind.u64 IntKind.u64.max (IntKind.u64.wrap n) = ((-1 - n).toNat : Int) := by
  have e1 : IntKind.u64.max = ((18446744073709551615 : Nat) : Int) := by decide
  have e2 : IntKind.u64.wrap n = ((n + 18446744073709551616).toNat : Int) := by
    show n % 18446744073709551616 = _
    omega
  rw [e1, e2, u64_xor_nat _ _ (by omega) (by omega), xorOnes _ (by omega)]
  omega
set_option maxRecDepth 100000 in
set_option maxHeartbeats 2000000 in
theorem cNum (w : World) (n : Int) (hn : okI n) : Calls Try.prog 70 #[.int .i64 n] w fun e w' => ∃ v, e = .returned v ∧ Bn w.heap.size w' v (numB n) ∧ Below w.heap.size w w' := by
  obtain ⟨i0, hi', hz0, hz1, hz2⟩ := info_parts infoU8
  have HN := Lib.hid hn
  unfold okI at hn
  by_cases h : 0 ≤ n ∧ n < 128
  · obtain ⟨h0, h1⟩ := h
    have e : numB n = [n] := by unfold numB; rw [if_pos ⟨h0, h1⟩]
    rw [e]
    go_enter Try.func70, Try.ntmps70
    go_wp2
    go_ret
    exact ⟨_, rfl, Bs.own (w := w.alloc (.cells #[.int .u8 n] 5)) (base := w.heap.size) ⟨by simp [u8s], .inr ⟨_, _, _, rfl, Nat.le_refl _, heap_new _ _, by simp, by decide, by simp, by simp [u8s]⟩⟩ (fun x hx => by simp at hx; omega), (Below.refl _ _).alloc (Nat.le_refl _) _⟩
  · obtain ⟨U, hU⟩ : ∃ U, numU n = U := ⟨_, rfl⟩
    have hU1 := numU_lt HN.out
    have e : numB n = (numH n + nSz U) :: beB U (nSz U) := by unfold numB; rw [if_neg h, hU]
    rw [e]
    rw [hU] at hU1
    obtain ⟨s, hs⟩ : ∃ s, nSz U = s := ⟨_, rfl⟩
    rw [hs]
    have hs8 : s ≤ 8 := by rw [← hs]; exact nSz_le (by omega)
    have hLen := bLen64 (U : Int) w (by omega) (by omega)
    rw [show (U : Int).toNat = U from rfl] at hLen
    obtain ⟨bl, hbl⟩ : ∃ bl, Lib.bitLen U = bl := ⟨_, rfl⟩
    have hbs : (bl + 7) / 8 = s := by rw [← hs, ← hbl]; rfl
    rw [hbl] at hLen
    have hbl64 : bl ≤ 64 := by rw [← hbl]; exact Lib.bitLen_le U 64 (by omega) (by omega)
    have HL := Lib.hid hLen
    clear hLen
    rcases (by omega : n < 0 ∨ 128 ≤ n) with hneg | hpos
    · have hH : numH n = 144 := if_pos hneg
      have hX := notU64 hn.1 hneg
      have hUn : (-1 - n).toNat = U := by rw [← hU]; unfold numU; rw [if_pos hneg]
      rw [hUn] at hX
      rw [hH]
      clear hU hs hbl h e
      go_enter Try.func70, Try.ntmps70
      go_wp2_with fail
      refine HL.out.mono ?_
      rintro e w' ⟨rfl, hww⟩
      have hww := hww.symm
      subst hww
      go_wp2_with fail
      go_loopw [6, 7] (fun o i wr => ∃ k : Nat, k ≤ s ∧ i = .int .i64 ((s : Int) - 1 - k) ∧ wr.ownsRow w.heap.size 5 1 o (1 + k) (u8s ((144 + (s : Int)) :: (beB U s).take k)) ∧ Below w.heap.size w wr) (fun _ i _ => (intOf i + 1).toNat)
      case atStart =>
        refine ⟨0, by omega, val_int (by omega), ⟨by simp [u8s], .inr ⟨_, _, _, rfl, Nat.le_refl _, heap_new _ _, by simp, by decide, by simp, ?_⟩⟩, (Below.refl _ _).alloc (Nat.le_refl _) _⟩
        simp [u8s]; omega
      case round =>
        obtain ⟨k, hk, rfl, hown, hB⟩ := hrel
        by_cases hks : k < s
        · have HOW := Lib.hid hown; have HBB := Lib.hid hB
          have hBs := hB.size
          clear hown hB
          go_wp2_with (at_builtin; refine wpList_append_own_at _ rfl _ _ 31 rfl w.heap.size 5 i0 (.int .u8 0) 1 1 Try.underlying31 hi' hz0 hz1 hz2 rfl (by decide) _ (1 + k) _ rfl (HOW.out.alloc _) ⟨wr.heap.size, 0, none⟩ 1 1 [.int .u8 _] rfl rfl (cell_one_new _ _ _) (by simp [Value.oneCell']) (by unfold maxLen; omega) (by omega) (by simp; omega) ?_; intro v' w1 hown' hgrow _ _)
          go_roundw
          case rel =>
            refine ⟨k + 1, by omega, val_int (by omega), ?_, (HBB.out.alloc hBs _).grown hgrow (by simp; omega) (fun r hr => (HOW.out.lt r hr).1)⟩
            rw [List.take_add_one, beB_get U hks, ← pow256]
            rw [show 1 + (k + 1) = 1 + k + 1 by omega]
            simpa [u8s] using hown'
          case measure => simp [intOf]; omega
        · have hke : k = s := by omega
          subst hke
          obtain ⟨g, cap, rfl, hg, hlt⟩ := hown.form (by omega)
          have HOW := Lib.hid hown; have HBB := Lib.hid hB
          clear hown hB
          go_wp2_with fail
          refine (cClip wr _ _ _ (own_cap HOW.out).1 (own_cap HOW.out).2).mono ?_
          rintro e w3 ⟨rfl, rfl⟩
          go_wp2_with fail
          go_ret
          have hle : (beB U k).take k = beB U k := List.take_of_length_le (by rw [beB_len]; omega)
          have hown := HOW.out
          rw [hle] at hown
          have hl1 : ((144 + (k : Int)) :: beB U k).length = 1 + k := by rw [List.length_cons, beB_len, Nat.add_comm]
          refine ⟨_, rfl, (Bs.own (v := .slice (some ⟨g, 0, none⟩) (1 + k) cap) (bs := (144 + (k : Int)) :: beB U k) (by rw [hl1]; exact hown) (fun x hx => ?_)).clip, HBB.out⟩
          rcases List.mem_cons.1 hx with rfl | hx
          · omega
          · exact beB_mem hx
    · have hH : numH n = 128 := if_neg (by omega)
      have hUn : n = (U : Int) := by rw [← hU]; unfold numU; rw [if_neg (by omega)]; omega
      rw [hH]
      clear hU hs hbl h e HN
      subst hUn
      go_enter Try.func70, Try.ntmps70
      go_wp2_with fail
      refine HL.out.mono ?_
      rintro e w' ⟨rfl, hww⟩
      have hww := hww.symm
      subst hww
      go_wp2_with fail
      go_loopw [6, 7] (fun o i wr => ∃ k : Nat, k ≤ s ∧ i = .int .i64 ((s : Int) - 1 - k) ∧ wr.ownsRow w.heap.size 5 1 o (1 + k) (u8s ((128 + (s : Int)) :: (beB U s).take k)) ∧ Below w.heap.size w wr) (fun _ i _ => (intOf i + 1).toNat)
      case atStart =>
        refine ⟨0, by omega, val_int (by omega), ⟨by simp [u8s], .inr ⟨_, _, _, rfl, Nat.le_refl _, heap_new _ _, by simp, by decide, by simp, ?_⟩⟩, (Below.refl _ _).alloc (Nat.le_refl _) _⟩
        simp [u8s]; omega
      case round =>
        obtain ⟨k, hk, rfl, hown, hB⟩ := hrel
        by_cases hks : k < s
        · have HOW := Lib.hid hown; have HBB := Lib.hid hB
          have hBs := hB.size
          clear hown hB
          go_wp2_with (at_builtin; refine wpList_append_own_at _ rfl _ _ 31 rfl w.heap.size 5 i0 (.int .u8 0) 1 1 Try.underlying31 hi' hz0 hz1 hz2 rfl (by decide) _ (1 + k) _ rfl (HOW.out.alloc _) ⟨wr.heap.size, 0, none⟩ 1 1 [.int .u8 _] rfl rfl (cell_one_new _ _ _) (by simp [Value.oneCell']) (by unfold maxLen; omega) (by omega) (by simp; omega) ?_; intro v' w1 hown' hgrow _ _)
          go_roundw
          case rel =>
            refine ⟨k + 1, by omega, val_int (by omega), ?_, (HBB.out.alloc hBs _).grown hgrow (by simp; omega) (fun r hr => (HOW.out.lt r hr).1)⟩
            rw [List.take_add_one, beB_get U hks, ← pow256]
            rw [show 1 + (k + 1) = 1 + k + 1 by omega]
            simpa [u8s] using hown'
          case measure => simp [intOf]; omega
        · have hke : k = s := by omega
          subst hke
          obtain ⟨g, cap, rfl, hg, hlt⟩ := hown.form (by omega)
          have HOW := Lib.hid hown; have HBB := Lib.hid hB
          clear hown hB
          go_wp2_with fail
          refine (cClip wr _ _ _ (own_cap HOW.out).1 (own_cap HOW.out).2).mono ?_
          rintro e w3 ⟨rfl, rfl⟩
          go_wp2_with fail
          go_ret
          have hle : (beB U k).take k = beB U k := List.take_of_length_le (by rw [beB_len]; omega)
          have hown := HOW.out
          rw [hle] at hown
          have hl1 : ((128 + (k : Int)) :: beB U k).length = 1 + k := by rw [List.length_cons, beB_len, Nat.add_comm]
          refine ⟨_, rfl, (Bs.own (v := .slice (some ⟨g, 0, none⟩) (1 + k) cap) (bs := (128 + (k : Int)) :: beB U k) (by rw [hl1]; exact hown) (fun x hx => ?_)).clip, HBB.out⟩
          rcases List.mem_cons.1 hx with rfl | hx
          · omega
          · exact beB_mem hx
end Go.Proofs.Ytclgmnobockfnaa
namespace Go.Proofs.Ytclgmnobockfnaa
open Go.RowKit Go.Maps
theorem run_append_zeros {P : Program} (w : World) (t ty e ti : TypeId) (i : TypeInfo) (z : Value) (ht : P.underlying t = some (.slice e)) (hti : P.underlying ti = some (.int .i64)) (hi : P.info? e = some i) (hz : i.zero = some z) (hby : i.bytes = 1) (hsz : i.size = 1)
    (n : Nat) (h0 : 0 < n) (h63 : n ≤ 1099511627776) :
    (Builtin.append_ #[t, ti] ty #[.slice none 0 0, .int .i64 n]).run P w =
      .ok (.slice (some ⟨w.heap.size, 0, none⟩) n (grownCap w n 0 e)) (w.drew.alloc (.cells (Builtin.zeroCells z.cells n ++ Builtin.zeroCells z.cells (grownCap w n 0 e - n)) e)) := by
  have hn : n ≠ 0 := by omega
  have h63' : ¬ (9223372036854775807 < (n : Int)) := by omega
  have h48' : ¬ (281474976710656 < Builtin.nextslicecap n 0) := by rw [nextslicecap_zero h0]; omega
  have hw : IntKind.i64.wrap (n : Int) = n := by rw [IntKind.wrap_i64]; omega
  have hl : ¬ ((n : Int) < 0) := by omega
  have hl2 : ¬ (281474976710656 < (n : Int)) := by omega
  simp [Builtin.append_, run_underlying ht, run_underlying hti, sizeOf, typeInfo, zeroValue, hi, hz, hby, hsz, asInt, asIntOf, hw, hl, hl2, hn, h63', h48', Question.forced, run_firstCells_none, newRow, grownCap]
theorem wpList_append_zeros {P : Program} (w : World) {ops : Array Oper} {rest : List Oper} {o : Oper} {a : Act} {Q : Exit → Act → World → Prop} (hgd : o.guard = none) (s x : Operand) (t e ti : TypeId)
    (ho : o.op = .call { callee := .builtin .append, args := #[s, x], argTypes := #[t, ti] }) (i : TypeInfo) (z : Value) (ht : P.underlying t = some (.slice e)) (hti : P.underlying ti = some (.int .i64)) (hi : P.info? e = some i) (hz : i.zero = some z) (hby : i.bytes = 1) (hsz : i.size = 1)
    (n : Nat) (h0 : 0 < n) (h63 : n ≤ 1099511627776) (hs : a.eval s = .slice none 0 0) (hx : a.eval x = .int .i64 n)
    (h : wpList P ops Q rest (a.put o.dst (.slice (some ⟨w.heap.size, 0, none⟩) n (grownCap w n 0 e))) (w.drew.alloc (.cells (Builtin.zeroCells z.cells n ++ Builtin.zeroCells z.cells (grownCap w n 0 e - n)) e))) :
    wpList P ops Q (o :: rest) a w := by
  refine wpList_plain hgd fun K hK => ?_
  have hr := run_append_zeros (P := P) w t o.type e ti i z ht hti hi hz hby hsz n h0 h63
  unfold Oper.wp execOp
  simp only [ho, resolve, invoke, builtin, Sem.run_bind, Sem.run_pure, Result.andThen_ok, List.map_toArray, List.map_cons, List.map_nil, hs, hx, hr]
  exact hK _ _ h
theorem zeroCells_size (z : Array Value) (hz : z.size = 1) (n : Nat) : (Builtin.zeroCells z n).size = n := by simp [Builtin.zeroCells, hz]
set_option maxRecDepth 100000 in
theorem cGrow (w : World) (n : Nat) (hn : (n : Int) ≤ 1099511627776) : Calls Try.prog 88 #[.slice none 0 0, .int .i64 n] w fun e w' =>
    ∃ v, e = .returned v ∧ w'.ownsRow w.heap.size 5 1 v 0 [] ∧ Below w.heap.size w w' := by
  obtain ⟨i0, hi', hz0, hz1, hz2⟩ := info_parts infoU8
  by_cases h0 : n = 0
  · subst h0
    go_enter Try.func88, Try.ntmps88
    go_wp2
    go_ret
    exact ⟨_, rfl, World.ownsRow_nil _ _ _ _, Below.refl _ _⟩
  · have hpos : 0 < n := by omega
    have hcap := Lib.hid (grownCap_ge w n 0 5)
    have hcm := Lib.hid (grownCap_le_maxLen w n 0 5 (by unfold maxLen; omega))
    go_enter Try.func88, Try.ntmps88
    go_wp2_with (at_builtin; refine wpList_append_zeros _ rfl _ _ 31 5 3 rfl i0 (.int .u8 0) Try.underlying31 Try.underlying3 hi' hz0 hz2 hz1 n hpos (by omega) rfl rfl ?_)
    go_ret
    refine ⟨_, rfl, World.ownsRow_made (w := w.drew) _ _ (Nat.le_refl _) hcm.out ?_, (Below.refl _ w).drew.alloc (Nat.le_refl _) _⟩
    rw [Array.size_append, zeroCells_size _ rfl, zeroCells_size _ rfl]
    have := hcap.out
    omega
end Go.Proofs.Ytclgmnobockfnaa
namespace Go.Proofs.Ytclgmnobockfnaa
open Go.RowKit Go.Maps
def Parts (w : World) (v : Value) (L : List (Value × List Int)) : Prop := ∃ a c, v = .slice (some a) L.length c ∧ ∀ i p, L[i]? = some p → w.cell? (a.add i) = some p.1 ∧ Bs w p.1 p.2 ∧ ∃ ad n c, p.1 = .slice (some ad) n c
def catL (L : List (Value × List Int)) : List Int := L.flatMap (·.2)
theorem catL_take {L : List (Value × List Int)} {k : Nat} {p : Value × List Int} (h : L[k]? = some p) : catL (L.take (k + 1)) = catL (L.take k) ++ p.2 := by
  unfold catL
  rw [List.take_add_one, h]; simp
theorem catL_le (L : List (Value × List Int)) (k : Nat) : (catL (L.take k)).length ≤ (catL L).length := by
  have : catL L = catL (L.take k) ++ catL (L.drop k) := by
    unfold catL
    rw [← List.flatMap_append, List.take_append_drop]
  rw [this, List.length_append]; omega
theorem Parts.fr {S : Nat → Prop} {w w' : World} {v : Value} {L : List (Value × List Int)} (h : Parts w v L) (hf : Fr S w w') (hS : ∀ b, S b → w.heap.size ≤ b) : Parts w' v L := by
  obtain ⟨a, c, e, h1⟩ := h
  refine ⟨a, c, e, fun i p hp => ⟨?_, (h1 i p hp).2.1.fr hf hS, (h1 i p hp).2.2⟩⟩
  have hc := (h1 i p hp).1
  exact hf.cell hc (fun hs => by have := hS _ hs; have := World.block_lt_of_cell? w _ hc; omega)
set_option maxRecDepth 100000 in
set_option maxHeartbeats 1000000 in
theorem cConcat (w : World) (v : Value) (L : List (Value × List Int)) (h : Parts w v L) (hl : (L.length : Int) ≤ 1000) (hn : ((catL L).length : Int) ≤ 1099511627776) : Calls Try.prog 81 #[v] w fun e w' =>
    ∃ v', e = .returned v' ∧ w'.ownsRow w.heap.size 5 1 v' (catL L).length (u8s (catL L)) ∧ Below w.heap.size w w' := by
  obtain ⟨i0, hi', hz0, hz1, hz2⟩ := info_parts infoU8
  obtain ⟨a, c, rfl, -⟩ := id h
  have HP := Lib.hid h
  clear h
  obtain ⟨ln, hln⟩ : ∃ ln, L.length = ln := ⟨_, rfl⟩
  have HLN := Lib.hid hln
  rw [hln] at hl HP ⊢
  clear hln
  have hle := fun k => catL_le L k
  obtain ⟨tot, htot⟩ : ∃ t, (catL L).length = t := ⟨_, rfl⟩
  have HTOT := Lib.hid htot
  rw [htot] at hn hle ⊢
  have HLE := Lib.hid hle
  clear htot hle
  go_enter Try.func81, Try.ntmps81
  go_wp2
  go_loopw [3, 11] (fun z i wr => ∃ k : Nat, (k : Int) ≤ ln ∧ z = .int .i64 ((catL (L.take k)).length : Nat) ∧ i = .int .i64 k ∧ wr = w) (fun _ i _ => ln - (intOf i).toNat)
  case atStart => exact ⟨0, by omega, by simp [catL], rfl, rfl⟩
  case round =>
    obtain ⟨k, hk, rfl, rfl, rfl⟩ := hrel
    by_cases hkl : (k : Int) < ln
    · obtain ⟨p, hp⟩ : ∃ p, L[k]? = some p := ⟨L[k]'(by have := HLN.out; omega), List.getElem?_eq_getElem _⟩
      obtain ⟨a', c', e, h1⟩ := HP.out
      have hc := (h1 k p hp).1
      obtain ⟨hb1, ba, bc, hbe, -⟩ := id (h1 k p hp).2.1
      injection e with e1 e2 e3
      cases e1
      have e3 := e3.symm
      subst e3
      have HT := Lib.hid (congrArg List.length (catL_take hp))
      have HLE1 := HLE.out (k + 1)
      rw [HT.out, List.length_append] at HLE1
      rw [hbe] at hc
      obtain ⟨pl, hpl⟩ : ∃ n, p.2.length = n := ⟨_, rfl⟩
      rw [hpl] at hc HLE1 hb1
      obtain ⟨z, hz⟩ : ∃ z, (catL (L.take k)).length = z := ⟨_, rfl⟩
      rw [hz] at HLE1 ⊢
      have HZ := Lib.hid hz; have HPL := Lib.hid hpl
      clear h1 hp hz hpl e2 hbe
      go_wp2
      go_roundw
      case rel => exact ⟨k + 1, by omega, val_int (by rw [HT.out, List.length_append, HZ.out, HPL.out]; omega), by go_num, by trivial⟩
      case measure => simp [intOf]; omega
    · have hke : k = ln := by omega
      have hz : (catL (L.take k)).length = tot := by rw [List.take_of_length_le (by have := HLN.out; omega)]; exact HTOT.out
      rw [hz]
      subst hke
      clear hz
      go_wp2_with fail
      refine (cGrow _ _ hn).mono ?_
      rintro e w1 ⟨v1, rfl, hown, hB⟩
      have HOW := Lib.hid hown; have HBB := Lib.hid hB
      clear hown hB
      go_wp2_with fail
      obtain ⟨W0, rfl⟩ : ∃ W0 : World, W0 = wr := ⟨_, rfl⟩
      go_loopw [6, 27] (fun o i w2 => ∃ j : Nat, (j : Int) ≤ k ∧ i = .int .i64 j ∧ w2.ownsRow W0.heap.size 5 1 o (catL (L.take j)).length (u8s (catL (L.take j))) ∧ Below W0.heap.size W0 w2) (fun _ i _ => k - (intOf i).toNat)
      case atStart => exact ⟨0, by omega, rfl, HOW.out, HBB.out⟩
      case round =>
        obtain ⟨j, hj, rfl, hown2, hB2⟩ := hrel
        by_cases hjl : (j : Int) < k
        · obtain ⟨p, hp⟩ : ∃ p, L[j]? = some p := ⟨L[j]'(by have := HLN.out; omega), List.getElem?_eq_getElem _⟩
          obtain ⟨a', c', e, h1⟩ := HP.out
          have hc := (h1 j p hp).1
          obtain ⟨ad, pl', pc, hpe⟩ := (h1 j p hp).2.2
          obtain ⟨hb1, ba, bc, hbe, hbx⟩ := id (h1 j p hp).2.1
          rw [hpe] at hbe
          injection hbe with g1 g2 g3
          subst g1 g2 g3
          injection e with e1 e2 e3
          cases e1
          have e3 := e3.symm
          subst e3
          rw [hpe] at hc
          have hc2 := (hB2.cell (p := a.add j) (World.block_lt_of_cell? W0 _ hc)).trans hc
          have hT := catL_take hp
          have hLE1 := HLE.out (j + 1)
          rw [hT, List.length_append] at hLE1
          have hnews : ∀ (i : Nat) (u : Value), (u8s p.2)[i]? = some u → wr.cell? (ad.add i) = some u := fun i u hu => by
            unfold u8s at hu
            rw [List.getElem?_map] at hu
            obtain ⟨x, hx, rfl⟩ := Option.map_eq_some_iff.1 hu
            obtain ⟨-, -, ad', e, hcell⟩ := hbx i x hx
            cases e
            exact (hB2.cell (World.block_lt_of_cell? W0 _ hcell)).trans hcell
          have hall : ∀ u ∈ u8s p.2, u.oneCell' = true := fun u hu => by
            unfold u8s at hu
            obtain ⟨x, _, rfl⟩ := List.mem_map.1 hu
            rfl
          have hul : (u8s p.2).length = p.2.length := by simp [u8s]
          have HNEWS := Lib.hid hnews; have HALL := Lib.hid hall; have HUL := Lib.hid hul; have HT := Lib.hid hT; have HO2 := Lib.hid hown2; have HB2 := Lib.hid hB2
          obtain ⟨pl, hpl⟩ : ∃ n, p.2.length = n := ⟨_, rfl⟩
          obtain ⟨z, hz⟩ : ∃ z, (catL (L.take j)).length = z := ⟨_, rfl⟩
          have hBs := hB2.size
          rw [hpl] at hc2 hLE1 HUL
          rw [hz] at hLE1 HO2
          have HPL := Lib.hid hpl; have HZ := Lib.hid hz
          clear hnews hall hul hT hown2 hB2 h1 hp hc hbx e2 hb1 hpl hz hpe
          go_wp2_with (at_builtin; refine wpList_append_own_at _ rfl _ _ 31 rfl W0.heap.size 5 i0 (.int .u8 0) 1 1 Try.underlying31 hi' hz0 hz1 hz2 rfl (by decide) _ z _ rfl HO2.out ad pl _ (u8s p.2) rfl (by rw [HUL.out, Nat.mul_one]) HNEWS.out HALL.out (by unfold maxLen; omega) (by omega) hBs ?_; intro v' w5 hown' hgrow _ _)
          go_roundw
          case rel =>
            refine ⟨j + 1, by omega, by go_num, ?_, HB2.out.grown hgrow hBs (fun r hr => (HO2.out.lt r hr).1)⟩
            rw [HT.out, List.length_append, HZ.out, HPL.out]
            unfold u8s at hown' ⊢
            rw [List.map_append]
            exact hown'
          case measure => simp [intOf]; omega
        · have hje : j = k := by omega
          subst hje
          rw [List.take_of_length_le (by have := HLN.out; omega), HTOT.out] at hown2
          go_wp2_with fail
          go_ret
          exact ⟨_, rfl, hown2, hB2⟩
end Go.Proofs.Ytclgmnobockfnaa
namespace Go.Proofs.Ytclgmnobockfnaa
open Go.RowKit Go.Maps
/-- A maker that holds bs. -/
structure MK (w : World) (g : Nat) (TS : Nat → Prop) (bs : List Int) (long : Bool) : Prop where
  ex : ∃ v, w.heap[g]? = some (.cells #[v, .bool long] 119) ∧ w.ownsRow 0 5 1 v bs.length (u8s bs) ∧ ∀ b, v.ownBlock = some b → TS b ∧ b ≠ g
  own : TS g
  lt : ∀ b, TS b → b < w.heap.size
  len : (bs.length : Int) ≤ 262144
def putB (bs : List Int) (long : Bool) (c : List Int) : List Int := if long = true ∨ 262144 < bs.length + c.length then bs else bs ++ c
def putL (bs : List Int) (long : Bool) (c : List Int) : Bool := long || decide (262144 < bs.length + c.length)
theorem MK.fr {S TS : Nat → Prop} {w w' : World} {g : Nat} {bs : List Int} {long : Bool} (h : MK w g TS bs long) (hf : Fr S w w') (hS : ∀ b, TS b → ¬ S b) : MK w' g TS bs long := by
  obtain ⟨⟨v, h1, h2, h3⟩, h4, h5, h6⟩ := h
  exact ⟨⟨v, hf.at_ h1 (hS _ h4), hf.row h2 (fun b hb => hS _ (h3 b hb).1), h3⟩, h4, fun b hb => Nat.lt_of_lt_of_le (h5 b hb) hf.size, h6⟩
set_option maxRecDepth 100000 in
theorem cMNew (w : World) : Calls Try.prog 39 #[] w fun e w' => e = .returned (.pointer (some ⟨w.heap.size, 0, none⟩)) ∧ MK w' w.heap.size (fun b => b = w.heap.size) [] false ∧ Fr (fun _ => False) w w' := by
  go_enter Try.func39, Try.ntmps39
  go_wp2
  go_ret
  exact ⟨rfl, ⟨⟨_, heap_new _ _, World.ownsRow_nil _ _ _ _, fun b hb => by cases hb⟩, rfl, fun b hb => by simp [hb], by simp⟩, (Fr.refl _ _).alloc _⟩
set_option maxRecDepth 100000 in
set_option maxHeartbeats 1000000 in
theorem cPut (w : World) (g : Nat) (TS : Nat → Prop) (bs : List Int) (long : Bool) (v : Value) (L : List (Value × List Int)) (h : MK w g TS bs long) (hP : Parts w v L) (hl : (L.length : Int) ≤ 1000) (hn : ((catL L).length : Int) ≤ 1099511627776) (hn0 : 0 < (catL L).length) :
    Calls Try.prog 69 #[.pointer (some ⟨g, 0, none⟩), v] w fun e w' => e = .returned (.pointer (some ⟨g, 0, none⟩)) ∧ ∃ TS', MK w' g TS' (putB bs long (catL L)) (putL bs long (catL L)) ∧ Stp TS w w' TS' := by
  obtain ⟨i0, hi', hz0, hz1, hz2⟩ := info_parts infoU8
  go_enter Try.func69, Try.ntmps69
  go_wp2_with fail
  refine (cConcat w v L hP hl hn).mono ?_
  rintro e w1 ⟨v', rfl, hown, hB⟩
  obtain ⟨g', cap, rfl, hg', hlt'⟩ := hown.form hn0
  have hM := h.fr (Fr.below hB) (fun _ _ h => h)
  obtain ⟨⟨vm, h1, h2, h3⟩, h4, h5, h6⟩ := id hM
  have hgw : g < w.heap.size := h.lt g h.own
  have HLT := Lib.hid h.lt; have HGO := Lib.hid h4
  obtain ⟨am, cm, rfl⟩ : ∃ a c, vm = .slice a bs.length c := by
    rcases h2.2 with ⟨e1, e2⟩ | ⟨_, _, _, e1, _⟩
    · exact ⟨_, _, by rw [e1, e2]⟩
    · exact ⟨_, _, e1⟩
  have b0 := cell_obj h1 0 (.slice am bs.length cm) rfl
  have b1 := cell_obj h1 1 (.bool long) rfl
  have f0 := obj_frozen h1 0
  have f1 := obj_frozen h1 1
  obtain ⟨n, hn1⟩ : ∃ n, bs.length = n := ⟨_, rfl⟩
  obtain ⟨k, hk1⟩ : ∃ k, (catL L).length = k := ⟨_, rfl⟩
  rw [hn1] at b0 h6
  rw [hk1] at hn hn0 ⊢
  have HM := Lib.hid hM; have HN := Lib.hid hn1; have HK := Lib.hid hk1; have HB := Lib.hid hB; have HO := Lib.hid hown; have H1 := Lib.hid h1; have H2 := Lib.hid h2; have H3 := Lib.hid h3
  clear h hM h1 h2 h3 h4 h5 hn1 hk1 hB hown hP hl
  have hlong : ∀ (bs' : List Int), (bs'.length : Int) ≤ 262144 → bs' = bs → ∃ TS', MK (w1.setCell ⟨g, 1, none⟩ (.bool true)) g TS' bs' true ∧ Stp TS w (w1.setCell ⟨g, 1, none⟩ (.bool true)) TS' := by
    rintro bs' h1 rfl
    have hF : Fr (fun b => b = g) w1 (w1.setCell ⟨g, 1, none⟩ (.bool true)) := (Fr.refl (fun b => b = g) w1).setCell (p := ⟨g, 1, none⟩) (fun _ => rfl) _
    exact ⟨TS, ⟨⟨_, obj_set H1.out 1 (.bool true), hF.row H2.out (fun b hb => (H3.out b hb).2), H3.out⟩, HGO.out, fun b hb => by have := HLT.out b hb; have := HB.out.size; have := hF.size; omega, h1⟩,
      ((Fr.below HB.out).mono (S := fun _ => False) (S' := TS) (fun _ _ h => h.elim)).trans' hF (fun b _ e => e ▸ HGO.out), fun b hb => .inl hb⟩
  have HLONG := Lib.hid hlong
  clear hlong
  cases long with
  | true =>
    go_wp2_with fail
    go_ret
    have e1 : putB bs true (catL L) = bs := by simp [putB]
    have e2 : putL bs true (catL L) = true := by simp [putL]
    rw [e1, e2]
    exact ⟨rfl, HLONG.out bs (by have := HN.out; omega) rfl⟩
  | false =>
    by_cases ho : 262144 - (n : Int) < k
    · go_wp2_with fail
      go_ret
      have hov : 262144 < bs.length + (catL L).length := by have := HN.out; have := HK.out; omega
      have e1 : putB bs false (catL L) = bs := by simp [putB, hov]
      have e2 : putL bs false (catL L) = true := by simp [putL, hov]
      rw [e1, e2]
      exact ⟨rfl, HLONG.out bs (by have := HN.out; omega) rfl⟩
    · have hno : ¬ 262144 < bs.length + (catL L).length := by have := HN.out; have := HK.out; omega
      have e1 : putB bs false (catL L) = bs ++ catL L := by simp [putB, hno]
      have e2 : putL bs false (catL L) = false := by simp [putL, hno]
      have HE1 := Lib.hid e1; have HE2 := Lib.hid e2; have HNO := Lib.hid hno
      clear HLONG e1 e2 hno
      have hd : decide (262144 - (n : Int) < k) = false := by simpa using ho
      have hF : Fr (fun b => b = g) w1 (w1.setCell ⟨g, 1, none⟩ (.bool false)) := (Fr.refl (fun b => b = g) w1).setCell (p := ⟨g, 1, none⟩) (fun _ => rfl) _
      have hG := obj_set H1.out 1 (.bool false)
      have hrow := hF.row H2.out (fun b hb => (H3.out b hb).2)
      have hrowc := hF.row HO.out (fun b hb => by cases hb; show ¬ g' = g; omega)
      have hnews : ∀ (i : Nat) (u : Value), (u8s (catL L))[i]? = some u → (w1.setCell ⟨g, 1, none⟩ (.bool false)).cell? ((⟨g', 0, none⟩ : Addr).add i) = some u := fun i u hu => by
        have hi := (List.getElem?_eq_some_iff.1 hu).1
        have := hrowc.cellAt (g := g') (j := i) (by simpa [u8s] using hi)
        rw [show (⟨g', 0, none⟩ : Addr).add i = ⟨g', i, none⟩ by simp [Addr.add]; omega, this]
        exact hu
      have hall : ∀ u ∈ u8s (catL L), u.oneCell' = true := fun u hu => by
        unfold u8s at hu
        obtain ⟨x, _, rfl⟩ := List.mem_map.1 hu
        rfl
      have hul : (u8s (catL L)).length = k * 1 := by have := HK.out; simp [u8s]; exact this
      have HNEWS := Lib.hid hnews; have HALL := Lib.hid hall; have HUL := Lib.hid hul; have HROW := Lib.hid hrow; have HG := Lib.hid hG; have HF := Lib.hid hF
      rw [HN.out] at HROW
      clear hnews hall hul hrow hG hF hrowc ho
      have c0 := cell_obj HG.out 0 (.slice am n cm) (by rw [← HN.out]; rfl)
      have h3 := H3.out
      rw [HN.out] at h3
      have HNB := Lib.hid h3
      clear h3
      go_wp2_with (at_builtin; refine wpList_append_own_at _ rfl _ _ 31 rfl 0 5 i0 (.int .u8 0) 1 1 Try.underlying31 hi' hz0 hz1 hz2 rfl (by decide) (.slice am n cm) n (u8s bs) rfl HROW.out ⟨g', 0, none⟩ k _ (u8s (catL L)) rfl HUL.out HNEWS.out HALL.out (by unfold maxLen; omega) (by omega) (Nat.zero_le _) ?_; intro v' w5 hown' hgrow _ hat; obtain ⟨g5, cap5, rfl, -, hl5⟩ := hown'.form (by omega); have hG5 := (hgrow.block g (Array.getElem?_eq_some_iff.1 HG.out).1 (fun e => (HNB.out g e.symm).2 rfl)).trans HG.out; have c5 := cell_obj hG5 0 (.slice am n cm) (by rw [← HN.out]; rfl); have f5 := obj_frozen hG5 0)
      go_ret
      rw [HE1.out, HE2.out]
      have hs1 : (w1.setCell ⟨g, 1, none⟩ (.bool false)).heap.size = w1.heap.size := by simp [World.setCell]
      have hat2 : TS g5 ∧ g5 ≠ g ∨ g5 = w1.heap.size := by
        rcases hat with e | e
        · exact .inl (HNB.out g5 e.symm)
        · rw [hs1] at e; exact .inr (by injection e)
      have hBs := HB.out.size
      have hne : g5 ≠ g := by
        rcases hat2 with e | e
        · exact e.2
        · omega
      have hF6 : Fr (fun b => b = g) w5 (w5.setCell ⟨g, 0, none⟩ (.slice (some ⟨g5, 0, none⟩) (n + k) cap5)) := (Fr.refl (fun b => b = g) w5).setCell (p := ⟨g, 0, none⟩) (fun _ => rfl) _
      have hs5 := hgrow.size
      have hs6 := hF6.size
      refine ⟨rfl, fun b => TS b ∨ b = g5, ⟨⟨_, obj_set hG5 0 _, ?_, fun b hb => ?_⟩, .inl HGO.out, ?_, ?_⟩, ?_, ?_⟩
      · have hl : (bs ++ catL L).length = n + k := by rw [List.length_append, HN.out, HK.out]
        rw [hl]
        unfold u8s at hown' ⊢
        rw [List.map_append]
        exact hF6.row hown' (fun b hb => by cases hb; exact hne)
      · cases hb; exact ⟨.inr rfl, hne⟩
      · rintro b (hb | rfl)
        · have := HLT.out b hb; omega
        · omega
      · have := HNO.out; rw [List.length_append]; omega
      · refine ((((Fr.below HB.out).mono (S := fun _ => False) (S' := TS) (fun _ _ h => h.elim)).trans' HF.out (fun b _ e => e ▸ HGO.out)).trans' (Fr.grown (S := fun b => TS b) hgrow (fun r hr _ => (HNB.out r hr).1)) (fun b _ e => e)).trans' hF6 (fun b _ e => e ▸ HGO.out)
      · rintro b (hb | rfl)
        · exact .inl hb
        · rcases hat2 with e | e
          · exact .inl e.1
          · exact .inr (by omega)
end Go.Proofs.Ytclgmnobockfnaa
