/- cells.Num: walked. -/
import Derived.Test.YtbeikkkmobbnkaaGreatModMoreM6
import Derived.Laws.BitsAllLaws
namespace Go.Proofs.YtbeikkkmobbnkaaGreat
open Go.RowKit Go.Maps
theorem beB_get (u : Nat) : ∀ {s k : Nat}, k < s → (beB u s)[k]? = some ((u / 256 ^ (s - 1 - k) % 256 : Nat) : Int)
  | 0, _, h => by omega
  | s + 1, 0, _ => by simp [beB]
  | s + 1, k + 1, h => by
    have := beB_get u (s := s) (k := k) (by omega)
    simp only [beB, List.getElem?_cons_succ]
    rw [this, show s + 1 - 1 - (k + 1) = s - 1 - k by omega]
theorem cClip (w : World) (a : Addr) (n c : Nat) (h : n ≤ c) (hc : c ≤ 9223372036854775807) : Calls Tryz.prog 126 #[.slice (some a) n c] w fun e w' => e = .returned (.slice (some a) n n) ∧ w = w' := by
  go_enter Tryz.func126, Tryz.ntmps126
  go_wp2
  go_ret
  exact ⟨rfl, rfl⟩
theorem pow256 (U m : Nat) : ((U : Int) / 2 ^ (8 * m)) % 256 = ((U / 256 ^ m % 256 : Nat) : Int) := by
  have : (2 : Int) ^ (8 * m) = ((256 ^ m : Nat) : Int) := by
    rw [Int.pow_mul]; simp
  rw [this]; simp
theorem own_cap {w : World} {base : Nat} {e : TypeId} {size n m cap : Nat} {a : Addr} {xs : List Value} (h : w.ownsRow base e size (.slice (some a) n cap) m xs) : n ≤ cap ∧ cap ≤ 9223372036854775807 := by
  rcases h.2 with ⟨h0, _⟩ | ⟨g, c, cur, e1, _, _, h1, h2, _⟩
  · cases h0
  · injection e1 with e2 e3 e4
    subst e3 e4
    exact ⟨h1, h2⟩
theorem Bn.clip {B : Nat} {w : World} {a : Option Addr} {n c c' : Nat} {bs : List Int} (h : Bn B w (.slice a n c) bs) : Bn B w (.slice a n c') bs := by
  obtain ⟨⟨h0, a', c1, e, h1⟩, h2⟩ := h
  injection e with e1 e2 e3
  subst e1 e2
  exact ⟨⟨h0, _, c', rfl, h1⟩, fun b hb => h2 b (by cases a <;> exact hb)⟩
theorem xorOnes (m : Nat) (h : m < 18446744073709551616) : 18446744073709551615 ^^^ m = 18446744073709551615 - m := by
  have h1 := congrArg BitVec.toNat (BitVec.allOnes_xor (x := BitVec.ofNat 64 m))
  rw [BitVec.toNat_xor, BitVec.toNat_not, BitVec.toNat_allOnes, BitVec.toNat_ofNat, Nat.mod_eq_of_lt (by simpa using h)] at h1
  simpa using h1
theorem notU64 {n : Int} (h0 : -9223372036854775808 ≤ n) (h1 : n < 0) : bits BinOp.xor IntKind.u64 IntKind.u64.max (IntKind.u64.wrap n) = ((-1 - n).toNat : Int) := by
  have e1 : IntKind.u64.max = ((18446744073709551615 : Nat) : Int) := by decide
  have e2 : IntKind.u64.wrap n = ((n + 18446744073709551616).toNat : Int) := by
    show n % 18446744073709551616 = _
    omega
  rw [e1, e2, u64_xor_nat _ _ (by omega) (by omega), xorOnes _ (by omega)]
  omega
set_option maxRecDepth 100000 in
set_option maxHeartbeats 2000000 in
theorem cNum (w : World) (n : Int) (hn : okI n) : Calls Tryz.prog 113 #[.int .i64 n] w fun e w' => ∃ v, e = .returned v ∧ Bn w.heap.size w' v (numB n) ∧ Below w.heap.size w w' := by
  obtain ⟨i0, hi', hz0, hz1, hz2⟩ := info_parts infoU8
  have HN := Lib.hid hn
  unfold okI at hn
  by_cases h : 0 ≤ n ∧ n < 128
  · obtain ⟨h0, h1⟩ := h
    have e : numB n = [n] := by unfold numB; rw [if_pos ⟨h0, h1⟩]
    rw [e]
    go_enter Tryz.func113, Tryz.ntmps113
    go_wp2
    go_ret
    exact ⟨_, rfl, Bs.own (w := w.alloc (.cells #[.int .u8 n] 5)) (base := w.heap.size) ⟨by simp [u8s], .inr ⟨_, _, _, rfl, Nat.le_refl _, heap_new _ _, by simp, by decide, by simp, by simp [u8s]⟩⟩ (fun x hx => by simp at hx; omega), (Below.refl _ _).alloc (Nat.le_refl _) _⟩
  · obtain ⟨U, hU⟩ : ∃ U, numU n = U := ⟨_, rfl⟩
    have hU1 := numU_lt HN.out
    have e : numB n = (numH n + nSz U) :: beB U (nSz U) := by unfold numB; rw [if_neg h, hU]
    rw [e]
    rw [hU] at hU1
    obtain ⟨s, hs⟩ : ∃ s, nSz U = s := ⟨_, rfl⟩
    rw [hs]
    have hs8 : s ≤ 8 := by rw [← hs]; exact nSz_le (by omega)
    have hLen := bLen64 (U : Int) w (by omega) (by omega)
    rw [show (U : Int).toNat = U from rfl] at hLen
    obtain ⟨bl, hbl⟩ : ∃ bl, Lib.bitLen U = bl := ⟨_, rfl⟩
    have hbs : (bl + 7) / 8 = s := by rw [← hs, ← hbl]; rfl
    rw [hbl] at hLen
    have hbl64 : bl ≤ 64 := by rw [← hbl]; exact Lib.bitLen_le U 64 (by omega) (by omega)
    have HL := Lib.hid hLen
    clear hLen
    rcases (by omega : n < 0 ∨ 128 ≤ n) with hneg | hpos
    · have hH : numH n = 144 := if_pos hneg
      have hX := notU64 hn.1 hneg
      have hUn : (-1 - n).toNat = U := by rw [← hU]; unfold numU; rw [if_pos hneg]
      rw [hUn] at hX
      rw [hH]
      clear hU hs hbl h e
      go_enter Tryz.func113, Tryz.ntmps113
      go_wp2_with fail
      refine HL.out.mono ?_
      rintro e w' ⟨rfl, hww⟩
      have hww := hww.symm
      subst hww
      go_wp2_with fail
      go_loopw [6, 7] (fun o i wr => ∃ k : Nat, k ≤ s ∧ i = .int .i64 ((s : Int) - 1 - k) ∧ wr.ownsRow w.heap.size 5 1 o (1 + k) (u8s ((144 + (s : Int)) :: (beB U s).take k)) ∧ Below w.heap.size w wr) (fun _ i _ => (intOf i + 1).toNat)
      case atStart =>
        refine ⟨0, by omega, val_int (by omega), ⟨by simp [u8s], .inr ⟨_, _, _, rfl, Nat.le_refl _, heap_new _ _, by simp, by decide, by simp, ?_⟩⟩, (Below.refl _ _).alloc (Nat.le_refl _) _⟩
        simp [u8s]; omega
      case round =>
        obtain ⟨k, hk, rfl, hown, hB⟩ := hrel
        by_cases hks : k < s
        · have HOW := Lib.hid hown; have HBB := Lib.hid hB
          have hBs := hB.size
          clear hown hB
          go_wp2_with (at_builtin; refine wpList_append_own_at _ rfl _ _ 72 rfl w.heap.size 5 i0 (.int .u8 0) 1 1 Tryz.underlying72 hi' hz0 hz1 hz2 rfl (by decide) _ (1 + k) _ rfl (HOW.out.alloc _) ⟨wr.heap.size, 0, none⟩ 1 1 [.int .u8 _] rfl rfl (cell_one_new _ _ _) (by simp [Value.oneCell']) (by unfold maxLen; omega) (by omega) (by simp; omega) ?_; intro v' w1 hown' hgrow _ _)
          go_roundw
          case rel =>
            refine ⟨k + 1, by omega, val_int (by omega), ?_, (HBB.out.alloc hBs _).grown hgrow (by simp; omega) (fun r hr => (HOW.out.lt r hr).1)⟩
            rw [List.take_add_one, beB_get U hks, ← pow256]
            rw [show 1 + (k + 1) = 1 + k + 1 by omega]
            simpa [u8s] using hown'
          case measure => simp [intOf]; omega
        · have hke : k = s := by omega
          subst hke
          obtain ⟨g, cap, rfl, hg, hlt⟩ := hown.form (by omega)
          have HOW := Lib.hid hown; have HBB := Lib.hid hB
          clear hown hB
          go_wp2_with fail
          refine (cClip wr _ _ _ (own_cap HOW.out).1 (own_cap HOW.out).2).mono ?_
          rintro e w3 ⟨rfl, rfl⟩
          go_wp2_with fail
          go_ret
          have hle : (beB U k).take k = beB U k := List.take_of_length_le (by rw [beB_len]; omega)
          have hown := HOW.out
          rw [hle] at hown
          have hl1 : ((144 + (k : Int)) :: beB U k).length = 1 + k := by rw [List.length_cons, beB_len, Nat.add_comm]
          refine ⟨_, rfl, (Bs.own (v := .slice (some ⟨g, 0, none⟩) (1 + k) cap) (bs := (144 + (k : Int)) :: beB U k) (by rw [hl1]; exact hown) (fun x hx => ?_)).clip, HBB.out⟩
          rcases List.mem_cons.1 hx with rfl | hx
          · omega
          · exact beB_mem hx
    · have hH : numH n = 128 := if_neg (by omega)
      have hUn : n = (U : Int) := by rw [← hU]; unfold numU; rw [if_neg (by omega)]; omega
      rw [hH]
      clear hU hs hbl h e HN
      subst hUn
      go_enter Tryz.func113, Tryz.ntmps113
      go_wp2_with fail
      refine HL.out.mono ?_
      rintro e w' ⟨rfl, hww⟩
      have hww := hww.symm
      subst hww
      go_wp2_with fail
      go_loopw [6, 7] (fun o i wr => ∃ k : Nat, k ≤ s ∧ i = .int .i64 ((s : Int) - 1 - k) ∧ wr.ownsRow w.heap.size 5 1 o (1 + k) (u8s ((128 + (s : Int)) :: (beB U s).take k)) ∧ Below w.heap.size w wr) (fun _ i _ => (intOf i + 1).toNat)
      case atStart =>
        refine ⟨0, by omega, val_int (by omega), ⟨by simp [u8s], .inr ⟨_, _, _, rfl, Nat.le_refl _, heap_new _ _, by simp, by decide, by simp, ?_⟩⟩, (Below.refl _ _).alloc (Nat.le_refl _) _⟩
        simp [u8s]; omega
      case round =>
        obtain ⟨k, hk, rfl, hown, hB⟩ := hrel
        by_cases hks : k < s
        · have HOW := Lib.hid hown; have HBB := Lib.hid hB
          have hBs := hB.size
          clear hown hB
          go_wp2_with (at_builtin; refine wpList_append_own_at _ rfl _ _ 72 rfl w.heap.size 5 i0 (.int .u8 0) 1 1 Tryz.underlying72 hi' hz0 hz1 hz2 rfl (by decide) _ (1 + k) _ rfl (HOW.out.alloc _) ⟨wr.heap.size, 0, none⟩ 1 1 [.int .u8 _] rfl rfl (cell_one_new _ _ _) (by simp [Value.oneCell']) (by unfold maxLen; omega) (by omega) (by simp; omega) ?_; intro v' w1 hown' hgrow _ _)
          go_roundw
          case rel =>
            refine ⟨k + 1, by omega, val_int (by omega), ?_, (HBB.out.alloc hBs _).grown hgrow (by simp; omega) (fun r hr => (HOW.out.lt r hr).1)⟩
            rw [List.take_add_one, beB_get U hks, ← pow256]
            rw [show 1 + (k + 1) = 1 + k + 1 by omega]
            simpa [u8s] using hown'
          case measure => simp [intOf]; omega
        · have hke : k = s := by omega
          subst hke
          obtain ⟨g, cap, rfl, hg, hlt⟩ := hown.form (by omega)
          have HOW := Lib.hid hown; have HBB := Lib.hid hB
          clear hown hB
          go_wp2_with fail
          refine (cClip wr _ _ _ (own_cap HOW.out).1 (own_cap HOW.out).2).mono ?_
          rintro e w3 ⟨rfl, rfl⟩
          go_wp2_with fail
          go_ret
          have hle : (beB U k).take k = beB U k := List.take_of_length_le (by rw [beB_len]; omega)
          have hown := HOW.out
          rw [hle] at hown
          have hl1 : ((128 + (k : Int)) :: beB U k).length = 1 + k := by rw [List.length_cons, beB_len, Nat.add_comm]
          refine ⟨_, rfl, (Bs.own (v := .slice (some ⟨g, 0, none⟩) (1 + k) cap) (bs := (128 + (k : Int)) :: beB U k) (by rw [hl1]; exact hown) (fun x hx => ?_)).clip, HBB.out⟩
          rcases List.mem_cons.1 hx with rfl | hx
          · omega
          · exact beB_mem hx
end Go.Proofs.YtbeikkkmobbnkaaGreat
