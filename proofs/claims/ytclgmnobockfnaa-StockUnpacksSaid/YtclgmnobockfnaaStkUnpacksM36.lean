/- entrepotref07: Unpack: the walk. -/
import Derived.Test.YtclgmnobockfnaaStkUnpacksM29
import Derived.Test.YtclgmnobockfnaaStkUnpacksM35
import Derived.Deep.RegionLaw
import Derived.Deep.RegionWith
namespace Go.Proofs.Ytclgmnobockfnaa
open Go.RowKit Go.Maps
/-- On the way of the document's Unpack: the taker at n0, the stock at n0 + 1, its rows between n0 + 2 and M. -/
structure UvR (w0 w : World) (n0 M : Nat) (K : Nat → Prop) (A : Stk) (t : Tst) : Prop where
  tr : TR w n0 K t.1 t.2
  ex : ∃ v, w.heap[n0 + 1]? = some (.cells #[v] 51) ∧ w.ownsRow (n0 + 2) 96 12 v A.length (rcs A) ∧ ∀ b, v.ownBlock = some b → b < M
  fr : Fr (fun b => n0 ≤ b) w0 w
section
variable {w0 w w' : World} {n0 M : Nat} {K : Nat → Prop} {A : Stk} {t t' : Tst}
theorem UvR.take (h : UvR w0 w n0 M K A t) (ht : TR w' n0 K t'.1 t'.2) (hf : Fr (fun b => b = n0) w w') : UvR w0 w' n0 M K A t' := by
  obtain ⟨_, ⟨v, h1, h2, h4⟩, h3⟩ := h
  exact ⟨ht, ⟨v, hf.at_ h1 (by omega), hf.row h2 (fun b hb e => by have := (h2.lt b hb).1; omega), h4⟩, h3.trans' hf (fun b _ e => by omega)⟩
theorem UvR.keep (h : UvR w0 w n0 M K A t) (hf : Fr (fun _ => False) w w') : UvR w0 w' n0 M K A t := by
  obtain ⟨h0, ⟨v, h1, h2, h4⟩, h3⟩ := h
  exact ⟨h0.fr hf (fun h => h) (fun _ _ h => h), ⟨v, hf.at_ h1 (fun h => h), hf.row h2 (fun _ _ h => h), h4⟩, h3.trans' hf (fun b _ e => e.elim)⟩
theorem UvR.now (h : UvR w0 w n0 M K A t) : UvR w0 w n0 w.heap.size K A t := by
  obtain ⟨h0, ⟨v, h1, h2, h4⟩, h3⟩ := h
  exact ⟨h0, ⟨v, h1, h2, fun b hb => (h2.lt b hb).2⟩, h3⟩
theorem UvR.put (h : UvR w0 w n0 M K A t) (hK : ∀ b, K b → b < n0) {B : Nat} (hb : n0 + 2 ≤ B) (hM : M ≤ B) (hf : Fr (fun x => B ≤ x) w w') : UvR w0 w' n0 M K A t := by
  obtain ⟨h0, ⟨v, h1, h2, h4⟩, h3⟩ := h
  exact ⟨h0.fr hf (fun e => by omega) (fun b hb e => by have := hK b hb; omega), ⟨v, hf.at_ h1 (by omega), hf.row h2 (fun b hb e => by have := h4 b hb; omega), h4⟩, h3.trans' hf (fun b _ e => by omega)⟩
theorem UvR.rs (h : UvR w0 w n0 M K A t) : RS w (n0 + 1) (fun b => n0 + 1 ≤ b ∧ b < w.heap.size) A := by
  obtain ⟨h0, ⟨v, h1, h2, h4⟩, h3⟩ := h
  have hl := (Array.getElem?_eq_some_iff.1 h1).1
  exact ⟨⟨v, h1, own_base h2 (Nat.zero_le _), fun b hb => by have := h2.lt b hb; exact ⟨⟨by omega, this.2⟩, by omega⟩⟩, ⟨Nat.le_refl _, hl⟩, fun b hb => hb.2⟩
theorem UvR.push {w1 : World} {v' : Value} {A' : Stk} (h : UvR w0 w n0 M K A t) (hK : ∀ b, K b → b < n0) (hf : Fr (fun b => n0 + 2 ≤ b) w w1) (ho : w1.ownsRow (n0 + 2) 96 12 v' A'.length (rcs A')) : UvR w0 (w1.setCell ⟨n0 + 1, 0, none⟩ v') n0 w1.heap.size K A' t := by
  obtain ⟨h0, ⟨v, h1, h2, h4⟩, h3⟩ := h
  have hF : Fr (fun b => b = n0 + 1) w1 (w1.setCell ⟨n0 + 1, 0, none⟩ v') := (Fr.refl (fun b => b = n0 + 1) w1).setCell (p := ⟨n0 + 1, 0, none⟩) (fun _ => rfl) _
  exact ⟨(h0.fr hf (fun e => by omega) (fun b hb e => by have := hK b hb; omega)).fr hF (fun e => by omega) (fun b hb e => by have := hK b hb; omega), ⟨v', obj_set (hf.at_ h1 (by omega)) 0 v', hF.row ho (fun b hb e => by have := (ho.lt b hb).1; omega), fun b hb => (ho.lt b hb).2⟩, (h3.trans' hf (fun b _ e => by omega)).trans' hF (fun b _ e => by omega)⟩
theorem UvR.cell (h : UvR w0 w n0 M K A t) : ∃ a c, w.heap[n0 + 1]? = some (.cells #[.slice a A.length c] 51) ∧ w.ownsRow (n0 + 2) 96 12 (.slice a A.length c) A.length (rcs A) := by
  obtain ⟨h0, ⟨v, h1, h2, h4⟩, h3⟩ := h
  obtain ⟨a, c, rfl⟩ := row_sl h2
  exact ⟨a, c, h1, h2⟩
theorem UvR.frF (h : UvR w0 w n0 M K A t) (hn : w0.heap.size = n0) : Fr (fun _ => False) w0 w := h.fr.mono (fun b hb e => by omega)
theorem UvR.lt (h : UvR w0 w n0 M K A t) : n0 + 1 < w.heap.size := by
  obtain ⟨h0, ⟨v, h1, h2, h4⟩, h3⟩ := h
  exact (Array.getElem?_eq_some_iff.1 h1).1
end
theorem rowV_sets (gd : Str) (f0 f1 f2 f3 f4 f5 f6 f7 f8 f9 f10 : Int) : ((((((((((((rowV gd SR.zero).setIfInBounds 1 (.int .i64 f0)).setIfInBounds 2 (.int .i64 f1)).setIfInBounds 3 (.int .i64 f2)).setIfInBounds 4 (.int .i64 f3)).setIfInBounds 5 (.int .i64 f4)).setIfInBounds 6 (.int .i64 f5)).setIfInBounds 7 (.int .i64 f6)).setIfInBounds 8 (.int .i64 f7)).setIfInBounds 9 (.int .i64 f8)).setIfInBounds 10 (.int .i64 f9)).setIfInBounds 11 (.int .i64 f10)) = rowV gd ⟨f0, f1, f2, f3, f4, f5, f6, f7, f8, f9, f10⟩ := by kernel_rfl
theorem rowSet {w : World} {rb : Nat} {gd : Str} (h : w.heap[rb]? = some (.cells (rowV gd SR.zero) 96)) (f0 f1 f2 f3 f4 f5 f6 f7 f8 f9 f10 : Int) :
    ((((((((((((w).setCell ⟨rb, 1, none⟩ (.int .i64 f0)).setCell ⟨rb, 2, none⟩ (.int .i64 f1)).setCell ⟨rb, 3, none⟩ (.int .i64 f2)).setCell ⟨rb, 4, none⟩ (.int .i64 f3)).setCell ⟨rb, 5, none⟩ (.int .i64 f4)).setCell ⟨rb, 6, none⟩ (.int .i64 f5)).setCell ⟨rb, 7, none⟩ (.int .i64 f6)).setCell ⟨rb, 8, none⟩ (.int .i64 f7)).setCell ⟨rb, 9, none⟩ (.int .i64 f8)).setCell ⟨rb, 10, none⟩ (.int .i64 f9)).setCell ⟨rb, 11, none⟩ (.int .i64 f10)).heap[rb]? = some (.cells (rowV gd ⟨f0, f1, f2, f3, f4, f5, f6, f7, f8, f9, f10⟩) 96) ∧ Fr (fun x => rb ≤ x) w ((((((((((((w).setCell ⟨rb, 1, none⟩ (.int .i64 f0)).setCell ⟨rb, 2, none⟩ (.int .i64 f1)).setCell ⟨rb, 3, none⟩ (.int .i64 f2)).setCell ⟨rb, 4, none⟩ (.int .i64 f3)).setCell ⟨rb, 5, none⟩ (.int .i64 f4)).setCell ⟨rb, 6, none⟩ (.int .i64 f5)).setCell ⟨rb, 7, none⟩ (.int .i64 f6)).setCell ⟨rb, 8, none⟩ (.int .i64 f7)).setCell ⟨rb, 9, none⟩ (.int .i64 f8)).setCell ⟨rb, 10, none⟩ (.int .i64 f9)).setCell ⟨rb, 11, none⟩ (.int .i64 f10)) := by
  rw [← rowV_sets]
  exact ⟨(obj_set (obj_set (obj_set (obj_set (obj_set (obj_set (obj_set (obj_set (obj_set (obj_set (obj_set h 1 (.int .i64 f0)) 2 (.int .i64 f1)) 3 (.int .i64 f2)) 4 (.int .i64 f3)) 5 (.int .i64 f4)) 6 (.int .i64 f5)) 7 (.int .i64 f6)) 8 (.int .i64 f7)) 9 (.int .i64 f8)) 10 (.int .i64 f9)) 11 (.int .i64 f10)), ((((((((((((Fr.refl (fun x => rb ≤ x) w).setCell (p := ⟨rb, 1, none⟩) (fun _ => Nat.le_refl _) (.int .i64 f0)).setCell (p := ⟨rb, 2, none⟩) (fun _ => Nat.le_refl _) (.int .i64 f1)).setCell (p := ⟨rb, 3, none⟩) (fun _ => Nat.le_refl _) (.int .i64 f2)).setCell (p := ⟨rb, 4, none⟩) (fun _ => Nat.le_refl _) (.int .i64 f3)).setCell (p := ⟨rb, 5, none⟩) (fun _ => Nat.le_refl _) (.int .i64 f4)).setCell (p := ⟨rb, 6, none⟩) (fun _ => Nat.le_refl _) (.int .i64 f5)).setCell (p := ⟨rb, 7, none⟩) (fun _ => Nat.le_refl _) (.int .i64 f6)).setCell (p := ⟨rb, 8, none⟩) (fun _ => Nat.le_refl _) (.int .i64 f7)).setCell (p := ⟨rb, 9, none⟩) (fun _ => Nat.le_refl _) (.int .i64 f8)).setCell (p := ⟨rb, 10, none⟩) (fun _ => Nat.le_refl _) (.int .i64 f9)).setCell (p := ⟨rb, 11, none⟩) (fun _ => Nat.le_refl _) (.int .i64 f10))⟩
/-- What Unpack leaves. -/
def UrP (w : World) (Z : Option Stk) (e : Ending) (w' : World) : Prop := Fr (fun _ => False) w w' ∧ match Z with
  | some A => ∃ g TX, e = .returned (.tuple #[.pointer (some ⟨g, 0, none⟩), .bool true]) ∧ RS w' g TX A ∧ ∀ b, TX b → w.heap.size ≤ b
  | none => ∃ p, e = .returned (.tuple #[p, .bool false])
set_option maxRecDepth 100000 in
set_option maxHeartbeats 16000000 in
theorem r7Unpack (w : World) (v : Value) (bs : List Int) (hb : Bs w v bs) (hcap : ∀ a n c, v = .slice a n c → n ≤ c) (hob : ∀ b, v.ownBlock = some b → b < w.heap.size) :
    Calls Try.prog 15 #[v] w (UrP w (unpS bs)) := by
  obtain ⟨Z, hZ⟩ : ∃ Z, unpS bs = Z := ⟨_, rfl⟩
  rw [hZ]
  rw [unpS_fin, ← unpR_eq _ _ _ _ (fun p hp => by cases hp)] at hZ
  obtain ⟨_, a, cap, rfl, _⟩ := id hb
  obtain ⟨K, hK⟩ : ∃ K : Nat → Prop, K = fun b => b < w.heap.size := ⟨_, rfl⟩
  obtain ⟨n0, hn0⟩ : ∃ n0, w.heap.size = n0 := ⟨_, rfl⟩
  have hT0 : TR (w.alloc (.cells #[.slice a bs.length cap, .bool false] 94)) n0 K bs false :=
    ⟨_, heap_at hn0.symm _, hb.fr (S := fun _ => False) ((Fr.refl _ w).alloc _) (fun _ h => h.elim), hcap, fun b e => by have := hob b e; rw [hK]; exact ⟨this, by omega⟩⟩
  obtain ⟨W, hW⟩ : ∃ W, (w.alloc (.cells #[.slice a bs.length cap, .bool false] 94)).alloc (.cells #[.slice none 0 0] 51) = W := ⟨_, rfl⟩
  have hU0 : UvR w W n0 (n0 + 2) K [] (bs, false) := by
    rw [← hW]
    exact ⟨hT0.fr ((Fr.refl (fun _ => False) _).alloc _) (fun h => h) (fun _ _ h => h), ⟨_, heap_at (by simp; omega) _, World.ownsRow_nil _ _ _ _, fun b hb => by cases hb⟩, ((Fr.refl _ w).alloc _).alloc _⟩
  have HKK : Hid (∀ b, K b → b < n0) := Lib.hid (fun b hb => by rw [hK] at hb; omega)
  have HZ := Lib.hid hZ; have HUP := Lib.hid hU0; have HN0 := Lib.hid hn0; have HWW := Lib.hid hW
  clear hb hcap hob hT0 hU0 hK hW hZ hn0
  go_enter Try.func15, Try.ntmps15
  go_wp2_with fail
  rw [HWW.out, HN0.out]
  refine (rTk W n0 K (bs, false) 0 64 HUP.out.tr).mono ?_
  have hn := tk_in (bs, false) (a := 0) (b := 64) (by omega) (by omega)
  have hbad0 := tk_bad0 (bs, false) 0 64
  obtain ⟨k0, hk0⟩ : ∃ k, tk (bs, false) 0 64 = k := ⟨_, rfl⟩
  rw [hk0] at hn HZ hbad0 ⊢
  rintro e w3 ⟨rfl, hK3, hF3⟩
  have HUP3 := Lib.hid (HUP.out.take hK3 hF3)
  obtain ⟨hn0', hn1⟩ := hn
  obtain ⟨N, hN⟩ : ∃ N : Nat, k0.1 = N := ⟨k0.1.toNat, by omega⟩
  rw [hN, Int.toNat_natCast] at HZ
  rw [hN] at hn0' hn1 hbad0 ⊢
  have HB0 := Lib.hid hbad0
  clear hn0' hN hK3 hF3 hk0 HUP hbad0 HWW
  go_wp2_with fail
  go_loopw [7, 8] (fun la i wr => ∃ (k : Nat) (last : Str) (A : Stk) (t : Tst) (M : Nat), k ≤ N ∧ i = .int .i64 k ∧ la = vS last ∧ UvR w wr n0 M K A t ∧ unpR (N - k) t last A = Z ∧ A.length + (N - k) ≤ 64 ∧ (t.2 = true → N = 0)) (fun _ i _ => N - (intOf i).toNat)
  case atStart => exact ⟨0, [], [], k0.2, _, Nat.zero_le _, rfl, rfl, HUP3.out, HZ.out, by simp; omega, fun h => by have := HB0.out h; omega⟩
  case round =>
    obtain ⟨k, last, A, t, M0, hk, rfl, rfl, hUp, hfin, hlen, hbad⟩ := hrel
    have HUp := Lib.hid hUp; have HFin := Lib.hid hfin; have HLEN := Lib.hid hlen; have HBAD := Lib.hid hbad
    obtain ⟨tv, t1, t2, t3, t4⟩ := hUp.tr
    obtain ⟨_, ta, tc, rfl, _⟩ := id t2
    obtain ⟨tl, htl⟩ : ∃ tl, t.1.length = tl := ⟨_, rfl⟩
    have HTL := Lib.hid htl
    rw [htl] at t1
    have b0 := cell_obj t1 0 (.slice ta tl tc) rfl
    have b1 := cell_obj t1 1 (.bool t.2) rfl
    have htl2 : (tl : Int) ≤ 9223372036854775807 := by have := t2.1; omega
    clear hUp hfin t1 t2 t3 t4 HUP3 hlen hbad htl
    by_cases hlt : k < N
    · have hb2 : t.2 = false := by cases e : t.2 with | false => rfl | true => have := HBAD.out e; omega
      rw [hb2] at b1
      have HB2 := Lib.hid hb2
      have hlI : (k : Int) < N := by omega
      clear hb2
      obtain ⟨T1, hT1⟩ : ∃ T, tkR t 16 = T := ⟨_, rfl⟩
      have hTx := Lib.hid (rText wr n0 K t 16 HUp.out.tr (by omega))
      have hgl := tkR_len t (m := 16) (by omega)
      rw [hT1] at hTx hgl
      obtain ⟨gd, t1⟩ := T1
      dsimp only at hTx hgl
      have HT1 := Lib.hid hT1; have HGL := Lib.hid hgl
      clear hT1 hgl
      go_wp2_with (go_at_call 50; refine hTx.out.mono ?_; rintro e w4 ⟨rfl, ht4, hf4⟩; have HU4 := Lib.hid (HUp.out.take (t' := t1) ht4 hf4).now; clear ht4 hf4)
      obtain ⟨rb, hrb⟩ : ∃ rb, w4.heap.size = rb := ⟨_, rfl⟩
      have hlt4 : Hid (n0 + 2 ≤ rb) := Lib.hid (by have := HU4.out.lt; omega)
      obtain ⟨W5, hW5⟩ : ∃ W5, (w4.alloc (.cells #[vS gd, .int .i64 0, .int .i64 0, .int .i64 0, .int .i64 0, .int .i64 0, .int .i64 0, .int .i64 0, .int .i64 0, .int .i64 0, .int .i64 0, .int .i64 0] 96)).alloc (.cells #[.int .i64 0, .int .i64 0, .int .i64 0, .int .i64 0, .int .i64 0, .int .i64 0, .int .i64 0, .int .i64 0, .int .i64 0, .int .i64 0, .int .i64 0] 97) = W5 := ⟨_, rfl⟩
      have hU5 : UvR w W5 n0 w4.heap.size K A t1 := by rw [← hW5]; exact HU4.out.keep (((Fr.refl _ _).alloc _).alloc _)
      have hR5 : W5.heap[rb]? = some (.cells (rowV gd SR.zero) 96) := by rw [← hW5, ← hrb]; exact heap_keep (heap_new _ _) _
      have hL5 : W5.heap[rb + 1]? = some (.cells SR.zero.cs 97) := by rw [← hW5, ← hrb]; exact heap_at (by simp) _
      rw [hW5, hrb]
      rw [hrb] at hU5
      have HU5 := Lib.hid hU5; have HR5 := Lib.hid hR5; have HL5 := Lib.hid hL5; have HRB := Lib.hid hrb
      clear hU5 hR5 hL5 hW5 hrb b0 b1
      go_loopw [11] (fun i wq => ∃ j : Nat, j ≤ 11 ∧ i = .int .i64 j ∧ UvR w wq n0 rb K A (tkNums t1 j).2 ∧ wq.heap[rb]? = some (.cells (rowV gd SR.zero) 96) ∧ wq.heap[rb + 1]? = some (.cells (tkNums t1 j).1.cs 97)) (fun i _ => 11 - (intOf i).toNat)
      case atStart => exact ⟨0, Nat.zero_le _, rfl, HU5.out, HR5.out, HL5.out⟩
      case round =>
        obtain ⟨j, hj, rfl, hUj, hRj, hLj⟩ := hrel
        by_cases hlj : j < 11
        · have hlJ : (j : Int) < 11 := by omega
          have hnum := Lib.hid (rTk wr n0 K (tkNums t1 j).2 minI maxI hUj.tr)
          obtain ⟨R, hR⟩ : ∃ R, (tkNums t1 j).1 = R := ⟨_, rfl⟩
          obtain ⟨q, hq⟩ : ∃ q, tk (tkNums t1 j).2 minI maxI = q := ⟨_, rfl⟩
          have hnext : Hid (tkNums t1 (j + 1) = (R.set j q.1, q.2)) := Lib.hid (by show ((tkNums t1 j).1.set j (tk (tkNums t1 j).2 minI maxI).1, (tk (tkNums t1 j).2 minI maxI).2) = _; rw [hR, hq])
          rw [hR] at hLj
          rw [hq] at hnum
          have HUj := Lib.hid hUj; have HRj := Lib.hid hRj; have HLj := Lib.hid hLj
          clear hUj hRj hLj hR hq
          go_wp2_with (go_at_call 49; refine hnum.out.mono ?_; rintro e wz ⟨rfl, htz, hfz⟩; have hLz := hfz.at_ HLj.out (by have := hlt4.out; omega); have hRz := hfz.at_ HRj.out (by have := hlt4.out; omega); have hcz := cell_obj hLz j _ (R.cs_get hlj); have hzz := obj_frozen hLz j; have HUZ := Lib.hid (HUj.out.take (t' := q.2) htz hfz); have HRZ := Lib.hid hRz; have HLZ := Lib.hid hLz; clear htz hfz hRz hLz)
          go_roundw
          case rel =>
            have hset := obj_set HLZ.out j (.int .i64 q.1)
            rw [R.cs_set hlj] at hset
            have hfs : Fr (fun b => b = rb + 1) wz (wz.setCell ⟨rb + 1, j, none⟩ (.int .i64 q.1)) := (Fr.refl (fun b => b = rb + 1) wz).setCell (p := ⟨rb + 1, j, none⟩) (fun _ => rfl) _
            refine ⟨j + 1, by omega, by go_num, ?_, hfs.at_ HRZ.out (by omega), ?_⟩
            · rw [hnext.out]; exact HUZ.out.put HKK.out (B := rb) hlt4.out (Nat.le_refl _) (hfs.mono (fun b _ e => by omega))
            · rw [hnext.out]; exact hset
          case measure => simp [intOf]; omega
        · obtain rfl : j = 11 := by omega
          obtain ⟨RT, hRT⟩ : ∃ RT, tkNums t1 11 = RT := ⟨_, rfl⟩
          rw [hRT] at hUj hLj
          have htr : Hid (tkRowR t = (gd, RT)) := Lib.hid (by unfold tkRowR; rw [HT1.out, hRT])
          obtain ⟨R, t2⟩ := RT
          dsimp only at hUj hLj
          have hokg : Hid (okS gd) := Lib.hid (by have := HGL.out; unfold okS maxLen; omega)
          obtain ⟨M, hM⟩ : ∃ M, N - k = M + 1 := ⟨N - k - 1, by omega⟩
          have hstep : Hid (Z = if t2.2 = true then none else if rowMay last gd R = true then unpR M t2 gd (A ++ [(gd, R)]) else none) := Lib.hid (by
            rw [← HFin.out, hM]
            show (if (tkRowR t).2.2.2 = true then none else if rowMay last (tkRowR t).1 (tkRowR t).2.1 = true then unpR M (tkRowR t).2.2 (tkRowR t).1 (A ++ [((tkRowR t).1, (tkRowR t).2.1)]) else none) = _
            rw [htr.out])
          have HUj := Lib.hid hUj; have HRj := Lib.hid hRj; have HLj := Lib.hid hLj; have HMM := Lib.hid hM
          clear hUj hM hRT HU4 HU5 HR5 HL5 HUp
          obtain ⟨f0, f1, f2, f3, f4, f5, f6, f7, f8, f9, f10⟩ := R
          have y0 := cell_obj hLj 0 (.int .i64 f0) rfl
          have y1 := cell_obj hLj 1 (.int .i64 f1) rfl
          have y2 := cell_obj hLj 2 (.int .i64 f2) rfl
          have y3 := cell_obj hLj 3 (.int .i64 f3) rfl
          have y4 := cell_obj hLj 4 (.int .i64 f4) rfl
          have y5 := cell_obj hLj 5 (.int .i64 f5) rfl
          have y6 := cell_obj hLj 6 (.int .i64 f6) rfl
          have y7 := cell_obj hLj 7 (.int .i64 f7) rfl
          have y8 := cell_obj hLj 8 (.int .i64 f8) rfl
          have y9 := cell_obj hLj 9 (.int .i64 f9) rfl
          have y10 := cell_obj hLj 10 (.int .i64 f10) rfl
          have x0 := cell_obj hRj 0 (vS gd) rfl
          have x1 := cell_obj hRj 1 (.int .i64 0) rfl
          have x2 := cell_obj hRj 2 (.int .i64 0) rfl
          have x3 := cell_obj hRj 3 (.int .i64 0) rfl
          have x4 := cell_obj hRj 4 (.int .i64 0) rfl
          have x5 := cell_obj hRj 5 (.int .i64 0) rfl
          have x6 := cell_obj hRj 6 (.int .i64 0) rfl
          have x7 := cell_obj hRj 7 (.int .i64 0) rfl
          have x8 := cell_obj hRj 8 (.int .i64 0) rfl
          have x9 := cell_obj hRj 9 (.int .i64 0) rfl
          have x10 := cell_obj hRj 10 (.int .i64 0) rfl
          have x11 := cell_obj hRj 11 (.int .i64 0) rfl
          have z1 := obj_frozen hRj 1
          have z2 := obj_frozen hRj 2
          have z3 := obj_frozen hRj 3
          have z4 := obj_frozen hRj 4
          have z5 := obj_frozen hRj 5
          have z6 := obj_frozen hRj 6
          have z7 := obj_frozen hRj 7
          have z8 := obj_frozen hRj 8
          have z9 := obj_frozen hRj 9
          have z10 := obj_frozen hRj 10
          have z11 := obj_frozen hRj 11
          clear hRj hLj
          obtain ⟨b2, hb2⟩ : ∃ b2, t2.2 = b2 := ⟨_, rfl⟩
          have HB3 := Lib.hid hb2
          clear hb2
          go_upto_region 16 with (fail)
          have hset := rowSet HRj.out f0 f1 f2 f3 f4 f5 f6 f7 f8 f9 f10
          obtain ⟨W6, hW6⟩ : ∃ W6, (((((((((((wr).setCell ⟨rb, 1, none⟩ (.int .i64 f0)).setCell ⟨rb, 2, none⟩ (.int .i64 f1)).setCell ⟨rb, 3, none⟩ (.int .i64 f2)).setCell ⟨rb, 4, none⟩ (.int .i64 f3)).setCell ⟨rb, 5, none⟩ (.int .i64 f4)).setCell ⟨rb, 6, none⟩ (.int .i64 f5)).setCell ⟨rb, 7, none⟩ (.int .i64 f6)).setCell ⟨rb, 8, none⟩ (.int .i64 f7)).setCell ⟨rb, 9, none⟩ (.int .i64 f8)).setCell ⟨rb, 10, none⟩ (.int .i64 f9)).setCell ⟨rb, 11, none⟩ (.int .i64 f10) = W6 := ⟨_, rfl⟩
          rw [hW6] at hset ⊢
          obtain ⟨hR6, hF6⟩ := hset
          have hU6 := HUj.out.put HKK.out hlt4.out (Nat.le_refl _) hF6
          have HU6 := Lib.hid hU6; have HR6 := Lib.hid hR6; have HF6 := Lib.hid hF6
          obtain ⟨tv6, k1, -, -, -⟩ := id hU6.tr
          rw [HB3.out] at k1
          have c1 := cell_obj k1 1 (.bool b2) rfl
          clear hW6 y0 y1 y2 y3 y4 y5 y6 y7 y8 y9 y10 x0 x1 x2 x3 x4 x5 x6 x7 x8 x9 x10 x11 z1 z2 z3 z4 z5 z6 z7 z8 z9 z10 z11 hF6 hU6 k1 HUj HRj HLj
          have xr := hR6
          have x0 := cell_obj xr 0 (vS gd) rfl
          have x1 := cell_obj xr 1 (.int .i64 f0) rfl
          have x2 := cell_obj xr 2 (.int .i64 f1) rfl
          have x3 := cell_obj xr 3 (.int .i64 f2) rfl
          have x4 := cell_obj xr 4 (.int .i64 f3) rfl
          have x5 := cell_obj xr 5 (.int .i64 f4) rfl
          have x6 := cell_obj xr 6 (.int .i64 f5) rfl
          have x7 := cell_obj xr 7 (.int .i64 f6) rfl
          have x8 := cell_obj xr 8 (.int .i64 f7) rfl
          have x9 := cell_obj xr 9 (.int .i64 f8) rfl
          have x10 := cell_obj xr 10 (.int .i64 f9) rfl
          have x11 := cell_obj xr 11 (.int .i64 f10) rfl
          clear xr hR6

          have HNO : Hid (Z = none → ∀ W', Fr (fun _ => False) W6 W' → UrP w Z (.returned (.tuple #[.pointer none, .bool false])) W') := Lib.hid (fun hz W' hf => ⟨(HU6.out.keep hf).frF HN0.out, by rw [hz]; exact ⟨_, rfl⟩⟩)
          rw [HB3.out] at hstep
          have HGd := Lib.hid (fun W => r6Good W gd hokg.out)
          have HBal := Lib.hid (fun W => r7Balanced W ⟨f0, f1, f2, f3, f4, f5, f6, f7, f8, f9, f10⟩)
          have HRi := Lib.hid (fun W => r7Right W gd ⟨f0, f1, f2, f3, f4, f5, f6, f7, f8, f9, f10⟩)
          unfold SR.lev SR.flo at HBal
          unfold rowV at HRi
          dsimp only at HBal HRi
          cases b2 with
          | true =>
            have hz := Lib.hid (HNO.out (by rw [hstep.out]; rfl))
            go_wp2_with fail
            go_ret2
            exact hz.out _ (Fr.refl _ _)
          | false =>
            have hs2 : Hid (Z = if rowMay last gd ⟨f0, f1, f2, f3, f4, f5, f6, f7, f8, f9, f10⟩ = true then unpR M t2 gd (A ++ [(gd, ⟨f0, f1, f2, f3, f4, f5, f6, f7, f8, f9, f10⟩)]) else none) := Lib.hid (by have := hstep.out; simpa using this)
            have hno : Hid (rowMay last gd ⟨f0, f1, f2, f3, f4, f5, f6, f7, f8, f9, f10⟩ = false → Z = none) := Lib.hid (fun e => by rw [hs2.out, e]; rfl)
            clear hstep htr
            obtain ⟨bal, hbal⟩ : ∃ b, (SR.mk f0 f1 f2 f3 f4 f5 f6 f7 f8 f9 f10).bal = b := ⟨_, rfl⟩
            obtain ⟨ri, hri⟩ : ∃ b, (SR.mk f0 f1 f2 f3 f4 f5 f6 f7 f8 f9 f10).right = b := ⟨_, rfl⟩
            obtain ⟨gg, hgg⟩ : ∃ b, goodB gd = b := ⟨_, rfl⟩
            have hrm : Hid (rowMay last gd ⟨f0, f1, f2, f3, f4, f5, f6, f7, f8, f9, f10⟩ = (gg && decide (last < gd) && bal && ri)) := Lib.hid (by unfold rowMay; rw [hbal, hri, hgg])
            rw [hbal] at HBal
            rw [hri] at HRi
            rw [hgg] at HGd
            clear hbal hri hgg
            cases gg with
            | false =>
              have hz := Lib.hid (HNO.out (hno.out (by rw [hrm.out]; simp)))
              go_wp2_with (first
                | (go_at_call 51; refine (HGd.out _).mono ?_; rintro e w7 ⟨rfl, rfl⟩)
                | (go_at_call 18; refine (HBal.out _).mono ?_; rintro e w8 ⟨rfl, hf8⟩; have HF8 := Lib.hid hf8; have xr := hf8.at_ HR6.out (fun h => h); have x0 := cell_obj xr 0 (vS gd) rfl; have x1 := cell_obj xr 1 (.int .i64 f0) rfl; have x2 := cell_obj xr 2 (.int .i64 f1) rfl; have x3 := cell_obj xr 3 (.int .i64 f2) rfl; have x4 := cell_obj xr 4 (.int .i64 f3) rfl; have x5 := cell_obj xr 5 (.int .i64 f4) rfl; have x6 := cell_obj xr 6 (.int .i64 f5) rfl; have x7 := cell_obj xr 7 (.int .i64 f6) rfl; have x8 := cell_obj xr 8 (.int .i64 f7) rfl; have x9 := cell_obj xr 9 (.int .i64 f8) rfl; have x10 := cell_obj xr 10 (.int .i64 f9) rfl; have x11 := cell_obj xr 11 (.int .i64 f10) rfl; clear hf8 xr)
                | (go_at_call 52; refine (HRi.out _).mono ?_; rintro e w9 ⟨rfl, hf9⟩; have HF9 := Lib.hid hf9; clear hf9))
              go_ret2
              exact hz.out _ (Fr.refl _ _)
            | true =>
              rcases str_tri last gd with hlt2 | heq | hgt
              · have q1 : Op.bytesLess gd last = false := by rw [bytesLess_eq]; simpa using str_asym hlt2
                have q2 : (gd == last) = false := by
                  simp only [beq_eq_false_iff_ne, ne_eq]
                  rintro rfl; exact str_irr _ hlt2
                have HL2 := Lib.hid hlt2
                clear hlt2
                cases bal with
                | false =>
                  have hz := Lib.hid (HNO.out (hno.out (by rw [hrm.out]; simp)))
                  go_wp2_with (first
                    | (go_at_call 51; refine (HGd.out _).mono ?_; rintro e w7 ⟨rfl, rfl⟩)
                    | (go_at_call 18; refine (HBal.out _).mono ?_; rintro e w8 ⟨rfl, hf8⟩; have HF8 := Lib.hid hf8; have xr := hf8.at_ HR6.out (fun h => h); have x0 := cell_obj xr 0 (vS gd) rfl; have x1 := cell_obj xr 1 (.int .i64 f0) rfl; have x2 := cell_obj xr 2 (.int .i64 f1) rfl; have x3 := cell_obj xr 3 (.int .i64 f2) rfl; have x4 := cell_obj xr 4 (.int .i64 f3) rfl; have x5 := cell_obj xr 5 (.int .i64 f4) rfl; have x6 := cell_obj xr 6 (.int .i64 f5) rfl; have x7 := cell_obj xr 7 (.int .i64 f6) rfl; have x8 := cell_obj xr 8 (.int .i64 f7) rfl; have x9 := cell_obj xr 9 (.int .i64 f8) rfl; have x10 := cell_obj xr 10 (.int .i64 f9) rfl; have x11 := cell_obj xr 11 (.int .i64 f10) rfl; clear hf8 xr)
                    | (go_at_call 52; refine (HRi.out _).mono ?_; rintro e w9 ⟨rfl, hf9⟩; have HF9 := Lib.hid hf9; clear hf9))
                  go_ret2
                  exact hz.out _ HF8.out
                | true =>
                  cases ri with
                  | false =>
                    have hz := Lib.hid (HNO.out (hno.out (by rw [hrm.out]; simp)))
                    go_wp2_with (first
                      | (go_at_call 51; refine (HGd.out _).mono ?_; rintro e w7 ⟨rfl, rfl⟩)
                      | (go_at_call 18; refine (HBal.out _).mono ?_; rintro e w8 ⟨rfl, hf8⟩; have HF8 := Lib.hid hf8; have xr := hf8.at_ HR6.out (fun h => h); have x0 := cell_obj xr 0 (vS gd) rfl; have x1 := cell_obj xr 1 (.int .i64 f0) rfl; have x2 := cell_obj xr 2 (.int .i64 f1) rfl; have x3 := cell_obj xr 3 (.int .i64 f2) rfl; have x4 := cell_obj xr 4 (.int .i64 f3) rfl; have x5 := cell_obj xr 5 (.int .i64 f4) rfl; have x6 := cell_obj xr 6 (.int .i64 f5) rfl; have x7 := cell_obj xr 7 (.int .i64 f6) rfl; have x8 := cell_obj xr 8 (.int .i64 f7) rfl; have x9 := cell_obj xr 9 (.int .i64 f8) rfl; have x10 := cell_obj xr 10 (.int .i64 f9) rfl; have x11 := cell_obj xr 11 (.int .i64 f10) rfl; clear hf8 xr)
                      | (go_at_call 52; refine (HRi.out _).mono ?_; rintro e w9 ⟨rfl, hf9⟩; have HF9 := Lib.hid hf9; clear hf9))
                    go_ret2
                    exact hz.out _ (HF8.out.trans HF9.out)
                  | true =>
                    have hyes : Hid (Z = unpR M t2 gd (A ++ [(gd, ⟨f0, f1, f2, f3, f4, f5, f6, f7, f8, f9, f10⟩)])) := Lib.hid (by rw [hs2.out, hrm.out]; simp [HL2.out])
                    go_wp2_with (first
                      | (go_at_call 51; refine (HGd.out _).mono ?_; rintro e w7 ⟨rfl, rfl⟩)
                      | (go_at_call 18; refine (HBal.out _).mono ?_; rintro e w8 ⟨rfl, hf8⟩; have HF8 := Lib.hid hf8; have xr := hf8.at_ HR6.out (fun h => h); have x0 := cell_obj xr 0 (vS gd) rfl; have x1 := cell_obj xr 1 (.int .i64 f0) rfl; have x2 := cell_obj xr 2 (.int .i64 f1) rfl; have x3 := cell_obj xr 3 (.int .i64 f2) rfl; have x4 := cell_obj xr 4 (.int .i64 f3) rfl; have x5 := cell_obj xr 5 (.int .i64 f4) rfl; have x6 := cell_obj xr 6 (.int .i64 f5) rfl; have x7 := cell_obj xr 7 (.int .i64 f6) rfl; have x8 := cell_obj xr 8 (.int .i64 f7) rfl; have x9 := cell_obj xr 9 (.int .i64 f8) rfl; have x10 := cell_obj xr 10 (.int .i64 f9) rfl; have x11 := cell_obj xr 11 (.int .i64 f10) rfl; clear hf8 xr)
                      | (go_at_call 52; refine (HRi.out _).mono ?_; rintro e w9 ⟨rfl, hf9⟩; have HF9 := Lib.hid hf9; have xr := hf9.at_ (HF8.out.at_ HR6.out (fun h => h)) (fun h => h); have x0 := cell_obj xr 0 (vS gd) rfl; have x1 := cell_obj xr 1 (.int .i64 f0) rfl; have x2 := cell_obj xr 2 (.int .i64 f1) rfl; have x3 := cell_obj xr 3 (.int .i64 f2) rfl; have x4 := cell_obj xr 4 (.int .i64 f3) rfl; have x5 := cell_obj xr 5 (.int .i64 f4) rfl; have x6 := cell_obj xr 6 (.int .i64 f5) rfl; have x7 := cell_obj xr 7 (.int .i64 f6) rfl; have x8 := cell_obj xr 8 (.int .i64 f7) rfl; have x9 := cell_obj xr 9 (.int .i64 f8) rfl; have x10 := cell_obj xr 10 (.int .i64 f9) rfl; have x11 := cell_obj xr 11 (.int .i64 f10) rfl; clear hf9 xr))
                    have HU9 := Lib.hid (HU6.out.keep (HF8.out.trans HF9.out))
                    obtain ⟨ra, rk, h1, h2⟩ := HU9.out.cell
                    obtain ⟨ln, hln⟩ : ∃ ln, A.length = ln := ⟨_, rfl⟩
                    have HLN := Lib.hid hln
                    rw [hln] at h1 h2
                    have hl64 : (ln : Int) < 64 := by have := HLEN.out; omega
                    have c3 := cell_obj h1 0 (.slice ra ln rk) rfl
                    have H1 := Lib.hid h1; have HOW := Lib.hid h2
                    have hfrz : Hid (∀ w', Fr (fun b => n0 + 2 ≤ b) w9 w' → w'.frozen? ⟨n0 + 1, 0, none⟩ = false) := Lib.hid (fun w' hf => obj_frozen (hf.at_ H1.out (by omega)) 0)
                    have HOWF : Hid (∀ w', Fr (fun _ => False) w9 w' → w'.ownsRow (n0 + 2) 96 12 (.slice ra ln rk) ln (rcs A)) := Lib.hid (fun w' hf => hf.row HOW.out (fun _ _ h => h))
                    have hone : Hid (∀ u ∈ (([vS gd, .int .i64 f0, .int .i64 f1, .int .i64 f2, .int .i64 f3, .int .i64 f4, .int .i64 f5, .int .i64 f6, .int .i64 f7, .int .i64 f8, .int .i64 f9, .int .i64 f10]) : List Value), u.oneCell' = true) := Lib.hid (fun u hu => rowC_one (p := (gd, ⟨f0, f1, f2, f3, f4, f5, f6, f7, f8, f9, f10⟩)) hu)
                    have hrowe : Hid (rcs (A ++ [(gd, ⟨f0, f1, f2, f3, f4, f5, f6, f7, f8, f9, f10⟩)]) = rcs A ++ ([vS gd, .int .i64 f0, .int .i64 f1, .int .i64 f2, .int .i64 f3, .int .i64 f4, .int .i64 f5, .int .i64 f6, .int .i64 f7, .int .i64 f8, .int .i64 f9, .int .i64 f10])) := Lib.hid (by rw [rcs_app]; rfl)
                    obtain ⟨iR, hiR, hr0, hr1, hr2⟩ := info_parts infoRow7
                    have hsz9 : n0 + 2 ≤ w9.heap.size := by have := HU9.out.lt; omega
                    clear h1 h2 hln c1
                    have c3d : w9.drew.cell? ⟨n0 + 1, 0, none⟩ = some (.slice ra ln rk) := c3
                    have c3a : (w9.alloc (.cells #[vS gd, .int .i64 f0, .int .i64 f1, .int .i64 f2, .int .i64 f3, .int .i64 f4, .int .i64 f5, .int .i64 f6, .int .i64 f7, .int .i64 f8, .int .i64 f9, .int .i64 f10] 96)).cell? ⟨n0 + 1, 0, none⟩ = some (.slice ra ln rk) := ((Fr.refl (fun _ => False) w9).alloc _).cell c3 (fun h => h)
                    have c3b : (w9.alloc (.cells #[vS gd, .int .i64 f0, .int .i64 f1, .int .i64 f2, .int .i64 f3, .int .i64 f4, .int .i64 f5, .int .i64 f6, .int .i64 f7, .int .i64 f8, .int .i64 f9, .int .i64 f10] 96)).drew.cell? ⟨n0 + 1, 0, none⟩ = some (.slice ra ln rk) := c3a
                    go_region_law
                      ((refine step_append_src rfl (.tmp 103) (.tmp 105) 49 rfl (n0 + 2) 96 iR _ 104 Try.underlying49 hiR hr0 hr1 hr2 rfl (by decide) (.slice ra ln rk) ln (rcs A) (by rfl) (by first | exact HOWF.out _ ((Fr.refl _ _).alloc _).drew | exact HOWF.out _ (((Fr.refl _ _).drew).alloc _) | exact HOWF.out _ ((Fr.refl _ _).alloc _)) 1 (by rfl) (rd_obj (cs := ([vS gd, .int .i64 f0, .int .i64 f1, .int .i64 f2, .int .i64 f3, .int .i64 f4, .int .i64 f5, .int .i64 f6, .int .i64 f7, .int .i64 f8, .int .i64 f9, .int .i64 f10])) (heap_new _ _) rfl) hone.out (by unfold maxLen; omega) (by omega) (by simp; omega) ?_; intro v1 w1 hown1 hgrow1 hloc1; have hF1 : Fr (fun b => n0 + 2 ≤ b) w9 w1 := Fr.trans (by first | exact ((Fr.refl _ w9).alloc _).drew | exact ((Fr.refl _ w9).drew).alloc _ | exact (Fr.refl _ w9).alloc _) (Fr.grown hgrow1 (by intro r hr _; exact (HOW.out.lt r hr).1)); obtain ⟨a1, c1, rfl⟩ := row_sl hown1; have hc1 := hF1.cell c3 (by show ¬ n0 + 2 ≤ n0 + 1; omega); have hz1 := hfrz.out _ hF1; have HF1 := Lib.hid hF1; have HO1 := Lib.hid hown1; clear hF1 hown1 hgrow1 hloc1))
                    all_goals
                      go_wp2_with fail
                      go_roundw
                      case rel =>
                        have hl1 : (A ++ [(gd, (⟨f0, f1, f2, f3, f4, f5, f6, f7, f8, f9, f10⟩ : SR))]).length = ln + 1 := by simp [HLN.out]
                        refine ⟨k + 1, gd, A ++ [(gd, (⟨f0, f1, f2, f3, f4, f5, f6, f7, f8, f9, f10⟩ : SR))], t2, _, by omega, by go_num, rfl, HU9.out.push (A' := A ++ [(gd, (⟨f0, f1, f2, f3, f4, f5, f6, f7, f8, f9, f10⟩ : SR))]) HKK.out HF1.out (by rw [hrowe.out, hl1]; exact HO1.out), ?_, ?_, fun e => by rw [HB3.out] at e; cases e⟩
                        · rw [hyes.out, show N - (k + 1) = M by have := HMM.out; omega]
                        · rw [hl1]; have := HLEN.out; rw [HLN.out] at this; omega
                      case measure => simp [intOf]; omega
              · have hz := Lib.hid (HNO.out (hno.out (by rw [hrm.out, heq, decide_eq_false (str_irr gd)]; simp)))
                have q2 : (gd == last) = true := by simp [heq]
                clear heq
                go_wp2_with (first
                  | (go_at_call 51; refine (HGd.out _).mono ?_; rintro e w7 ⟨rfl, rfl⟩)
                  | (go_at_call 18; refine (HBal.out _).mono ?_; rintro e w8 ⟨rfl, hf8⟩; have HF8 := Lib.hid hf8; have xr := hf8.at_ HR6.out (fun h => h); have x0 := cell_obj xr 0 (vS gd) rfl; have x1 := cell_obj xr 1 (.int .i64 f0) rfl; have x2 := cell_obj xr 2 (.int .i64 f1) rfl; have x3 := cell_obj xr 3 (.int .i64 f2) rfl; have x4 := cell_obj xr 4 (.int .i64 f3) rfl; have x5 := cell_obj xr 5 (.int .i64 f4) rfl; have x6 := cell_obj xr 6 (.int .i64 f5) rfl; have x7 := cell_obj xr 7 (.int .i64 f6) rfl; have x8 := cell_obj xr 8 (.int .i64 f7) rfl; have x9 := cell_obj xr 9 (.int .i64 f8) rfl; have x10 := cell_obj xr 10 (.int .i64 f9) rfl; have x11 := cell_obj xr 11 (.int .i64 f10) rfl; clear hf8 xr)
                  | (go_at_call 52; refine (HRi.out _).mono ?_; rintro e w9 ⟨rfl, hf9⟩; have HF9 := Lib.hid hf9; clear hf9))
                go_ret2
                exact hz.out _ (Fr.refl _ _)
              · have hz := Lib.hid (HNO.out (hno.out (by rw [hrm.out, decide_eq_false (str_asym hgt)]; simp)))
                have q1 : Op.bytesLess gd last = true := by rw [bytesLess_eq]; simpa using hgt
                clear hgt
                go_wp2_with (first
                  | (go_at_call 51; refine (HGd.out _).mono ?_; rintro e w7 ⟨rfl, rfl⟩)
                  | (go_at_call 18; refine (HBal.out _).mono ?_; rintro e w8 ⟨rfl, hf8⟩; have HF8 := Lib.hid hf8; have xr := hf8.at_ HR6.out (fun h => h); have x0 := cell_obj xr 0 (vS gd) rfl; have x1 := cell_obj xr 1 (.int .i64 f0) rfl; have x2 := cell_obj xr 2 (.int .i64 f1) rfl; have x3 := cell_obj xr 3 (.int .i64 f2) rfl; have x4 := cell_obj xr 4 (.int .i64 f3) rfl; have x5 := cell_obj xr 5 (.int .i64 f4) rfl; have x6 := cell_obj xr 6 (.int .i64 f5) rfl; have x7 := cell_obj xr 7 (.int .i64 f6) rfl; have x8 := cell_obj xr 8 (.int .i64 f7) rfl; have x9 := cell_obj xr 9 (.int .i64 f8) rfl; have x10 := cell_obj xr 10 (.int .i64 f9) rfl; have x11 := cell_obj xr 11 (.int .i64 f10) rfl; clear hf8 xr)
                  | (go_at_call 52; refine (HRi.out _).mono ?_; rintro e w9 ⟨rfl, hf9⟩; have HF9 := Lib.hid hf9; clear hf9))
                go_ret2
                exact hz.out _ (Fr.refl _ _)
    · obtain rfl : k = N := by omega
      have hz : Hid (Z = if doneT t.1 t.2 = 0 then some A else none) := Lib.hid (by have := HFin.out; rw [Nat.sub_self] at this; exact this.symm)
      have hFF := Lib.hid (HUp.out.frF HN0.out).drew
      have hRS := Lib.hid HUp.out.rs
      obtain ⟨tb, hb2⟩ : ∃ b, t.2 = b := ⟨_, rfl⟩
      have HB2 := Lib.hid hb2
      rw [hb2] at b1
      clear hb2
      cases tb with
      | true =>
        have hz2 : Hid (Z = none) := Lib.hid (by rw [hz.out]; unfold doneT; rw [HB2.out]; simp)
        go_wp2_with fail
        go_region
        go_wp2_with fail
        go_ret2
        exact ⟨hFF.out, by rw [hz2.out]; exact ⟨_, rfl⟩⟩
      | false =>
        by_cases h0 : tl = 0
        · have hz2 : Hid (Z = some A) := Lib.hid (by rw [hz.out]; unfold doneT; rw [HB2.out, List.eq_nil_of_length_eq_zero (show t.1.length = 0 by rw [HTL.out]; exact h0)]; simp)
          have hq : ((tl : Int) == 0) = true := by simp [h0]
          clear h0
          go_wp2_with fail
          go_region
          go_wp2_with fail
          go_ret2
          refine ⟨hFF.out, ?_⟩
          rw [hz2.out]
          exact ⟨_, _, rfl, hRS.out.fr (Fr.refl (fun _ => False) wr).drew (fun _ _ h => h), fun b hb => by have := HN0.out; omega⟩
        · have hne : t.1 ≠ [] := fun e2 => h0 (by have := HTL.out; rw [e2] at this; exact this.symm)
          have hz2 : Hid (Z = none) := Lib.hid (by rw [hz.out]; unfold doneT; simp [hne])
          clear hne
          have hq : ((tl : Int) == 0) = false := by simp; omega
          clear h0
          go_wp2_with fail
          go_region
          go_wp2_with fail
          go_ret2
          exact ⟨hFF.out, by rw [hz2.out]; exact ⟨_, rfl⟩⟩
end Go.Proofs.Ytclgmnobockfnaa
