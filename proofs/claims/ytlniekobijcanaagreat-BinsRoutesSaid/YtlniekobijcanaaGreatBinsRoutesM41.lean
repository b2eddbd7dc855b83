/- entrepotref27: Find. -/
import Derived.Test.YtlniekobijcanaaGreatBinsRoutesM3
import Derived.Test.YtlniekobijcanaaGreatBinsRoutesM4
namespace Go.Proofs.YtlniekobijcanaaGreat
open Go.RowKit Go.Maps
/-- The reference's floor at g: these rows. -/
def Rl (W : World) (g : Nat) (L : List BV) : Prop := ∃ a c, W.heap[g]? = some (.cells #[.slice a L.length c] 85) ∧ Bl W (.slice a L.length c) L
theorem Rl.keep {W W' : World} {g : Nat} {L : List BV} (h : Rl W g L) (hf : Fr (fun _ => False) W W') : Rl W' g L := by
  obtain ⟨a, c, h1, h2⟩ := h
  exact ⟨a, c, hf.at_ h1 (fun e => e), h2.fr0 bokKeeps hf⟩
/-- The reference's floor, and the blocks that it owns. -/
structure RA (w : World) (g : Nat) (TS : Nat → Prop) (L : List BV) : Prop where
  ex : ∃ r cap cur, w.heap[g]? = some (.cells #[.slice (some ⟨r, 0, none⟩) L.length cap] 85) ∧ w.heap[r]? = some (.cells cur 82) ∧ L.length ≤ cap ∧ cap ≤ maxLen ∧ cur.size = cap * 4 ∧ cur.toList.take (L.length * 4) = flat BV.cs L ∧ TS r ∧ r ≠ g ∧
    ∀ b ∈ L, BOk w b ∧ (b.its ≠ [] → ∀ c, b.l.ownBlock = some c → TS c ∧ c ≠ g ∧ c ≠ r)
  own : TS g
  lt : ∀ b, TS b → b < w.heap.size
theorem RA.fr {S TS : Nat → Prop} {w w' : World} {g : Nat} {L : List BV} (h : RA w g TS L) (hf : Fr S w w') (hS : ∀ b, TS b → ¬ S b) : RA w' g TS L := by
  obtain ⟨⟨r, cap, cur, h1, h2, h3, h4, h5, h6, h7, h8, h9⟩, ho, hl⟩ := h
  exact ⟨⟨r, cap, cur, hf.at_ h1 (hS _ ho), hf.at_ h2 (hS _ h7), h3, h4, h5, h6, h7, h8, fun b hb => ⟨(h9 b hb).1.keep hf (fun hne c hc => hS _ ((h9 b hb).2 hne c hc).1), (h9 b hb).2⟩⟩, ho, fun b hb => Nat.lt_of_lt_of_le (hl b hb) hf.size⟩
theorem RA.row {TS : Nat → Prop} {w : World} {g : Nat} {L : List BV} (h : RA w g TS L) : ∃ r cap, w.heap[g]? = some (.cells #[.slice (some ⟨r, 0, none⟩) L.length cap] 85) ∧ w.ownsRow 0 82 4 (.slice (some ⟨r, 0, none⟩) L.length cap) L.length (flat BV.cs L) ∧ Bl w (.slice (some ⟨r, 0, none⟩) L.length cap) L := by
  obtain ⟨⟨r, cap, cur, h1, h2, h3, h4, h5, h6, h7, h8, h9⟩, ho, hl⟩ := h
  have hr : w.ownsRow 0 82 4 (.slice (some ⟨r, 0, none⟩) L.length cap) L.length (flat BV.cs L) := ⟨flat_len1 bvSize L, .inr ⟨r, cap, cur, rfl, Nat.zero_le _, h2, h3, h4, h5, h6⟩⟩
  exact ⟨r, cap, h1, hr, Sq.own bvSize hr (fun b hb => (h9 b hb).1)⟩
theorem RA.rl {TS : Nat → Prop} {w : World} {g : Nat} {L : List BV} (h : RA w g TS L) : Rl w g L := by
  obtain ⟨r, cap, h1, _, h3⟩ := h.row
  exact ⟨_, cap, h1, h3⟩
set_option maxRecDepth 100000 in
set_option maxHeartbeats 4000000 in
theorem rFind (w : World) (g : Nat) (L : List BV) (n : Int) (h : Rl w g L) : Calls Tryz.prog 42 #[.pointer (some ⟨g, 0, none⟩), .int .i64 n] w fun e w' => e = .returned (.int .i64 (findF L n)) ∧ Fr (fun _ => False) w w' := by
  obtain ⟨a, c, q1, q2⟩ := h
  have hNI := q2.len
  obtain ⟨N, hN⟩ : ∃ N, L.length = N := ⟨_, rfl⟩
  have HN := Lib.hid hN
  rw [hN] at q1 q2 hNI
  have c0 := cell_obj q1 0 (.slice a N c) rfl
  have HQ1 := Lib.hid q1; have HQ2 := Lib.hid q2
  obtain ⟨R, hR⟩ : ∃ R, findF L n = R := ⟨_, rfl⟩
  rw [hR]
  have HR := Lib.hid hR
  clear q1 q2 hN hR
  go_enter Tryz.func42, Tryz.ntmps42
  go_wp2_with fail
  go_loopw [5] (fun vi wr => ∃ j : Nat, j ≤ N ∧ vi = .int .i64 j ∧ Fr (fun _ => False) w wr ∧ ∀ q x, q < j → L[q]? = some x → decide (x.nu = n) = false) (fun vi _ => N - (intOf vi).toNat)
  case atStart => exact ⟨0, Nat.zero_le _, rfl, Fr.refl _ _, fun q x hq => by omega⟩
  case round =>
    obtain ⟨j, hj, rfl, hfr, hno⟩ := hrel
    have HFR := Lib.hid hfr; have HNO := Lib.hid hno
    have d0 := hfr.cell c0 (fun e => e)
    by_cases hlt : j < N
    · obtain ⟨x, hx⟩ : ∃ x, L[j]? = some x := ⟨L[j]'(by rw [HN.out]; exact hlt), List.getElem?_eq_getElem _⟩
      obtain ⟨ad, rfl, hok, z0, zs⟩ := (HQ2.out.fr0 bokKeeps hfr).at_ hx
      have hkI : (j : Int) < N := by omega
      have x0 := z0 (.int .i64 x.nu) rfl
      have HX := Lib.hid hx
      by_cases e : x.nu = n
      · have b1 : (x.nu == n) = true := by simpa using e
        have hr : Hid (R = (j : Int)) := Lib.hid (by rw [← HR.out]; exact idxOf_at hx (by simpa using e) hno)
        clear hx hok z0 zs hfr hno e c0
        go_wp2_with fail
        go_ret
        exact ⟨by rw [hr.out]; rfl, HFR.out⟩
      · have b1 : (x.nu == n) = false := by simpa using e
        have hnx : Hid (∀ q y, q < j + 1 → L[q]? = some y → decide (y.nu = n) = false) := Lib.hid (fun q y hq hy => by
          by_cases e2 : q = j
          · subst e2; rw [hx] at hy; injection hy with hy; rw [← hy]; exact decide_eq_false e
          · exact hno q y (by omega) hy)
        clear hx hok z0 zs hfr hno e
        go_wp2_with fail
        go_roundw
        case rel => exact ⟨j + 1, by omega, by go_num, HFR.out, hnx.out⟩
        case measure => simp [intOf]; omega
    · obtain rfl : j = N := by omega
      have hkI : ¬ (j : Int) < j := by omega
      have hr : Hid (R = -1) := Lib.hid (by rw [← HR.out]; exact idxOf_no (fun q y hy => hno q y (by have := (List.getElem?_eq_some_iff.1 hy).1; rw [HN.out] at this; exact this) hy))
      clear hfr hno c0
      go_wp2_with fail
      go_ret
      exact ⟨by rw [hr.out]; rfl, HFR.out⟩
end Go.Proofs.YtlniekobijcanaaGreat
