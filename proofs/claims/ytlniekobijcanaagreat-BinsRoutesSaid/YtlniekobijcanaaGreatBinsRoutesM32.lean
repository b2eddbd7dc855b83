/- bins: Bins, as an iterator. -/
import Derived.Test.YtlniekobijcanaaGreatBinsRoutesM3
import Derived.Test.YtlniekobijcanaaGreatBinsRoutesM2
namespace Go.Proofs.YtlniekobijcanaaGreat
open Go.RowKit Go.Maps
def encB (b : BV) : Array Value := #[.agg #[.int .i64 b.nu, .int .i64 b.zo, .int .i64 b.ro]]
theorem Fl.fr {S : Nat → Prop} {W W' : World} {g : Nat} {L : List BV} (h : Fl W g L) (hf : Fr S W W') (hS : ∀ b, S b → W.heap.size ≤ b) : Fl W' g L := by
  obtain ⟨a, c, h1, h2⟩ := h
  exact ⟨a, c, hf.at_ h1 (fun e => by have := (Array.getElem?_eq_some_iff.1 h1).1; have := hS g e; omega), h2.fr bokKeeps hf hS⟩
theorem bBins (w : World) (p : Option Addr) : Calls Tryz.prog 30 #[.pointer p] w fun e w' => e = .returned (.func (.func 83) #[] #[.pointer (some ⟨w.heap.size, 0, none⟩)]) ∧ w' = w.alloc (.cells #[.pointer p] 25) := by
  go_enter Tryz.func30, Tryz.ntmps30
  go_wp2
  go_ret
  exact ⟨rfl, rfl⟩
set_option maxRecDepth 100000 in
set_option maxHeartbeats 4000000 in
theorem bBins1 (S : Nat → Prop) (w : World) (Bt g : Nat) (L : List BV) (hBt : Boxed w Bt 25 (.pointer (some ⟨g, 0, none⟩))) (h : Fl w g L) (hL : 0 < L.length) (n1 : ∀ b, b < w.heap.size → ¬ S b) :
    ItX 83 #[.pointer (some ⟨Bt, 0, none⟩)] encB L S w := by
  intro lp S' J Jx W hW hS' hJ hY hJx h0
  have hBW := boxed_below hBt hW hBt.lt
  have s2 : ∀ b, S' b → w.heap.size ≤ b := fun b e => by
    rcases Nat.lt_or_ge b w.heap.size with hb | hb
    · exact absurd ((hS' b e).2 hb) (n1 b hb)
    · exact hb
  have hcB := hBW.cell
  have hFW := h.fr (Fr.below (S := fun _ => False) hW) (fun _ e => e.elim)
  have hm := Lib.hid (bMade W g L hFW hL)
  obtain ⟨a, c, q1, q2⟩ := h
  have hNb := q2.len
  obtain ⟨N, hN⟩ : ∃ N, L.length = N := ⟨_, rfl⟩
  rw [hN] at q1 q2 hNb
  have c0 := cell_obj ((Fr.below (S := fun _ => False) hW).at_ q1 (fun e => e)) 0 (.slice a N c) rfl
  have HN := Lib.hid hN; have HW := Lib.hid hW; have HY := Lib.hid hY
  have S2 : Hid (∀ b, S' b → w.heap.size ≤ b) := Lib.hid s2
  have hfn : ∀ f, Fence.wide.fn f := fun _ => trivial
  have hdp : Fence.wide.depth.isSome = false := rfl
  have hlow : Hid (∀ W', Fr (fun b => w.heap.size ≤ b) w W' → Bl W' (.slice a N c) L) := Lib.hid (fun W' hf => q2.fr bokKeeps hf (fun b hb => hb))
  clear hBt n1 hS' hBW s2 hN q1 q2 hL hW hFW hY
  refine (callsIn_wide (n := 0)).1 ?_
  refine callsIn_of_wp Tryz.func83 rfl trivial ?_ rfl
  simp only [Tryz.ntmps83, List.size_toArray, List.length_cons, List.length_nil, Nat.reduceAdd, Nat.reduceSub, Array.replicate_succ, Array.replicate_zero, List.push_toArray, List.append_toArray, List.nil_append, List.cons_append]
  gi_wp2_with (gi_at_call 57; refine (callsIn_wide.2 hm.out).mono ?_; rintro e w1 ⟨rfl, rfl⟩)
  gi_loopw [13] (fun i wr => ∃ (k : Nat) (C : Nat → Prop), k ≤ N ∧ i = .int .i64 k ∧ J k C wr ∧ (∀ b, C b → W.heap.size ≤ b ∧ b < wr.heap.size) ∧ Fr (fun b => S' b ∨ C b) W wr) (fun i _ => N - (intOf i).toNat)
  case atStart => exact ⟨0, _, Nat.zero_le _, rfl, h0, fun _ h => False.elim h, Fr.refl _ _⟩
  case round =>
    obtain ⟨k, C, hk, rfl, hJr, hC, hkp⟩ := hrel
    by_cases hlt : k < N
    · obtain ⟨x, hx⟩ : ∃ x, L[k]? = some x := ⟨L[k]'(by rw [HN.out]; exact hlt), List.getElem?_eq_getElem _⟩
      have hfr : Fr (fun b => w.heap.size ≤ b) w wr := (Fr.below (S := fun b => w.heap.size ≤ b) HW.out).trans' hkp (fun b hb e => e.elim (S2.out b) (fun e => by have := (hC b e).1; have := HW.out.size; omega))
      obtain ⟨ad, rfl, hok, z0, zs⟩ := (hlow.out wr hfr).at_ hx
      obtain ⟨la, lc, hl⟩ := hok.l.sl
      have x0 := z0 (.int .i64 x.nu) rfl
      have x1 := zs 0 (.int .i64 x.zo) rfl
      have x2 := zs 1 (.int .i64 x.ro) rfl
      have x3 := zs 2 x.l rfl
      dsimp only [Nat.zero_add, Nat.reduceAdd] at x0 x1 x2 x3
      rw [hl] at x3
      have hlI : (k : Int) < N := by omega
      obtain ⟨W2, hW2⟩ : ∃ W2, wr.alloc (.cells #[.int .i64 x.nu, .int .i64 x.zo, .int .i64 x.ro, .slice la x.its.length lc] 76) = W2 := ⟨_, rfl⟩
      have hJ2 := hJ _ C _ _ hJr (frAlloc (B := W.heap.size) (.cells #[.int .i64 x.nu, .int .i64 x.zo, .int .i64 x.ro, .slice la x.its.length lc] 76))
      obtain ⟨fn, tmps, assign, body, hy, hR⟩ := HY.out _ x C _ hx hJ2
      dsimp only [encB] at hy
      have HR := Lib.hid hR; have HC := Lib.hid hC; have HK := Lib.hid hkp; have HX := Lib.hid hx; have HJR := Lib.hid hJr
      clear hfr hok z0 zs hl hJ2 hR hC hkp hx hJr hW2
      gi_wp2
      refine HR.out.mono ?_
      rintro e W3 (⟨rfl, hJ3, hk3⟩ | ⟨rfl, hJx3, _⟩)
      · have HJ3 := Lib.hid hJ3; have HK3 := Lib.hid hk3
        clear hJ3 hk3
        gi_wp2
        go_roundw
        case rel =>
          refine ⟨k + 1, _, by omega, by go_num, HJ3.out, ?_, ?_⟩
          · have hs3 := HK3.out.size
            simp at hs3
            rintro b (e | e)
            · have := HC.out b e; exact ⟨this.1, by omega⟩
            · have := HK.out.size
              have e1 := e.1
              simp at e1
              exact ⟨by omega, e.2⟩
          · exact ((HK.out.alloc _).mono (fun b _ e => e.elim .inl (fun e => .inr (.inl e)))).trans (HK3.out.mono (fun b _ e => e.elim .inl (fun e => .inr (.inl e))))
        case measure => simp [intOf]; omega
      · gi_wp2
        refine bodyPost_ret (results_none rfl _ _ _) rfl ?_
        refine ⟨⟨_, rfl⟩, .inr ⟨_, _, ?_, hJx3⟩⟩
        have := (List.getElem?_eq_some_iff.1 HX.out).1
        omega
    · have : k = N := by omega
      subst this
      gi_wp2
      go_end0
      exact ⟨⟨_, rfl⟩, .inl ⟨C, by rw [HN.out]; exact hJr⟩⟩
end Go.Proofs.YtlniekobijcanaaGreat
