/- slices.Clone on places. -/
import Derived.Test.YtlniekobijcanaaGreatBinsRoutesM4
import Derived.Handy
import Derived.Lib.SliceRun
namespace Go.Proofs.YtlniekobijcanaaGreat
open Go.RowKit Go.Maps
theorem infoPlaceC : (Tryz.prog.info? 55).map (fun i => (i.zero, i.size, i.bytes)) = some (some (.agg #[.int .i64 0, .string ⟨#[]⟩, .int .i64 0]), 3, 32) := by kernel_rfl
theorem pv_one (L : List PV) : ∀ u ∈ flat pvC L, u.oneCell' = true := by
  intro u hu
  simp only [flat, List.mem_flatMap] at hu
  obtain ⟨b, hb, hr⟩ := hu
  simp only [pvC, List.mem_cons, List.not_mem_nil, or_false] at hr
  rcases hr with rfl | rfl | rfl <;> rfl
set_option maxRecDepth 100000 in
set_option maxHeartbeats 4000000 in
theorem plClone (w : World) (v : Value) (L : List PV) (h : Pl w v L) (hl : L.length ≤ 4398046510976) : Calls Tryz.prog 37 #[v] w fun e w' =>
    ∃ v', e = .returned v' ∧ w'.ownsRow w.heap.size 55 3 v' L.length (flat pvC L) ∧ Fr (fun _ => False) w w' := by
  obtain ⟨i0, hi', hz0, hz1, hz2⟩ := info_parts infoPlaceC
  have hone := pv_one L
  obtain ⟨hb1, a, c, rfl, hbx⟩ := id h
  obtain ⟨n, hn⟩ : ∃ n, L.length = n := ⟨_, rfl⟩
  have HN := Lib.hid hn
  rw [hn] at hl hb1 ⊢
  have hq := fun (w : World) (a : Option Addr) (n c n' c' : Nat) => Lib.run_eql_slice_nil (P := Tryz.prog) w 23 _ a n c n' c' Tryz.underlying23
  cases a with
  | none =>
    have h0 : n = 0 := by
      rcases Nat.eq_zero_or_pos n with h0 | h0
      · exact h0
      · obtain ⟨x, hx⟩ : ∃ x, L[0]? = some x := ⟨L[0]'(by have := HN.out; omega), List.getElem?_eq_getElem _⟩
        obtain ⟨-, ad', e, -⟩ := hbx 0 x hx
        cases e
    subst h0
    have hbe : L = [] := List.eq_nil_of_length_eq_zero HN.out
    subst hbe
    clear h hbx hone hn
    go_enter Tryz.func37, Tryz.ntmps37
    go_wp2_with fail
    go_ret
    exact ⟨_, rfl, World.ownsRow_nil _ _ _ _, Fr.refl _ _⟩
  | some ad =>
    have hown : (w.alloc (.cells #[] 55)).ownsRow w.heap.size 55 3 (.slice (some ⟨w.heap.size, 0, none⟩) 0 0) 0 [] := World.ownsRow_made w #[] 0 (Nat.le_refl _) (Nat.zero_le _) rfl
    have hnews : ∀ (i : Nat) (u : Value), (flat pvC L)[i]? = some u → (w.alloc (.cells #[] 55)).cell? (ad.add i) = some u := fun i u hu => by
      have hi := (List.getElem?_eq_some_iff.1 hu).1
      rw [flat_len1 pvSize] at hi
      obtain ⟨x, hx⟩ : ∃ x, L[i / 3]? = some x := ⟨L[i / 3]'(by omega), List.getElem?_eq_getElem _⟩
      obtain ⟨-, ad', e, hc⟩ := hbx (i / 3) x hx
      cases e
      have hxs : (pvC x)[i % 3]? = some ((pvC x)[i % 3]'(by rw [pvSize]; omega)) := Array.getElem?_eq_getElem _
      have h2 := flat_at pvSize hx (i % 3) _ hxs
      have h3 := hc (i % 3) _ hxs
      rw [show i / 3 * 3 + i % 3 = i by omega] at h2 h3
      rw [h2] at hu
      cases hu
      exact ((Fr.refl (fun _ => False) w).alloc _).cell h3 (fun h => h)
    have hul : (flat pvC L).length = n * 3 := by rw [flat_len1 pvSize, hn]
    have HNEWS := Lib.hid hnews; have HALL := Lib.hid hone; have HUL := Lib.hid hul; have HO := Lib.hid hown
    clear hnews hone hul hown hbx h hn
    go_enter Tryz.func37, Tryz.ntmps37
    go_wp2_with (at_builtin; refine wpList_append_own_at _ rfl _ _ 23 rfl w.heap.size 55 i0 _ 3 32 Tryz.underlying23 hi' hz0 hz1 hz2 rfl (by decide) (.slice (some ⟨w.heap.size, 0, none⟩) 0 0) 0 [] rfl HO.out ad n _ (flat pvC L) rfl HUL.out HNEWS.out HALL.out (by unfold maxLen; omega) (by omega) (by simp) ?_; intro v' w5 hown' hgrow _ hat)
    go_ret
    refine ⟨_, rfl, by simpa using hown', ((Fr.refl (fun _ => False) w).alloc _).trans' (Fr.grown (S := fun b => b = w.heap.size) hgrow (fun r hr _ => by cases hr; rfl)) (fun b hb e => by omega)⟩
end Go.Proofs.YtlniekobijcanaaGreat
