/- slices.Clone on items. -/
import Derived.Test.YtbeikkkmobbnkaaGreatModGroupsM36
import Derived.Test.YtbeikkkmobbnkaaGreatModGroupsM2
import Derived.Handy
import Derived.Lib.SliceRun
namespace Go.Proofs.YtbeikkkmobbnkaaGreat
open Go.RowKit Go.Maps
set_option maxRecDepth 100000 in
theorem itClone (w : World) (v : Value) (bs : Its) (h : Il w v bs) (hl : (bs.length : Int) ≤ 1000) : Calls Tryz.prog 42 #[v] w fun e w' =>
    ∃ v', e = .returned v' ∧ w'.ownsRow w.heap.size 52 2 v' bs.length (itCs bs) ∧ Fr (fun _ => False) w w' := by
  obtain ⟨i0, hi', hz0, hz1, hz2⟩ := info_parts infoItem
  obtain ⟨hb1, a, c, rfl, hbx⟩ := id h
  obtain ⟨n, hn⟩ : ∃ n, bs.length = n := ⟨_, rfl⟩
  have HN := Lib.hid hn
  rw [hn] at hl hb1 ⊢
  clear hn
  have hq := fun (w : World) (a : Option Addr) (n c n' c' : Nat) => Lib.run_eql_slice_nil (P := Tryz.prog) w 46 _ a n c n' c' Tryz.underlying46
  cases a with
  | none =>
    have h0 : n = 0 := by
      rcases Nat.eq_zero_or_pos n with h0 | h0
      · exact h0
      · obtain ⟨x, hx⟩ : ∃ x, bs[0]? = some x := ⟨bs[0]'(by have := HN.out; omega), List.getElem?_eq_getElem _⟩
        obtain ⟨-, -, ad', e, -⟩ := hbx 0 x hx
        cases e
    subst h0
    have hbe : bs = [] := List.eq_nil_of_length_eq_zero HN.out
    subst hbe
    clear h hbx
    go_enter Tryz.func42, Tryz.ntmps42
    go_wp2_with fail
    go_ret
    exact ⟨_, rfl, World.ownsRow_nil _ _ _ _, Fr.refl _ _⟩
  | some ad =>
    have hown : (w.alloc (.cells #[] 52)).ownsRow w.heap.size 52 2 (.slice (some ⟨w.heap.size, 0, none⟩) 0 0) 0 [] := World.ownsRow_made w #[] 0 (Nat.le_refl _) (Nat.zero_le _) rfl
    have hnews : ∀ (i : Nat) (u : Value), (itCs bs)[i]? = some u → (w.alloc (.cells #[] 52)).cell? (ad.add i) = some u := fun i u hu => by
      have hi := (List.getElem?_eq_some_iff.1 hu).1
      rw [itCs_len] at hi
      obtain ⟨x, hx⟩ : ∃ x, bs[i / 2]? = some x := ⟨bs[i / 2]'(by omega), List.getElem?_eq_getElem _⟩
      obtain ⟨-, -, ad', e, c0, c1⟩ := hbx (i / 2) x hx
      cases e
      obtain ⟨d0, d1⟩ := itCs_at hx
      rcases (by omega : i = i / 2 * 2 ∨ i = i / 2 * 2 + 1) with e | e
      · rw [e] at hu ⊢
        rw [d0] at hu
        rw [← hu]
        exact ((Fr.refl (fun _ => False) w).alloc _).cell c0 (fun h => h)
      · rw [e] at hu ⊢
        rw [d1] at hu
        rw [← hu, add_field]
        exact ((Fr.refl (fun _ => False) w).alloc _).cell c1 (fun h => h)
    have hall : ∀ u ∈ itCs bs, u.oneCell' = true := fun u hu => itCs_one hu
    have hul : (itCs bs).length = n * 2 := by have := HN.out; rw [itCs_len, this]
    have HNEWS := Lib.hid hnews; have HALL := Lib.hid hall; have HUL := Lib.hid hul; have HO := Lib.hid hown
    clear hnews hall hul hown hbx h
    go_enter Tryz.func42, Tryz.ntmps42
    go_wp2_with (at_builtin; refine wpList_append_own_at _ rfl _ _ 46 rfl w.heap.size 52 i0 _ 2 24 Tryz.underlying46 hi' hz0 hz1 hz2 rfl (by decide) (.slice (some ⟨w.heap.size, 0, none⟩) 0 0) 0 [] rfl HO.out ad n _ (itCs bs) rfl HUL.out HNEWS.out HALL.out (by unfold maxLen; omega) (by omega) (by simp) ?_; intro v' w5 hown' hgrow _ hat)
    go_ret
    refine ⟨_, rfl, by simpa using hown', ((Fr.refl (fun _ => False) w).alloc _).trans' (Fr.grown (S := fun b => b = w.heap.size) hgrow (fun r hr _ => by cases hr; rfl)) (fun b hb e => by omega)⟩
end Go.Proofs.YtbeikkkmobbnkaaGreat
