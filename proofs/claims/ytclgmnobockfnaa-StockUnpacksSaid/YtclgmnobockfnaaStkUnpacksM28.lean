/- The document's cells (entrepotref01): Taker.Text. -/
import Derived.Test.YtclgmnobockfnaaStkUnpacksM27
import Derived.Test.YtclgmnobockfnaaStkUnpacksM11
namespace Go.Proofs.Ytclgmnobockfnaa
open Go.RowKit Go.Maps
/-- The document's next text, and what is left. -/
def tkR (t : Tst) (m : Int) : Str × Tst :=
  let n := tk t 0 (min m t.1.length)
  if n.2.2 = true ∨ (n.2.1.length : Int) < n.1 then ([], (n.2.1, true)) else (bS (n.2.1.take n.1.toNat), (n.2.1.drop n.1.toNat, false))
set_option maxRecDepth 100000 in
set_option maxHeartbeats 4000000 in
theorem rText (w : World) (g : Nat) (K : Nat → Prop) (t : Tst) (m : Int) (h : TR w g K t.1 t.2) (hm : 0 ≤ m) :
    Calls Try.prog 50 #[.pointer (some ⟨g, 0, none⟩), .int .i64 m] w fun e w' => e = .returned (vS (tkR t m).1) ∧ TR w' g K (tkR t m).2.1 (tkR t m).2.2 ∧ Fr (fun b => b = g) w w' := by
  obtain ⟨v0, h1, h2, h3, h4⟩ := id h
  obtain ⟨hbl0, a0, c0, rfl, -⟩ := id h2
  have b0 := cell_obj h1 0 (.slice a0 t.1.length c0) rfl
  have hT : Hid (tkR t m = if (tk t 0 (min m t.1.length)).2.2 = true ∨ ((tk t 0 (min m t.1.length)).2.1.length : Int) < (tk t 0 (min m t.1.length)).1 then ([], ((tk t 0 (min m t.1.length)).2.1, true)) else (bS ((tk t 0 (min m t.1.length)).2.1.take (tk t 0 (min m t.1.length)).1.toNat), ((tk t 0 (min m t.1.length)).2.1.drop (tk t 0 (min m t.1.length)).1.toNat, false))) := Lib.hid rfl
  obtain ⟨R, hR⟩ : ∃ R, tkR t m = R := ⟨_, rfl⟩
  rw [hR] at hT ⊢
  clear hR
  obtain ⟨ln0, hln0⟩ : ∃ ln, t.1.length = ln := ⟨_, rfl⟩
  rw [hln0] at b0 hT hbl0
  obtain ⟨M, hM⟩ : ∃ M, min m (ln0 : Int) = M := ⟨_, rfl⟩
  rw [hM] at hT
  have hM0 : 0 ≤ M := by omega
  have hN := Lib.hid (rTk w g K t 0 M h)
  have hin := tk_in t (a := 0) (b := M) (by omega) hM0
  obtain ⟨q, hq⟩ : ∃ q, tk t 0 M = q := ⟨_, rfl⟩
  rw [hq] at hN hT hin
  obtain ⟨n, bs, bad⟩ := q
  dsimp only at hN hT hin
  obtain ⟨k, rfl⟩ : ∃ k : Nat, n = k := ⟨n.toNat, by omega⟩
  have hln0I : (ln0 : Int) ≤ 9223372036854775807 := by omega
  clear hq h h1 h2 h3 h4
  have hcut : (m ≤ (ln0 : Int) ∧ M = m) ∨ ((ln0 : Int) < m ∧ M = (ln0 : Int)) := by omega
  clear hM hln0
  rcases hcut with ⟨hc, hMe⟩ | ⟨hc, hMe⟩
  all_goals
    subst hMe
    cases bad with
    | true =>
      have hT2 : Hid (R = ([], (bs, true))) := Lib.hid (by rw [hT.out, if_pos (.inl rfl)])
      clear hT
      go_enter Try.func50, Try.ntmps50
      go_wp2_with fail
      refine hN.out.mono ?_
      rintro e w1 ⟨rfl, hK, hF⟩
      obtain ⟨v1, k1, -, -, -⟩ := id hK
      have c1 := cell_obj k1 1 (.bool true) rfl
      have f1 := obj_frozen k1 1
      have hset : TR (w1.setCell ⟨g, 1, none⟩ (.bool true)) g K bs true ∧ Fr (fun b => b = g) w (w1.setCell ⟨g, 1, none⟩ (.bool true)) := by
        have hF0 : Fr (fun b => b = g) w1 (w1.setCell ⟨g, 1, none⟩ (.bool true)) := (Fr.refl (fun b => b = g) w1).setCell (p := ⟨g, 1, none⟩) (fun _ => rfl) _
        obtain ⟨v2, j1, j2, j3, j4⟩ := hK
        exact ⟨⟨v2, obj_set j1 1 (.bool true), j2.keep hF0 (fun b e => (j4 b e).2), j3, j4⟩, hF.trans hF0⟩
      have HSET := Lib.hid hset
      clear hset hK hF k1
      go_wp2_with fail
      go_ret
      rw [hT2.out]
      exact ⟨rfl, HSET.out⟩
    | false =>
      by_cases hlt : (bs.length : Int) < k
      · have hT2 : Hid (R = ([], (bs, true))) := Lib.hid (by rw [hT.out, if_pos (.inr hlt)])
        clear hT
        go_enter Try.func50, Try.ntmps50
        go_wp2_with fail
        refine hN.out.mono ?_
        rintro e w1 ⟨rfl, hK, hF⟩
        obtain ⟨v1, k1, k2, k3, k4⟩ := id hK
        obtain ⟨hbl, a, c, rfl, -⟩ := id k2
        have c0 := cell_obj k1 0 (.slice a bs.length c) rfl
        have c1 := cell_obj k1 1 (.bool false) rfl
        have f1 := obj_frozen k1 1
        obtain ⟨ln, hln⟩ : ∃ ln, bs.length = ln := ⟨_, rfl⟩
        rw [hln] at c0 hlt hbl
        have hset : TR (w1.setCell ⟨g, 1, none⟩ (.bool true)) g K bs true ∧ Fr (fun b => b = g) w (w1.setCell ⟨g, 1, none⟩ (.bool true)) := by
          have hF0 : Fr (fun b => b = g) w1 (w1.setCell ⟨g, 1, none⟩ (.bool true)) := (Fr.refl (fun b => b = g) w1).setCell (p := ⟨g, 1, none⟩) (fun _ => rfl) _
          obtain ⟨v2, j1, j2, j3, j4⟩ := hK
          exact ⟨⟨v2, obj_set j1 1 (.bool true), j2.keep hF0 (fun b e => (j4 b e).2), j3, j4⟩, hF.trans hF0⟩
        have HSET := Lib.hid hset
        clear hset hK hF k1 k2 k3 k4 hln
        go_wp2_with fail
        go_ret
        rw [hT2.out]
        exact ⟨rfl, HSET.out⟩
      · have hT2 : Hid (R = (bS (bs.take k), (bs.drop k, false))) := Lib.hid (by rw [hT.out, if_neg (fun e => e.elim (fun e => by cases e) hlt)]; rfl)
        clear hT
        go_enter Try.func50, Try.ntmps50
        go_wp2_with fail
        refine hN.out.mono ?_
        rintro e w1 ⟨rfl, hK, hF⟩
        obtain ⟨v1, k1, k2, k3, k4⟩ := id hK
        obtain ⟨hbl, a, c, rfl, -⟩ := id k2
        have c0 := cell_obj k1 0 (.slice a bs.length c) rfl
        have c1 := cell_obj k1 1 (.bool false) rfl
        have f0 := obj_frozen k1 0
        have hcap := k3 _ _ _ rfl
        obtain ⟨ln, hln⟩ : ∃ ln, bs.length = ln := ⟨_, rfl⟩
        have HLN := Lib.hid hln
        have HK1 := Lib.hid k1; have HK2 := Lib.hid k2; have HK4 := Lib.hid k4
        rw [hln] at c0 hlt hbl hcap HK1 HK2 HK4
        have hkl : (k : Int) ≤ (ln : Int) := by omega
        have hk0 : (0 : Int) ≤ k := by omega
        have HF := Lib.hid hF
        have hstr := (Bs.take HK2.out (k := k) (by omega)).string
        rw [strOfNums_bS] at hstr
        have hpost : ∀ v' : Value, Bs w1 v' (bs.drop k) → (∀ a n c, v' = .slice a n c → n ≤ c) → (∀ b, v'.ownBlock = some b → (Value.slice a ln c).ownBlock = some b) →
            TR (w1.setCell ⟨g, 0, none⟩ v') g K (bs.drop k) false ∧ Fr (fun b => b = g) w (w1.setCell ⟨g, 0, none⟩ v') := fun v' hb hc ho => by
          have hF0 : Fr (fun b => b = g) w1 (w1.setCell ⟨g, 0, none⟩ v') := (Fr.refl (fun b => b = g) w1).setCell (p := ⟨g, 0, none⟩) (fun _ => rfl) _
          have h4 := HK4.out
          exact ⟨⟨v', obj_set HK1.out 0 v', hb.keep hF0 (fun b e => (h4 b (ho b e)).2), hc, fun b e => h4 b (ho b e)⟩, HF.out.trans hF0⟩
        have HPOST := Lib.hid hpost
        obtain ⟨sv, hsv⟩ : ∃ sv, bS (bs.take k) = sv := ⟨_, rfl⟩
        rw [hsv] at hstr hT2
        clear hK hF k1 k2 k3 k4 hln hpost hsv
        go_wp2_with fail
        · have hck : c = k := by assumption
          have hlk : ln = k := by omega
          go_ret
          rw [hT2.out]
          refine ⟨rfl, HPOST.out _ ?_ ?_ ?_⟩
          · have e0 : bs.drop k = [] := List.drop_eq_nil_of_le (by rw [HLN.out]; omega)
            rw [e0, show ln - k = 0 by omega]
            exact Bs.none' _ _ _
          · rintro a' n' c' e
            injection e with _ e2 e3
            omega
          · intro b e
            cases a with
            | none => cases e
            | some ad => exact e
        · go_ret
          rw [hT2.out]
          refine ⟨rfl, HPOST.out _ (HK2.out.drop HLN.out (by omega)) ?_ ?_⟩
          · rintro a' n' c' e
            injection e with _ e2 e3
            omega
          · intro b e
            cases a with
            | none => cases e
            | some ad =>
              have hb : (ad.add k).block = ad.block := by unfold Addr.add; split <;> rfl
              simp only [Option.map, Value.ownBlock, hb] at e ⊢
              exact e
end Go.Proofs.Ytclgmnobockfnaa
