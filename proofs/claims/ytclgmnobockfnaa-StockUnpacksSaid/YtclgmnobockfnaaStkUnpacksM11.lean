/- cells: Taker.Text. -/
import Derived.Test.YtclgmnobockfnaaStkUnpacksM9
namespace Go.Proofs.Ytclgmnobockfnaa
open Go.RowKit Go.Maps
/-- Bytes, as a text. -/
def bS (bs : List Int) : Str := bs.map fun x => UInt8.ofNat x.toNat
theorem strOfNums_bS (bs : List Int) : strOfNums bs = ⟨(bS bs).toArray⟩ := rfl
theorem bS_sB (s : Str) : bS (sB s) = s := by
  unfold bS sB
  rw [List.map_map]
  conv => rhs; rw [← List.map_id s]
  refine List.map_congr_left fun c _ => ?_
  simp
theorem sB_bS {bs : List Int} (h : Byt bs) : sB (bS bs) = bs := by
  unfold bS sB
  rw [List.map_map]
  conv => rhs; rw [← List.map_id bs]
  refine List.map_congr_left fun x hx => ?_
  have := h x hx
  simp only [Function.comp, id, UInt8.toNat_ofNat']
  omega
/-- What a taker's Text gives, and what is left. -/
def tkT (t : Tst) (m : Int) : Str × Tst :=
  let n := tk t 0 m
  if n.2.2 = true then ([], n.2) else if (n.2.1.length : Int) < n.1 then ([], (n.2.1, true)) else (bS (n.2.1.take n.1.toNat), (n.2.1.drop n.1.toNat, false))
set_option maxRecDepth 100000 in
set_option maxHeartbeats 4000000 in
theorem cTText (w : World) (g : Nat) (TS : Nat → Prop) (t : Tst) (m : Int) (h : TK w g TS t.1 t.2) (hm : 0 ≤ m) :
    Calls Try.prog 46 #[.pointer (some ⟨g, 0, none⟩), .int .i64 m] w fun e w' => e = .returned (vS (tkT t m).1) ∧ TK w' g TS (tkT t m).2.1 (tkT t m).2.2 ∧ Fr TS w w' := by
  have hN := Lib.hid (xTk w g TS t 0 m h)
  have hin := tk_in t (a := 0) (b := m) (by omega) hm
  obtain ⟨N, hNN⟩ : ∃ N, tk t 0 m = N := ⟨_, rfl⟩
  have hT : Hid (tkT t m = if N.2.2 = true then ([], N.2) else if (N.2.1.length : Int) < N.1 then ([], (N.2.1, true)) else (bS (N.2.1.take N.1.toNat), (N.2.1.drop N.1.toNat, false))) := Lib.hid (by unfold tkT; rw [hNN])
  rw [hNN] at hN hin
  obtain ⟨n, bs, bad⟩ := N
  dsimp only at hN hin hT
  obtain ⟨h0, h1⟩ := hin
  obtain ⟨k, rfl⟩ : ∃ k : Nat, n = k := ⟨n.toNat, by omega⟩
  rw [Int.toNat_natCast] at hT
  clear h hNN
  cases bad with
  | true =>
    have hT2 : Hid (tkT t m = ([], (bs, true))) := Lib.hid (by rw [hT.out]; rfl)
    clear hT
    go_enter Try.func46, Try.ntmps46
    go_wp2_with fail
    refine hN.out.mono ?_
    rintro e w1 ⟨rfl, hK, hF⟩
    have HK := Lib.hid hK; have HF := Lib.hid hF
    clear hK hF
    go_wp2_with (go_at_call 72; refine (cMay w1 g TS bs true HK.out).mono ?_; rintro e w2 ⟨rfl, rfl⟩)
    go_ret
    rw [hT2.out]
    exact ⟨rfl, HK.out, HF.out⟩
  | false =>
    by_cases hlt : (bs.length : Int) < (k : Int)
    · have hT2 : Hid (tkT t m = ([], (bs, true))) := Lib.hid (by rw [hT.out, if_neg (by decide), if_pos hlt])
      clear hT
      go_enter Try.func46, Try.ntmps46
      go_wp2_with fail
      refine hN.out.mono ?_
      rintro e w1 ⟨rfl, hK, hF⟩
      obtain ⟨⟨v, k1, k2, k3, k4⟩, k5, k6⟩ := id hK
      obtain ⟨hbl, a, c, rfl, -⟩ := id k2
      have c0 := cell_obj k1 0 (.slice a bs.length c) rfl
      obtain ⟨ln, hln⟩ : ∃ ln, bs.length = ln := ⟨_, rfl⟩
      rw [hln] at c0 hlt hbl
      have HK := Lib.hid hK; have HF := Lib.hid hF
      clear hK hF k1 k2 k3 k4 k5 k6 hln
      go_wp2_with (first
        | (go_at_call 72; refine (cMay w1 g TS bs false HK.out).mono ?_; rintro e w2 ⟨rfl, rfl⟩)
        | (go_at_call 74; refine (cFault w1 g TS bs false HK.out).mono ?_; rintro e w2 ⟨⟨v, rfl⟩, hK2, hF2⟩; have HK2 := Lib.hid hK2; have HF2 := Lib.hid hF2; clear hK2 hF2))
      go_ret
      rw [hT2.out]
      exact ⟨rfl, HK2.out, HF.out.trans HF2.out⟩
    · have hT2 : Hid (tkT t m = (bS (bs.take k), (bs.drop k, false))) := Lib.hid (by rw [hT.out, if_neg (by decide), if_neg hlt])
      clear hT
      go_enter Try.func46, Try.ntmps46
      go_wp2_with fail
      refine hN.out.mono ?_
      rintro e w1 ⟨rfl, hK, hF⟩
      obtain ⟨⟨v, k1, k2, k3, k4⟩, k5, k6⟩ := id hK
      obtain ⟨hbl, a, c, rfl, -⟩ := id k2
      have c0 := cell_obj k1 0 (.slice a bs.length c) rfl
      have f0 := obj_frozen k1 0
      have hcap := k3 _ _ _ rfl
      obtain ⟨ln, hln⟩ : ∃ ln, bs.length = ln := ⟨_, rfl⟩
      have HLN := Lib.hid hln
      have k2 := k2
      have HK1 := Lib.hid k1; have HK2 := Lib.hid k2; have HK4 := Lib.hid k4; have HK5 := Lib.hid k5; have HK6 := Lib.hid k6
      rw [hln] at c0 hlt hbl hcap HK1 HK2 HK4
      have hkl : (k : Int) ≤ (ln : Int) := by omega
      have hk0 : (0 : Int) ≤ k := by omega
      have HK := Lib.hid hK; have HF := Lib.hid hF
      have hstr := (Bs.take HK2.out (k := k) (by omega)).string
      rw [strOfNums_bS] at hstr
      have hpost : ∀ v' : Value, Bs w1 v' (bs.drop k) → (∀ a n c, v' = .slice a n c → n ≤ c) → (∀ b, v'.ownBlock = some b → (Value.slice a ln c).ownBlock = some b) →
          TK (w1.setCell ⟨g, 0, none⟩ v') g TS (bs.drop k) false ∧ Fr TS w (w1.setCell ⟨g, 0, none⟩ v') := fun v' hb hc ho => by
        have hF0 : Fr (fun b => b = g) w1 (w1.setCell ⟨g, 0, none⟩ v') := (Fr.refl (fun b => b = g) w1).setCell (p := ⟨g, 0, none⟩) (fun _ => rfl) _
        have h4 := HK4.out
        refine ⟨⟨⟨v', obj_set HK1.out 0 v', hb.keep hF0 (fun b e => (h4 b (ho b e)).2), hc, fun b e => h4 b (ho b e)⟩, HK5.out, fun b e => ?_⟩, HF.out.trans' hF0 (fun b _ e => e ▸ HK5.out)⟩
        have := HK6.out b e; have := hF0.size; omega
      have HPOST := Lib.hid hpost
      obtain ⟨sv, hsv⟩ : ∃ sv, bS (bs.take k) = sv := ⟨_, rfl⟩
      rw [hsv] at hstr hT2
      clear hK hF k1 k2 k3 k4 k5 k6 hln hpost hsv h1
      go_wp2_with (go_at_call 72; refine (cMay w1 g TS bs false HK.out).mono ?_; rintro e w2 ⟨rfl, rfl⟩)
      · have hck : c = k := by assumption
        have hlk : ln = k := by omega
        go_ret
        rw [hT2.out]
        refine ⟨rfl, HPOST.out _ ?_ ?_ ?_⟩
        · have e0 : bs.drop k = [] := List.drop_eq_nil_of_le (by rw [HLN.out]; omega)
          rw [e0, show ln - k = 0 by omega]
          exact Bs.none' _ _ _
        · rintro a' n' c' e
          injection e with _ e2 e3
          omega
        · intro b e
          cases a with
          | none => cases e
          | some ad => exact e
      · go_ret
        rw [hT2.out]
        refine ⟨rfl, HPOST.out _ (HK2.out.drop HLN.out (by omega)) ?_ ?_⟩
        · rintro a' n' c' e
          injection e with _ e2 e3
          omega
        · intro b e
          cases a with
          | none => cases e
          | some ad =>
            have hb : (ad.add k).block = ad.block := by unfold Addr.add; split <;> rfl
            simp only [Option.map, Value.ownBlock, hb] at e ⊢
            exact e
end Go.Proofs.Ytclgmnobockfnaa
