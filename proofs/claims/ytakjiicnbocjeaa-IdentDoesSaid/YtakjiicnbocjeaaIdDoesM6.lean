/- cells.Taker: Take, may, fault, Num, Flag, Done. -/
import Derived.Test.YtakjiicnbocjeaaIdDoesM5
import Derived.Deep.Slices
namespace Go.Proofs.Ytakjiicnbocjeaa
open Go.RowKit Go.Maps
/-- A taker with bs left. -/
structure TK (w : World) (g : Nat) (TS : Nat → Prop) (bs : List Int) (bad : Bool) : Prop where
  ex : ∃ v, w.heap[g]? = some (.cells #[v, .bool bad] 117) ∧ Bs w v bs ∧ (∀ a n c, v = .slice a n c → n ≤ c) ∧ ∀ b, v.ownBlock = some b → TS b ∧ b ≠ g
  own : TS g
  lt : ∀ b, TS b → b < w.heap.size
theorem Bs.keep {S : Nat → Prop} {w w' : World} {v : Value} {bs : List Int} (h : Bs w v bs) (hf : Fr S w w') (hS : ∀ b, v.ownBlock = some b → ¬ S b) : Bs w' v bs := by
  obtain ⟨h0, a, c, rfl, h1⟩ := h
  refine ⟨h0, a, c, rfl, fun i x hx => ?_⟩
  obtain ⟨b1, b2, ad, rfl, hc⟩ := h1 i x hx
  have hb : (ad.add i).block = ad.block := by unfold Addr.add; split <;> rfl
  exact ⟨b1, b2, ad, rfl, hf.cell hc (fun e => hS ad.block rfl (hb ▸ e))⟩
theorem TK.fr {S TS : Nat → Prop} {w w' : World} {g : Nat} {bs : List Int} {bad : Bool} (h : TK w g TS bs bad) (hf : Fr S w w') (hS : ∀ b, TS b → ¬ S b) : TK w' g TS bs bad := by
  obtain ⟨⟨v, h1, h2, h3, h4⟩, h5, h6⟩ := h
  exact ⟨⟨v, hf.at_ h1 (hS _ h5), h2.keep hf (fun b hb => hS _ (h4 b hb).1), h3, h4⟩, h5, fun b hb => Nat.lt_of_lt_of_le (h6 b hb) hf.size⟩
/-- What a taker's Num gives, and what is left. -/
def numT (bs : List Int) (bad : Bool) (least most : Int) : Int × List Int × Bool :=
  if bad = true then (0, bs, true) else match firstB bs with
    | some (n, k) => if n < least ∨ most < n then (0, bs, true) else (n, bs.drop k, false)
    | none => (0, bs, true)
set_option maxRecDepth 100000 in
theorem cTake (w : World) (v : Value) (bs : List Int) (h : Bs w v bs) (hl : (bs.length : Int) ≤ 140737488351232) (hb : ∀ x ∈ bs, 0 ≤ x ∧ x < 256) : Calls Try.prog 42 #[v] w fun e w' =>
    ∃ g TS, e = .returned (.pointer (some ⟨g, 0, none⟩)) ∧ TK w' g TS bs false ∧ Fr (fun _ => False) w w' ∧ ∀ b, TS b → w.heap.size ≤ b := by
  have hC := cClone w v bs h hl
  have HC := Lib.hid hC; have HB := Lib.hid hb
  obtain ⟨_, a, c, rfl, _⟩ := h
  clear hC hb
  go_enter Try.func42, Try.ntmps42
  go_wp2_with fail
  refine HC.out.mono ?_
  rintro e w1 ⟨v', rfl, hown, hB⟩
  have hBs := Bs.own hown HB.out
  obtain ⟨_, a', c', rfl, _⟩ := id hBs.1
  have hcap : ∀ a n c, Value.slice a' bs.length c' = .slice a n c → n ≤ c := fun a n c e => by
    injection e with e1 e2 e3
    subst e1 e2 e3
    rcases hown.2 with ⟨e, e2⟩ | ⟨g, cap, cur, e, _, _, h1, _⟩
    · omega
    · injection e with _ _ e3
      omega
  have hlt := fun b hb => hown.lt b hb
  have HBS := Lib.hid hBs; have HCAP := Lib.hid hcap; have HLT := Lib.hid hlt; have HBB := Lib.hid hB
  clear hown hBs hcap hlt hB
  go_wp2_with fail
  go_ret
  refine ⟨_, fun b => b = w1.heap.size ∨ (Value.slice a' bs.length c').ownBlock = some b, rfl, ⟨⟨_, heap_new _ _, HBS.out.1.keep ((Fr.refl (fun _ => False) _).alloc _) (fun _ _ h => h), HCAP.out, fun b hb => ⟨.inr hb, ?_⟩⟩, .inl rfl, ?_⟩, ((Fr.below HBB.out).mono (fun _ _ h => h)).alloc _, ?_⟩
  · have := (HLT.out b hb).2; omega
  · rintro b (rfl | hb)
    · simp
    · have := (HLT.out b hb).2; simp; omega
  · rintro b (rfl | hb)
    · exact HBB.out.size
    · exact (HLT.out b hb).1
theorem cMay (w : World) (g : Nat) (TS : Nat → Prop) (bs : List Int) (bad : Bool) (h : TK w g TS bs bad) : Calls Try.prog 60 #[.pointer (some ⟨g, 0, none⟩)] w fun e w' => e = .returned (.bool (!bad)) ∧ w = w' := by
  obtain ⟨⟨v, h1, h2, h3, h4⟩, h5, h6⟩ := h
  have b1 := cell_obj h1 1 (.bool bad) rfl
  clear h1 h2 h3 h4 h5 h6
  go_enter Try.func60, Try.ntmps60
  go_wp2
  go_ret
  exact ⟨rfl, rfl⟩
theorem cFault (w : World) (g : Nat) (TS : Nat → Prop) (bs : List Int) (bad : Bool) (h : TK w g TS bs bad) : Calls Try.prog 62 #[.pointer (some ⟨g, 0, none⟩)] w fun e w' => (∃ v, e = .returned v) ∧ TK w' g TS bs true ∧ Fr TS w w' := by
  obtain ⟨⟨v, h1, h2, h3, h4⟩, h5, h6⟩ := h
  have b1 := cell_obj h1 1 (.bool bad) rfl
  have f1 := obj_frozen h1 1
  have H1 := Lib.hid h1; have H2 := Lib.hid h2; have H3 := Lib.hid h3; have H4 := Lib.hid h4; have H5 := Lib.hid h5; have H6 := Lib.hid h6
  clear h1 h2 h3 h4 h5 h6
  go_enter Try.func62, Try.ntmps62
  go_wp2
  go_end0
  have hF : Fr (fun b => b = g) w (w.setCell ⟨g, 1, none⟩ (.bool true)) := (Fr.refl (fun b => b = g) w).setCell (p := ⟨g, 1, none⟩) (fun _ => rfl) _
  refine ⟨⟨_, rfl⟩, ⟨⟨v, obj_set H1.out 1 (.bool true), H2.out.keep hF (fun b hb => (H4.out b hb).2), H3.out, H4.out⟩, H5.out, fun b hb => by have := H6.out b hb; have := hF.size; omega⟩, hF.mono (fun b _ e => e ▸ H5.out)⟩
theorem Bs.drop {w : World} {a : Option Addr} {n c c' k : Nat} {bs : List Int} (h : Bs w (.slice a n c) bs) (hn : bs.length = n) (hk : k ≤ n) : Bs w (.slice (a.map fun x => x.add k) (n - k) c') (bs.drop k) := by
  obtain ⟨h0, a', c1, e, hx⟩ := h
  injection e with e1 e2 e3
  subst e1
  have hl : (bs.drop k).length = n - k := by rw [List.length_drop, hn]
  refine ⟨by omega, _, c', by rw [hl], fun i x hi => ?_⟩
  rw [List.getElem?_drop] at hi
  obtain ⟨b1, b2, ad, rfl, hc⟩ := hx (k + i) x hi
  exact ⟨b1, b2, _, rfl, by rw [Go.Deep.add_add]; exact hc⟩
theorem Bs.none' (w : World) (a : Option Addr) (c : Nat) : Bs w (.slice a 0 c) [] := ⟨by simp, a, c, rfl, fun i x h => by simp at h⟩
theorem firstB_le {bs : List Int} {n : Int} {k : Nat} (h : firstB bs = some (n, k)) : 1 ≤ k ∧ k ≤ bs.length := by
  cases bs with
  | nil => cases h
  | cons a r =>
    simp only [firstB] at h
    split at h
    · cases h; simp
    · split at h
      · cases h
      · split at h
        · cases h
          rename_i h1 _
          simp only [List.length_cons]
          omega
        · cases h
set_option maxRecDepth 100000 in
set_option maxHeartbeats 1000000 in
theorem cTNum (w : World) (g : Nat) (TS : Nat → Prop) (bs : List Int) (bad : Bool) (least most : Int) (h : TK w g TS bs bad) :
    Calls Try.prog 43 #[.pointer (some ⟨g, 0, none⟩), .int .i64 least, .int .i64 most] w fun e w' => e = .returned (.int .i64 (numT bs bad least most).1) ∧ TK w' g TS (numT bs bad least most).2.1 (numT bs bad least most).2.2 ∧ Fr TS w w' := by
  have hM := fun w h => cMay w g TS bs bad h
  have HM := Lib.hid hM; have HT := Lib.hid h
  clear hM
  cases bad with
  | true =>
    clear h
    unfold numT
    go_enter Try.func43, Try.ntmps43
    go_wp2_with (go_at_call 60; refine (HM.out _ HT.out).mono ?_; rintro e w1 ⟨rfl, rfl⟩)
    go_ret
    exact ⟨rfl, HT.out, Fr.refl _ _⟩
  | false =>
    obtain ⟨⟨v, h1, h2, h3, h4⟩, h5, h6⟩ := id h
    obtain ⟨_, a, c, rfl, _⟩ := id h2
    have b0 := cell_obj h1 0 (.slice a bs.length c) rfl
    have hFi := cFirst w _ bs h2 h3
    have HFI := Lib.hid hFi; have H1 := Lib.hid h1; have H2 := Lib.hid h2; have H3 := Lib.hid h3; have H4 := Lib.hid h4; have H5 := Lib.hid h5; have H6 := Lib.hid h6
    obtain ⟨o, ho⟩ : ∃ o, firstB bs = o := ⟨_, rfl⟩
    rw [ho] at HFI
    have HO := Lib.hid ho
    clear hFi h h1 h2 h3 h4 h5 h6 ho
    cases o with
    | none =>
      have e : numT bs false least most = (0, bs, true) := by simp [numT, HO.out]
      rw [e]
      clear e
      go_enter Try.func43, Try.ntmps43
      go_wp2_with (go_at_call 60; refine (HM.out _ HT.out).mono ?_; rintro e w1 ⟨rfl, rfl⟩)
      refine HFI.out.mono ?_
      rintro e w2 ⟨rfl, hB⟩
      unfold firstV
      dsimp only
      have HT2 := Lib.hid (HT.out.fr (Fr.below (S := fun _ => False) hB) (fun _ _ h => h)); have HBB := Lib.hid hB
      clear hB
      go_wp2_with fail
      refine (cFault _ _ _ _ _ HT2.out).mono ?_
      rintro e w3 ⟨⟨v, rfl⟩, hT3, hF3⟩
      go_wp2_with fail
      go_ret
      exact ⟨rfl, hT3, ((Fr.below (S := TS) HBB.out)).trans' hF3 (fun _ _ h => h)⟩
    | some p =>
      obtain ⟨n, k⟩ := p
      obtain ⟨hk1, hk2⟩ := firstB_le HO.out
      by_cases hbnd : n < least ∨ most < n
      · have e : numT bs false least most = (0, bs, true) := by simp [numT, HO.out, hbnd]
        rw [e]
        clear e hk1 hk2
        rcases (by omega : n < least ∨ least ≤ n ∧ most < n) with hlo | ⟨hlo, hhi⟩
        all_goals
          clear hbnd
          go_enter Try.func43, Try.ntmps43
          go_wp2_with (go_at_call 60; refine (HM.out _ HT.out).mono ?_; rintro e w1 ⟨rfl, rfl⟩)
          refine HFI.out.mono ?_
          rintro e w2 ⟨rfl, hB⟩
          unfold firstV
          dsimp only
          have HT2 := Lib.hid (HT.out.fr (Fr.below (S := fun _ => False) hB) (fun _ _ h => h)); have HBB := Lib.hid hB
          clear hB
          go_wp2_with fail
          refine (cFault _ _ _ _ _ HT2.out).mono ?_
          rintro e w3 ⟨⟨v, rfl⟩, hT3, hF3⟩
          go_wp2_with fail
          go_ret
          exact ⟨rfl, hT3, ((Fr.below (S := TS) HBB.out)).trans' hF3 (fun _ _ h => h)⟩
      · have e : numT bs false least most = (n, bs.drop k, false) := by simp only [numT, HO.out, hbnd]; simp
        rw [e]
        have hlo : least ≤ n := by omega
        have hhi : n ≤ most := by omega
        clear e hbnd
        have hcap := H3.out _ _ _ rfl
        obtain ⟨ln, hln⟩ : ∃ ln, bs.length = ln := ⟨_, rfl⟩
        have HLN := Lib.hid hln
        rw [hln] at hk2 hcap b0
        clear hln
        go_enter Try.func43, Try.ntmps43
        go_wp2_with (go_at_call 60; refine (HM.out _ HT.out).mono ?_; rintro e w1 ⟨rfl, rfl⟩)
        rw [HLN.out] at HFI
        refine HFI.out.mono ?_
        rintro e w2 ⟨rfl, hB⟩
        unfold firstV
        dsimp only
        have hF2 := Fr.below (S := fun _ => False) hB
        have hG2 := hF2.at_ H1.out (fun h => h)
        rw [HLN.out] at hG2
        have c0 := cell_obj hG2 0 (.slice a ln c) rfl
        have f0 := obj_frozen hG2 0
        have HG2 := Lib.hid hG2; have HF2 := Lib.hid hF2
        clear hB hF2 hG2 b0
        have hpost : ∀ v' : Value, Bs w2 v' (bs.drop k) → (∀ a n c, v' = .slice a n c → n ≤ c) → (∀ b, v'.ownBlock = some b → (Value.slice a ln c).ownBlock = some b) →
            TK (w2.setCell ⟨g, 0, none⟩ v') g TS (bs.drop k) false ∧ Fr TS w (w2.setCell ⟨g, 0, none⟩ v') := fun v' hb hc ho => by
          have hF : Fr (fun b => b = g) w2 (w2.setCell ⟨g, 0, none⟩ v') := (Fr.refl (fun b => b = g) w2).setCell (p := ⟨g, 0, none⟩) (fun _ => rfl) _
          have h4 := H4.out
          rw [HLN.out] at h4
          refine ⟨⟨⟨v', obj_set HG2.out 0 v', hb.keep hF (fun b e => (h4 b (ho b e)).2), hc, fun b e => h4 b (ho b e)⟩, H5.out, fun b e => ?_⟩, (HF2.out.mono (fun _ _ h => h.elim)).trans' hF (fun b _ e => e ▸ H5.out)⟩
          have := H6.out b e; have := HF2.out.size; have := hF.size; omega
        have HPOST := Lib.hid hpost
        have hb2 : Bs w2 (.slice a ln c) bs := by have := H2.out.fr HF2.out (fun _ h => h.elim); rw [HLN.out] at this; exact this
        have HB2 := Lib.hid hb2
        clear hpost hb2
        go_wp2_with fail
        · have hck : c = k := by assumption
          have hlk : ln = k := by omega
          go_ret
          refine ⟨rfl, HPOST.out _ ?_ ?_ ?_⟩
          · have e0 : bs.drop k = [] := List.drop_eq_nil_of_le (by rw [HLN.out]; omega)
            rw [e0, show ln - k = 0 by omega]
            exact Bs.none' _ _ _
          · rintro a' n' c' e
            injection e with _ e2 e3
            omega
          · intro b e
            cases a with
            | none => cases e
            | some ad => exact e
        · go_ret
          refine ⟨rfl, HPOST.out _ (HB2.out.drop HLN.out hk2) ?_ ?_⟩
          · rintro a' n' c' e
            injection e with _ e2 e3
            omega
          · intro b e
            cases a with
            | none => cases e
            | some ad =>
              have hb : (ad.add k).block = ad.block := by unfold Addr.add; split <;> rfl
              simp only [Option.map, Value.ownBlock, hb] at e ⊢
              exact e
end Go.Proofs.Ytakjiicnbocjeaa
