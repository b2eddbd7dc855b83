/- The document's cells (entrepotref01): Taker: Num, Flag. -/
import Derived.Test.YtakjiicnbocjeaaIdDoesM29
import Derived.Test.YtakjiicnbocjeaaIdDoesM10
namespace Go.Proofs.Ytakjiicnbocjeaa
open Go.RowKit Go.Maps
/-- The document's taker: its bytes lie in a block of K, which nobody changes. -/
structure TR (w : World) (g : Nat) (K : Nat → Prop) (bs : List Int) (bad : Bool) : Prop where
  ex : ∃ v, w.heap[g]? = some (.cells #[v, .bool bad] 96) ∧ Bs w v bs ∧ (∀ a n c, v = .slice a n c → n ≤ c) ∧ ∀ b, v.ownBlock = some b → K b ∧ b ≠ g
theorem TR.lt {w : World} {g : Nat} {K : Nat → Prop} {bs : List Int} {bad : Bool} (h : TR w g K bs bad) : g < w.heap.size := by
  obtain ⟨v, h1, _⟩ := h
  exact (Array.getElem?_eq_some_iff.1 h1).1
theorem TR.fr {S K : Nat → Prop} {w w' : World} {g : Nat} {bs : List Int} {bad : Bool} (h : TR w g K bs bad) (hf : Fr S w w') (hg : ¬ S g) (hS : ∀ b, K b → ¬ S b) : TR w' g K bs bad := by
  obtain ⟨v, h1, h2, h3, h4⟩ := h
  exact ⟨v, hf.at_ h1 hg, h2.keep hf (fun b hb => hS _ (h4 b hb).1), h3, h4⟩
set_option maxRecDepth 100000 in
set_option maxHeartbeats 1000000 in
theorem rTNum (w : World) (g : Nat) (K : Nat → Prop) (bs : List Int) (bad : Bool) (least most : Int) (h : TR w g K bs bad) :
    Calls Try.prog 47 #[.pointer (some ⟨g, 0, none⟩), .int .i64 least, .int .i64 most] w fun e w' => e = .returned (.int .i64 (numT bs bad least most).1) ∧ TR w' g K (numT bs bad least most).2.1 (numT bs bad least most).2.2 ∧ Fr (fun b => b = g) w w' := by
  have HT := Lib.hid h
  obtain ⟨v, h1, h2, h3, h4⟩ := h
  obtain ⟨_, a, c, rfl, _⟩ := id h2
  have b0 := cell_obj h1 0 (.slice a bs.length c) rfl
  have b1 := cell_obj h1 1 (.bool bad) rfl
  have H1 := Lib.hid h1; have H2 := Lib.hid h2; have H3 := Lib.hid h3; have H4 := Lib.hid h4
  have hFi := Lib.hid (rFirst w _ bs h2 h3)
  clear h1 h2 h3 h4
  cases bad with
  | true =>
    clear b0
    unfold numT
    go_enter Try.func47, Try.ntmps47
    go_wp2
    go_ret
    exact ⟨rfl, HT.out, Fr.refl _ _⟩
  | false =>
    obtain ⟨o, ho⟩ : ∃ o, firstB bs = o := ⟨_, rfl⟩
    have HO := Lib.hid ho
    clear ho
    have hfault : ∀ w2, Fr (fun _ => False) w w2 → TR (w2.setCell ⟨g, 1, none⟩ (.bool true)) g K bs true ∧ Fr (fun b => b = g) w (w2.setCell ⟨g, 1, none⟩ (.bool true)) := fun w2 hF2 => by
      have hF : Fr (fun b => b = g) w2 (w2.setCell ⟨g, 1, none⟩ (.bool true)) := (Fr.refl (fun b => b = g) w2).setCell (p := ⟨g, 1, none⟩) (fun _ => rfl) _
      exact ⟨⟨_, obj_set (hF2.at_ H1.out (fun h => h)) 1 (.bool true), (H2.out.fr hF2 (fun _ h => h.elim)).keep hF (fun b hb => (H4.out b hb).2), H3.out, H4.out⟩, (hF2.mono (fun _ _ h => h.elim)).trans' hF (fun b _ e => e)⟩
    have HFAULT := Lib.hid hfault
    clear hfault
    cases o with
    | none =>
      have e : numT bs false least most = (0, bs, true) := by simp [numT, HO.out]
      rw [e]
      have hfi := hFi.out
      rw [firstR_none HO.out] at hfi
      have HFI := Lib.hid hfi
      clear e hfi hFi
      go_enter Try.func47, Try.ntmps47
      go_wp2_with fail
      refine HFI.out.mono ?_
      rintro e w2 ⟨rfl, hB⟩
      unfold firstW
      dsimp only
      have hG2 := (Fr.below (S := fun _ => False) hB).at_ H1.out (fun h => h)
      have f1 := obj_frozen hG2 1
      have c1 := cell_obj hG2 1 (.bool false) rfl
      have HF2 := Lib.hid (Fr.below (S := fun _ => False) hB)
      clear hB hG2 b0 b1
      go_wp2_with fail
      go_ret
      exact ⟨rfl, HFAULT.out _ HF2.out⟩
    | some p =>
      obtain ⟨n, k⟩ := p
      obtain ⟨hk1, hk2⟩ := firstB_le HO.out
      have hfi := hFi.out
      rw [firstR_some HO.out] at hfi
      have HFI := Lib.hid hfi
      clear hfi hFi
      by_cases hbnd : n < least ∨ most < n
      · have e : numT bs false least most = (0, bs, true) := by simp [numT, HO.out, hbnd]
        rw [e]
        clear e hk2
        have hk0 : ((k : Int) == 0) = false := by simp; omega
        rcases (by omega : n < least ∨ least ≤ n ∧ most < n) with hlo | ⟨hlo, hhi⟩
        all_goals
          clear hbnd
          go_enter Try.func47, Try.ntmps47
          go_wp2_with fail
          refine HFI.out.mono ?_
          rintro e w2 ⟨rfl, hB⟩
          unfold firstW
          dsimp only
          have hG2 := (Fr.below (S := fun _ => False) hB).at_ H1.out (fun h => h)
          have f1 := obj_frozen hG2 1
          have c1 := cell_obj hG2 1 (.bool false) rfl
          have HF2 := Lib.hid (Fr.below (S := fun _ => False) hB)
          clear hB hG2 b0 b1
          go_wp2_with fail
          go_ret
          exact ⟨rfl, HFAULT.out _ HF2.out⟩
      · have e : numT bs false least most = (n, bs.drop k, false) := by simp only [numT, HO.out, hbnd]; simp
        rw [e]
        have hk0 : ((k : Int) == 0) = false := by simp; omega
        have hlo : least ≤ n := by omega
        have hhi : n ≤ most := by omega
        clear e hbnd
        have hcap := H3.out _ _ _ rfl
        obtain ⟨ln, hln⟩ : ∃ ln, bs.length = ln := ⟨_, rfl⟩
        have HLN := Lib.hid hln
        rw [hln] at hk2 hcap b0 HFI
        clear hln
        go_enter Try.func47, Try.ntmps47
        go_wp2_with fail
        refine HFI.out.mono ?_
        rintro e w2 ⟨rfl, hB⟩
        unfold firstW
        dsimp only
        have hF2 := Fr.below (S := fun _ => False) hB
        have hG2 := hF2.at_ H1.out (fun h => h)
        rw [HLN.out] at hG2
        have c0 := cell_obj hG2 0 (.slice a ln c) rfl
        have f0 := obj_frozen hG2 0
        have HG2 := Lib.hid hG2; have HF2 := Lib.hid hF2
        clear hB hF2 hG2 b0 b1
        have hpost : ∀ v' : Value, Bs w2 v' (bs.drop k) → (∀ a n c, v' = .slice a n c → n ≤ c) → (∀ b, v'.ownBlock = some b → (Value.slice a ln c).ownBlock = some b) →
            TR (w2.setCell ⟨g, 0, none⟩ v') g K (bs.drop k) false ∧ Fr (fun b => b = g) w (w2.setCell ⟨g, 0, none⟩ v') := fun v' hb hc ho => by
          have hF : Fr (fun b => b = g) w2 (w2.setCell ⟨g, 0, none⟩ v') := (Fr.refl (fun b => b = g) w2).setCell (p := ⟨g, 0, none⟩) (fun _ => rfl) _
          have h4 := H4.out
          rw [HLN.out] at h4
          exact ⟨⟨v', obj_set HG2.out 0 v', hb.keep hF (fun b e => (h4 b (ho b e)).2), hc, fun b e => h4 b (ho b e)⟩, (HF2.out.mono (fun _ _ h => h.elim)).trans' hF (fun b _ e => e)⟩
        have HPOST := Lib.hid hpost
        have hb2 : Bs w2 (.slice a ln c) bs := by have := H2.out.fr HF2.out (fun _ h => h.elim); rw [HLN.out] at this; exact this
        have HB2 := Lib.hid hb2
        clear hpost hb2
        go_wp2_with fail
        · have hck : c = k := by assumption
          have hlk : ln = k := by omega
          go_ret
          refine ⟨rfl, HPOST.out _ ?_ ?_ ?_⟩
          · have e0 : bs.drop k = [] := List.drop_eq_nil_of_le (by rw [HLN.out]; omega)
            rw [e0, show ln - k = 0 by omega]
            exact Bs.none' _ _ _
          · rintro a' n' c' e
            injection e with _ e2 e3
            omega
          · intro b e
            cases a with
            | none => cases e
            | some ad => exact e
        · go_ret
          refine ⟨rfl, HPOST.out _ (HB2.out.drop HLN.out hk2) ?_ ?_⟩
          · rintro a' n' c' e
            injection e with _ e2 e3
            omega
          · intro b e
            cases a with
            | none => cases e
            | some ad =>
              have hb : (ad.add k).block = ad.block := by unfold Addr.add; split <;> rfl
              simp only [Option.map, Value.ownBlock, hb] at e ⊢
              exact e
theorem rTk (w : World) (g : Nat) (K : Nat → Prop) (t : Tst) (a b : Int) (h : TR w g K t.1 t.2) :
    Calls Try.prog 47 #[.pointer (some ⟨g, 0, none⟩), .int .i64 a, .int .i64 b] w fun e w' => e = .returned (.int .i64 (tk t a b).1) ∧ TR w' g K (tk t a b).2.1 (tk t a b).2.2 ∧ Fr (fun b => b = g) w w' := rTNum w g K t.1 t.2 a b h
set_option maxRecDepth 100000 in
theorem rTkF (w : World) (g : Nat) (K : Nat → Prop) (t : Tst) (h : TR w g K t.1 t.2) :
    Calls Try.prog 48 #[.pointer (some ⟨g, 0, none⟩)] w fun e w' => e = .returned (.bool ((tk t 0 1).1 == 1)) ∧ TR w' g K (tk t 0 1).2.1 (tk t 0 1).2.2 ∧ Fr (fun b => b = g) w w' := by
  have H := Lib.hid (rTk w g K t 0 1 h)
  clear h
  obtain ⟨n, hn⟩ : ∃ n, (tk t 0 1).1 = n := ⟨_, rfl⟩
  rw [hn] at H ⊢
  clear hn
  go_enter Try.func48, Try.ntmps48
  go_wp2_with fail
  refine H.out.mono ?_
  rintro e w1 ⟨rfl, hT, hF⟩
  go_wp2_with fail
  go_ret
  exact ⟨rfl, hT, hF⟩
end Go.Proofs.Ytakjiicnbocjeaa
