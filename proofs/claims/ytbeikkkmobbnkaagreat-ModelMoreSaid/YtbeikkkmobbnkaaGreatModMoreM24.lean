/- ask.Body; what may be has short fields. -/
import Derived.Test.YtbeikkkmobbnkaaGreatModMoreM22
import Derived.Test.YtbeikkkmobbnkaaGreatModMoreM23
namespace Go.Proofs.YtbeikkkmobbnkaaGreat
open Go.RowKit Go.Maps
theorem itsK_all : ∀ {L : Its} {last : Str}, itsOk last L = true → ∀ p ∈ L, goodB p.1 = true ∧ 1 ≤ p.2 ∧ p.2 ≤ 1099511627776
  | [], _, _, p, hp => by cases hp
  | q :: r, last, h, p, hp => by
    rw [itsOk_cons] at h
    simp only [Bool.and_eq_true, decide_eq_true_eq, mayI_iff] at h
    obtain ⟨⟨⟨⟨h1, h2⟩, h3, h4⟩, _⟩, h5⟩ := h
    rcases List.mem_cons.1 hp with rfl | hp
    · exact ⟨h1, h2, h4⟩
    · exact itsK_all h5 p hp
theorem mayK_all {L : Its} (h : mayL L = true) : L.length ≤ 16 ∧ ∀ p ∈ L, goodB p.1 = true ∧ 1 ≤ p.2 ∧ p.2 ≤ 1099511627776 := by
  unfold mayL at h
  simp only [Bool.and_eq_true, decide_eq_true_eq] at h
  exact ⟨h.2, itsK_all h.1⟩
theorem rightB_or {s : Str} {c : UInt8} {a b : Bool} (h : rightB s c a b = true) : a = true ∨ b = true := by
  unfold rightB at h
  split at h
  · exact .inl h
  · exact .inr h
/-- What holds of a request that may be. -/
theorem may_its {a : AV} (h : a.may = true) : mayL a.its = true := by
  unfold AV.may at h
  simp only [Bool.and_eq_true] at h
  have := h.1.2
  unfold AV.ri at this
  rcases rightB_or this with h1 | h1
  · simp only [Bool.and_eq_true] at h1; exact h1.2
  · have : a.its = [] := List.eq_nil_of_length_eq_zero (by simpa using h1)
    rw [this]; rfl
theorem may_good {a : AV} (h : a.may = true) : a.g.length ≤ 16 := by
  unfold AV.may at h
  simp only [Bool.and_eq_true] at h
  have := h.1.1.2
  unfold AV.rg at this
  rcases rightB_or this with h1 | h1
  · exact goodB_len h1
  · have : a.g = [] := by simpa using h1
    rw [this]; simp
theorem bdOk_of {w : World} {a : AV} (hk : AOk w a) (hm : a.may = true) : BdOk a := by
  have h1 := mayK_all (may_its hm)
  exact ⟨hk.k, hk.o, hk.r, hk.t, hk.m, may_good hm, h1.1, fun p hp => ⟨goodB_len (h1.2 p hp).1, by have := h1.2 p hp; unfold okI; omega⟩⟩
theorem Byt.app {a b : List Int} (ha : Byt a) (hb : Byt b) : Byt (a ++ b) := fun x hx => (List.mem_append.1 hx).elim (ha x) (hb x)
theorem byt_num {n : Int} (h : okI n) : Byt (numB n) := fun x hx => numB_mem h hx
theorem byt_text {s : Str} (h : s.length ≤ 16) : Byt (textB s) := by
  unfold textB
  exact Byt.app (byt_num (by unfold okI; omega)) (sB_byt s)
theorem byt_its {L : Its} (h : ∀ p ∈ L, p.1.length ≤ 16 ∧ okI p.2) : Byt (itsP L) := by
  intro x hx
  unfold itsP at hx
  obtain ⟨p, hp, hx⟩ := List.mem_flatMap.1 hx
  exact Byt.app (byt_text (h p hp).1) (byt_num (h p hp).2) x hx
theorem byt_body {a : AV} (h : BdOk a) : Byt (bodyF a) := by
  unfold bodyF
  exact Byt.app (Byt.app (Byt.app (Byt.app (Byt.app (Byt.app (Byt.app (byt_num h.k) (byt_num h.o)) (byt_num h.r)) (byt_num h.t)) (byt_num h.m)) (byt_text h.g)) (byt_num (by have := h.len; unfold okI; omega))) (byt_its h.its)
theorem bodyF_len {a : AV} (h : BdOk a) : (bodyF a).length ≤ 1000 := by
  unfold bodyF
  have := (numB_len h.k).2; have := (numB_len h.o).2; have := (numB_len h.r).2; have := (numB_len h.t).2; have := (numB_len h.m).2
  have := textB_len h.g
  have := (numB_len (n := (a.its.length : Int)) (by have := h.len; unfold okI; omega)).2
  have := itsP_len h.its
  have := h.len
  simp only [List.length_append]
  omega
set_option maxRecDepth 100000 in
set_option maxHeartbeats 4000000 in
theorem kBody (w : World) (a : AV) (hk : AOk w a) (hm : a.may = true) :
    Calls Tryz.prog 46 #[.agg a.cs] w fun e w' => ∃ v, e = .returned v ∧ w'.ownsRow w.heap.size 5 1 v (bodyF a).length (u8s (bodyF a)) ∧ Fr (fun _ => False) w w' := by
  obtain ⟨n0, hn0⟩ : ∃ n0, w.heap.size = n0 := ⟨_, rfl⟩
  have hBD := Lib.hid (bdOk_of hk hm)
  have hF0 : Fr (fun _ => False) w (w.alloc (.cells a.cs 50)) := (Fr.refl _ w).alloc _
  have hMay : Hid (Calls Tryz.prog 50 #[.agg a.cs] (w.alloc (.cells a.cs 50)) fun e w' => e = .returned (.bool true) ∧ Fr (fun _ => False) (w.alloc (.cells a.cs 50)) w') := Lib.hid (by
    have := kMayA (w.alloc (.cells a.cs 50)) a (hk.l.fr hF0 (fun _ h => h.elim)) hk.g
    rw [hm] at this
    exact this)
  obtain ⟨A, hA⟩ : ∃ A : AV, A = a := ⟨_, rfl⟩
  have hb0 : (w.alloc (.cells a.cs 50)).heap[n0]? = some (.cells a.cs 50) := heap_at hn0.symm _
  have HIL := Lib.hid hk.l
  have hobl : Hid (a.its ≠ [] → ∀ b, a.l.ownBlock = some b → b < w.heap.size) := Lib.hid hk.l.lt
  obtain ⟨W0, hW0⟩ : ∃ W0, w.alloc (.cells a.cs 50) = W0 := ⟨_, rfl⟩
  have hs0 : W0.heap.size = n0 + 1 := by rw [← hW0]; simp; omega
  rw [← hA] at hMay hBD hb0 hW0 hF0 HIL hobl ⊢
  rw [hW0] at hMay hb0 hF0
  obtain ⟨c, n, k, o, r, t, m, gd, l, its⟩ := a
  obtain ⟨la, lc, hl⟩ := hk.l.sl
  dsimp only at hl
  obtain ⟨N, hN⟩ : ∃ N : Nat, its.length = N := ⟨_, rfl⟩
  have hcs : A.cs = #[.int .i64 c, .int .i64 n, .int .i64 k, .int .i64 o, .int .i64 r, .int .i64 t, .int .i64 m, vS gd, .slice la N lc] := by rw [hA, hl, ← hN]; rfl
  rw [hcs] at hMay hb0 hW0 ⊢
  have hfacts : Hid (∀ W : World, W.heap[n0]? = some (.cells #[.int .i64 c, .int .i64 n, .int .i64 k, .int .i64 o, .int .i64 r, .int .i64 t, .int .i64 m, vS gd, .slice la N lc] 50) → W.cell? ⟨n0, 0, none⟩ = some (.int .i64 c) ∧ W.cell? ⟨n0, 1, none⟩ = some (.int .i64 n) ∧ W.cell? ⟨n0, 2, none⟩ = some (.int .i64 k) ∧ W.cell? ⟨n0, 3, none⟩ = some (.int .i64 o) ∧ W.cell? ⟨n0, 4, none⟩ = some (.int .i64 r) ∧ W.cell? ⟨n0, 5, none⟩ = some (.int .i64 t) ∧ W.cell? ⟨n0, 6, none⟩ = some (.int .i64 m) ∧ W.cell? ⟨n0, 7, none⟩ = some (vS gd) ∧ W.cell? ⟨n0, 8, none⟩ = some (.slice la N lc)) := Lib.hid (fun W hb =>
    ⟨cell_obj hb 0 _ rfl, cell_obj hb 1 _ rfl, cell_obj hb 2 _ rfl, cell_obj hb 3 _ rfl, cell_obj hb 4 _ rfl, cell_obj hb 5 _ rfl, cell_obj hb 6 _ rfl, cell_obj hb 7 _ rfl, cell_obj hb 8 _ rfl⟩)
  have HCS := Lib.hid hcs
  have HB0 := Lib.hid hb0; have HF0 := Lib.hid hF0; have HS := Lib.hid hn0; have HS0 := Lib.hid hs0
  have hbyt := Lib.hid (byt_body hBD.out)
  obtain ⟨p0, p1, p2, p3, p4, p5, p6, p7, p8⟩ := hfacts.out _ hb0
  clear hk hm hb0 hF0 hl hN hcs hs0 hA
  go_enter Tryz.func46, Tryz.ntmps46
  go_wp2_with (first
    | (go_at_call 50; refine hMay.out.mono ?_; rintro e w1 ⟨rfl, hf1⟩; have HF1 := Lib.hid hf1; clear hf1)
    | (go_at_call 62; refine (xMN _).mono ?_; rintro e w2 ⟨gm, TM, rfl, hM2, hT2, hf2⟩; have HM2 := Lib.hid hM2; have HT2 := Lib.hid hT2; have HF2 := Lib.hid (HF1.out.trans hf2); clear hM2 hT2 hf2; clear p0 p1 p2 p3 p4 p5 p6 p7 p8; obtain ⟨p0, p1, p2, p3, p4, p5, p6, p7, p8⟩ := hfacts.out _ (HF2.out.at_ HB0.out (fun h => h)))
    | (go_at_call 63; rw [← HCS.out]; refine (kPut _ gm TM [] A HM2.out (by simp) (HIL.out.fr (HF0.out.trans HF2.out) (fun _ h => h.elim)) (fun hne b hb e => by have := HT2.out b e; have := hobl.out hne b hb; have := HF1.out.size; have := HS.out; have := HS0.out; omega) hBD.out).mono ?_; rintro e w3 ⟨⟨v3, rfl⟩, TS3, hM3, hs3⟩; have HM3 := Lib.hid hM3; have HS3 := Lib.hid hs3; clear hM3 hs3)
    | (go_at_call 64; refine (cMDone _ gm TS3 _ false HM3.out (by rw [List.nil_append]; exact hbyt.out)).mono ?_; rintro e w4 ⟨hb4, v4, rfl, ho4⟩; rw [List.nil_append] at ho4; have HB4 := Lib.hid hb4; have HO4 := Lib.hid ho4; clear hb4 ho4))
  go_ret
  have h3 : Fr (fun b => n0 + 1 ≤ b) W0 w3 := by
    have hz := HF1.out.size
    have h0 := HS0.out
    exact (HF2.out.mono (fun _ _ e => e.elim)).trans' HS3.out.1 (fun b hb e => by have := HT2.out b e; omega)
  have h4 : Fr (fun b => n0 + 1 ≤ b) W0 w4 := h3.trans' (Fr.below (S := fun _ => False) HB4.out) (fun _ _ e => e.elim)
  refine ⟨v4, rfl, ownsRow_base_a HO4.out (by have := h3.size; have := HS.out; have := HS0.out; omega), HF0.out.trans' h4 (fun b hb e => by have := HS.out; omega)⟩
end Go.Proofs.YtbeikkkmobbnkaaGreat
