/- The document's cells (entrepotref01): Maker. -/
import Derived.Test.YtbeikkkmobbnkaaGreatModMoreM18
namespace Go.Proofs.YtbeikkkmobbnkaaGreat
open Go.RowKit Go.Maps
/-- The document's maker at g, whose row lies from block B on. -/
structure RK (w : World) (g B : Nat) (s : List Int × Bool) : Prop where
  ex : ∃ v, w.heap[g]? = some (.cells #[v, .bool s.2] 90) ∧ w.ownsRow B 5 1 v s.1.length (u8s s.1) ∧ ∀ b, v.ownBlock = some b → b ≠ g
  low : B ≤ g
  len : (s.1.length : Int) ≤ 262144
theorem RK.fr {S : Nat → Prop} {w w' : World} {g B : Nat} {s : List Int × Bool} (h : RK w g B s) (hf : Fr S w w') (hS : ∀ b, B ≤ b → ¬ S b) : RK w' g B s := by
  obtain ⟨⟨v, h1, h2, h3⟩, h5, h6⟩ := h
  refine ⟨⟨v, hf.at_ h1 (hS _ h5), hf.row h2 (fun b hb => hS _ ?_), h3⟩, h5, h6⟩
  rcases h2.2 with ⟨rfl, _⟩ | ⟨g', c, cur, rfl, hb', _⟩
  · cases hb
  · cases hb; exact hb'
theorem RK.lt {w : World} {g B : Nat} {s : List Int × Bool} (h : RK w g B s) : g < w.heap.size := by
  obtain ⟨⟨v, h1, -⟩, -⟩ := h
  exact (Array.getElem?_eq_some_iff.1 h1).1
theorem RK.new (w : World) : RK (w.alloc (.cells #[.slice none 0 0, .bool false] 90)) w.heap.size w.heap.size ([], false) :=
  ⟨⟨_, heap_new _ _, World.ownsRow_nil _ _ _ _, fun b hb => by cases hb⟩, Nat.le_refl _, by simp⟩
def mkQ (s : List Int × Bool) (c : List Int) : List Int × Bool := (putB s.1 s.2 c, putL s.1 s.2 c)
set_option maxRecDepth 100000 in
set_option maxHeartbeats 1000000 in
theorem rPut (w : World) (g B : Nat) (s : List Int × Bool) (v : Value) (c : List Int) (h : RK w g B s) (hv : Bs w v c) (hc : (c.length : Int) ≤ 1099511627776) (hB : B ≤ w.heap.size) :
    Calls Tryz.prog 82 #[.pointer (some ⟨g, 0, none⟩), v] w fun e w' => (∃ v, e = .returned v) ∧ RK w' g B (mkQ s c) ∧ Fr (fun b => b = g) w w' := by
  obtain ⟨i0, hi', hz0, hz1, hz2⟩ := info_parts infoU8
  obtain ⟨bs, long⟩ := s
  have HH := Lib.hid h; have HV := Lib.hid hv
  obtain ⟨⟨mv, h1, h2, h3⟩, hlow, hlen⟩ := h
  dsimp only at h1 h2 hlen
  obtain ⟨am, cm, rfl⟩ := row_sl h2
  obtain ⟨_, a, cc, rfl, hcc⟩ := hv
  have hcR : Hid (Rd w 1 a c.length (u8s c)) := Lib.hid ⟨by simp [u8s], fun hp => by
    obtain ⟨x0, hx0⟩ : ∃ x0, c[0]? = some x0 := ⟨c[0], List.getElem?_eq_getElem hp⟩
    obtain ⟨_, _, ad, rfl, _⟩ := hcc 0 x0 hx0
    refine ⟨ad, rfl, fun j u hu => ?_⟩
    simp only [u8s, List.getElem?_map, Option.map_eq_some_iff] at hu
    obtain ⟨x, hx, rfl⟩ := hu
    obtain ⟨_, _, ad', e, hcl⟩ := hcc j x hx
    cases e
    exact hcl⟩
  have b0 := cell_obj h1 0 (.slice am bs.length cm) rfl
  have b1 := cell_obj h1 1 (.bool long) rfl
  have f1 := obj_frozen h1 1
  have f0 := obj_frozen h1 0
  have HO := Lib.hid h1; have HR := Lib.hid h2; have HG := Lib.hid h3
  obtain ⟨n, hn⟩ : ∃ n, bs.length = n := ⟨_, rfl⟩
  obtain ⟨k, hk⟩ : ∃ k, c.length = k := ⟨_, rfl⟩
  have HN := Lib.hid hn; have HK := Lib.hid hk
  rw [hn] at b0 HO HR hlen HG
  rw [hk] at hc hcR ⊢
  have hF1 : Hid (Fr (fun b => b = g) w (w.setCell ⟨g, 1, none⟩ (.bool true))) := Lib.hid ((Fr.refl (fun b => b = g) w).setCell (p := ⟨g, 1, none⟩) (fun _ => rfl) _)
  have hglt : g < w.heap.size := (Array.getElem?_eq_some_iff.1 h1).1
  clear h1 h2 h3 hcc hn hk
  cases long with
  | true =>
    have e : mkQ (bs, true) c = (bs, true) := by simp [mkQ, putB, putL]
    have HE := Lib.hid e
    clear e b0
    go_enter Tryz.func82, Tryz.ntmps82
    go_wp2
    refine bodyPost_ret (results_none rfl _ _ _) rfl ?_
    rw [HE.out]
    refine ⟨⟨_, rfl⟩, ⟨⟨_, obj_set HO.out 1 (.bool true), ?_, HG.out⟩, hlow, by show (bs.length : Int) ≤ _; rw [HN.out]; exact hlen⟩, hF1.out⟩
    show World.ownsRow _ _ _ _ _ bs.length _
    rw [HN.out]
    exact hF1.out.row HR.out (fun b hb => HG.out b hb)
  | false =>
    by_cases hov : 262144 < n + k
    · have e : mkQ (bs, false) c = (bs, true) := by simp [mkQ, putB, putL, HN.out, HK.out, hov]
      have HE := Lib.hid e
      clear e
      go_enter Tryz.func82, Tryz.ntmps82
      go_wp2
      refine bodyPost_ret (results_none rfl _ _ _) rfl ?_
      rw [HE.out]
      refine ⟨⟨_, rfl⟩, ⟨⟨_, obj_set HO.out 1 (.bool true), ?_, HG.out⟩, hlow, by show (bs.length : Int) ≤ _; rw [HN.out]; exact hlen⟩, hF1.out⟩
      show World.ownsRow _ _ _ _ _ bs.length _
      rw [HN.out]
      exact hF1.out.row HR.out (fun b hb => HG.out b hb)
    · have e : mkQ (bs, false) c = (bs ++ c, false) := by simp [mkQ, putB, putL, HN.out, HK.out, hov]
      have HE := Lib.hid e
      clear e hF1
      go_enter Tryz.func82, Tryz.ntmps82
      have hbs1 : ∀ u ∈ u8s bs, u.oneCell' = true := by intro u hu; simp [u8s] at hu; obtain ⟨x, _, rfl⟩ := hu; rfl
      have hcs1 : ∀ u ∈ u8s c, u.oneCell' = true := by intro u hu; simp [u8s] at hu; obtain ⟨x, _, rfl⟩ := hu; rfl
      have HB1 := Lib.hid hbs1; have HC1 := Lib.hid hcs1
      clear hbs1 hcs1
      go_wp2_with (first
        | (at_builtin; refine wpList_append_src rfl (.tmp 23) _ 72 rfl B 5 i0 (.int .u8 0) 1 Tryz.underlying72 hi' hz0 hz1 hz2 rfl (by decide) (.slice (some ⟨w.heap.size, 0, none⟩) 0 0) 0 [] rfl (own_new #[] hB (by simp)) cm rfl ((Rd.own HR.out).fr ((Fr.refl (fun _ => False) w).alloc (.cells #[] 5)) (fun _ _ h => h)) HB1.out (by unfold maxLen; omega) (by omega) (by simp; omega) ?_; intro v1 w1 hown1 hgrow1 hloc1; simp only [Nat.zero_add, List.nil_append] at hown1; obtain ⟨a1, c1, rfl⟩ := row_sl hown1; have hF1 : Hid (Fr (fun _ => False) w w1) := Lib.hid (((Fr.refl (fun _ => False) w).alloc (.cells #[] 5)).trans' (Fr.grown (S := fun b => b = w.heap.size) hgrow1 (fun r hr _ => by cases hr; rfl)) (fun b hb e => by omega)); have hL1 := Lib.hid hloc1; have hO1 := Lib.hid hown1; have hs1 := hF1.out.size; have hcell1 := hF1.out.at_ HO.out (fun h => h); have fr0 := obj_frozen hcell1 0; have ce0 := cell_obj hcell1 0 (.slice am n cm) rfl; clear hcell1 hown1 hgrow1 hloc1)
        | (at_builtin; refine wpList_append_src rfl (.tmp 28) _ 72 rfl B 5 i0 (.int .u8 0) 1 Tryz.underlying72 hi' hz0 hz1 hz2 rfl (by decide) (.slice a1 n c1) n (u8s bs) rfl hO1.out cc rfl (hcR.out.fr hF1.out (fun _ _ h => h)) HC1.out (by unfold maxLen; omega) (by omega) (by omega) ?_; intro v2 w2 hown2 hgrow2 hloc2; obtain ⟨a2, c2, rfl⟩ := row_sl hown2; have hF2 : Hid (Fr (fun _ => False) w w2) := Lib.hid (hF1.out.trans' (Fr.grown (S := fun b => w.heap.size ≤ b) hgrow2 (fun r hr _ => by rcases hL1.out with e | e; (rw [e] at hr; cases hr; exact Nat.le_refl _); (rw [e] at hr; cases hr; simp))) (fun b hb e => by omega)); have hL2 : Hid (∀ b, (Value.slice a2 (n + k) c2).ownBlock = some b → w.heap.size ≤ b) := Lib.hid (by intro b hb; rcases hloc2 with e | e; (rw [e] at hb; rcases hL1.out with e | e; (rw [e] at hb; cases hb; exact Nat.le_refl _); (rw [e] at hb; cases hb; simp)); (rw [e] at hb; cases hb; exact hs1)); have hO2 := Lib.hid hown2; have hcell2 := hF2.out.at_ HO.out (fun h => h); have fr0 := obj_frozen hcell2 0; have ce0 := cell_obj hcell2 0 (.slice am n cm) rfl; clear hcell2 hown2 hgrow2 hloc2))
      go_end0
      rw [HE.out]
      have hF3 : Fr (fun b => b = g) w2 (w2.setCell ⟨g, 0, none⟩ (.slice a2 (n + k) c2)) := (Fr.refl (fun b => b = g) w2).setCell (p := ⟨g, 0, none⟩) (fun _ => rfl) _
      have hl : (bs ++ c).length = n + k := by rw [List.length_append, HN.out, HK.out]
      refine ⟨⟨_, rfl⟩, ⟨⟨_, obj_set (hF2.out.at_ HO.out (fun h => h)) 0 (.slice a2 (n + k) c2), ?_, fun b hb => by have := hL2.out b hb; omega⟩, hlow, by show ((bs ++ c).length : Int) ≤ _; rw [hl]; omega⟩, (hF2.out.mono (fun _ _ e => e.elim)).trans hF3⟩
      show World.ownsRow _ _ _ _ _ (bs ++ c).length (u8s (bs ++ c))
      rw [hl, show u8s (bs ++ c) = u8s bs ++ u8s c by simp [u8s]]
      exact hF3.row hO2.out (fun b hb => by have := hL2.out b hb; omega)
set_option maxRecDepth 100000 in
theorem rMNum (w : World) (g B : Nat) (s : List Int × Bool) (n : Int) (h : RK w g B s) (hn : okI n) (hB : B ≤ w.heap.size) :
    Calls Tryz.prog 55 #[.pointer (some ⟨g, 0, none⟩), .int .i64 n] w fun e w' => (∃ v, e = .returned v) ∧ RK w' g B (mkQ s (numB n)) ∧ Fr (fun b => b = g) w w' := by
  have HH := Lib.hid h; have HN := Lib.hid hn; have hg := h.lt
  clear h hn
  go_enter Tryz.func55, Tryz.ntmps55
  go_wp2_with fail
  refine (rNum w n HN.out).mono ?_
  rintro e w1 ⟨v, rfl, hv, hb⟩
  have HV := Lib.hid hv.1; have HB := Lib.hid hb
  have hs := hb.size
  clear hv hb
  go_wp2_with fail
  refine (rPut w1 g B s v (numB n) (HH.out.fr (Fr.below (S := fun _ => False) HB.out) (fun _ _ h => h)) HV.out (by have := (numB_len HN.out).2; omega) (by omega)).mono ?_
  rintro e w2 ⟨⟨v2, rfl⟩, hk, hf⟩
  have HK := Lib.hid hk; have HF := Lib.hid hf
  clear hk hf
  go_wp2_with fail
  go_end0
  exact ⟨⟨_, rfl⟩, HK.out, (Fr.below HB.out).trans' HF.out (fun b _ e => e)⟩
end Go.Proofs.YtbeikkkmobbnkaaGreat
