/- Texts of this claim, joined: entrepotref06: May; items: Of, Total; entrepotref10: Has, has; entrepotref09.May; entrepotref06.Of; A law: it returns true, and leaves all that was there. What is common to all laws of this seat; Arguments opened to cells: structs of ints by value, slices of structs of ints; Arguments of whatever structs, opened to their leaves: structs and arrays laid flat; what a leaf is; Slices of structs, whatever they hold: each element's cells, and what else holds of it; Arguments: strings, slices of items, opened; Slices of requests, opened; entrepotref10.May (written by wip/tools/md10c.py); ask.Order; model.right: the requests that may be; entrepotref25: Right, Group, Order; A region that draws its order, whose operations only read and whose calls may lay blocks, within a round of a range over a function: one walk in the text's order serves (the library's theorem on quiet regions asks for no round). -/
import Derived.Test.YtbeikkkmobbnkaaGreatModMoreM1
import Derived.Shelf.Abstract
import Derived.ProofKit
import Derived.OpenShut
import Derived.SizedLaws
import Derived.Below
import Derived.Lib.SmallJoins
import Derived.Deep.Slices
import Derived.Deep.Fields
import Derived.ChangeSame
import Derived.Deep.DeepCutAuto
import Derived.Sort.QuietIn
namespace Go.Proofs.YtbeikkkmobbnkaaGreat
open Go.RowKit Go.Maps
theorem calls_q {P : Program} {f : FuncId} {args : Array Value} {w : World} {n : Nat} {v : Value} (h : Calls P f args (w.drewN n) fun e w' => e = .returned v ∧ w.drewN n = w') :
    Calls P f args (w.drewN n) fun e w'' => e = .returned v ∧ ∃ m, w'' = w.drewN m := h.mono fun _ _ ⟨he, hm⟩ => ⟨he, n, hm.symm⟩
/-- The good ahead of place k; nothing ahead of the first. -/
def lastOf (L : Its) : Nat → Str
  | 0 => []
  | k + 1 => (L[k]?.map (·.1)).getD []
theorem itsOk_at {L : Its} {k : Nat} {p : Str × Int} (last : Str) (hp : L[k]? = some p) : itsOk last (L.drop k) = (goodB p.1 && decide (1 ≤ p.2) && mayI p.2 && decide (last < p.1) && itsOk p.1 (L.drop (k + 1))) := by
  have : L.drop k = p :: L.drop (k + 1) := by
    rw [List.drop_eq_getElem_cons (List.getElem?_eq_some_iff.1 hp).1]
    rw [(List.getElem?_eq_some_iff.1 hp).2]
  rw [this]; rfl
set_option maxRecDepth 100000 in
set_option maxHeartbeats 8000000 in
theorem r6May (w : World) (v : Value) (L : Its) (hL : Il w v L) : Calls Tryz.prog 69 #[v] w fun e w' => e = .returned (.bool (mayL L)) ∧ ∃ n, w' = w.drewN n := by
  obtain ⟨G, hG⟩ : ∃ G, mayL L = G := ⟨_, rfl⟩
  rw [hG]
  have HG := Lib.hid hG
  clear hG
  obtain ⟨a, c, rfl⟩ := hL.sl
  obtain ⟨n, hn⟩ : ∃ n, L.length = n := ⟨_, rfl⟩
  have hnI : (n : Int) ≤ 9223372036854775807 := by have := hL.1; omega
  have HL := Lib.hid hL; have HN := Lib.hid hn
  rw [hn] at HL ⊢
  clear hL hn
  go_enter Tryz.func69, Tryz.ntmps69
  go_wp2_with fail
  go_loopw [3] (fun i wr => ∃ k e : Nat, k ≤ n ∧ i = .int .i64 k ∧ wr = w.drewN e ∧ itsOk [] L = itsOk (lastOf L k) (L.drop k)) (fun i _ => n - (intOf i).toNat)
  case atStart => exact ⟨0, 0, Nat.zero_le _, rfl, rfl, rfl⟩
  case round =>
    obtain ⟨k, e, hk, rfl, hwr, hall⟩ := hrel
    have HW := Lib.hid hwr; have HALL := Lib.hid hall
    have hLr : Il wr (.slice a n c) L := by rw [hwr]; exact HL.out.fr ((Fr.refl (fun _ => False) w).drewN e) (fun _ h => h.elim)
    clear hwr hall
    by_cases hlt : k < n
    · obtain ⟨p, hp⟩ : ∃ p, L[k]? = some p := ⟨L[k]'(by rw [HN.out]; exact hlt), List.getElem?_eq_getElem _⟩
      obtain ⟨ad, rfl, ok1, ok2, p0, p1⟩ := hLr.at_ hp
      have hstep := itsOk_at (lastOf L k) hp
      have hnext : lastOf L (k + 1) = p.1 := by show (L[k]?.map (·.1)).getD [] = _; rw [hp]; rfl
      have hltI : (k : Int) < n := by omega
      have hbad : ∀ b, (goodB p.1 && decide (1 ≤ p.2) && mayI p.2 && decide (lastOf L k < p.1)) = b → b = false → G = false := fun b hb h => by
        rw [← HG.out]
        unfold mayL
        rw [HALL.out, hstep, hb, h]; rfl
      have hgo : (goodB p.1 && decide (1 ≤ p.2) && mayI p.2 && decide (lastOf L k < p.1)) = true → itsOk [] L = itsOk (lastOf L (k + 1)) (L.drop (k + 1)) := fun hb => by
        rw [HALL.out, hstep, hb, hnext]; rfl
      have HBAD := Lib.hid hbad; have HGO := Lib.hid hgo
      clear hbad hgo hstep hnext
      obtain ⟨g, x⟩ := p
      dsimp only at p0 p1 ok1 ok2 HBAD HGO
      have hGd := r6Good
      have HGd := Lib.hid (fun W => r6Good W g ok1)
      have HMy := Lib.hid (fun W => r5May W x)
      clear hGd
      cases h1 : goodB g with
      | false =>
        rw [h1] at HGd HBAD
        have hg := Lib.hid (HBAD.out _ rfl rfl)
        clear h1
        go_wp2_with fail
        go_big_quiet ((go_at_call 68; exact calls_q (HGd.out _)))
        go_wp2_with fail
        go_ret
        exact ⟨by rw [hg.out]; rfl, _, by rw [HW.out, World.drewN_drewN]⟩
      | true =>
        rw [h1] at HGd HBAD HGO
        have hpos := good_pos h1
        have HPOS := Lib.hid hpos
        clear h1 hpos
        by_cases h2 : x < 1
        · have hd2 : decide (x < 1) = true := decide_eq_true h2
          have hg := Lib.hid (HBAD.out _ rfl (by simp; omega))
          go_wp2_with fail
          go_big_quiet ((go_at_call 68; exact calls_q (HGd.out _)))
          go_wp2_with fail
          go_ret
          exact ⟨by rw [hg.out]; rfl, _, by rw [HW.out, World.drewN_drewN]⟩
        · have hd2 : decide (x < 1) = false := decide_eq_false h2
          cases h3 : mayI x with
          | false =>
            rw [h3] at HMy HBAD
            have hg := Lib.hid (HBAD.out _ rfl (by simp))
            clear h3
            go_wp2_with fail
            go_big_quiet (first | (go_at_call 68; exact calls_q (HGd.out _)) | (go_at_call 70; exact calls_q (HMy.out _)))
            go_wp2_with fail
            go_ret
            exact ⟨by rw [hg.out]; rfl, _, by rw [HW.out, World.drewN_drewN]⟩
          | true =>
            rw [h3] at HMy HBAD HGO
            clear h3
            have hx1 : (decide (1 ≤ x)) = true := by simp; omega
            rw [hx1] at HBAD HGO
            clear hx1
            rcases Nat.eq_zero_or_pos k with h0 | h0
            · have H0 := Lib.hid h0
              have hd3 : decide (0 < k) = false := decide_eq_false (by omega)
              rw [h0] at HGO
              clear h0
              have hy := Lib.hid (HGO.out (by show (true && true && true && decide (([] : Str) < g)) = true; rw [decide_eq_true HPOS.out]; rfl))
              go_wp2_with fail
              go_big_quiet (first | (go_at_call 68; exact calls_q (HGd.out _)) | (go_at_call 70; exact calls_q (HMy.out _)))
              go_wp2_with fail
              go_roundw
              case rel => exact ⟨k + 1, _, by omega, by go_num, (by rw [HW.out, World.drewN_drewN]), by rw [H0.out]; exact hy.out⟩
              case measure => simp [intOf]; omega
            · obtain ⟨j, hj⟩ : ∃ j, k = j + 1 := ⟨k - 1, by omega⟩
              obtain ⟨⟨g', x'⟩, hp'⟩ : ∃ p, L[j]? = some p := ⟨L[j]'(by rw [HN.out]; omega), List.getElem?_eq_getElem _⟩
              obtain ⟨ad', had, -, -, r0, -⟩ := hLr.at_ hp'
              obtain rfl := Option.some.inj had
              have hlast : lastOf L k = g' := by rw [hj]; show (L[j]?.map (·.1)).getD [] = _; rw [hp']; rfl
              rw [hlast] at HBAD HGO
              dsimp only at r0
              clear hp' had hlast hLr
              have hd3 : decide (0 < k) = true := decide_eq_true (by omega)
              have hsub : (k : Int) - 1 = (j : Int) := by omega
              have HJ := Lib.hid hj
              have hjn : (j : Int) < n := by omega
              clear hj h0
              by_cases hlg : g' < g
              · have hy := Lib.hid (HGO.out (by simp [hlg]))
                have q1 : Op.bytesLess g' g = true := by rw [bytesLess_eq]; simpa using hlg
                clear hlg
                go_wp2_with fail
                go_big_quiet (first | (go_at_call 68; exact calls_q (HGd.out _)) | (go_at_call 70; exact calls_q (HMy.out _)))
                go_wp2_with fail
                go_roundw
                case rel => exact ⟨k + 1, _, by omega, by go_num, (by rw [HW.out, World.drewN_drewN]), hy.out⟩
                case measure => simp [intOf]; omega
              · have hg := Lib.hid (HBAD.out _ rfl (by simp [hlg]))
                have q1 : Op.bytesLess g' g = false := by rw [bytesLess_eq]; simpa using hlg
                clear hlg
                go_wp2_with fail
                go_big_quiet (first | (go_at_call 68; exact calls_q (HGd.out _)) | (go_at_call 70; exact calls_q (HMy.out _)))
                go_wp2_with fail
                go_ret
                exact ⟨by rw [hg.out]; rfl, _, by rw [HW.out, World.drewN_drewN]⟩
    · obtain rfl : k = n := by omega
      have hg : Hid (G = decide (k ≤ 16)) := Lib.hid (by
        rw [← HG.out]
        unfold mayL
        rw [HALL.out, List.drop_eq_nil_of_le (by rw [HN.out]; exact Nat.le_refl _), HN.out]; rfl)
      by_cases h : k ≤ 16
      · have hI : (k : Int) ≤ 16 := by omega
        go_wp2_with fail
        go_ret
        exact ⟨by rw [hg.out, decide_eq_true h]; rfl, _, HW.out⟩
      · have hI : ¬ (k : Int) ≤ 16 := by omega
        go_wp2_with fail
        go_ret
        exact ⟨by rw [hg.out, decide_eq_false h]; rfl, _, HW.out⟩
end Go.Proofs.YtbeikkkmobbnkaaGreat
namespace Go.Proofs.YtbeikkkmobbnkaaGreat
open Go.RowKit Go.Maps
attribute [local go_sem] Oper.semAt_some
/-- Two blocks of cells of the call's own, and all else that was there is as it was. -/
structure Tw (w0 w : World) (n0 : Nat) (c0 : Array Value) (t0 : TypeId) (c1 : Array Value) (t1 : TypeId) : Prop where
  a : w.heap[n0]? = some (.cells c0 t0)
  b : w.heap[n0 + 1]? = some (.cells c1 t1)
  fr : Fr (fun b => n0 ≤ b) w0 w
section
variable {w0 w w' : World} {n0 B : Nat} {c0 c1 : Array Value} {t0 t1 : TypeId}
theorem Tw.fa (h : Tw w0 w n0 c0 t0 c1 t1) (hf : Fa B w w') (hB : w0.heap.size ≤ B) : Tw w0 w' n0 c0 t0 c1 t1 :=
  ⟨Fa.cells hf h.a, Fa.cells hf h.b, h.fr.trans' hf (fun b hb e => by have := e.1; omega)⟩
theorem Tw.keep (h : Tw w0 w n0 c0 t0 c1 t1) (hf : Fr (fun _ => False) w w') : Tw w0 w' n0 c0 t0 c1 t1 :=
  ⟨hf.at_ h.a (fun h => h), hf.at_ h.b (fun h => h), h.fr.trans' hf (fun _ _ e => e.elim)⟩
theorem Tw.put (h : Tw w0 w n0 c0 t0 c1 t1) (j : Nat) (u : Value) : Tw w0 (w.setCell ⟨n0 + 1, j, none⟩ u) n0 c0 t0 (c1.setIfInBounds j u) t1 := by
  have hF : Fr (fun b => b = n0 + 1) w (w.setCell ⟨n0 + 1, j, none⟩ u) := (Fr.refl (fun b => b = n0 + 1) w).setCell (p := ⟨n0 + 1, j, none⟩) (fun _ => rfl) _
  exact ⟨hF.at_ h.a (by omega), obj_set h.b j _, h.fr.trans' hF (fun b _ e => by omega)⟩
end
/-- How many of a good. -/
def ofStep (s : Str) (a : Int) (p : Str × Int) : Int := if p.1 = s then wrap64 (a + p.2) else a
def ofF (L : Its) (s : Str) : Int := L.foldl (ofStep s) 0
theorem ofF_take {L : Its} {k : Nat} {p : Str × Int} (s : Str) (h : L[k]? = some p) : ofF (L.take (k + 1)) s = ofStep s (ofF (L.take k) s) p := by
  unfold ofF
  rw [List.take_add_one, h, List.foldl_append]
  rfl
def totF (L : Its) : Int := L.foldl (fun a p => wrap64 (a + p.2)) 0
theorem totF_take {L : Its} {k : Nat} {p : Str × Int} (h : L[k]? = some p) : totF (L.take (k + 1)) = wrap64 (totF (L.take k) + p.2) := by
  unfold totF
  rw [List.take_add_one, h, List.foldl_append]
  rfl
set_option maxRecDepth 100000 in
set_option maxHeartbeats 8000000 in
theorem iOf (w : World) (v : Value) (L : Its) (s : Str) (h : Il w v L) : Calls Tryz.prog 43 #[v, vS s] w fun e w' => e = .returned (.int .i64 (ofF L s)) ∧ Fr (fun _ => False) w w' := by
  obtain ⟨n0, hn0⟩ : ∃ n0, w.heap.size = n0 := ⟨_, rfl⟩
  have HS := Lib.hid hn0
  have HL := Lib.hid h
  have HOB := Lib.hid h.lt
  obtain ⟨a, c, rfl⟩ := h.sl
  obtain ⟨N, hN⟩ : ∃ N, L.length = N := ⟨_, rfl⟩
  have HN := Lib.hid hN
  rw [hN] at HL HOB ⊢
  clear h hN
  refine (callsIn_wide (n := 0)).1 ?_
  refine callsIn_of_wp_marks Tryz.func43 rfl trivial ?_ rfl
  simp only [Tryz.ntmps43, List.size_toArray, List.length_cons, List.length_nil, Nat.reduceAdd, Nat.reduceSub, Array.replicate_succ, Array.replicate_zero, List.push_toArray, List.append_toArray, List.nil_append, List.cons_append]
  have hfn : ∀ f, Fence.wide.fn f := fun _ => trivial
  have hdp : Fence.wide.depth.isSome = false := rfl
  gi_wp2_with (gi_at_call 32; refine (callsIn_wide.2 (iAll _ _ _ _)).mono ?_; rintro e w1 ⟨rfl, rfl⟩)
  have hI0 : Tw w (((w.alloc (.cells #[vS s] 9)).alloc (.cells #[.int .i64 0] 3)).alloc (.cells #[.slice a N c] 46)) n0 #[vS s] 9 #[.int .i64 0] 3 := by
    refine ⟨heap_keep (heap_keep (heap_at hn0.symm _) _) _, heap_keep (heap_at (by simp; omega) _) _, (((Fr.refl _ w).alloc _).alloc _).alloc _⟩
  have hB0 : Boxed (((w.alloc (.cells #[vS s] 9)).alloc (.cells #[.int .i64 0] 3)).alloc (.cells #[.slice a N c] 46)) (n0 + 2) 46 (.slice a N c) := heap_at (by simp; omega) _
  obtain ⟨W0, hW0⟩ : ∃ W0, (((w.alloc (.cells #[vS s] 9)).alloc (.cells #[.int .i64 0] 3)).alloc (.cells #[.slice a N c] 46)) = W0 := ⟨_, rfl⟩
  have hs0 : W0.heap.size = n0 + 3 := by rw [← hW0]; simp; omega
  rw [hW0] at hI0 hB0 ⊢
  have hL0 := HL.out.fr hI0.fr (fun b hb => by omega)
  have HI0 := Lib.hid hI0; have HS0 := Lib.hid hs0
  clear hW0 hI0
  refine rangeX (w0 := W0) (X := L) (S := fun b => b = n0 + 1) rfl (enters_of Tryz.func51 (by kernel_rfl) rfl)
    (iAll1 _ W0 (n0 + 2) _ L hB0 hL0 (by omega) (fun hl b hb e => by have := HOB.out hl b e; omega)) (Below.refl _ _) (fun b hb => by omega) (fun _ => rfl)
    (fun k _ W => Tw w W n0 #[vS s] 9 #[.int .i64 (ofF (L.take k) s)] 3) (fun _ _ _ _ => False)
    (fun k C W W' hs hf => hs.fa hf (by omega)) (fun c k C W W' hs hf => hs)
    HI0.out ?round ?done ?stop
  case round =>
    rintro lp k x C W hx hlp hi hr
    dsimp only [encIt]
    gi_wp2
    refine Took.mk (Fr.refl _ _) hi ?_
    rintro Wb hM hrb hf hsz hsw hCC _
    have HT := Lib.hid (ofF_take s hx)
    obtain ⟨A, hA⟩ : ∃ A, ofF (L.take k) s = A := ⟨_, rfl⟩
    rw [hA] at hM HT
    obtain ⟨g, n⟩ := x
    have HM := Lib.hid hM
    have c0 := cell_obj hM.a 0 (vS s) rfl
    have c1 := cell_obj hM.b 0 (.int .i64 A) rfl
    have f1 := obj_frozen hM.b 0
    clear hM hi hr hf hrb hx hA
    by_cases hg : g = s
    · have q1 : (g == s) = true := by simpa using hg
      have HG := Lib.hid hg
      clear hg
      gi_wp2_with fail
      refine ⟨(Fr.refl _ _).setCell (p := ⟨n0 + 1, 0, none⟩) (fun _ => .inl rfl) _, ?_⟩
      dsimp only
      rw [HT.out]
      unfold ofStep
      rw [if_pos HG.out]
      exact HM.out.put 0 _
    · have q1 : (g == s) = false := by simpa using hg
      have HG := Lib.hid hg
      clear hg
      gi_wp2_with fail
      refine ⟨Fr.refl _ _, ?_⟩
      dsimp only
      rw [HT.out]
      unfold ofStep
      rw [if_neg HG.out]
      exact HM.out
  case stop =>
    rintro D c k C W hD hk hF hr hK
    exact hF.elim
  case done =>
    rintro D C W hD hM hr hK
    have HE : Hid (ofF (L.take L.length) s = ofF L s) := Lib.hid (by rw [List.take_length])
    rw [HE.out] at hM
    have HM := Lib.hid hM; have HK := Lib.hid hK
    have c1 := cell_obj hM.b 0 (.int .i64 (ofF L s)) rfl
    clear hM hr hK
    gi_wp2_with fail
    refine ⟨by simp, .inl ⟨_, _, rfl, run_takeDeferred HK.out, ?_⟩⟩
    refine ⟨.int .i64 (ofF L s), by simp [results, Tryz.results43, go_sem], rfl, ?_⟩
    exact (HM.out.fr.putObj (l := D) (fun _ => by omega) _).mono (fun b hb e => by omega)
end Go.Proofs.YtbeikkkmobbnkaaGreat
namespace Go.Proofs.YtbeikkkmobbnkaaGreat
open Go.RowKit Go.Maps
set_option maxHeartbeats 2000000 in
theorem r10Has (w : World) (k : Int) : Calls Tryz.prog 65 #[.int .i64 k] w fun e w' => e = .returned (vS (fldF k)) ∧ Fr (fun _ => False) w w' := by
  by_cases hk : 0 ≤ k ∧ k ≤ 11
  · rcases (by omega : k = 0 ∨ k = 1 ∨ k = 2 ∨ k = 3 ∨ k = 4 ∨ k = 5 ∨ k = 6 ∨ k = 7 ∨ k = 8 ∨ k = 9 ∨ k = 10 ∨ k = 11) with rfl | rfl | rfl | rfl | rfl | rfl | rfl | rfl | rfl | rfl | rfl | rfl
    all_goals
      clear hk
      go_enter Tryz.func65, Tryz.ntmps65
      go_wp2
      go_ret
      exact ⟨rfl, (Fr.refl _ _).alloc _⟩
  · rw [fldF_no (by omega)]
    by_cases h0 : k < 0
    · clear hk
      go_enter Tryz.func65, Tryz.ntmps65
      go_wp2
      go_ret
      exact ⟨rfl, (Fr.refl _ _).alloc _⟩
    · have h1 : 12 ≤ k := by omega
      clear hk
      go_enter Tryz.func65, Tryz.ntmps65
      go_wp2
      go_ret
      exact ⟨rfl, (Fr.refl _ _).alloc _⟩
theorem fldF_len (k : Int) : (fldF k).length ≤ 3 := by
  by_cases hk : 1 ≤ k ∧ k ≤ 11
  · rcases (by omega : k = 1 ∨ k = 2 ∨ k = 3 ∨ k = 4 ∨ k = 5 ∨ k = 6 ∨ k = 7 ∨ k = 8 ∨ k = 9 ∨ k = 10 ∨ k = 11) with rfl | rfl | rfl | rfl | rfl | rfl | rfl | rfl | rfl | rfl | rfl <;> decide
  · rw [fldF_no (by omega)]; simp
set_option maxRecDepth 100000 in
set_option maxHeartbeats 2000000 in
theorem r10has (w : World) (k : Int) (c : UInt8) : Calls Tryz.prog 67 #[.int .i64 k, .int .u8 c.toNat] w fun e w' => e = .returned (.bool (hasF k c)) ∧ Fr (fun _ => False) w w' := by
  obtain ⟨F, hF⟩ : ∃ F, fldF k = F := ⟨_, rfl⟩
  obtain ⟨G, hG⟩ : ∃ G, hasF k c = G := ⟨_, rfl⟩
  have hl := fldF_len k
  have hH := r10Has w k
  rw [hF] at hH hl
  rw [hG]
  have HG : Hid (G = F.contains c) := Lib.hid (by rw [← hG, ← hF]; rfl)
  have HH := Lib.hid hH
  obtain ⟨B, hB⟩ : ∃ B, ByteArray.mk F.toArray = B := ⟨_, rfl⟩
  have hsz : Hid (B.size = F.length) := Lib.hid (by rw [← hB]; simp [ByteArray.size])
  have hge : Hid (∀ i (h : i < B.size) (h' : i < F.length), B[i]'h = F[i]'h') := Lib.hid (by subst hB; exact fun i h h' => rfl)
  have hszI : (B.size : Int) ≤ 3 := by have := hsz.out; omega
  unfold vS at HH
  rw [hB] at HH
  have HK := Lib.hid (⟨hF, hl⟩ : fldF k = F ∧ F.length ≤ 3)
  clear hF hG hl hH hB
  go_enter Tryz.func67, Tryz.ntmps67
  go_wp2_with (go_at_call 65; refine HH.out.mono ?_; rintro e w1 ⟨rfl, hf1⟩; have HF1 := Lib.hid hf1; clear hf1)
  go_loop [6] (fun i => ∃ j : Nat, j ≤ B.size ∧ i = .int .i64 j ∧ ∀ q, q < j → F[q]? ≠ some c) (fun i => B.size - (intOf i).toNat)
  case atStart => exact ⟨0, Nat.zero_le _, rfl, fun q hq => by omega⟩
  case round =>
    obtain ⟨j, hj, rfl, hno⟩ := hrel
    have HNO := Lib.hid hno
    clear hno
    by_cases hlt : j < B.size
    · have hjl : j < F.length := by rw [← hsz.out]; exact hlt
      have hb := hge.out j hlt hjl
      have HJ := Lib.hid hjl
      by_cases hc : F[j]'HJ.out = c
      · have hbt : ((((B[j]'hlt).toNat : Int)) == (c.toNat : Int)) = true := by rw [hb, hc]; simp
        have HY : Hid (G = true) := Lib.hid (by rw [HG.out]; simp only [List.contains_iff_mem]; rw [← hc]; exact List.getElem_mem _)
        clear hb hc
        go_wp2_with fail
        go_ret
        exact ⟨by rw [HY.out]; rfl, HF1.out⟩
      · have hbt : ((((B[j]'hlt).toNat : Int)) == (c.toNat : Int)) = false := by
          rw [hb]; simp; intro e; exact hc (by first | exact e | exact UInt8.toNat_inj.1 (by omega))
        have HC := Lib.hid hc
        clear hb hc
        go_wp2_with fail
        go_round
        case rel =>
          refine ⟨j + 1, by omega, by go_num, fun q hq => ?_⟩
          by_cases e : q = j
          · subst e
            rw [List.getElem?_eq_getElem HJ.out]
            simpa using HC.out
          · exact HNO.out q (by omega)
        case measure => simp [intOf]; omega
    · have HY : Hid (G = false) := Lib.hid (by
        rw [HG.out, Bool.eq_false_iff]
        intro hm
        simp only [List.contains_iff_mem] at hm
        obtain ⟨q, hq⟩ := List.getElem?_of_mem hm
        have := (List.getElem?_eq_some_iff.1 hq).1
        exact HNO.out q (by have := hsz.out; omega) hq)
      go_wp2_with fail
      go_ret
      exact ⟨by rw [HY.out]; rfl, HF1.out⟩
theorem r9MayB (w : World) (c n : Int) : Calls Tryz.prog 66 #[.int .i64 c, .int .i64 n] w fun e w' => e = .returned (.bool (wiB c 0 63 && wiB n 1 4294967296)) ∧ w = w' := by
  unfold wiB
  by_cases h1 : 0 ≤ c <;> by_cases h2 : c ≤ 63 <;> by_cases h3 : 1 ≤ n <;> by_cases h4 : n ≤ 4294967296
  all_goals
    have h5 : decide (c < 64) = decide (c ≤ 63) := by rw [Bool.eq_iff_iff]; simp; omega
    simp only [h1, h2, h3, h4, decide_true, decide_false, Bool.and_true, Bool.and_false] at h5 ⊢
    go_enter Tryz.func66, Tryz.ntmps66
    go_wp2
    go_ret
    exact ⟨rfl, rfl⟩
set_option maxRecDepth 100000 in
set_option maxHeartbeats 2000000 in
theorem r6Of (w : World) (v : Value) (L : Its) (s : Str) (h : Il w v L) : Calls Tryz.prog 48 #[v, vS s] w fun e w' => e = .returned (.int .i64 (ofF L s)) ∧ w = w' := by
  obtain ⟨a, c, rfl⟩ := h.sl
  obtain ⟨N, hN⟩ : ∃ N, L.length = N := ⟨_, rfl⟩
  have hNb : (N : Int) ≤ 9223372036854775807 := by have := h.1; omega
  have HL := Lib.hid h; have HN := Lib.hid hN
  rw [hN] at HL ⊢
  clear h hN
  go_enter Tryz.func48, Tryz.ntmps48
  go_wp2_with fail
  go_loop [5, 6] (fun n i => ∃ k : Nat, k ≤ N ∧ i = .int .i64 k ∧ n = .int .i64 (ofF (L.take k) s)) (fun _ i => N - (intOf i).toNat)
  case atStart => exact ⟨0, Nat.zero_le _, rfl, rfl⟩
  case round =>
    obtain ⟨k, hk, rfl, rfl⟩ := hrel
    by_cases hlt : k < N
    · obtain ⟨p, hp⟩ : ∃ p, L[k]? = some p := ⟨L[k]'(by rw [HN.out]; exact hlt), List.getElem?_eq_getElem _⟩
      obtain ⟨ad, rfl, -, -, x0, x1⟩ := HL.out.at_ hp
      have hlI : (k : Int) < N := by omega
      have HS := Lib.hid (ofF_take s hp)
      obtain ⟨A, hA⟩ : ∃ A, ofF (L.take k) s = A := ⟨_, rfl⟩
      rw [hA] at HS ⊢
      obtain ⟨g, n⟩ := p
      dsimp only at x0 x1
      clear hp hA
      by_cases hg : g = s
      · have q1 : (g == s) = true := by simpa using hg
        have HG := Lib.hid hg
        clear hg
        go_wp2_with fail
        go_round
        case rel => exact ⟨k + 1, by omega, by go_num, by rw [HS.out]; unfold ofStep; rw [if_pos HG.out]⟩
        case measure => simp [intOf]; omega
      · have q1 : (g == s) = false := by simpa using hg
        have HG := Lib.hid hg
        clear hg
        go_wp2_with fail
        go_round
        case rel => exact ⟨k + 1, by omega, by go_num, by rw [HS.out]; unfold ofStep; rw [if_neg HG.out]⟩
        case measure => simp [intOf]; omega
    · obtain rfl : k = N := by omega
      have HE : Hid (ofF (L.take k) s = ofF L s) := Lib.hid (by rw [List.take_of_length_le (by rw [HN.out]; exact Nat.le_refl _)])
      go_wp2_with fail
      go_ret
      exact ⟨by rw [HE.out]; rfl, rfl⟩
end Go.Proofs.YtbeikkkmobbnkaaGreat
namespace Go.Proofs.YtbeikkkmobbnkaaGreat
open Go.ChangeShapes Go.WideShapes Go.ChangeAt Go.RowKit
theorem own : ownKnob Tryz.prog.godebug = none := by kernel_rfl
theorem laidOut : laidOutB Tryz.prog = true := by kernel_rfl
section
variable {H : Type} {enc : TypeId × Value → H} {P : Program}
theorem trodAll_below {W W' : World} (hl : laidOutB P = true) (hb : Below W.heap.size W W') : ∀ {ts : List TypeId} {vs : List Value} {ds : List (DataW H)} {ps : List MemPlace} {sp : Nat → Bool},
    (∀ t ∈ ts, (P.readableRec t && decide (t < P.types.size)) = true) → DataW.TrodAll enc P W 0 (fun _ => true) true ts vs ds ps → (∀ p ∈ ps, p.block < W.heap.size) → (∀ p ∈ ps, sp p.block = true) →
    DataW.TrodAll enc P W' 0 sp true ts vs ds ps
  | [], vs, ds, ps, sp, _, h, _, _ => by
    cases vs <;> cases ds <;> exact h
  | t :: ts, vs, ds, ps, sp, hr, h, hlt, hsp => by
    obtain ⟨v, vs', d, ds', p, q, rfl, rfl, rfl, h1, h2⟩ := trodAll_cons h
    have ht := hr t (by simp)
    simp only [Bool.and_eq_true, decide_eq_true_eq] at ht
    exact ⟨p, q, WideElems.Trod_stays hl ht.1 ht.2 h1 (fun x hx => hb.same (hlt x (by simp [hx]))) (fun x hx => hsp x (by simp [hx])),
      trodAll_below hl hb (fun t ht => hr t (by simp [ht])) h2 (fun x hx => hlt x (by simp [hx])) (fun x hx => hsp x (by simp [hx])), rfl⟩
/-- The row's last step for a law, whatever its parameters. -/
theorem law_post {f : Func} {s : ChangeSpec} {W W' : World} {args : Array Value} {ds gs : List (DataW H)} {before : List MemPlace} {tb : TypeId}
    (hl : laidOutB P = true) (hread : (f.params.toList.all fun t => P.readableRec t && decide (t < P.types.size)) = true) (hr : f.resultTypes = #[tb]) (htb : P.underlying tb = some .bool)
    (hW : DataW.Whole enc P f.params.toList s.vars false W args.toList ds gs before) (hvars : s.vars = []) (hfn : s.fn H ds = { results := [.lit (.bool true)], args := ds })
    (hb : Below W.heap.size W W') : s.post enc P f false true false false W args (.bool true) W' := by
  have hlt : ∀ p ∈ before, p.block < W.heap.size := fun p hp => hW.lt p hp
  have hW' := hW
  obtain ⟨p, q, hA, hV, he, hz, hn⟩ := hW
  rw [hvars] at hV
  obtain ⟨rfl, rfl⟩ := trodVars_none hV
  rw [List.append_nil] at he
  subst he
  have e1 : s.fn H (ds ++ []) = { results := [.lit (.bool true)], args := ds } := by rw [List.append_nil]; exact hfn
  refine ⟨ds, [], before, [], before, [], hW', ?_, ?_, ?_, World.keptBut_mono (fun x hx => ⟨hx, .inr (.inl hx)⟩) (hb.frame (· ∈ before)), fun h => by cases h⟩
  · rw [e1, hr]
    exact trodAll_cons_mk (shut_bool htb true) trodAll_mk0
  · rw [e1]
    exact trodAll_below hl hb (List.all_eq_true.1 hread) hA hlt (fun x hx => by simpa using hlt x hx)
  · rw [e1, hvars]
    exact rfl
end
end Go.Proofs.YtbeikkkmobbnkaaGreat
namespace Go.Proofs.YtbeikkkmobbnkaaGreat
open Go.Joins Go.ChangeShapes Go.WideShapes Go.RowKit Go.Deep
section
variable {H : Type} {enc : TypeId × Value → H} {P : Program} {w : World} {base : Nat} {spare : Nat → Bool} {held : Bool}
theorem open_ops3 {ti : TypeId} {r : Reach} {b0 : Nat} {t : TypeId} {f0 f1 f2 : Field} {v : Value} {d : DataW H} {p : List MemPlace} (hs : P.underlying t = some (.struct #[f0, f1, f2])) (ti1 : P.underlying ti = some (.int .i64)) (hf : f0.type = ti ∧ f1.type = ti ∧ f2.type = ti)
    (hone : oneCellFields P #[f0, f1, f2] = true) (hC : P.cellsOf t = 3)
    (hv : Value.okWide P w r b0 t v) (h : DataW.Trod enc P w base spare held t v d p) : ∃ a b c, v = .agg #[.int .i64 a, .int .i64 b, .int .i64 c] ∧ okI a ∧ okI b ∧ okI c := by
  obtain ⟨v0, v1, v2, y0, y1, y2, n, rfl, -, -, h0, h1, h2⟩ := open_agg3 hs hone hC hv h
  obtain ⟨e0, e1, e2⟩ := hf
  rw [e0] at h0; rw [e1] at h1; rw [e2] at h2
  obtain ⟨a, ha, -, wa⟩ := DataW.trod_int ti1 h0
  obtain ⟨b, hb, -, wb⟩ := DataW.trod_int ti1 h1
  obtain ⟨c, hc, -, wc⟩ := DataW.trod_int ti1 h2
  injection ha with ha _; injection hb with hb _; injection hc with hc _
  subst ha hb hc
  exact ⟨a, b, c, rfl, wf_okI.1 wa, wf_okI.1 wb, wf_okI.1 wc⟩
theorem open_slice_fields {t e : TypeId} {fs : Array Field} {fuel : Nat} {cs : List Value} {x : DataW H × List MemPlace} (ht : P.underlying t = some (.slice e)) (he : P.underlying e = some (.struct fs))
    (hone : oneCellFields P fs = true) (hC : P.cellsOf e = fs.size) (h : DataW.trod enc P w base spare held fuel t cs = some x) :
    (cs = [.slice none 0 0] ∧ x = (.nil, [])) ∨
    ∃ (a : Addr) (len cap m : Nat) (D : Nat → DataW H) (Pl : Nat → List MemPlace), cs = [.slice (some a) len cap] ∧ base ≤ a.block ∧ len ≤ cap ∧ cap ≤ maxLen ∧ m = (if spare a.block then cap else len) ∧
      x = (.slice ((List.range len).map D) ((List.range (m - len)).map fun j => D (len + j)), MemPlace.row a (m * fs.size) ++ (List.range m).flatMap Pl) ∧
      ∀ i, i < m → ∃ (ys : List (DataW H × List MemPlace)) (n : Nat), D i = .agg (ys.map (·.1)) ∧ Pl i = ys.flatMap (·.2) ∧ ys.length = fs.size ∧
        ∀ (j : Nat) (f : Field), fs[j]? = some f → ∃ (v : Value) (y : DataW H × List MemPlace), w.cell? (a.add (i * fs.size + j)) = some v ∧ ys[j]? = some y ∧ DataW.trod enc P w base spare held n f.type [v] = some y := by
  rcases open_slice ht h with h0 | ⟨a, len, cap, m, n, D, Pl, hcs, hb, hl, hm, hmm, hx, hi⟩
  · exact .inl h0
  · refine .inr ⟨a, len, cap, m, D, Pl, hcs, hb, hl, hm, hmm, by rw [hC] at hx; exact hx, fun i him => ?_⟩
    obtain ⟨cs', hc, ht'⟩ := hi i him
    rw [hC] at hc
    obtain ⟨ys, n', hn', hy, hlen, hyl, hf⟩ := DataW.trod_struct he ht'
    obtain ⟨_, hcl, hat⟩ := World.cells?_some hc
    simp only [Prod.mk.injEq] at hy
    refine ⟨ys, n', hy.1, hy.2, hyl, fun j f hj => ?_⟩
    obtain ⟨ho, hk⟩ := hone_of hone j f hj
    have hjl : j < fs.size := (Array.getElem?_eq_some_iff.1 hj).1
    have hcell := hat j hjl
    have hv : cs'[j]? = some (cs'[j]'(by omega)) := List.getElem?_eq_getElem (by omega)
    have h1 := hf j f hj
    rw [ho, hk] at h1
    have hone' : (cs'.drop j).take 1 = [cs'[j]'(by omega)] := by
      rw [List.drop_eq_getElem_cons (by omega)]
      rfl
    rw [hone'] at h1
    have hys : ys[j]? = some (ys[j]'(by omega)) := List.getElem?_eq_getElem (by omega)
    refine ⟨_, _, ?_, hys, h1.trans hys⟩
    rw [← Go.Deep.add_add, hcell, hv]
/-- A slice of structs of k ints: its cells, row by row. -/
def SlI (w : World) (v : Value) (k : Nat) (L : List (List Int)) : Prop :=
  (v = .slice none 0 0 ∧ L = []) ∨ ∃ (a : Addr) (cap : Nat), v = .slice (some a) L.length cap ∧ L.length ≤ cap ∧ cap ≤ maxLen ∧
    ∀ i r, L[i]? = some r → r.length = k ∧ (∀ x ∈ r, okI x) ∧ ∀ (j : Nat) (x : Int), r[j]? = some x → w.cell? (a.add (i * k + j)) = some (.int .i64 x)
theorem open_slI {ti : TypeId} {r : Reach} {b0 : Nat} {t e : TypeId} {fs : Array Field} {v : Value} {d : DataW H} {p : List MemPlace} (ht : P.underlying t = some (.slice e)) (he : P.underlying e = some (.struct fs))
    (ti1 : P.underlying ti = some (.int .i64)) (hf0 : (fs.toList.all fun f => decide (f.type = ti)) = true) (hone : oneCellFields P fs = true) (hC : P.cellsOf e = fs.size)
    (hv : Value.okWide P w r b0 t v) (h : DataW.Trod enc P w base spare held t v d p) : ∃ L, SlI w v fs.size L := by
  have hf : ∀ (j : Nat) (f : Field), fs[j]? = some f → f.type = ti := fun j f h => by simpa using List.all_eq_true.1 hf0 f (by have := Array.mem_of_getElem? h; simpa using this)
  obtain ⟨fuel, h⟩ := h
  have hvs : ∃ a l c, v = .slice a l c := okWide_slice ht hv
  obtain ⟨a0, l0, c0, rfl⟩ := hvs
  rcases open_slice_fields ht he hone hC h with ⟨h0, _⟩ | ⟨a, len, cap, m, D, Pl, hcs, hb, hl, hm, hmm, hx, hi⟩
  · have h0' : Value.slice a0 l0 c0 = .slice none 0 0 := by simpa [Value.cells] using h0
    exact ⟨[], .inl ⟨h0', rfl⟩⟩
  · have h0' : Value.slice a0 l0 c0 = .slice (some a) len cap := by simpa [Value.cells] using hcs
    have hlm : len ≤ m := by rw [hmm]; split <;> omega
    have key : ∀ i, i < len → ∃ r : List Int, r.length = fs.size ∧ (∀ x ∈ r, okI x) ∧ ∀ (j : Nat) (x : Int), r[j]? = some x → w.cell? (a.add (i * fs.size + j)) = some (.int .i64 x) := by
      intro i hil
      obtain ⟨ys, n, -, -, -, hcell⟩ := hi i (by omega)
      have hone1 : ∀ j, j < fs.size → ∃ x, okI x ∧ w.cell? (a.add (i * fs.size + j)) = some (.int .i64 x) := by
        intro j hj
        obtain ⟨v, y, hc, -, hy⟩ := hcell j fs[j] (by simp [hj])
        rw [hf j fs[j] (by simp [hj])] at hy
        obtain ⟨x, hx, -, wx⟩ := DataW.trod_int ti1 hy
        injection hx with hx _
        subst hx
        exact ⟨x, wf_okI.1 wx, hc⟩
      obtain ⟨X, hX⟩ := choose_lt (α := Int) (p := fun j x => okI x ∧ w.cell? (a.add (i * fs.size + j)) = some (.int .i64 x)) hone1
      refine ⟨(List.range fs.size).map X, by simp, ?_, ?_⟩
      · intro x hx
        obtain ⟨j, hj, rfl⟩ := List.mem_map.1 hx
        exact (hX j (by simpa using hj)).1
      · intro j x hx
        rw [List.getElem?_map] at hx
        obtain ⟨j', hj', rfl⟩ := Option.map_eq_some_iff.1 hx
        obtain ⟨hlt, hj2⟩ := List.getElem?_eq_some_iff.1 hj'
        rw [List.getElem_range] at hj2
        subst hj2
        exact (hX j (by simpa using hlt)).2
    obtain ⟨R, hR⟩ := choose_lt (α := List Int) (p := fun i r => r.length = fs.size ∧ (∀ x ∈ r, okI x) ∧ ∀ (j : Nat) (x : Int), r[j]? = some x → w.cell? (a.add (i * fs.size + j)) = some (.int .i64 x)) key
    have h0' := h0'
    injection h0' with e1 e2 e3
    subst e1 e2 e3
    refine ⟨(List.range l0).map R, .inr ⟨a, c0, by simp, by simpa using hl, hm, ?_⟩⟩
    intro i r hr
    rw [List.getElem?_map] at hr
    obtain ⟨i', hi', rfl⟩ := Option.map_eq_some_iff.1 hr
    obtain ⟨hlt, hj2⟩ := List.getElem?_eq_some_iff.1 hi'
    rw [List.getElem_range] at hj2
    subst hj2
    exact hR i (by simpa using hlt)
theorem SlI.len {v : Value} {k : Nat} {L : List (List Int)} (h : SlI w v k L) : L.length ≤ maxLen ∧ ∃ a c, v = .slice a L.length c := by
  rcases h with ⟨rfl, rfl⟩ | ⟨a, cap, rfl, h1, h2, -⟩
  · exact ⟨Nat.zero_le _, _, _, rfl⟩
  · exact ⟨by omega, _, _, rfl⟩
theorem add_field (a : Addr) (n j : Nat) : a.add (n + (j + 1)) = ⟨(a.add n).block, (a.add n).off + (j + 1), none⟩ := by
  rw [← Go.Deep.add_add]; rfl
theorem SlI.some {a0 : Option Addr} {n c k i : Nat} {L : List (List Int)} {r : List Int} (h : SlI w (.slice a0 n c) k L) (hr : L[i]? = .some r) : ∃ a, a0 = .some a := by
  rcases h with ⟨_, rfl⟩ | ⟨a, cap, e, _⟩
  · simp at hr
  · injection e with e1 _ _
    exact ⟨a, e1⟩
theorem SlI.row {a : Addr} {n c k i : Nat} {L : List (List Int)} {r : List Int} (h : SlI w (.slice (.some a) n c) k L) (hr : L[i]? = .some r) : r.length = k ∧ (∀ x ∈ r, okI x) ∧
    (∀ x, r[0]? = .some x → w.cell? (a.add (i * k)) = .some (.int .i64 x)) ∧ ∀ (j : Nat) (x : Int), r[j + 1]? = .some x → w.cell? ⟨(a.add (i * k)).block, (a.add (i * k)).off + (j + 1), none⟩ = .some (.int .i64 x) := by
  rcases h with ⟨_, rfl⟩ | ⟨a', cap, e, _, _, h3⟩
  · simp at hr
  · injection e with e1 _ _
    injection e1 with e1
    subst e1
    obtain ⟨g1, g2, g3⟩ := h3 i r hr
    exact ⟨g1, g2, fun x hx => g3 0 x hx, fun j x hx => by rw [← add_field]; exact g3 (j + 1) x hx⟩
theorem SlI.below {w' : World} {v : Value} {k : Nat} {L : List (List Int)} (h : SlI w v k L) (hk : 0 < k) (hb : Below w.heap.size w w') : SlI w' v k L := by
  rcases h with ⟨rfl, rfl⟩ | ⟨a, cap, rfl, h1, h2, h3⟩
  · exact .inl ⟨rfl, rfl⟩
  · refine .inr ⟨a, cap, rfl, h1, h2, fun i r hr => ⟨(h3 i r hr).1, (h3 i r hr).2.1, fun j x hx => ?_⟩⟩
    have hc := (h3 i r hr).2.2 j x hx
    have hlt : (a.add (i * k + j)).block < w.heap.size := by
      refine Nat.lt_of_not_le fun hle => ?_
      simp [World.cell?, Array.getElem?_eq_none hle] at hc
    simp only [World.cell?, hb.block _ hlt] at hc ⊢
    exact hc
end
end Go.Proofs.YtbeikkkmobbnkaaGreat
namespace Go.Proofs.YtbeikkkmobbnkaaGreat
open Go.ChangeShapes Go.WideShapes Go.RowKit Go.Deep
/-- A type's leaves: structs and arrays laid flat. -/
def leaves (P : Program) : Nat → TypeId → List TypeId
  | 0, t => [t]
  | n + 1, t => match P.underlying t with
    | some (.struct fs) => fs.toList.flatMap fun f => leaves P n f.type
    | some (.array m e) => (List.range m).flatMap fun _ => leaves P n e
    | _ => [t]
def offsOk (P : Program) (n : Nat) : List Field → Nat → Bool
  | [], _ => true
  | f :: r, off => f.offset == off && P.cellsOf f.type == (leaves P n f.type).length && offsOk P n r (off + (leaves P n f.type).length)
def flatOk (P : Program) : Nat → TypeId → Bool
  | 0, t => P.cellsOf t == 1
  | n + 1, t => P.cellsOf t == (leaves P (n + 1) t).length && match P.underlying t with
    | some (.struct fs) => offsOk P n fs.toList 0 && fs.toList.all fun f => flatOk P n f.type
    | some (.array _ e) => P.cellsOf e == (leaves P n e).length && flatOk P n e
    | _ => true
section
variable {H : Type} {enc : TypeId × Value → H} {P : Program} {w : World} {base : Nat} {spare : Nat → Bool} {held : Bool}
/-- The leaves lie in these cells. -/
def Leafs (enc : TypeId × Value → H) (P : Program) (w : World) (base : Nat) (spare : Nat → Bool) (held : Bool) (ts : List TypeId) (cs : List Value) : Prop :=
  ∀ (j : Nat) (t : TypeId), ts[j]? = some t → ∃ (v : Value) (n : Nat) (y : DataW H × List MemPlace), cs[j]? = some v ∧ DataW.trod enc P w base spare held n t [v] = some y
theorem Leafs.nil {cs : List Value} : Leafs enc P w base spare held [] cs := fun j t h => by simp at h
theorem Leafs.append {ts us : List TypeId} {cs : List Value} (h : Leafs enc P w base spare held ts (cs.take ts.length)) (h' : Leafs enc P w base spare held us (cs.drop ts.length)) : Leafs enc P w base spare held (ts ++ us) cs := by
  intro j t hj
  by_cases hl : j < ts.length
  · rw [List.getElem?_append_left hl] at hj
    obtain ⟨v, n, y, h1, h2⟩ := h j t hj
    rw [List.getElem?_take, if_pos hl] at h1
    exact ⟨v, n, y, h1, h2⟩
  · rw [List.getElem?_append_right (by omega)] at hj
    obtain ⟨v, n, y, h1, h2⟩ := h' _ t hj
    rw [List.getElem?_drop, show ts.length + (j - ts.length) = j by omega] at h1
    exact ⟨v, n, y, h1, h2⟩
theorem leafs_fields {n : Nat} : ∀ {fs : List Field} {off : Nat} {cs : List Value}, offsOk P n fs off = true → (∀ f ∈ fs, Leafs enc P w base spare held (leaves P n f.type) ((cs.drop f.offset).take (P.cellsOf f.type))) →
    Leafs enc P w base spare held (fs.flatMap fun f => leaves P n f.type) (cs.drop off)
  | [], _, _, _, _ => Leafs.nil
  | f :: r, off, cs, h, hf => by
    simp only [offsOk, Bool.and_eq_true, beq_iff_eq] at h
    obtain ⟨⟨h1, h2⟩, h3⟩ := h
    simp only [List.flatMap_cons]
    refine Leafs.append ?_ ?_
    · have := hf f (by simp)
      rw [h1, h2] at this
      exact this
    · rw [List.drop_drop]
      exact leafs_fields h3 (fun g hg => hf g (by simp [hg]))
theorem leafs_array {n : Nat} {e : TypeId} (he : P.cellsOf e = (leaves P n e).length) : ∀ {m k : Nat} {cs : List Value}, (∀ i, i < m → Leafs enc P w base spare held (leaves P n e) ((cs.drop ((k + i) * P.cellsOf e)).take (P.cellsOf e))) →
    Leafs enc P w base spare held ((List.range m).flatMap fun _ => leaves P n e) (cs.drop (k * P.cellsOf e))
  | 0, _, _, _ => Leafs.nil
  | m + 1, k, cs, hf => by
    rw [List.range_succ_eq_map, List.flatMap_cons, List.flatMap_map]
    refine Leafs.append ?_ ?_
    · have := hf 0 (by omega)
      rw [Nat.add_zero, he] at this
      rw [he]; exact this
    · rw [List.drop_drop, ← he]
      have := leafs_array he (m := m) (k := k + 1) (cs := cs) (fun i hi => by have := hf (i + 1) (by omega); rw [show k + 1 + i = k + (i + 1) by omega]; exact this)
      rw [show (k + 1) * P.cellsOf e = k * P.cellsOf e + P.cellsOf e by rw [Nat.succ_mul]] at this
      exact this
theorem flat_len {α : Type} (l : List α) : ∀ m : Nat, ((List.range m).flatMap fun _ => l).length = m * l.length
  | 0 => by simp
  | m + 1 => by rw [List.range_succ, List.flatMap_append, List.length_append, flat_len l m, Nat.succ_mul]; simp
theorem leafs_one {t : TypeId} {fuel : Nat} {cs : List Value} {x : DataW H × List MemPlace} (hl : cs.length = 1) (h : DataW.trod enc P w base spare held fuel t cs = some x) : Leafs enc P w base spare held [t] cs := by
  intro j t' hj
  match j, hj with
  | 0, hj =>
    cases hj
    match cs, hl with
    | [v], _ => exact ⟨v, fuel, x, rfl, h⟩
/-- WHATEVER IS READ IS READ LEAF BY LEAF. -/
theorem leafs_of : ∀ {n : Nat} {t : TypeId} {fuel : Nat} {cs : List Value} {x : DataW H × List MemPlace}, flatOk P n t = true → cs.length = P.cellsOf t → DataW.trod enc P w base spare held fuel t cs = some x →
    Leafs enc P w base spare held (leaves P n t) cs
  | 0, t, fuel, cs, x, hok, hl, h => by
    simp only [flatOk, beq_iff_eq] at hok
    exact leafs_one (by rw [hl, hok]) h
  | n + 1, t, fuel, cs, x, hok, hl, h => by
    simp only [flatOk, Bool.and_eq_true, beq_iff_eq] at hok
    obtain ⟨hc, hok⟩ := hok
    unfold leaves at hc ⊢
    cases hu : P.underlying t with
    | none => 
      rw [hu] at hc
      exact leafs_one (by rw [hl, hc]; rfl) h
    | some u =>
      rw [hu] at hc hok
      cases u with
      | struct fs =>
        simp only [Bool.and_eq_true] at hok
        obtain ⟨xs, m, _, _, hlen, hxl, hf⟩ := DataW.trod_struct hu h
        have := leafs_fields (enc := enc) (w := w) (base := base) (spare := spare) (held := held) (cs := cs) hok.1 (fun f hfm => by
          obtain ⟨i, hi, hi2⟩ := List.getElem_of_mem hfm
          have h1 := hf i f (by simp at hi; rw [Array.getElem?_eq_getElem hi]; simpa using hi2)
          have hi' : i < xs.length := by simp at hi; omega
          rw [List.getElem?_eq_getElem hi'] at h1
          refine leafs_of (n := n) (List.all_eq_true.1 hok.2 f hfm) ?_ h1
          have hsz : ∀ (l : List Field) (off : Nat), offsOk P n l off = true → ∀ g ∈ l, off ≤ g.offset ∧ g.offset + P.cellsOf g.type ≤ off + (l.flatMap fun f => leaves P n f.type).length := by
            intro l
            induction l with
            | nil => intro _ _ g hg; cases hg
            | cons a r ih =>
              intro off ho g hg
              simp only [offsOk, Bool.and_eq_true, beq_iff_eq] at ho
              simp only [List.flatMap_cons, List.length_append]
              rcases List.mem_cons.1 hg with rfl | hg
              · omega
              · have := ih _ ho.2 g hg
                omega
          have := hsz _ _ hok.1 f hfm
          simp only at hc
          rw [List.length_take, List.length_drop]
          omega)
        simpa using this
      | array m e =>
        simp only [Bool.and_eq_true, beq_iff_eq] at hok
        obtain ⟨xs, k, _, _, hlen, hxl, hf⟩ := DataW.trod_array hu h
        have := leafs_array (enc := enc) (w := w) (base := base) (spare := spare) (held := held) (cs := cs) (m := m) (k := 0) hok.1 (fun i hi => by
          have h1 := hf i hi
          rw [List.getElem?_eq_getElem (by omega)] at h1
          rw [Nat.zero_add]
          refine leafs_of (n := n) hok.2 ?_ h1
          rw [List.length_take, List.length_drop]
          have hcc : cs.length = m * P.cellsOf e := by
            rw [hl, hc, hok.1]
            exact flat_len _ _
          have : (i + 1) * P.cellsOf e ≤ m * P.cellsOf e := Nat.mul_le_mul_right _ hi
          rw [Nat.succ_mul] at this
          omega)
        simpa using this
      | _ => exact leafs_one (by rw [hl, hc]; rfl) h
/-- What a leaf is. -/
theorem leaf_int {t : TypeId} {k : IntKind} {n : Nat} {v : Value} {y : DataW H × List MemPlace} (ht : P.underlying t = some (.int k)) (h : DataW.trod enc P w base spare held n t [v] = some y) : ∃ x, v = .int k x ∧ (Lit.int k x).wf = true := by
  obtain ⟨x, e, _, hw⟩ := DataW.trod_int ht h
  injection e with e _
  exact ⟨x, e, hw⟩
theorem leaf_i64 {t : TypeId} {n : Nat} {v : Value} {y : DataW H × List MemPlace} (ht : P.underlying t = some (.int .i64)) (h : DataW.trod enc P w base spare held n t [v] = some y) : ∃ x, v = .int .i64 x ∧ okI x := by
  obtain ⟨x, e, hw⟩ := leaf_int ht h
  exact ⟨x, e, wf_okI.1 hw⟩
theorem leaf_bool {t : TypeId} {n : Nat} {v : Value} {y : DataW H × List MemPlace} (ht : P.underlying t = some .bool) (h : DataW.trod enc P w base spare held n t [v] = some y) : ∃ b, v = .bool b := by
  obtain ⟨x, e, _⟩ := DataW.trod_bool ht h
  injection e with e _
  exact ⟨x, e⟩
/-- A slice of whatever: its elements' leaves lie in cells. -/
def Sl (enc : TypeId × Value → H) (P : Program) (w : World) (base : Nat) (spare : Nat → Bool) (held : Bool) (ts : List TypeId) (v : Value) (n : Nat) : Prop :=
  n ≤ maxLen ∧ ((v = .slice none 0 0 ∧ n = 0) ∨ ∃ (a : Addr) (cap : Nat), v = .slice (some a) n cap ∧ n ≤ cap ∧ base ≤ a.block ∧ ∀ i, i < n → ∀ (j : Nat) (t : TypeId), ts[j]? = some t →
    ∃ (u : Value) (m : Nat) (y : DataW H × List MemPlace), w.cell? (a.add (i * ts.length + j)) = some u ∧ DataW.trod enc P w base spare held m t [u] = some y)
theorem leaf_slice {t e : TypeId} {d n : Nat} {v : Value} {y : DataW H × List MemPlace} (ht : P.underlying t = some (.slice e)) (hok : flatOk P d e = true) (hc : P.cellsOf e = (leaves P d e).length) (h : DataW.trod enc P w base spare held n t [v] = some y) :
    ∃ len, Sl enc P w base spare held (leaves P d e) v len := by
  rcases open_slice ht h with ⟨h0, _⟩ | ⟨a, len, cap, m, k, D, Pl, hcs, hb, hl, hm, hmm, _, hi⟩
  · injection h0 with h0 _
    exact ⟨0, Nat.zero_le _, .inl ⟨h0, rfl⟩⟩
  · injection hcs with hcs _
    refine ⟨len, by omega, .inr ⟨a, cap, hcs, hl, hb, fun i hil j tj hj => ?_⟩⟩
    have hlm : len ≤ m := by rw [hmm]; split <;> omega
    obtain ⟨cs', hcells, htr⟩ := hi i (by omega)
    obtain ⟨_, hlen, hcell⟩ := World.cells?_some hcells
    obtain ⟨u, m', y', h1, h2⟩ := leafs_of hok hlen htr j tj hj
    refine ⟨u, m', y', ?_, h2⟩
    have hjl : j < P.cellsOf e := by rw [hc]; exact (List.getElem?_eq_some_iff.1 hj).1
    rw [← hc, ← Go.Deep.add_add, hcell j hjl, h1]
theorem Sl.form {ts : List TypeId} {v : Value} {n : Nat} (h : Sl enc P w base spare held ts v n) : n ≤ maxLen ∧ ∃ a c, v = .slice a n c := by
  rcases h with ⟨h0, ⟨rfl, rfl⟩ | ⟨a, cap, rfl, -⟩⟩
  · exact ⟨h0, _, _, rfl⟩
  · exact ⟨h0, _, _, rfl⟩
end
end Go.Proofs.YtbeikkkmobbnkaaGreat
namespace Go.Proofs.YtbeikkkmobbnkaaGreat
open Go.ChangeShapes Go.WideShapes Go.RowKit Go.Maps
section
variable {α : Type} {k : Nat} {cs : α → Array Value} {ok : World → α → Prop}
/-- A slice of things of k cells: L. -/
def Sq (k : Nat) (cs : α → Array Value) (ok : World → α → Prop) (w : World) (v : Value) (L : List α) : Prop :=
  L.length ≤ maxLen ∧ ∃ a cap, v = .slice a L.length cap ∧ ∀ (i : Nat) (r : α), L[i]? = some r → ok w r ∧ ∃ ad, a = some ad ∧ ∀ (j : Nat) (u : Value), (cs r)[j]? = some u → w.cell? (ad.add (i * k + j)) = some u
/-- What holds of an element goes on to hold where nothing old is turned. -/
def Keeps (ok : World → α → Prop) : Prop := ∀ ⦃S : Nat → Prop⦄ ⦃w w' : World⦄ ⦃r : α⦄, ok w r → Fr S w w' → (∀ b, S b → w.heap.size ≤ b) → ok w' r
theorem keeps_true {p : α → Prop} : Keeps (fun _ => p) := fun _ _ _ _ h _ _ => h
theorem Sq.fr {S : Nat → Prop} {w w' : World} {v : Value} {L : List α} (hk : Keeps ok) (h : Sq k cs ok w v L) (hf : Fr S w w') (hS : ∀ b, S b → w.heap.size ≤ b) : Sq k cs ok w' v L := by
  obtain ⟨h0, a, cap, e, h1⟩ := h
  refine ⟨h0, a, cap, e, fun i r hr => ?_⟩
  obtain ⟨ho, ad, e2, hc⟩ := h1 i r hr
  refine ⟨hk ho hf hS, ad, e2, fun j u hu => ?_⟩
  have := hc j u hu
  exact hf.cell this (fun hs => by have := hS _ hs; have := World.block_lt_of_cell? w _ ‹w.cell? _ = _›; omega)
theorem Sq.fr0 {w w' : World} {v : Value} {L : List α} (hk : Keeps ok) (h : Sq k cs ok w v L) (hf : Fr (fun _ => False) w w') : Sq k cs ok w' v L := h.fr hk hf (fun _ h => h.elim)
theorem Sq.sl {w : World} {v : Value} {L : List α} (h : Sq k cs ok w v L) : ∃ a c, v = .slice a L.length c := by
  obtain ⟨_, a, c, e, _⟩ := h
  exact ⟨a, c, e⟩
theorem Sq.len {w : World} {v : Value} {L : List α} (h : Sq k cs ok w v L) : (L.length : Int) ≤ 9223372036854775807 := by
  have := h.1
  unfold maxLen at this
  omega
theorem Sq.okm {w : World} {v : Value} {L : List α} (h : Sq k cs ok w v L) {r : α} (hr : r ∈ L) : ok w r := by
  obtain ⟨i, hi⟩ := List.getElem?_of_mem hr
  obtain ⟨_, _, _, _, h1⟩ := h
  exact (h1 i r hi).1
theorem Sq.at_ {w : World} {a : Option Addr} {n c i : Nat} {L : List α} {r : α} (h : Sq k cs ok w (.slice a n c) L) (hr : L[i]? = some r) : ∃ ad, a = some ad ∧ ok w r ∧
    (∀ u, (cs r)[0]? = some u → w.cell? (ad.add (i * k)) = some u) ∧ ∀ (j : Nat) (u : Value), (cs r)[j + 1]? = some u → w.cell? ⟨(ad.add (i * k)).block, (ad.add (i * k)).off + (j + 1), none⟩ = some u := by
  obtain ⟨h0, a', cap, e, h1⟩ := h
  injection e with e1 _ _
  obtain ⟨ho, ad, e2, hc⟩ := h1 i r hr
  exact ⟨ad, e1.trans e2, ho, fun u hu => hc 0 u hu, fun j u hu => by rw [← add_field]; exact hc (j + 1) u hu⟩
theorem Sq.lt {w : World} {v : Value} {L : List α} (hcs : ∀ r, 0 < (cs r).size) (h : Sq k cs ok w v L) (hL : L ≠ []) : ∀ b, v.ownBlock = some b → b < w.heap.size := fun b hb => by
  obtain ⟨_, a, c, rfl, h1⟩ := h
  cases L with
  | nil => exact absurd rfl hL
  | cons p r =>
    obtain ⟨_, ad, rfl, hc⟩ := h1 0 p rfl
    have h2 := hc 0 _ (Array.getElem?_eq_getElem (hcs p))
    have := World.block_lt_of_cell? w _ h2
    have hb2 : (ad.add (0 * k + 0)).block = ad.block := by rw [Nat.zero_mul]; rfl
    rw [hb2] at this
    obtain rfl : ad.block = b := (by simpa [Value.ownBlock] using hb)
    exact this
theorem Sq.nil {w : World} {a : Option Addr} {c : Nat} : Sq k cs ok w (.slice a 0 c) [] := ⟨Nat.zero_le _, a, c, rfl, fun i r hr => by simp at hr⟩
/-- An element's cells in one list. -/
def flat (cs : α → Array Value) (L : List α) : List Value := L.flatMap fun r => (cs r).toList
theorem flat_app (L M : List α) : flat cs (L ++ M) = flat cs L ++ flat cs M := by simp [flat]
theorem flat_len1 (hcs : ∀ r, (cs r).size = k) (L : List α) : (flat cs L).length = L.length * k := by
  induction L with
  | nil => simp [flat]
  | cons q r ih =>
    have e : flat cs (q :: r) = (cs q).toList ++ flat cs r := by simp [flat]
    rw [e, List.length_append, ih, List.length_cons, Nat.succ_mul, Array.length_toList, hcs]; omega
theorem flat_at (hcs : ∀ r, (cs r).size = k) : ∀ {L : List α} {i : Nat} {r : α}, L[i]? = some r → ∀ (j : Nat) (u : Value), (cs r)[j]? = some u → (flat cs L)[i * k + j]? = some u
  | q :: L, 0, r, h, j, u, hu => by
    cases h
    have e : flat cs (q :: L) = (cs q).toList ++ flat cs L := by simp [flat]
    have hj := (Array.getElem?_eq_some_iff.1 hu).1
    rw [e, Nat.zero_mul, Nat.zero_add, List.getElem?_append_left (by simpa using hj)]
    simpa using hu
  | q :: L, i + 1, r, h, j, u, hu => by
    have e : flat cs (q :: L) = (cs q).toList ++ flat cs L := by simp [flat]
    have ih := flat_at hcs (L := L) (i := i) (r := r) (by simpa using h) j u hu
    have hl : (cs q).toList.length = k := by rw [Array.length_toList, hcs]
    rw [e, List.getElem?_append_right (by rw [hl, Nat.succ_mul]; omega), hl, Nat.succ_mul, show i * k + k + j - k = i * k + j by omega]
    exact ih
theorem flat_take (hcs : ∀ r, (cs r).size = k) (L : List α) (i : Nat) : flat cs (L.take i) = (flat cs L).take (i * k) := by
  induction L generalizing i with
  | nil => simp [flat]
  | cons q r ih =>
    cases i with
    | zero => simp [flat]
    | succ i =>
      have e : flat cs (q :: r) = (cs q).toList ++ flat cs r := by simp [flat]
      have e2 : flat cs (q :: r.take i) = (cs q).toList ++ flat cs (r.take i) := by simp [flat]
      have hl : (cs q).toList.length = k := by rw [Array.length_toList, hcs]
      rw [List.take_succ_cons, e, e2, ih, List.take_append, hl, List.take_of_length_le (l := (cs q).toList) (i := (i + 1) * k) (by rw [hl, Nat.succ_mul]; omega), Nat.succ_mul, show i * k + k - k = i * k by omega]
theorem flat_drop (hcs : ∀ r, (cs r).size = k) (L : List α) (i : Nat) : flat cs (L.drop i) = (flat cs L).drop (i * k) := by
  induction L generalizing i with
  | nil => simp [flat]
  | cons q r ih =>
    cases i with
    | zero => simp [flat]
    | succ i =>
      have e : flat cs (q :: r) = (cs q).toList ++ flat cs r := by simp [flat]
      have hl : (cs q).toList.length = k := by rw [Array.length_toList, hcs]
      have hn : (cs q).toList.drop ((i + 1) * k) = [] := List.drop_eq_nil_of_le (by rw [hl, Nat.succ_mul]; omega)
      rw [List.drop_succ_cons, e, ih, List.drop_append, hl, hn, List.nil_append, Nat.succ_mul, show i * k + k - k = i * k by omega]
theorem flat_one (h1 : ∀ (r : α) (u : Value), u ∈ cs r → u.oneCell' = true) {L : List α} : ∀ u ∈ flat cs L, u.oneCell' = true := by
  intro u hu
  simp only [flat, List.mem_flatMap] at hu
  obtain ⟨r, _, hr⟩ := hu
  exact h1 r u (by simpa using hr)
/-- A row of the call's own reads as a slice. -/
theorem Sq.own {w : World} {base : Nat} {e : TypeId} {v : Value} {L : List α} (hcs : ∀ r, (cs r).size = k) (h : w.ownsRow base e k v L.length (flat cs L)) (hL : ∀ p ∈ L, ok w p) : Sq k cs ok w v L := by
  rcases h.2 with ⟨rfl, h0⟩ | ⟨g, cap, cur, rfl, hbase, hb, hn, hm, hs, ht⟩
  · have : L = [] := List.eq_nil_of_length_eq_zero h0
    subst this
    exact Sq.nil
  · refine ⟨by unfold maxLen at *; omega, some ⟨g, 0, none⟩, cap, rfl, fun i p hp => ⟨hL p (List.mem_of_getElem? hp), _, rfl, fun j u hu => ?_⟩⟩
    have hi := (List.getElem?_eq_some_iff.1 hp).1
    have hj := (Array.getElem?_eq_some_iff.1 hu).1
    rw [hcs] at hj
    have hlt : i * k + j < L.length * k := by
      have : (i + 1) * k ≤ L.length * k := Nat.mul_le_mul_right _ hi
      rw [Nat.succ_mul] at this
      omega
    have h2 := h.cellAt (g := g) (j := i * k + j) (by first | exact hlt | (rw [flat_len1 hcs]; exact hlt))
    have e0 : (⟨g, 0, none⟩ : Addr).add (i * k + j) = ⟨g, i * k + j, none⟩ := by unfold Addr.add; split <;> simp_all
    rw [e0, h2]
    exact flat_at hcs hp j u hu
end
section
variable {α : Type} {k : Nat} {cs : α → Array Value} {ok : World → α → Prop}
variable {H : Type} {enc : TypeId × Value → H} {P : Program} {w : World} {base : Nat} {spare : Nat → Bool} {held : Bool}
/-- An argument: a slice of structs, opened by its elements' own opener. -/
theorem leaf_sq {t e : TypeId} {d n : Nat} {v : Value} {y : DataW H × List MemPlace} (ht : P.underlying t = some (.slice e)) (hok : flatOk P d e = true) (hc : P.cellsOf e = (leaves P d e).length) (hl : (leaves P d e).length = k)
    (hopen : ∀ (cell : Nat → Option Value), (∀ (j : Nat) (t : TypeId), (leaves P d e)[j]? = some t → ∃ (u : Value) (m : Nat) (y : DataW H × List MemPlace), cell j = some u ∧ DataW.trod enc P w base spare held m t [u] = some y) → ∃ r : α, ok w r ∧ ∀ (j : Nat) (u : Value), (cs r)[j]? = some u → cell j = some u)
    (h : DataW.trod enc P w base spare held n t [v] = some y) : ∃ L, Sq k cs ok w v L := by
  obtain ⟨len, hmax, hs⟩ := leaf_slice ht hok hc h
  rcases hs with ⟨e, rfl⟩ | ⟨a, cap, e, hle, hb, hi⟩
  · exact ⟨[], Nat.zero_le _, none, 0, e, fun i r hr => by simp at hr⟩
  · have key : ∀ i, i < len → ∃ r : α, ok w r ∧ ∀ (j : Nat) (u : Value), (cs r)[j]? = some u → w.cell? (a.add (i * k + j)) = some u := fun i hil =>
      hopen (fun j => w.cell? (a.add (i * k + j))) (fun j t ht => by have := hi i hil j t ht; rw [hl] at this; exact this)
    rcases Nat.eq_zero_or_pos len with rfl | hpos
    · exact ⟨[], Nat.zero_le _, some a, cap, by rw [e]; rfl, fun i r hr => by simp at hr⟩
    · obtain ⟨x0, _⟩ := key 0 hpos
      haveI : Inhabited α := ⟨x0⟩
      obtain ⟨X, hX⟩ := Go.Deep.choose_lt key
      refine ⟨(List.range len).map X, (by rw [List.length_map, List.length_range]; exact hmax), some a, cap, (by rw [e, List.length_map, List.length_range]), fun i r hr => ?_⟩
      rw [List.getElem?_map] at hr
      obtain ⟨i', hi', rfl⟩ := Option.map_eq_some_iff.1 hr
      obtain ⟨hlt, e⟩ := List.getElem?_eq_some_iff.1 hi'
      rw [List.getElem_range] at e
      subst e
      have := hX i (by simpa using hlt)
      exact ⟨this.1, a, rfl, this.2⟩
theorem open_sq {t e : TypeId} {d : Nat} {r : Reach} {b0 : Nat} {v : Value} {x : DataW H} {p : List MemPlace} (ht : P.underlying t = some (.slice e)) (hok : flatOk P d e = true) (hc : P.cellsOf e = (leaves P d e).length) (hl : (leaves P d e).length = k)
    (hopen : ∀ (cell : Nat → Option Value), (∀ (j : Nat) (t : TypeId), (leaves P d e)[j]? = some t → ∃ (u : Value) (m : Nat) (y : DataW H × List MemPlace), cell j = some u ∧ DataW.trod enc P w base spare held m t [u] = some y) → ∃ r : α, ok w r ∧ ∀ (j : Nat) (u : Value), (cs r)[j]? = some u → cell j = some u)
    (hv : Value.okWide P w r b0 t v) (h : DataW.Trod enc P w base spare held t v x p) : ∃ L, Sq k cs ok w v L := by
  obtain ⟨fuel, h⟩ := h
  obtain ⟨a0, l0, c0, rfl⟩ := okWide_slice ht hv
  exact leaf_sq ht hok hc hl hopen (n := fuel) (by simpa only [Value.cells] using h)
/-- An argument: a struct by value. -/
theorem open_one {t : TypeId} {d : Nat} {fs : Array Field} {r : Reach} {b0 : Nat} {v : Value} {x : DataW H} {p : List MemPlace} (ht : P.underlying t = some (.struct fs)) (hok : flatOk P d t = true) (hc : P.cellsOf t = k) (hl : ∀ r, (cs r).size = k)
    (hopen : ∀ (cell : Nat → Option Value), (∀ (j : Nat) (t' : TypeId), (leaves P d t)[j]? = some t' → ∃ (u : Value) (m : Nat) (y : DataW H × List MemPlace), cell j = some u ∧ DataW.trod enc P w base spare held m t' [u] = some y) → ∃ r : α, ok w r ∧ ∀ (j : Nat) (u : Value), (cs r)[j]? = some u → cell j = some u)
    (hv : Value.okWide P w r b0 t v) (h : DataW.Trod enc P w base spare held t v x p) : ∃ r : α, v = .agg (cs r) ∧ ok w r := by
  obtain ⟨fuel, h⟩ := h
  obtain ⟨cs', rfl, hsz⟩ := okWide_struct ht hv
  have hl2 := leafs_of (n := d) (t := t) hok (by rw [hc]; rw [hc] at hsz; simpa [Value.cells] using hsz) h
  obtain ⟨r, hr, hcell⟩ := hopen (fun j => (Value.agg cs').cells.toList[j]?) (fun j t ht => hl2 j t ht)
  refine ⟨r, ?_, hr⟩
  congr 1
  apply Array.ext
  · rw [hsz, hc, hl]
  · intro i h1 h2
    have := hcell i (cs r)[i] (by simp)
    simpa [Value.cells, h1] using this
end
end Go.Proofs.YtbeikkkmobbnkaaGreat
namespace Go.Proofs.YtbeikkkmobbnkaaGreat
open Go.ChangeShapes Go.WideShapes Go.RowKit Go.Maps
section
variable {H : Type} {enc : TypeId × Value → H} {w : World} {base : Nat} {spare : Nat → Bool} {held : Bool}
theorem leaf_str {P : Program} {t : TypeId} {n : Nat} {v : Value} {y : DataW H × List MemPlace} (ht : P.underlying t = some .string) (h : DataW.trod enc P w base spare held n t [v] = some y) : ∃ s : Str, v = vS s ∧ okS s := by
  obtain ⟨s, e, _, hs⟩ := DataW.trod_string ht h
  injection e with e _
  refine ⟨s.data.toList, e, ?_⟩
  unfold okS
  exact hs
set_option maxRecDepth 100000 in
theorem leaf_items {n : Nat} {v : Value} {y : DataW H × List MemPlace} (h : DataW.trod enc Tryz.prog w base spare held n 46 [v] = some y) : ∃ L, Il w v L := by
  obtain ⟨len, hmax, hs⟩ := leaf_slice (d := 1) Tryz.underlying46 (by kernel_rfl) (by kernel_rfl) h
  have hmax : len ≤ 9223372036854775807 := hmax
  rcases hs with ⟨rfl, rfl⟩ | ⟨a, cap, rfl, hl, hb, hi⟩
  · exact ⟨[], by simp, none, 0, rfl, fun i p hp => by simp at hp⟩
  · have key : ∀ i, i < len → ∃ p : Str × Int, okS p.1 ∧ okI p.2 ∧ w.cell? (a.add (i * 2)) = some (vS p.1) ∧ w.cell? ⟨(a.add (i * 2)).block, (a.add (i * 2)).off + 1, none⟩ = some (.int .i64 p.2) := fun i hil => by
      obtain ⟨u, m, y, hc, ht⟩ := hi i hil 0 9 (by kernel_rfl)
      obtain ⟨u', m', y', hc', ht'⟩ := hi i hil 1 3 (by kernel_rfl)
      obtain ⟨s, rfl, hs⟩ := leaf_str Tryz.underlying9 ht
      obtain ⟨x, rfl, hx⟩ := leaf_i64 Tryz.underlying3 ht'
      have e : (leaves Tryz.prog 1 52).length = 2 := by kernel_rfl
      rw [e] at hc hc'
      exact ⟨(s, x), hs, hx, hc, by rw [← add_field]; exact hc'⟩
    obtain ⟨X, hX⟩ := Go.Deep.choose_lt key
    refine ⟨(List.range len).map X, (by rw [List.length_map, List.length_range]; exact hmax), some a, cap, (by rw [List.length_map, List.length_range]), fun i p hp => ?_⟩
    rw [List.getElem?_map] at hp
    obtain ⟨i', hi', rfl⟩ := Option.map_eq_some_iff.1 hp
    obtain ⟨hlt, e⟩ := List.getElem?_eq_some_iff.1 hi'
    rw [List.getElem_range] at e
    subst e
    obtain ⟨x0, x1, x2, x3⟩ := hX i (by simpa using hlt)
    exact ⟨x0, x1, a, rfl, x2, x3⟩
set_option maxRecDepth 100000 in
theorem open_items {r : Reach} {b0 : Nat} {v : Value} {d : DataW H} {p : List MemPlace} (hv : Value.okWide Tryz.prog w r b0 46 v) (h : DataW.Trod enc Tryz.prog w base spare held 46 v d p) : ∃ L, Il w v L := by
  obtain ⟨fuel, h⟩ := h
  obtain ⟨a0, l0, c0, rfl⟩ := okWide_slice Tryz.underlying46 hv
  have h' := h
  simp only [Value.cells] at h'
  exact leaf_items (n := fuel) (v := .slice a0 l0 c0) h'
end
end Go.Proofs.YtbeikkkmobbnkaaGreat
namespace Go.Proofs.YtbeikkkmobbnkaaGreat
open Go.ChangeShapes Go.WideShapes Go.RowKit Go.Maps
/-- What holds of a request in memory. -/
structure AOk (w : World) (a : AV) : Prop where
  c : okI a.c
  n : okI a.n
  k : okI a.k
  o : okI a.o
  r : okI a.r
  t : okI a.t
  m : okI a.m
  g : okS a.g
  l : Il w a.l a.its
theorem aokKeeps : Keeps AOk := fun _ _ _ _ h hf hS => ⟨h.c, h.n, h.k, h.o, h.r, h.t, h.m, h.g, h.l.fr hf hS⟩
theorem avSize (a : AV) : a.cs.size = 9 := rfl
/-- A slice of requests. -/
abbrev Al (w : World) (v : Value) (L : List AV) : Prop := Sq 9 AV.cs AOk w v L
section
variable {H : Type} {enc : TypeId × Value → H} {w : World} {base : Nat} {spare : Nat → Bool} {held : Bool}
set_option maxRecDepth 100000 in
theorem open_ask (cell : Nat → Option Value) (h : ∀ (j : Nat) (t : TypeId), (leaves Tryz.prog 2 50)[j]? = some t → ∃ (u : Value) (m : Nat) (y : DataW H × List MemPlace), cell j = some u ∧ DataW.trod enc Tryz.prog w base spare held m t [u] = some y) :
    ∃ r : AV, AOk w r ∧ ∀ (j : Nat) (u : Value), r.cs[j]? = some u → cell j = some u := by
  obtain ⟨u0, m0, y0, c0, t0⟩ := h 0 3 (by kernel_rfl)
  obtain ⟨u1, m1, y1, c1, t1⟩ := h 1 3 (by kernel_rfl)
  obtain ⟨u2, m2, y2, c2, t2⟩ := h 2 3 (by kernel_rfl)
  obtain ⟨u3, m3, y3, c3, t3⟩ := h 3 3 (by kernel_rfl)
  obtain ⟨u4, m4, y4, c4, t4⟩ := h 4 3 (by kernel_rfl)
  obtain ⟨u5, m5, y5, c5, t5⟩ := h 5 3 (by kernel_rfl)
  obtain ⟨u6, m6, y6, c6, t6⟩ := h 6 3 (by kernel_rfl)
  obtain ⟨u7, m7, y7, c7, t7⟩ := h 7 9 (by kernel_rfl)
  obtain ⟨u8, m8, y8, c8, t8⟩ := h 8 46 (by kernel_rfl)
  obtain ⟨x0, rfl, k0⟩ := leaf_i64 Tryz.underlying3 t0
  obtain ⟨x1, rfl, k1⟩ := leaf_i64 Tryz.underlying3 t1
  obtain ⟨x2, rfl, k2⟩ := leaf_i64 Tryz.underlying3 t2
  obtain ⟨x3, rfl, k3⟩ := leaf_i64 Tryz.underlying3 t3
  obtain ⟨x4, rfl, k4⟩ := leaf_i64 Tryz.underlying3 t4
  obtain ⟨x5, rfl, k5⟩ := leaf_i64 Tryz.underlying3 t5
  obtain ⟨x6, rfl, k6⟩ := leaf_i64 Tryz.underlying3 t6
  obtain ⟨s, rfl, k7⟩ := leaf_str Tryz.underlying9 t7
  obtain ⟨L, hL⟩ := leaf_items t8
  refine ⟨⟨x0, x1, x2, x3, x4, x5, x6, s, u8, L⟩, ⟨k0, k1, k2, k3, k4, k5, k6, k7, hL⟩, fun j u hu => ?_⟩
  match j, hu with
  | 0, hu => cases hu; exact c0
  | 1, hu => cases hu; exact c1
  | 2, hu => cases hu; exact c2
  | 3, hu => cases hu; exact c3
  | 4, hu => cases hu; exact c4
  | 5, hu => cases hu; exact c5
  | 6, hu => cases hu; exact c6
  | 7, hu => cases hu; exact c7
  | 8, hu => cases hu; exact c8
  | j + 9, hu => simp [AV.cs] at hu
set_option maxRecDepth 100000 in
theorem open_asks {r : Reach} {b0 : Nat} {v : Value} {d : DataW H} {p : List MemPlace} (hv : Value.okWide Tryz.prog w r b0 22 v) (h : DataW.Trod enc Tryz.prog w base spare held 22 v d p) : ∃ L, Al w v L :=
  open_sq (d := 2) Tryz.underlying22 (by kernel_rfl) (by kernel_rfl) (by kernel_rfl) open_ask hv h
end
end Go.Proofs.YtbeikkkmobbnkaaGreat
namespace Go.Proofs.YtbeikkkmobbnkaaGreat
open Go.RowKit Go.Maps
theorem wiB_false {n a b : Int} : wiB n a b = false ↔ n < a ∨ b < n := by
  unfold wiB
  rw [Bool.eq_false_iff]
  simp; omega
theorem wiB_true {n a b : Int} : wiB n a b = true ↔ a ≤ n ∧ n ≤ b := by
  unfold wiB
  simp
attribute [local irreducible] wiB
/-- The box of a request, and nine cells. -/
structure BxA (w W : World) (a : AV) : Prop where
  fr : Fr (fun _ => False) w W
  bx : W.heap[w.heap.size]? = some (.cells a.cs 50)
  il : Il W a.l a.its
theorem BxA.keep {w W W' : World} {a : AV} (h : BxA w W a) (hf : Fr (fun _ => False) W W') : BxA w W' a := ⟨h.fr.trans hf, hf.at_ h.bx (fun h => h), h.il.fr hf (fun _ h => h.elim)⟩
theorem fldF_yes {k : Int} (h : 1 ≤ k ∧ k ≤ 11) : fldF k ≠ [] := by
  rcases (by omega : k = 1 ∨ k = 2 ∨ k = 3 ∨ k = 4 ∨ k = 5 ∨ k = 6 ∨ k = 7 ∨ k = 8 ∨ k = 9 ∨ k = 10 ∨ k = 11) with rfl | rfl | rfl | rfl | rfl | rfl | rfl | rfl | rfl | rfl | rfl <;> decide
def BxR (w : World) (a : AV) (b : Bool) (s : Value) (W : World) : Prop := s = .bool b ∧ BxA w W a
set_option maxRecDepth 100000 in
set_option maxHeartbeats 40000000 in
theorem r10MayY (w : World) (a : AV) (hk : AOk w a) (hkd : 1 ≤ a.k ∧ a.k ≤ 11) : Calls Tryz.prog 47 #[.agg a.cs] w fun e w' => e = .returned (.bool a.may) ∧ Fr (fun _ => False) w w' := by
  have hF0 : Fr (fun _ => False) w (w.alloc (.cells a.cs 50)) := (Fr.refl _ w).alloc _
  have hX : BxA w (w.alloc (.cells a.cs 50)) a := ⟨hF0, heap_new _ _, hk.l.fr hF0 (fun _ h => h.elim)⟩
  obtain ⟨A, hA⟩ : ∃ A, A = a := ⟨_, rfl⟩
  rw [← hA] at hX
  obtain ⟨c, n, k, o, r, t, m, g, l, its⟩ := a
  dsimp only at hkd
  have hl := hk.l.sl
  dsimp only at hl
  obtain ⟨la, lc, rfl⟩ := hl
  obtain ⟨N, hN⟩ : ∃ N, its.length = N := ⟨_, rfl⟩
  have hg := hk.g
  dsimp only at hg
  have hNb := hk.l.1
  dsimp only at hNb
  rw [hN] at hNb
  have hFne := fldF_yes hkd
  obtain ⟨F, hF⟩ : ∃ F, fldF k = F := ⟨_, rfl⟩
  rw [hF] at hFne
  obtain ⟨fo, hfo⟩ : ∃ b, F.contains 111 = b := ⟨_, rfl⟩
  have hho : Hid (∀ W, Calls Tryz.prog 67 #[.int .i64 k, .int .u8 111] W fun e w' => e = .returned (.bool fo) ∧ Fr (fun _ => False) W w') := Lib.hid (fun W => by have := r10has W k 111; unfold hasF at this; rw [hF, hfo] at this; exact this)
  obtain ⟨fr, hfr⟩ : ∃ b, F.contains 114 = b := ⟨_, rfl⟩
  have hhr : Hid (∀ W, Calls Tryz.prog 67 #[.int .i64 k, .int .u8 114] W fun e w' => e = .returned (.bool fr) ∧ Fr (fun _ => False) W w') := Lib.hid (fun W => by have := r10has W k 114; unfold hasF at this; rw [hF, hfr] at this; exact this)
  obtain ⟨ft, hft⟩ : ∃ b, F.contains 116 = b := ⟨_, rfl⟩
  have hht : Hid (∀ W, Calls Tryz.prog 67 #[.int .i64 k, .int .u8 116] W fun e w' => e = .returned (.bool ft) ∧ Fr (fun _ => False) W w') := Lib.hid (fun W => by have := r10has W k 116; unfold hasF at this; rw [hF, hft] at this; exact this)
  obtain ⟨fg, hfg⟩ : ∃ b, F.contains 103 = b := ⟨_, rfl⟩
  have hhg : Hid (∀ W, Calls Tryz.prog 67 #[.int .i64 k, .int .u8 103] W fun e w' => e = .returned (.bool fg) ∧ Fr (fun _ => False) W w') := Lib.hid (fun W => by have := r10has W k 103; unfold hasF at this; rw [hF, hfg] at this; exact this)
  obtain ⟨fi, hfi⟩ : ∃ b, F.contains 105 = b := ⟨_, rfl⟩
  have hhi : Hid (∀ W, Calls Tryz.prog 67 #[.int .i64 k, .int .u8 105] W fun e w' => e = .returned (.bool fi) ∧ Fr (fun _ => False) W w') := Lib.hid (fun W => by have := r10has W k 105; unfold hasF at this; rw [hF, hfi] at this; exact this)
  obtain ⟨RO, hRO⟩ : ∃ b, A.ro = b := ⟨_, rfl⟩
  have HRO : Hid (RO = if fo = true then wiB o 1 1099511627776 else decide (o = 0)) := Lib.hid (by rw [← hRO, hA, ← hfo, ← hF]; rfl)
  obtain ⟨RR, hRR⟩ : ∃ b, A.rr = b := ⟨_, rfl⟩
  have HRR : Hid (RR = if fr = true then wiB r 0 7 else decide (r = 0)) := Lib.hid (by rw [← hRR, hA, ← hfr, ← hF]; rfl)
  obtain ⟨RT, hRT⟩ : ∃ b, A.rt = b := ⟨_, rfl⟩
  have HRT : Hid (RT = if ft = true then (wiB t 0 7 && decide (t ≠ r)) else decide (t = 0)) := Lib.hid (by rw [← hRT, hA, ← hft, ← hF]; rfl)
  obtain ⟨RG, hRG⟩ : ∃ b, A.rg = b := ⟨_, rfl⟩
  have HRG : Hid (RG = if fg = true then goodB g else decide (g = [])) := Lib.hid (by rw [← hRG, hA, ← hfg, ← hF]; rfl)
  obtain ⟨RI, hRI⟩ : ∃ b, A.ri = b := ⟨_, rfl⟩
  have HRI : Hid (RI = if fi = true then (decide (0 < (N : Int)) && mayL its) else decide ((N : Int) = 0)) := Lib.hid (by rw [← hRI, hA, ← hfi, ← hF, ← hN]; rfl)
  obtain ⟨M, hM⟩ : ∃ b, mayN k m = b := ⟨_, rfl⟩
  obtain ⟨B, hB⟩ : ∃ B, A.may = B := ⟨_, rfl⟩
  have HM : Hid (B = (wiB c 0 63 && wiB n 1 4294967296 && RO && RR && RT && RG && RI && M)) := Lib.hid (by
    rw [← hB, ← hRO, ← hRR, ← hRT, ← hRG, ← hRI, ← hM]
    unfold AV.may
    rw [hA]
    dsimp only
    rw [hF, decide_eq_true hFne, Bool.true_and])
  have HMN := Lib.hid hM
  have hcs : A.cs = #[.int .i64 c, .int .i64 n, .int .i64 k, .int .i64 o, .int .i64 r, .int .i64 t, .int .i64 m, vS g, .slice la N lc] := by rw [hA, ← hN]; rfl
  rw [← hA, hB, hcs]
  rw [hcs] at hX
  have HIL : Hid (∀ W, BxA w W A → Il W (.slice la N lc) its) := Lib.hid (fun W h => by have := h.il; rw [hA, hN] at this; exact this)
  have hcells : Hid (∀ W, BxA w W A → W.cell? ⟨w.heap.size, 0, none⟩ = some (.int .i64 c) ∧ W.cell? ⟨w.heap.size, 1, none⟩ = some (.int .i64 n) ∧ W.cell? ⟨w.heap.size, 2, none⟩ = some (.int .i64 k) ∧ W.cell? ⟨w.heap.size, 3, none⟩ = some (.int .i64 o) ∧ W.cell? ⟨w.heap.size, 4, none⟩ = some (.int .i64 r) ∧ W.cell? ⟨w.heap.size, 5, none⟩ = some (.int .i64 t) ∧ W.cell? ⟨w.heap.size, 6, none⟩ = some (.int .i64 m) ∧ W.cell? ⟨w.heap.size, 7, none⟩ = some (vS g) ∧ W.cell? ⟨w.heap.size, 8, none⟩ = some (.slice la N lc)) := Lib.hid (fun W h => by
    have hb := h.bx
    rw [hcs] at hb
    exact ⟨cell_obj hb 0 _ rfl, cell_obj hb 1 _ rfl, cell_obj hb 2 _ rfl, cell_obj hb 3 _ rfl, cell_obj hb 4 _ rfl, cell_obj hb 5 _ rfl, cell_obj hb 6 _ rfl, cell_obj hb 7 _ rfl, cell_obj hb 8 _ rfl⟩)
  have HX : Hid (BxA w (w.alloc (.cells #[.int .i64 c, .int .i64 n, .int .i64 k, .int .i64 o, .int .i64 r, .int .i64 t, .int .i64 m, vS g, .slice la N lc] 50)) A) := Lib.hid hX
  have hHas := Lib.hid (fun W => r10Has W k)
  rw [hF] at hHas
  have HGd := Lib.hid (fun W => r6Good W g hg)
  have HMy : Hid (∀ W, BxA w W A → Calls Tryz.prog 69 #[.slice la N lc] W fun e w' => e = .returned (.bool (mayL its)) ∧ ∃ n, w' = W.drewN n) := Lib.hid (fun W h => r6May W _ its (HIL.out W h))
  have HM9 : Hid (∀ W, Calls Tryz.prog 66 #[.int .i64 c, .int .i64 n] W fun e w' => e = .returned (.bool (wiB c 0 63 && wiB n 1 4294967296)) ∧ W = w') := Lib.hid (fun W => r9MayB W c n)
  have HM5 : Hid (∀ W, Calls Tryz.prog 70 #[.int .i64 m] W fun e w' => e = .returned (.bool (mayI m)) ∧ W = w') := Lib.hid (fun W => r5May W m)
  have HITS : Hid (N = 0 → mayL its = true) := Lib.hid (fun h => by rw [List.eq_nil_of_length_eq_zero (hN.trans h)]; rfl)
  have e1 : F.isEmpty = false := by cases F with | nil => exact absurd rfl hFne | cons _ _ => rfl
  have e2 : (F == []) = false := by cases F with | nil => exact absurd rfl hFne | cons _ _ => rfl
  clear hX hF0 hk hA hB hcs hF hFne hM hg hN hkd hRO hRR hRT hRG hRI hfo hfr hft hfg hfi
  obtain ⟨ML, hML⟩ : ∃ b, mayL its = b := ⟨_, rfl⟩
  rw [hML] at HRI HMy HITS
  obtain ⟨GB, hGB⟩ : ∃ b, goodB g = b := ⟨_, rfl⟩
  rw [hGB] at HRG HGd
  have HGB := Lib.hid hGB
  clear hML hGB
  obtain ⟨p0, p1, p2, p3, p4, p5, p6, p7, p8⟩ := hcells.out _ HX.out
  cases h9 : (wiB c 0 63 && wiB n 1 4294967296) with
  | false =>
    rw [h9] at HM9
    have hBf : Hid (B = false) := Lib.hid (by rw [HM.out, h9]; simp)
    clear HM h9
    go_enter Tryz.func47, Tryz.ntmps47
    go_wp2_with (first | (go_at_call 65; refine (hHas.out _).mono ?_; rintro e w1 ⟨rfl, hf⟩; have HX := Lib.hid (HX.out.keep hf); clear hf; clear p0 p1 p2 p3 p4 p5 p6 p7 p8; obtain ⟨p0, p1, p2, p3, p4, p5, p6, p7, p8⟩ := hcells.out _ HX.out) | (go_at_call 66; refine (HM9.out _).mono ?_; rintro e w1 ⟨rfl, rfl⟩))
    go_ret
    exact ⟨by rw [hBf.out]; rfl, HX.out.fr⟩
  | true =>
  rw [h9] at HM9
  rw [h9, Bool.true_and] at HM
  clear h9
  go_enter Tryz.func47, Tryz.ntmps47
  go_upto_region 4 with (first | (go_at_call 65; refine (hHas.out _).mono ?_; rintro e w1 ⟨rfl, hf⟩; have HX := Lib.hid (HX.out.keep hf); clear hf; clear p0 p1 p2 p3 p4 p5 p6 p7 p8; obtain ⟨p0, p1, p2, p3, p4, p5, p6, p7, p8⟩ := hcells.out _ HX.out) | (go_at_call 66; refine (HM9.out _).mono ?_; rintro e w1 ⟨rfl, rfl⟩))
  clear hHas HM9 e1 e2
  go_cut [38] (fun s wx => s = .bool (!RO) ∧ BxA w wx A)
  case first =>
    cases fo with
    | true =>
      by_cases hx : o < 1
      · have hL : Hid (RO = false) := Lib.hid (by rw [HRO.out, if_pos rfl]; exact wiB_false.2 (by omega))
        go_wp2_with (go_at_call 67; ((with_reducible refine (hho.out _).mono ?_); rintro e w1 ⟨rfl, hf⟩; have HX := Lib.hid (HX.out.keep hf); clear hf; clear p0 p1 p2 p3 p4 p5 p6 p7 p8; obtain ⟨p0, p1, p2, p3, p4, p5, p6, p7, p8⟩ := hcells.out _ HX.out))
        go_meet
        exact ⟨by rw [hL.out]; first | rfl | (simp <;> omega), HX.out⟩
      by_cases hy : 1099511627776 < o
      · have hL : Hid (RO = false) := Lib.hid (by rw [HRO.out, if_pos rfl]; exact wiB_false.2 (by omega))
        go_wp2_with (go_at_call 67; ((with_reducible refine (hho.out _).mono ?_); rintro e w1 ⟨rfl, hf⟩; have HX := Lib.hid (HX.out.keep hf); clear hf; clear p0 p1 p2 p3 p4 p5 p6 p7 p8; obtain ⟨p0, p1, p2, p3, p4, p5, p6, p7, p8⟩ := hcells.out _ HX.out))
        go_meet
        exact ⟨by rw [hL.out]; first | rfl | (simp <;> omega), HX.out⟩
      have hL : Hid (RO = true) := Lib.hid (by rw [HRO.out, if_pos rfl]; exact wiB_true.2 (by omega))
      go_wp2_with (go_at_call 67; ((with_reducible refine (hho.out _).mono ?_); rintro e w1 ⟨rfl, hf⟩; have HX := Lib.hid (HX.out.keep hf); clear hf; clear p0 p1 p2 p3 p4 p5 p6 p7 p8; obtain ⟨p0, p1, p2, p3, p4, p5, p6, p7, p8⟩ := hcells.out _ HX.out))
      go_meet
      exact ⟨by rw [hL.out]; first | rfl | (simp <;> omega), HX.out⟩
    | false =>
      by_cases hx : o = 0
      · have hL : Hid (RO = true) := Lib.hid (by rw [HRO.out, if_neg (by decide)]; simp [hx])
        have hx2 : (o != 0) = false := by simpa using hx
        clear hx
        go_wp2_with (go_at_call 67; ((with_reducible refine (hho.out _).mono ?_); rintro e w1 ⟨rfl, hf⟩; have HX := Lib.hid (HX.out.keep hf); clear hf; clear p0 p1 p2 p3 p4 p5 p6 p7 p8; obtain ⟨p0, p1, p2, p3, p4, p5, p6, p7, p8⟩ := hcells.out _ HX.out))
        go_meet
        exact ⟨by rw [hL.out]; first | rfl | (simp <;> omega), HX.out⟩
      have hL : Hid (RO = false) := Lib.hid (by rw [HRO.out, if_neg (by decide)]; simp [hx])
      have hx2 : (o != 0) = true := by simpa using hx
      clear hx
      go_wp2_with (go_at_call 67; ((with_reducible refine (hho.out _).mono ?_); rintro e w1 ⟨rfl, hf⟩; have HX := Lib.hid (HX.out.keep hf); clear hf; clear p0 p1 p2 p3 p4 p5 p6 p7 p8; obtain ⟨p0, p1, p2, p3, p4, p5, p6, p7, p8⟩ := hcells.out _ HX.out))
      go_meet
      exact ⟨by rw [hL.out]; first | rfl | (simp <;> omega), HX.out⟩
  case rest =>
  as_aux_lemma =>
  obtain ⟨rfl, hX⟩ := hcut
  have HX := Lib.hid hX
  clear hX p0 p1 p2 p3 p4 p5 p6 p7 p8
  obtain ⟨p0, p1, p2, p3, p4, p5, p6, p7, p8⟩ := hcells.out _ HX.out
  cases hP : RO with
  | false =>
    have hBf : Hid (B = false) := Lib.hid (by rw [HM.out, hP]; simp)
    clear hP
    go_wp2_with fail
    go_ret
    exact ⟨by rw [hBf.out]; rfl, HX.out.fr⟩
  | true =>
  rw [hP, Bool.true_and] at HM
  clear hP
  go_upto_region 6 with fail
  clear HRO hho
  obtain ⟨RP, hRP⟩ : ∃ b, (RR && RT) = b := ⟨_, rfl⟩
  have HRP := Lib.hid hRP
  have HMP : Hid (B = (RP && RG && RI && M)) := Lib.hid (by rw [HM.out, ← hRP])
  clear hRP HM
  have HM := HMP
  clear HMP
  go_cut [87] (fun s wx => s = .bool (!RP) ∧ BxA w wx A)
  case first =>
    by_cases hxrl0 : r < 0
    · have hL : Hid (RP = false) := Lib.hid (by have : RR = false := (by rw [HRR.out]; cases fr with | false => (rw [if_neg (by decide)]; simp; omega) | true => (rw [if_pos rfl]; exact wiB_false.2 (by omega))); rw [← HRP.out, this]; rfl)
      go_wp2_with (first | (go_at_call 67; ((with_reducible refine (hhr.out _).mono ?_); rintro e w1 ⟨rfl, hf⟩; have HX := Lib.hid (HX.out.keep hf); clear hf; clear p0 p1 p2 p3 p4 p5 p6 p7 p8; obtain ⟨p0, p1, p2, p3, p4, p5, p6, p7, p8⟩ := hcells.out _ HX.out)) | (go_at_call 67; ((with_reducible refine (hht.out _).mono ?_); rintro e w1 ⟨rfl, hf⟩; have HX := Lib.hid (HX.out.keep hf); clear hf; clear p0 p1 p2 p3 p4 p5 p6 p7 p8; obtain ⟨p0, p1, p2, p3, p4, p5, p6, p7, p8⟩ := hcells.out _ HX.out)))
      go_meet
      exact ⟨by rw [hL.out]; first | rfl | (simp <;> omega), HX.out⟩
    by_cases hx7lr : 7 < r
    · have hL : Hid (RP = false) := Lib.hid (by have : RR = false := (by rw [HRR.out]; cases fr with | false => (rw [if_neg (by decide)]; simp; omega) | true => (rw [if_pos rfl]; exact wiB_false.2 (by omega))); rw [← HRP.out, this]; rfl)
      go_wp2_with (first | (go_at_call 67; ((with_reducible refine (hhr.out _).mono ?_); rintro e w1 ⟨rfl, hf⟩; have HX := Lib.hid (HX.out.keep hf); clear hf; clear p0 p1 p2 p3 p4 p5 p6 p7 p8; obtain ⟨p0, p1, p2, p3, p4, p5, p6, p7, p8⟩ := hcells.out _ HX.out)) | (go_at_call 67; ((with_reducible refine (hht.out _).mono ?_); rintro e w1 ⟨rfl, hf⟩; have HX := Lib.hid (HX.out.keep hf); clear hf; clear p0 p1 p2 p3 p4 p5 p6 p7 p8; obtain ⟨p0, p1, p2, p3, p4, p5, p6, p7, p8⟩ := hcells.out _ HX.out)))
      go_meet
      exact ⟨by rw [hL.out]; first | rfl | (simp <;> omega), HX.out⟩
    by_cases hxtl0 : t < 0
    · have hL : Hid (RP = false) := Lib.hid (by have : RT = false := (by rw [HRT.out]; cases ft with | false => (rw [if_neg (by decide)]; simp; omega) | true => (rw [if_pos rfl, wiB_false.2 (by omega)]; rfl)); rw [← HRP.out, this, Bool.and_false])
      go_wp2_with (first | (go_at_call 67; ((with_reducible refine (hhr.out _).mono ?_); rintro e w1 ⟨rfl, hf⟩; have HX := Lib.hid (HX.out.keep hf); clear hf; clear p0 p1 p2 p3 p4 p5 p6 p7 p8; obtain ⟨p0, p1, p2, p3, p4, p5, p6, p7, p8⟩ := hcells.out _ HX.out)) | (go_at_call 67; ((with_reducible refine (hht.out _).mono ?_); rintro e w1 ⟨rfl, hf⟩; have HX := Lib.hid (HX.out.keep hf); clear hf; clear p0 p1 p2 p3 p4 p5 p6 p7 p8; obtain ⟨p0, p1, p2, p3, p4, p5, p6, p7, p8⟩ := hcells.out _ HX.out)))
      go_meet
      exact ⟨by rw [hL.out]; first | rfl | (simp <;> omega), HX.out⟩
    by_cases hx7lt : 7 < t
    · have hL : Hid (RP = false) := Lib.hid (by have : RT = false := (by rw [HRT.out]; cases ft with | false => (rw [if_neg (by decide)]; simp; omega) | true => (rw [if_pos rfl, wiB_false.2 (by omega)]; rfl)); rw [← HRP.out, this, Bool.and_false])
      go_wp2_with (first | (go_at_call 67; ((with_reducible refine (hhr.out _).mono ?_); rintro e w1 ⟨rfl, hf⟩; have HX := Lib.hid (HX.out.keep hf); clear hf; clear p0 p1 p2 p3 p4 p5 p6 p7 p8; obtain ⟨p0, p1, p2, p3, p4, p5, p6, p7, p8⟩ := hcells.out _ HX.out)) | (go_at_call 67; ((with_reducible refine (hht.out _).mono ?_); rintro e w1 ⟨rfl, hf⟩; have HX := Lib.hid (HX.out.keep hf); clear hf; clear p0 p1 p2 p3 p4 p5 p6 p7 p8; obtain ⟨p0, p1, p2, p3, p4, p5, p6, p7, p8⟩ := hcells.out _ HX.out)))
      go_meet
      exact ⟨by rw [hL.out]; first | rfl | (simp <;> omega), HX.out⟩
    have hmid : fr = false ∧ ¬ r = 0 ∨ RR = true := by
      cases fr with
      | true => exact .inr (by rw [HRR.out, if_pos rfl]; exact wiB_true.2 (by omega))
      | false => exact (Classical.em (r = 0)).elim (fun h => .inr (by rw [HRR.out, if_neg (by decide)]; simp [h])) (fun h => .inl ⟨rfl, h⟩)
    by_cases hq : fr = false ∧ ¬ r = 0
    · obtain ⟨rfl, hx⟩ := hq
      clear hmid
      have hL : Hid (RP = false) := Lib.hid (by have : RR = false := (by rw [HRR.out, if_neg (by decide)]; simp [hx]); rw [← HRP.out, this]; rfl)
      have hx2 : (r != 0) = true := by simpa using hx
      clear hx
      go_wp2_with (first | (go_at_call 67; ((with_reducible refine (hhr.out _).mono ?_); rintro e w1 ⟨rfl, hf⟩; have HX := Lib.hid (HX.out.keep hf); clear hf; clear p0 p1 p2 p3 p4 p5 p6 p7 p8; obtain ⟨p0, p1, p2, p3, p4, p5, p6, p7, p8⟩ := hcells.out _ HX.out)) | (go_at_call 67; ((with_reducible refine (hht.out _).mono ?_); rintro e w1 ⟨rfl, hf⟩; have HX := Lib.hid (HX.out.keep hf); clear hf; clear p0 p1 p2 p3 p4 p5 p6 p7 p8; obtain ⟨p0, p1, p2, p3, p4, p5, p6, p7, p8⟩ := hcells.out _ HX.out)))
      go_meet
      exact ⟨by rw [hL.out]; first | rfl | (simp <;> omega), HX.out⟩
    have hgr : Hid (RR = true) := Lib.hid (hmid.resolve_left hq)
    have hq1 : fr = true ∨ (fr = false ∧ (r != 0) = false) := by cases fr with | false => exact .inr ⟨rfl, by simpa using hq⟩ | true => exact .inl rfl
    clear hmid hq
    have hfin : ∀ b, Hid (RT = b) → Hid (RP = b) := fun b h => Lib.hid (by rw [← HRP.out, hgr.out, h.out, Bool.true_and])
    have HFIN := Lib.hid hfin
    clear hfin
    cases ft with
    | false =>
      by_cases hx : t = 0
      · have hT : Hid (RT = true) := Lib.hid (by rw [HRT.out, if_neg (by decide)]; simp [hx])
        have hx2 : (t != 0) = false := by simpa using hx
        clear hx
        have hL := HFIN.out _ hT
        clear hT
        rcases hq1 with rfl | ⟨rfl, hq2⟩
        · go_wp2_with (first | (go_at_call 67; ((with_reducible refine (hhr.out _).mono ?_); rintro e w1 ⟨rfl, hf⟩; have HX := Lib.hid (HX.out.keep hf); clear hf; clear p0 p1 p2 p3 p4 p5 p6 p7 p8; obtain ⟨p0, p1, p2, p3, p4, p5, p6, p7, p8⟩ := hcells.out _ HX.out)) | (go_at_call 67; ((with_reducible refine (hht.out _).mono ?_); rintro e w1 ⟨rfl, hf⟩; have HX := Lib.hid (HX.out.keep hf); clear hf; clear p0 p1 p2 p3 p4 p5 p6 p7 p8; obtain ⟨p0, p1, p2, p3, p4, p5, p6, p7, p8⟩ := hcells.out _ HX.out)))
          go_meet
          exact ⟨by rw [hL.out]; first | rfl | (simp <;> omega), HX.out⟩
        · go_wp2_with (first | (go_at_call 67; ((with_reducible refine (hhr.out _).mono ?_); rintro e w1 ⟨rfl, hf⟩; have HX := Lib.hid (HX.out.keep hf); clear hf; clear p0 p1 p2 p3 p4 p5 p6 p7 p8; obtain ⟨p0, p1, p2, p3, p4, p5, p6, p7, p8⟩ := hcells.out _ HX.out)) | (go_at_call 67; ((with_reducible refine (hht.out _).mono ?_); rintro e w1 ⟨rfl, hf⟩; have HX := Lib.hid (HX.out.keep hf); clear hf; clear p0 p1 p2 p3 p4 p5 p6 p7 p8; obtain ⟨p0, p1, p2, p3, p4, p5, p6, p7, p8⟩ := hcells.out _ HX.out)))
          go_meet
          exact ⟨by rw [hL.out]; first | rfl | (simp <;> omega), HX.out⟩
      · have hT : Hid (RT = false) := Lib.hid (by rw [HRT.out, if_neg (by decide)]; simp [hx])
        have hx2 : (t != 0) = true := by simpa using hx
        clear hx
        have hL := HFIN.out _ hT
        clear hT
        rcases hq1 with rfl | ⟨rfl, hq2⟩
        · go_wp2_with (first | (go_at_call 67; ((with_reducible refine (hhr.out _).mono ?_); rintro e w1 ⟨rfl, hf⟩; have HX := Lib.hid (HX.out.keep hf); clear hf; clear p0 p1 p2 p3 p4 p5 p6 p7 p8; obtain ⟨p0, p1, p2, p3, p4, p5, p6, p7, p8⟩ := hcells.out _ HX.out)) | (go_at_call 67; ((with_reducible refine (hht.out _).mono ?_); rintro e w1 ⟨rfl, hf⟩; have HX := Lib.hid (HX.out.keep hf); clear hf; clear p0 p1 p2 p3 p4 p5 p6 p7 p8; obtain ⟨p0, p1, p2, p3, p4, p5, p6, p7, p8⟩ := hcells.out _ HX.out)))
          go_meet
          exact ⟨by rw [hL.out]; first | rfl | (simp <;> omega), HX.out⟩
        · go_wp2_with (first | (go_at_call 67; ((with_reducible refine (hhr.out _).mono ?_); rintro e w1 ⟨rfl, hf⟩; have HX := Lib.hid (HX.out.keep hf); clear hf; clear p0 p1 p2 p3 p4 p5 p6 p7 p8; obtain ⟨p0, p1, p2, p3, p4, p5, p6, p7, p8⟩ := hcells.out _ HX.out)) | (go_at_call 67; ((with_reducible refine (hht.out _).mono ?_); rintro e w1 ⟨rfl, hf⟩; have HX := Lib.hid (HX.out.keep hf); clear hf; clear p0 p1 p2 p3 p4 p5 p6 p7 p8; obtain ⟨p0, p1, p2, p3, p4, p5, p6, p7, p8⟩ := hcells.out _ HX.out)))
          go_meet
          exact ⟨by rw [hL.out]; first | rfl | (simp <;> omega), HX.out⟩
    | true =>
      by_cases hx : t = r
      · have hT : Hid (RT = false) := Lib.hid (by rw [HRT.out, if_pos rfl]; simp [hx])
        have hx2 : (t == r) = true := by simpa using hx
        clear hx
        have hL := HFIN.out _ hT
        clear hT
        rcases hq1 with rfl | ⟨rfl, hq2⟩
        · go_wp2_with (first | (go_at_call 67; ((with_reducible refine (hhr.out _).mono ?_); rintro e w1 ⟨rfl, hf⟩; have HX := Lib.hid (HX.out.keep hf); clear hf; clear p0 p1 p2 p3 p4 p5 p6 p7 p8; obtain ⟨p0, p1, p2, p3, p4, p5, p6, p7, p8⟩ := hcells.out _ HX.out)) | (go_at_call 67; ((with_reducible refine (hht.out _).mono ?_); rintro e w1 ⟨rfl, hf⟩; have HX := Lib.hid (HX.out.keep hf); clear hf; clear p0 p1 p2 p3 p4 p5 p6 p7 p8; obtain ⟨p0, p1, p2, p3, p4, p5, p6, p7, p8⟩ := hcells.out _ HX.out)))
          go_meet
          exact ⟨by rw [hL.out]; first | rfl | (simp <;> omega), HX.out⟩
        · go_wp2_with (first | (go_at_call 67; ((with_reducible refine (hhr.out _).mono ?_); rintro e w1 ⟨rfl, hf⟩; have HX := Lib.hid (HX.out.keep hf); clear hf; clear p0 p1 p2 p3 p4 p5 p6 p7 p8; obtain ⟨p0, p1, p2, p3, p4, p5, p6, p7, p8⟩ := hcells.out _ HX.out)) | (go_at_call 67; ((with_reducible refine (hht.out _).mono ?_); rintro e w1 ⟨rfl, hf⟩; have HX := Lib.hid (HX.out.keep hf); clear hf; clear p0 p1 p2 p3 p4 p5 p6 p7 p8; obtain ⟨p0, p1, p2, p3, p4, p5, p6, p7, p8⟩ := hcells.out _ HX.out)))
          go_meet
          exact ⟨by rw [hL.out]; first | rfl | (simp <;> omega), HX.out⟩
      · have hT : Hid (RT = true) := Lib.hid (by rw [HRT.out, if_pos rfl, wiB_true.2 (by omega)]; simp [hx])
        have hx2 : (t == r) = false := by simpa using hx
        clear hx
        have hL := HFIN.out _ hT
        clear hT
        rcases hq1 with rfl | ⟨rfl, hq2⟩
        · go_wp2_with (first | (go_at_call 67; ((with_reducible refine (hhr.out _).mono ?_); rintro e w1 ⟨rfl, hf⟩; have HX := Lib.hid (HX.out.keep hf); clear hf; clear p0 p1 p2 p3 p4 p5 p6 p7 p8; obtain ⟨p0, p1, p2, p3, p4, p5, p6, p7, p8⟩ := hcells.out _ HX.out)) | (go_at_call 67; ((with_reducible refine (hht.out _).mono ?_); rintro e w1 ⟨rfl, hf⟩; have HX := Lib.hid (HX.out.keep hf); clear hf; clear p0 p1 p2 p3 p4 p5 p6 p7 p8; obtain ⟨p0, p1, p2, p3, p4, p5, p6, p7, p8⟩ := hcells.out _ HX.out)))
          go_meet
          exact ⟨by rw [hL.out]; first | rfl | (simp <;> omega), HX.out⟩
        · go_wp2_with (first | (go_at_call 67; ((with_reducible refine (hhr.out _).mono ?_); rintro e w1 ⟨rfl, hf⟩; have HX := Lib.hid (HX.out.keep hf); clear hf; clear p0 p1 p2 p3 p4 p5 p6 p7 p8; obtain ⟨p0, p1, p2, p3, p4, p5, p6, p7, p8⟩ := hcells.out _ HX.out)) | (go_at_call 67; ((with_reducible refine (hht.out _).mono ?_); rintro e w1 ⟨rfl, hf⟩; have HX := Lib.hid (HX.out.keep hf); clear hf; clear p0 p1 p2 p3 p4 p5 p6 p7 p8; obtain ⟨p0, p1, p2, p3, p4, p5, p6, p7, p8⟩ := hcells.out _ HX.out)))
          go_meet
          exact ⟨by rw [hL.out]; first | rfl | (simp <;> omega), HX.out⟩
  case rest =>
  as_aux_lemma =>
  obtain ⟨rfl, hX⟩ := hcut
  have HX := Lib.hid hX
  clear hX p0 p1 p2 p3 p4 p5 p6 p7 p8
  obtain ⟨p0, p1, p2, p3, p4, p5, p6, p7, p8⟩ := hcells.out _ HX.out
  cases hP : RP with
  | false =>
    have hBf : Hid (B = false) := Lib.hid (by rw [HM.out, hP]; simp)
    clear hP
    go_wp2_with fail
    go_ret
    exact ⟨by rw [hBf.out]; rfl, HX.out.fr⟩
  | true =>
  rw [hP, Bool.true_and] at HM
  clear hP
  go_upto_region 8 with fail
  clear HRP HRR HRT hhr hht
  go_cut [103] (fun s wx => s = .bool (!RG) ∧ BxA w wx A)
  case first =>
    have hbx := HX.out.bx
    have pg := FrW.cell p7
    clear hbx
    cases fg with
    | true =>
      cases GB with
      | true =>
        have hL : Hid (RG = true) := Lib.hid (by rw [HRG.out, if_pos rfl])
        refine wp_region_fr (by kernel_rfl) (by kernel_rfl) ?_
        repeat (go_big_quiet_step (first | (go_at_call 68; rename_i X; refine (HGd.out _).mono ?_; rintro e w2 ⟨rfl, rfl⟩; exact ⟨rfl, X, rfl⟩) | (go_at_call 67; rename_i X; refine (hhg.out _).mono ?_; rintro e w2 ⟨rfl, hF⟩; exact ⟨rfl, ⟨w2, X.fr.trans hF⟩, rfl⟩)))
        refine wpQuiet_nil ?_
        rintro _ ⟨⟨V, hV⟩, rfl⟩
        go_wp2_with fail
        go_meet
        exact ⟨by rw [hL.out]; first | rfl | (simp <;> omega), HX.out.keep hV⟩
      | false =>
        have hL : Hid (RG = false) := Lib.hid (by rw [HRG.out, if_pos rfl])
        refine wp_region_fr (by kernel_rfl) (by kernel_rfl) ?_
        repeat (go_big_quiet_step (first | (go_at_call 68; rename_i X; refine (HGd.out _).mono ?_; rintro e w2 ⟨rfl, rfl⟩; exact ⟨rfl, X, rfl⟩) | (go_at_call 67; rename_i X; refine (hhg.out _).mono ?_; rintro e w2 ⟨rfl, hF⟩; exact ⟨rfl, ⟨w2, X.fr.trans hF⟩, rfl⟩)))
        refine wpQuiet_nil ?_
        rintro _ ⟨⟨V, hV⟩, rfl⟩
        go_wp2_with fail
        go_meet
        exact ⟨by rw [hL.out]; first | rfl | (simp <;> omega), HX.out.keep hV⟩
    | false =>
      cases GB with
      | true =>
        have hL : Hid (RG = false) := Lib.hid (by rw [HRG.out, if_neg (by decide)]; simp; intro e; have := HGB.out; rw [e] at this; exact absurd this (by decide))
        refine wp_region_fr (by kernel_rfl) (by kernel_rfl) ?_
        repeat (go_big_quiet_step (first | (go_at_call 68; rename_i X; refine (HGd.out _).mono ?_; rintro e w2 ⟨rfl, rfl⟩; exact ⟨rfl, X, rfl⟩) | (go_at_call 67; rename_i X; refine (hhg.out _).mono ?_; rintro e w2 ⟨rfl, hF⟩; exact ⟨rfl, ⟨w2, X.fr.trans hF⟩, rfl⟩)))
        refine wpQuiet_nil ?_
        rintro _ ⟨⟨V, hV⟩, rfl⟩
        go_wp2_with fail
        go_meet
        exact ⟨by rw [hL.out]; first | rfl | (simp <;> omega), HX.out.keep hV⟩
      | false =>
        by_cases hx : g = []
        · have hL : Hid (RG = true) := Lib.hid (by rw [HRG.out, if_neg (by decide)]; simp [hx])
          have hx2 : (g != []) = false := by simpa using hx
          have hx3 : g.isEmpty = true := by simpa using hx
          clear hx
          refine wp_region_fr (by kernel_rfl) (by kernel_rfl) ?_
          repeat (go_big_quiet_step (first | (go_at_call 68; rename_i X; refine (HGd.out _).mono ?_; rintro e w2 ⟨rfl, rfl⟩; exact ⟨rfl, X, rfl⟩) | (go_at_call 67; rename_i X; refine (hhg.out _).mono ?_; rintro e w2 ⟨rfl, hF⟩; exact ⟨rfl, ⟨w2, X.fr.trans hF⟩, rfl⟩)))
          refine wpQuiet_nil ?_
          rintro _ ⟨⟨V, hV⟩, rfl⟩
          go_wp2_with fail
          go_meet
          exact ⟨by rw [hL.out]; first | rfl | (simp <;> omega), HX.out.keep hV⟩
        · have hL : Hid (RG = false) := Lib.hid (by rw [HRG.out, if_neg (by decide)]; simp [hx])
          have hx2 : (g != []) = true := by simpa using hx
          have hx3 : g.isEmpty = false := by simpa using hx
          clear hx
          refine wp_region_fr (by kernel_rfl) (by kernel_rfl) ?_
          repeat (go_big_quiet_step (first | (go_at_call 68; rename_i X; refine (HGd.out _).mono ?_; rintro e w2 ⟨rfl, rfl⟩; exact ⟨rfl, X, rfl⟩) | (go_at_call 67; rename_i X; refine (hhg.out _).mono ?_; rintro e w2 ⟨rfl, hF⟩; exact ⟨rfl, ⟨w2, X.fr.trans hF⟩, rfl⟩)))
          refine wpQuiet_nil ?_
          rintro _ ⟨⟨V, hV⟩, rfl⟩
          go_wp2_with fail
          go_meet
          exact ⟨by rw [hL.out]; first | rfl | (simp <;> omega), HX.out.keep hV⟩
  case rest =>
  as_aux_lemma =>
  obtain ⟨rfl, hX⟩ := hcut
  have HX := Lib.hid hX
  clear hX p0 p1 p2 p3 p4 p5 p6 p7 p8
  obtain ⟨p0, p1, p2, p3, p4, p5, p6, p7, p8⟩ := hcells.out _ HX.out
  cases hP : RG with
  | false =>
    have hBf : Hid (B = false) := Lib.hid (by rw [HM.out, hP]; simp)
    clear hP
    go_wp2_with fail
    go_ret
    exact ⟨by rw [hBf.out]; rfl, HX.out.fr⟩
  | true =>
  rw [hP, Bool.true_and] at HM
  clear hP
  go_upto_region 10 with fail
  clear HRG hhg HGd HGB
  go_cut [128] (fun s wx => s = .bool (!RI) ∧ BxA w wx A)
  case first =>
    cases fi with
    | true =>
      by_cases hx : N = 0
      · have hL : Hid (RI = false) := Lib.hid (by rw [HRI.out, if_pos rfl]; simp [hx])
        have hx2 : ((N : Int) == 0) = true := by simpa using hx
        clear hx
        go_wp2_with (first | (go_at_call 67; ((with_reducible refine (hhi.out _).mono ?_); rintro e w1 ⟨rfl, hf⟩; have HX := Lib.hid (HX.out.keep hf); clear hf; clear p0 p1 p2 p3 p4 p5 p6 p7 p8; obtain ⟨p0, p1, p2, p3, p4, p5, p6, p7, p8⟩ := hcells.out _ HX.out)) | (go_at_call 69; refine (HMy.out _ HX.out).mono ?_; rintro e w1 ⟨rfl, nn, rfl⟩; have HX := Lib.hid (HX.out.keep ((Fr.refl _ _).drewN nn)); clear p0 p1 p2 p3 p4 p5 p6 p7 p8; obtain ⟨p0, p1, p2, p3, p4, p5, p6, p7, p8⟩ := hcells.out _ HX.out))
        go_meet
        exact ⟨by rw [hL.out]; first | rfl | (simp <;> omega), HX.out⟩
      have hx2 : ((N : Int) == 0) = false := by simpa using hx
      have hpos : Hid (RI = ML) := Lib.hid (by rw [HRI.out, if_pos rfl, decide_eq_true (by omega), Bool.true_and])
      clear hx
      cases ML with
      | true =>
        have hL : Hid (RI = true) := Lib.hid (by exact hpos.out)
        go_wp2_with (first | (go_at_call 67; ((with_reducible refine (hhi.out _).mono ?_); rintro e w1 ⟨rfl, hf⟩; have HX := Lib.hid (HX.out.keep hf); clear hf; clear p0 p1 p2 p3 p4 p5 p6 p7 p8; obtain ⟨p0, p1, p2, p3, p4, p5, p6, p7, p8⟩ := hcells.out _ HX.out)) | (go_at_call 69; refine (HMy.out _ HX.out).mono ?_; rintro e w1 ⟨rfl, nn, rfl⟩; have HX := Lib.hid (HX.out.keep ((Fr.refl _ _).drewN nn)); clear p0 p1 p2 p3 p4 p5 p6 p7 p8; obtain ⟨p0, p1, p2, p3, p4, p5, p6, p7, p8⟩ := hcells.out _ HX.out))
        go_meet
        exact ⟨by rw [hL.out]; first | rfl | (simp <;> omega), HX.out⟩
      | false =>
        have hL : Hid (RI = false) := Lib.hid (by exact hpos.out)
        go_wp2_with (first | (go_at_call 67; ((with_reducible refine (hhi.out _).mono ?_); rintro e w1 ⟨rfl, hf⟩; have HX := Lib.hid (HX.out.keep hf); clear hf; clear p0 p1 p2 p3 p4 p5 p6 p7 p8; obtain ⟨p0, p1, p2, p3, p4, p5, p6, p7, p8⟩ := hcells.out _ HX.out)) | (go_at_call 69; refine (HMy.out _ HX.out).mono ?_; rintro e w1 ⟨rfl, nn, rfl⟩; have HX := Lib.hid (HX.out.keep ((Fr.refl _ _).drewN nn)); clear p0 p1 p2 p3 p4 p5 p6 p7 p8; obtain ⟨p0, p1, p2, p3, p4, p5, p6, p7, p8⟩ := hcells.out _ HX.out))
        go_meet
        exact ⟨by rw [hL.out]; first | rfl | (simp <;> omega), HX.out⟩
    | false =>
      by_cases hx : N = 0
      · obtain rfl : ML = true := HITS.out hx
        have hL : Hid (RI = true) := Lib.hid (by rw [HRI.out, if_neg (by decide)]; simp [hx])
        have hx3 : decide ((0 : Int) < (N : Int)) = false := by simp [hx]
        have hx4 : (0 < N) = False := by simp [hx]
        have hx5 : decide (0 < N) = false := by simp [hx]
        clear hx
        go_wp2_with (first | (go_at_call 67; ((with_reducible refine (hhi.out _).mono ?_); rintro e w1 ⟨rfl, hf⟩; have HX := Lib.hid (HX.out.keep hf); clear hf; clear p0 p1 p2 p3 p4 p5 p6 p7 p8; obtain ⟨p0, p1, p2, p3, p4, p5, p6, p7, p8⟩ := hcells.out _ HX.out)) | (go_at_call 69; refine (HMy.out _ HX.out).mono ?_; rintro e w1 ⟨rfl, nn, rfl⟩; have HX := Lib.hid (HX.out.keep ((Fr.refl _ _).drewN nn)); clear p0 p1 p2 p3 p4 p5 p6 p7 p8; obtain ⟨p0, p1, p2, p3, p4, p5, p6, p7, p8⟩ := hcells.out _ HX.out))
        go_meet
        exact ⟨by rw [hL.out]; first | rfl | (simp <;> omega), HX.out⟩
      · have hL : Hid (RI = false) := Lib.hid (by rw [HRI.out, if_neg (by decide)]; simp [hx])
        have hx2 : ((N : Int) == 0) = false := by simpa using hx
        have hx3 : (0 : Int) < (N : Int) := by omega
        clear hx
        go_wp2_with (first | (go_at_call 67; ((with_reducible refine (hhi.out _).mono ?_); rintro e w1 ⟨rfl, hf⟩; have HX := Lib.hid (HX.out.keep hf); clear hf; clear p0 p1 p2 p3 p4 p5 p6 p7 p8; obtain ⟨p0, p1, p2, p3, p4, p5, p6, p7, p8⟩ := hcells.out _ HX.out)) | (go_at_call 69; refine (HMy.out _ HX.out).mono ?_; rintro e w1 ⟨rfl, nn, rfl⟩; have HX := Lib.hid (HX.out.keep ((Fr.refl _ _).drewN nn)); clear p0 p1 p2 p3 p4 p5 p6 p7 p8; obtain ⟨p0, p1, p2, p3, p4, p5, p6, p7, p8⟩ := hcells.out _ HX.out))
        go_meet
        exact ⟨by rw [hL.out]; first | rfl | (simp <;> omega), HX.out⟩
  case rest =>
  as_aux_lemma =>
  obtain ⟨rfl, hX⟩ := hcut
  have HX := Lib.hid hX
  clear hX p0 p1 p2 p3 p4 p5 p6 p7 p8
  obtain ⟨p0, p1, p2, p3, p4, p5, p6, p7, p8⟩ := hcells.out _ HX.out
  cases hP : RI with
  | false =>
    have hBf : Hid (B = false) := Lib.hid (by rw [HM.out, hP]; simp)
    clear hP
    go_wp2_with fail
    go_ret
    exact ⟨by rw [hBf.out]; rfl, HX.out.fr⟩
  | true =>
  rw [hP, Bool.true_and] at HM
  clear hP
  by_cases h1 : k = 1
  · have q1 : (k == 1) = true := by simpa using h1
    have HF : Hid (B = wiB m 0 1) := Lib.hid (by rw [HM.out, ← HMN.out]; unfold mayN; rw [if_pos h1])
    clear h1
    by_cases hm0 : m = 0
    · have q2 : (m == 0) = true := by simpa using hm0
      have hL : Hid (B = true) := Lib.hid (by rw [HF.out]; exact wiB_true.2 (by omega))
      clear hm0
      go_wp2_with fail
      go_ret
      exact ⟨by rw [hL.out]; rfl, HX.out.fr⟩
    · have q2 : (m == 0) = false := by simpa using hm0
      by_cases hm1 : m = 1
      · have q3 : (m == 1) = true := by simpa using hm1
        have hL : Hid (B = true) := Lib.hid (by rw [HF.out]; exact wiB_true.2 (by omega))
        clear hm0 hm1
        go_wp2_with fail
        go_ret
        exact ⟨by rw [hL.out]; rfl, HX.out.fr⟩
      · have q3 : (m == 1) = false := by simpa using hm1
        have hL : Hid (B = false) := Lib.hid (by rw [HF.out]; exact wiB_false.2 (by omega))
        clear hm0 hm1
        go_wp2_with fail
        go_ret
        exact ⟨by rw [hL.out]; rfl, HX.out.fr⟩
  have q1 : (k == 1) = false := by simpa using h1
  by_cases h7 : k = 7
  · have q7 : (k == 7) = true := by simpa using h7
    have HF : Hid (B = mayI m) := Lib.hid (by rw [HM.out, ← HMN.out]; unfold mayN; rw [if_neg h1, if_pos h7])
    clear h1 h7
    go_wp2_with (go_at_call 70; refine (HM5.out _).mono ?_; rintro e w1 ⟨rfl, rfl⟩)
    go_ret
    exact ⟨by rw [HF.out]; rfl, HX.out.fr⟩
  have q7 : (k == 7) = false := by simpa using h7
  by_cases h11 : k = 11
  · have q11 : (k == 11) = true := by simpa using h11
    have HF : Hid (B = wiB m 1 4294967297) := Lib.hid (by rw [HM.out, ← HMN.out]; unfold mayN; rw [if_neg h1, if_neg h7, if_pos h11])
    clear h1 h7 h11
    by_cases hm0 : m < 1
    · have hL : Hid (B = false) := Lib.hid (by rw [HF.out]; exact wiB_false.2 (by omega))
      go_wp2_with fail
      go_ret
      exact ⟨by rw [hL.out]; rfl, HX.out.fr⟩
    · by_cases hm1 : 4294967297 < m
      · have hL : Hid (B = false) := Lib.hid (by rw [HF.out]; exact wiB_false.2 (by omega))
        have hm2 : decide (m ≤ 4294967297) = false := by simp; omega
        have hm3 : 1 ≤ m := by omega
        clear hm0
        go_wp2_with fail
        go_ret
        exact ⟨by rw [hL.out]; rfl, HX.out.fr⟩
      · have hL : Hid (B = true) := Lib.hid (by rw [HF.out]; exact wiB_true.2 (by omega))
        have hm2 : m ≤ 4294967297 := by omega
        have hm3 : 1 ≤ m := by omega
        clear hm0 hm1
        go_wp2_with fail
        go_ret
        exact ⟨by rw [hL.out]; rfl, HX.out.fr⟩
  have q11 : (k == 11) = false := by simpa using h11
  have HF : Hid (B = (m == 0)) := Lib.hid (by rw [HM.out, ← HMN.out]; unfold mayN; rw [if_neg h1, if_neg h7, if_neg h11]; rw [Bool.eq_iff_iff]; simp)
  clear h1 h7 h11
  go_wp2_with fail
  go_ret
  exact ⟨by rw [HF.out]; rfl, HX.out.fr⟩
set_option maxRecDepth 100000 in
theorem r10May (w : World) (a : AV) (hk : AOk w a) : Calls Tryz.prog 47 #[.agg a.cs] w fun e w' => e = .returned (.bool a.may) ∧ Fr (fun _ => False) w w' := by
  by_cases hkd : 1 ≤ a.k ∧ a.k ≤ 11
  · exact r10MayY w a hk hkd
  · have hF : fldF a.k = [] := fldF_no (by omega)
    have hm : a.may = false := by unfold AV.may; rw [hF]; simp
    rw [hm]
    have hF0 : Hid (Fr (fun _ => False) w (w.alloc (.cells a.cs 50))) := Lib.hid ((Fr.refl _ w).alloc _)
    have hb := heap_new w (.cells a.cs 50)
    obtain ⟨c, n, k, o, r, t, m, g, l, its⟩ := a
    obtain ⟨la, lc, hl⟩ := hk.l.sl
    dsimp only at hl hF
    subst hl
    have p2 := cell_obj hb 2 (.int .i64 k) rfl
    have hH := Lib.hid (fun W => r10Has W k)
    rw [hF] at hH
    unfold AV.cs at hF0 ⊢
    dsimp only at hF0 ⊢
    obtain ⟨N, hN⟩ : ∃ N, its.length = N := ⟨_, rfl⟩
    rw [hN] at hF0 ⊢
    clear hk hkd hF hm hb hN p2
    go_enter Tryz.func47, Tryz.ntmps47
    go_wp2_with (go_at_call 65; refine (hH.out _).mono ?_; rintro e w1 ⟨rfl, hf⟩; have HF := Lib.hid hf; clear hf)
    go_ret
    exact ⟨rfl, hF0.out.trans HF.out⟩
end Go.Proofs.YtbeikkkmobbnkaaGreat
namespace Go.Proofs.YtbeikkkmobbnkaaGreat
open Go.RowKit Go.Maps
/-- The order that a request makes. -/
def ordF (a : AV) : Int := if a.k = 1 ∧ a.may = true then 64 * a.n + a.c else 0
theorem wiB_iff {n a b : Int} : wiB n a b = true ↔ a ≤ n ∧ n ≤ b := by simp [wiB]
theorem may_bounds {a : AV} (h : a.may = true) : (0 ≤ a.c ∧ a.c ≤ 63) ∧ 1 ≤ a.n ∧ a.n ≤ 4294967296 := by
  unfold AV.may at h
  simp only [Bool.and_eq_true] at h
  exact ⟨wiB_iff.1 h.1.1.1.1.1.1.1.2, wiB_iff.1 h.1.1.1.1.1.1.2⟩
set_option maxRecDepth 100000 in
set_option maxHeartbeats 2000000 in
theorem kOrder (w : World) (a : AV) (hk : AOk w a) : Calls Tryz.prog 38 #[.agg a.cs] w fun e w' => e = .returned (.int .i64 (ordF a)) ∧ Fr (fun _ => False) w w' := by
  have hF0 : Fr (fun _ => False) w (w.alloc (.cells a.cs 50)) := (Fr.refl _ w).alloc _
  have hM := Lib.hid (kMayA (w.alloc (.cells a.cs 50)) a (hk.l.fr hF0 (fun _ h => h.elim)) hk.g)
  obtain ⟨A, hA⟩ : ∃ A, A = a := ⟨_, rfl⟩
  rw [← hA] at hM hF0
  obtain ⟨c, n, k, o, r, t, m, g, l, its⟩ := a
  have hcs : A.cs = #[.int .i64 c, .int .i64 n, .int .i64 k, .int .i64 o, .int .i64 r, .int .i64 t, .int .i64 m, vS g, l] := by rw [hA]; rfl
  have hl := hk.l.sl
  dsimp only at hl
  obtain ⟨la, lc, rfl⟩ := hl
  rw [hcs] at hM hF0
  have hHF := Lib.hid hF0
  have hb := heap_new w (.cells #[.int .i64 c, .int .i64 n, .int .i64 k, .int .i64 o, .int .i64 r, .int .i64 t, .int .i64 m, vS g, .slice la its.length lc] 50)
  have HB := Lib.hid hb
  rw [← hA, hcs]
  obtain ⟨N, hN⟩ : ∃ N, its.length = N := ⟨_, rfl⟩
  rw [hN] at hM hHF HB ⊢
  by_cases h1 : k = 1
  · cases hm : A.may with
    | false =>
      have ho : Hid (ordF A = 0) := Lib.hid (by unfold ordF; rw [hm]; simp)
      rw [hm] at hM
      have b1 : (k != 1) = false := by simpa using h1
      clear hk hA hF0 hcs hb hm h1 hN
      go_enter Tryz.func38, Tryz.ntmps38
      go_wp2_with (go_at_call 50; refine hM.out.mono ?_; rintro e w1 ⟨rfl, hf1⟩; have HF1 := Lib.hid hf1; clear hf1)
      go_ret
      exact ⟨by rw [ho.out]; rfl, hHF.out.trans HF1.out⟩
    | true =>
      have ho : Hid (ordF A = 64 * n + c) := Lib.hid (by unfold ordF; rw [hm, hA]; simp [h1])
      obtain ⟨⟨x1, x2⟩, x3, x4⟩ := may_bounds hm
      rw [hA] at x1 x2 x3 x4
      dsimp only at x1 x2 x3 x4
      rw [hm] at hM
      have b1 : (k != 1) = false := by simpa using h1
      have HK := Lib.hid h1
      clear hk hA hF0 hcs hb hm h1 hN
      go_enter Tryz.func38, Tryz.ntmps38
      go_wp2_with (go_at_call 50; refine hM.out.mono ?_; rintro e w1 ⟨rfl, hf1⟩; have HF1 := Lib.hid hf1; have q0 := cell_obj (hf1.at_ HB.out (fun h => h)) 0 (.int .i64 c) rfl; have q1 := cell_obj (hf1.at_ HB.out (fun h => h)) 1 (.int .i64 n) rfl; clear hf1)
      go_ret
      exact ⟨by rw [ho.out]; rfl, hHF.out.trans HF1.out⟩
  · have ho : Hid (ordF A = 0) := Lib.hid (by unfold ordF; rw [hA]; simp [h1])
    have b1 : (k != 1) = true := by simpa using h1
    clear hk hA hF0 hcs hb h1 hN
    go_enter Tryz.func38, Tryz.ntmps38
    go_wp2_with fail
    go_ret
    exact ⟨by rw [ho.out]; rfl, hHF.out⟩
theorem kRightF (w : World) (v : Value) (n c : Nat) (a : Option Addr) : Calls Tryz.prog 31 #[.slice a n c] w fun e w' =>
    e = .returned (.func (.func 49) #[] #[.pointer (some ⟨w.heap.size, 0, none⟩)]) ∧ w' = w.alloc (.cells #[.slice a n c] 22) := by
  go_enter Tryz.func31, Tryz.ntmps31
  go_wp2
  go_ret
  exact ⟨rfl, rfl⟩
def encA (a : AV) : Array Value := #[.agg a.cs]
/-- The requests that may be. -/
def rightL (L : List AV) : List AV := L.filter AV.may
theorem rightL_yes {L : List AV} {k : Nat} {a : AV} (h : L[k]? = some a) (hm : a.may = true) : rightL (L.take (k + 1)) = rightL (L.take k) ++ [a] := by
  unfold rightL
  rw [List.take_add_one, h, List.filter_append]
  simp [hm]
theorem rightL_no {L : List AV} {k : Nat} {a : AV} (h : L[k]? = some a) (hm : a.may = false) : rightL (L.take (k + 1)) = rightL (L.take k) := by
  unfold rightL
  rw [List.take_add_one, h, List.filter_append]
  simp [hm]
theorem rightL_at {L : List AV} {k : Nat} {a : AV} (h : L[k]? = some a) (hm : a.may = true) : (rightL L)[(rightL (L.take k)).length]? = some a := by
  have hk := (List.getElem?_eq_some_iff.1 h).1
  have e : L = L.take k ++ a :: L.drop (k + 1) := by
    rw [← (List.getElem?_eq_some_iff.1 h).2, ← List.drop_eq_getElem_cons hk, List.take_append_drop]
  conv => lhs; rw [show rightL L = rightL (L.take k) ++ (a :: rightL (L.drop (k + 1))) by
    conv => lhs; rw [e]
    unfold rightL
    rw [List.filter_append, List.filter_cons_of_pos hm]]
  rw [List.getElem?_append_right (Nat.le_refl _), Nat.sub_self]
  rfl
set_option maxRecDepth 100000 in
set_option maxHeartbeats 4000000 in
theorem kRight2 (S : Nat → Prop) (wl w : World) (Bt : Nat) (v : Value) (L : List AV) (hBt : Boxed w Bt 22 v) (h : Al wl v L) (hwl : Fr (fun b => wl.heap.size ≤ b) wl w) (n1 : ∀ b, b < wl.heap.size → ¬ S b) :
    ItX 49 #[.pointer (some ⟨Bt, 0, none⟩)] encA (rightL L) S w := by
  intro lp S' J Jx W hW hS' hJ hY hJx h0
  have hBW := boxed_below hBt hW hBt.lt
  have s2 : ∀ b, S' b → wl.heap.size ≤ b := fun b e => by
    rcases Nat.lt_or_ge b wl.heap.size with hb | hb
    · exact absurd ((hS' b e).2 (Nat.lt_of_lt_of_le hb hwl.size)) (n1 b hb)
    · exact hb
  have HWL := Lib.hid hwl
  have hcB := hBW.cell
  obtain ⟨a, c, rfl⟩ := h.sl
  obtain ⟨N, hN⟩ : ∃ N, L.length = N := ⟨_, rfl⟩
  have hNb : (N : Int) ≤ 9223372036854775807 := by have := h.len; omega
  have hL0 := h
  have HS := Lib.hid hS'; have HL := Lib.hid hL0; have S2 := Lib.hid s2; have HN := Lib.hid hN; have HW := Lib.hid hW
  rw [hN] at hcB HL
  have hfn : ∀ f, Fence.wide.fn f := fun _ => trivial
  have hdp : Fence.wide.depth.isSome = false := rfl
  clear hBt h n1 hS' hBW s2 hW hN hL0 hwl
  refine (callsIn_wide (n := 0)).1 ?_
  refine callsIn_of_wp Tryz.func49 rfl trivial ?_ rfl
  simp only [Tryz.ntmps49, List.size_toArray, List.length_cons, List.length_nil, Nat.reduceAdd, Nat.reduceSub, Array.replicate_succ, Array.replicate_zero, List.push_toArray, List.append_toArray, List.nil_append, List.cons_append]
  gi_wp2_with fail
  gi_loopw [7] (fun i wr => ∃ (k : Nat) (C : Nat → Prop), k ≤ N ∧ i = .int .i64 k ∧ J (rightL (L.take k)).length C wr ∧ (∀ b, C b → W.heap.size ≤ b ∧ b < wr.heap.size) ∧ Fr (fun b => S' b ∨ C b) W wr) (fun i _ => N - (intOf i).toNat)
  case atStart => exact ⟨0, _, Nat.zero_le _, rfl, h0, fun _ h => False.elim h, Fr.refl _ _⟩
  case round =>
    obtain ⟨k, C, hk, rfl, hJr, hC, hkp⟩ := hrel
    have hCC : Hid (∀ b, S' b ∨ C b → wl.heap.size ≤ b) := Lib.hid (fun b e => e.elim (S2.out b) (fun e => by have := (hC b e).1; have := HW.out.size; have := HWL.out.size; omega))
    by_cases hlt : k < N
    · obtain ⟨p, hp⟩ : ∃ p, L[k]? = some p := ⟨L[k]'(by rw [HN.out]; exact hlt), List.getElem?_eq_getElem _⟩
      have hfr : Fr (fun b => wl.heap.size ≤ b) wl wr := (HWL.out.trans' (Fr.below (S := fun b => wl.heap.size ≤ b) HW.out) (fun _ _ e => e)).trans' hkp (fun b hb e => hCC.out b e)
      have hLr := HL.out.fr aokKeeps hfr (fun b hb => hb)
      obtain ⟨ad, rfl, hok, z0, zs⟩ := hLr.at_ hp
      have hokW := Lib.hid hok
      obtain ⟨c', n, kd, o, r, t, m, g, l, its⟩ := p
      obtain ⟨la, lc, hl⟩ := hok.l.sl
      dsimp only at hl
      subst hl
      have x0 := z0 (.int .i64 c') rfl
      have x1 := zs 0 (.int .i64 n) rfl
      have x2 := zs 1 (.int .i64 kd) rfl
      have x3 := zs 2 (.int .i64 o) rfl
      have x4 := zs 3 (.int .i64 r) rfl
      have x5 := zs 4 (.int .i64 t) rfl
      have x6 := zs 5 (.int .i64 m) rfl
      have x7 := zs 6 (vS g) rfl
      have x8 := zs 7 (.slice la its.length lc) rfl
      dsimp only [Nat.zero_add, Nat.reduceAdd] at x0 x1 x2 x3 x4 x5 x6 x7 x8
      obtain ⟨P, hP⟩ : ∃ P : AV, P = ⟨c', n, kd, o, r, t, m, g, .slice la its.length lc, its⟩ := ⟨_, rfl⟩
      rw [← hP] at hp hokW
      have hcs : P.cs = #[.int .i64 c', .int .i64 n, .int .i64 kd, .int .i64 o, .int .i64 r, .int .i64 t, .int .i64 m, vS g, .slice la its.length lc] := by rw [hP]; rfl
      obtain ⟨M, hM⟩ : ∃ M, its.length = M := ⟨_, rfl⟩
      rw [hM] at x8 hcs
      have hlI : (k : Int) < N := by omega
      have hkM := kMayA (wr.alloc (.cells P.cs 50)) P (hokW.out.l.fr ((Fr.refl (fun _ => False) _).alloc _) (fun _ h => h.elim)) hokW.out.g
      have hJ2 := hJ _ C _ _ hJr (frAlloc (B := W.heap.size) (.cells P.cs 50))
      rw [hcs] at hkM hJ2
      have HKM := Lib.hid hkM; have HP := Lib.hid hp; have HCS := Lib.hid hcs
      have HC := Lib.hid hC; have HK := Lib.hid hkp
      have HJ2 := Lib.hid hJ2
      have hbx := heap_new wr (.cells #[.int .i64 c', .int .i64 n, .int .i64 kd, .int .i64 o, .int .i64 r, .int .i64 t, .int .i64 m, vS g, .slice la M lc] 50)
      have HBX := Lib.hid hbx
      clear hP hM hkM hJ2 hp hcs hC hkp hJr hok z0 zs hLr hfr hbx
      cases hmy : P.may with
      | false =>
        have HMY := Lib.hid hmy
        rw [hmy] at HKM
        clear hmy
        gi_wp2_with (gi_at_call 50; refine (callsIn_wide.2 HKM.out).mono ?_; rintro e W2 ⟨rfl, hf2⟩; have HF2 := Lib.hid hf2; clear hf2)
        go_roundw
        case rel =>
          refine ⟨k + 1, C, by omega, by go_num, ?_, ?_, ?_⟩
          · rw [rightL_no HP.out HMY.out]
            exact hJ _ C _ _ HJ2.out (HF2.out.mono (fun _ _ e => e.elim))
          · intro b e
            have := HC.out b e
            have := HF2.out.size
            simp at this
            omega
          · exact (HK.out.alloc _).trans (HF2.out.mono (fun _ _ e => e.elim))
        case measure => simp [intOf]; omega
      | true =>
        have HMY := Lib.hid hmy
        rw [hmy] at HKM
        have hAt := Lib.hid (rightL_at HP.out hmy)
        clear hmy
        gi_wp2_with (gi_at_call 50; refine (callsIn_wide.2 HKM.out).mono ?_; rintro e W2 ⟨rfl, hf2⟩; have HF2 := Lib.hid hf2; obtain ⟨fn, tmps, assign, body, hy, hR⟩ := hY _ P C W2 hAt.out (hJ _ C _ _ HJ2.out (hf2.mono (fun _ _ e => e.elim))); dsimp only [encA] at hy; rw [HCS.out] at hy; have hb2 := hf2.at_ HBX.out (fun h => h); have y0 := cell_obj hb2 0 (.int .i64 c') rfl; have y1 := cell_obj hb2 1 (.int .i64 n) rfl; have y2 := cell_obj hb2 2 (.int .i64 kd) rfl; have y3 := cell_obj hb2 3 (.int .i64 o) rfl; have y4 := cell_obj hb2 4 (.int .i64 r) rfl; have y5 := cell_obj hb2 5 (.int .i64 t) rfl; have y6 := cell_obj hb2 6 (.int .i64 m) rfl; have y7 := cell_obj hb2 7 (vS g) rfl; have y8 := cell_obj hb2 8 (.slice la M lc) rfl; clear hf2 hb2)
        refine hR.mono ?_
        rintro e W3 (⟨rfl, hJ3, hk3⟩ | ⟨rfl, hJx3, _⟩)
        · gi_wp2
          go_roundw
          case rel =>
            refine ⟨k + 1, CC C W2 W3, by omega, by go_num, ?_, ?_, ?_⟩
            · rw [rightL_yes HP.out HMY.out, List.length_append]
              exact hJ3
            · have hs2 := HF2.out.size
              have hs3 := hk3.size
              simp at hs2
              rintro b (e | e)
              · have := HC.out b e; exact ⟨this.1, by omega⟩
              · have := HK.out.size; exact ⟨by omega, e.2⟩
            · exact (((HK.out.alloc _).trans (HF2.out.mono (fun _ _ e => e.elim))).mono (fun b _ e => e.elim .inl (fun e => .inr (.inl e)))).trans (hk3.mono (fun b _ e => e.elim .inl (fun e => .inr (.inl e))))
          case measure => simp [intOf]; omega
        · gi_wp2
          refine bodyPost_ret (results_none rfl _ _ _) rfl ?_
          refine ⟨⟨_, rfl⟩, .inr ⟨_, _, ?_, hJx3⟩⟩
          have := (List.getElem?_eq_some_iff.1 hAt.out).1
          omega
    · have : k = N := by omega
      subst this
      gi_wp2
      go_end0
      exact ⟨⟨_, rfl⟩, .inl ⟨C, by have := hJr; rw [List.take_of_length_le (by rw [HN.out]; exact Nat.le_refl _)] at this; exact this⟩⟩
theorem kRight1 (S : Nat → Prop) (w : World) (Bt : Nat) (v : Value) (L : List AV) (hBt : Boxed w Bt 22 v) (h : Al w v L) (n1 : ∀ b, b < w.heap.size → ¬ S b) :
    ItX 49 #[.pointer (some ⟨Bt, 0, none⟩)] encA (rightL L) S w := kRight2 S w w Bt v L hBt h (Fr.refl _ _) n1
end Go.Proofs.YtbeikkkmobbnkaaGreat
namespace Go.Proofs.YtbeikkkmobbnkaaGreat
open Go.RowKit Go.Maps
theorem infoAsk : (Tryz.prog.info? 50).map (fun i => (i.zero, i.size, i.bytes)) = some (some (.agg #[.int .i64 0, .int .i64 0, .int .i64 0, .int .i64 0, .int .i64 0, .int .i64 0, .int .i64 0, .string ⟨#[]⟩, .slice none 0 0]), 9, 96) := by kernel_rfl
/-- An append to a row of the call's own turns nothing old. -/
theorem frGrown {w wr w1 : World} {e : TypeId} {size n : Nat} {v : Value} {xs : List Value} {tmp : Obj} (hf : Fr (fun _ => False) w wr) (h : wr.ownsRow w.heap.size e size v n xs) (hg : (wr.alloc tmp).grownBy w1 v.ownBlock) : Fr (fun _ => False) w w1 :=
  (hf.alloc tmp).trans' (Fr.grown (S := fun b => v.ownBlock = some b) hg (fun r e _ => e)) (fun b hb e => by have := (h.lt b e).1; omega)
theorem cellsNew (w : World) (t : TypeId) (cs : Array Value) : ∀ j u, cs.toList[j]? = some u → (w.alloc (.cells cs t)).cell? ((⟨w.heap.size, 0, none⟩ : Addr).add j) = some u := fun j u h => by
  have e0 : (⟨w.heap.size, 0, none⟩ : Addr).add j = ⟨w.heap.size, j, none⟩ := by unfold Addr.add; split <;> simp_all
  rw [e0]; exact cell_obj (heap_new w _) j u (by simpa using h)
theorem avOne {w : World} {a : AV} (h : AOk w a) : ∀ u ∈ a.cs, u.oneCell' = true := by
  obtain ⟨x, y, e⟩ := h.l.sl
  intro u hu
  simp only [AV.cs, e] at hu
  simp at hu
  rcases hu with rfl | rfl | rfl | rfl | rfl | rfl | rfl | rfl | rfl <;> rfl
theorem flatA_snoc (L : List AV) (a : AV) : flat AV.cs (L ++ [a]) = flat AV.cs L ++ a.cs.toList := by simp [flat]
theorem rightL_len (L : List AV) (k : Nat) : (rightL (L.take k)).length ≤ L.length := by
  unfold rightL
  have := List.length_filter_le AV.may (L.take k)
  have : (L.take k).length ≤ L.length := by rw [List.length_take]; omega
  omega
set_option maxRecDepth 100000 in
set_option maxHeartbeats 4000000 in
theorem r25Right (w : World) (v : Value) (L : List AV) (h : Al w v L) (hl : L.length ≤ 1000) : Calls Tryz.prog 26 #[v] w fun e w' => ∃ v', e = .returned v' ∧ w'.ownsRow w.heap.size 50 9 v' (rightL L).length (flat AV.cs (rightL L)) ∧ Fr (fun _ => False) w w' := by
  obtain ⟨i0, hi', hz0, hz1, hz2⟩ := info_parts infoAsk
  obtain ⟨a, c, rfl⟩ := h.sl
  obtain ⟨N, hN⟩ : ∃ N, L.length = N := ⟨_, rfl⟩
  have HL := Lib.hid h; have HN := Lib.hid hN
  have hNb : (N : Int) ≤ 1000 := by omega
  have hrl : Hid (∀ k, (rightL (L.take k)).length ≤ N) := Lib.hid (fun k => by rw [← hN]; exact rightL_len L k)
  rw [hN] at HL ⊢
  clear h hN hl
  go_enter Tryz.func26, Tryz.ntmps26
  go_wp2_with fail
  go_loopw [3, 4] (fun v i wr => ∃ k : Nat, k ≤ N ∧ i = .int .i64 k ∧ wr.ownsRow w.heap.size 50 9 v (rightL (L.take k)).length (flat AV.cs (rightL (L.take k))) ∧ Fr (fun _ => False) w wr) (fun _ i _ => N - (intOf i).toNat)
  case atStart => exact ⟨0, Nat.zero_le _, rfl, World.ownsRow_nil _ _ _ _, Fr.refl _ _⟩
  case round =>
    obtain ⟨k, hk, rfl, hown, hfr⟩ := hrel
    have HFR := Lib.hid hfr; have HO := Lib.hid hown
    by_cases hlt : k < N
    · obtain ⟨p, hp⟩ : ∃ p, L[k]? = some p := ⟨L[k]'(by rw [HN.out]; exact hlt), List.getElem?_eq_getElem _⟩
      obtain ⟨ad, rfl, hok, z0, zs⟩ := (HL.out.fr0 aokKeeps hfr).at_ hp
      have hM := r10May wr p hok
      have hone := avOne hok
      obtain ⟨c', n, kd, o, r, t, m, g, l, its⟩ := p
      obtain ⟨la, lc, hl⟩ := hok.l.sl
      dsimp only at hl
      subst hl
      have x0 := z0 (.int .i64 c') rfl
      have x1 := zs 0 (.int .i64 n) rfl
      have x2 := zs 1 (.int .i64 kd) rfl
      have x3 := zs 2 (.int .i64 o) rfl
      have x4 := zs 3 (.int .i64 r) rfl
      have x5 := zs 4 (.int .i64 t) rfl
      have x6 := zs 5 (.int .i64 m) rfl
      have x7 := zs 6 (vS g) rfl
      have x8 := zs 7 (.slice la its.length lc) rfl
      dsimp only [Nat.zero_add, Nat.reduceAdd] at x0 x1 x2 x3 x4 x5 x6 x7 x8
      obtain ⟨P, hP⟩ : ∃ P : AV, P = ⟨c', n, kd, o, r, t, m, g, .slice la its.length lc, its⟩ := ⟨_, rfl⟩
      rw [← hP] at hp hM hone
      have hcs : P.cs = #[.int .i64 c', .int .i64 n, .int .i64 kd, .int .i64 o, .int .i64 r, .int .i64 t, .int .i64 m, vS g, .slice la its.length lc] := by rw [hP]; rfl
      obtain ⟨M, hM2⟩ : ∃ M, its.length = M := ⟨_, rfl⟩
      rw [hM2] at x8 hcs
      rw [hcs] at hM hone
      have hlI : (k : Int) < N := by omega
      have HP := Lib.hid hp; have HCS := Lib.hid hcs; have HONE := Lib.hid hone
      have hcells : Hid (∀ W, Fr (fun _ => False) wr W → W.cell? (ad.add (k * 9)) = some (.int .i64 c') ∧ W.cell? ⟨(ad.add (k * 9)).block, (ad.add (k * 9)).off + 1, none⟩ = some (.int .i64 n) ∧ W.cell? ⟨(ad.add (k * 9)).block, (ad.add (k * 9)).off + 2, none⟩ = some (.int .i64 kd) ∧ W.cell? ⟨(ad.add (k * 9)).block, (ad.add (k * 9)).off + 3, none⟩ = some (.int .i64 o) ∧ W.cell? ⟨(ad.add (k * 9)).block, (ad.add (k * 9)).off + 4, none⟩ = some (.int .i64 r) ∧ W.cell? ⟨(ad.add (k * 9)).block, (ad.add (k * 9)).off + 5, none⟩ = some (.int .i64 t) ∧ W.cell? ⟨(ad.add (k * 9)).block, (ad.add (k * 9)).off + 6, none⟩ = some (.int .i64 m) ∧ W.cell? ⟨(ad.add (k * 9)).block, (ad.add (k * 9)).off + 7, none⟩ = some (vS g) ∧ W.cell? ⟨(ad.add (k * 9)).block, (ad.add (k * 9)).off + 8, none⟩ = some (.slice la M lc)) :=
        Lib.hid (fun W hf => ⟨hf.cell x0 (fun h => h), hf.cell x1 (fun h => h), hf.cell x2 (fun h => h), hf.cell x3 (fun h => h), hf.cell x4 (fun h => h), hf.cell x5 (fun h => h), hf.cell x6 (fun h => h), hf.cell x7 (fun h => h), hf.cell x8 (fun h => h)⟩)
      have hz : Hid ((rightL (L.take k)).length ≤ N) := Lib.hid (hrl.out k)
      obtain ⟨q, hq⟩ : ∃ q, (rightL (L.take k)).length = q := ⟨_, rfl⟩
      obtain ⟨F, hFl⟩ : ∃ F, flat AV.cs (rightL (L.take k)) = F := ⟨_, rfl⟩
      have hql : Hid (q ≤ 1000) := Lib.hid (by have := hz.out; omega)
      have hstep : Hid (P.may = true → (rightL (L.take (k + 1))).length = q + 1 ∧ flat AV.cs (rightL (L.take (k + 1))) = F ++ [.int .i64 c', .int .i64 n, .int .i64 kd, .int .i64 o, .int .i64 r, .int .i64 t, .int .i64 m, vS g, .slice la M lc]) := Lib.hid (fun hm => by
        rw [rightL_yes hp hm, List.length_append, hq, flatA_snoc, hFl, hcs]
        exact ⟨rfl, rfl⟩)
      have hskip : Hid (P.may = false → (rightL (L.take (k + 1))).length = q ∧ flat AV.cs (rightL (L.take (k + 1))) = F) := Lib.hid (fun hm => by rw [rightL_no hp hm]; exact ⟨hq, hFl⟩)
      rw [hq, hFl] at HO
      clear hP hM2 hp hcs hok z0 zs hfr hown hq hFl hone hz
      cases hmy : P.may with
      | false =>
        obtain ⟨s1, s2⟩ := hskip.out hmy
        have HS := Lib.hid (⟨s1, s2⟩ : (rightL (L.take (k + 1))).length = q ∧ flat AV.cs (rightL (L.take (k + 1))) = F)
        rw [hmy] at hM
        have HM := Lib.hid hM
        clear hmy s1 s2 hM
        go_wp2_with (go_at_call 47; refine HM.out.mono ?_; rintro e w1 ⟨rfl, hf1⟩; have HF1 := Lib.hid hf1; clear hf1)
        go_roundw
        case rel => exact ⟨k + 1, by omega, by go_num, by rw [HS.out.1, HS.out.2]; exact HF1.out.row HO.out (fun _ _ h => h), HFR.out.trans HF1.out⟩
        case measure => simp [intOf]; omega
      | true =>
        obtain ⟨s1, s2⟩ := hstep.out hmy
        have HS := Lib.hid (⟨s1, s2⟩ : (rightL (L.take (k + 1))).length = q + 1 ∧ flat AV.cs (rightL (L.take (k + 1))) = F ++ [.int .i64 c', .int .i64 n, .int .i64 kd, .int .i64 o, .int .i64 r, .int .i64 t, .int .i64 m, vS g, .slice la M lc])
        rw [hmy] at hM
        have HM := Lib.hid hM
        clear hmy s1 s2 hM
        go_wp2_with (first
          | (go_at_call 47; refine HM.out.mono ?_; rintro e w1 ⟨rfl, hf1⟩; have HF1 := Lib.hid hf1; obtain ⟨y0, y1, y2, y3, y4, y5, y6, y7, y8⟩ := hcells.out _ hf1; have HO1 := Lib.hid (hf1.row HO.out (fun _ _ h => h)); clear hf1)
          | (at_builtin; refine wpList_append_own _ rfl _ _ 22 rfl w.heap.size 50 i0 _ 9 96 Tryz.underlying22 hi' hz0 hz1 hz2 rfl (by decide) _ q F rfl (HO1.out.alloc _) ⟨w1.heap.size, 0, none⟩ 1 1 [.int .i64 c', .int .i64 n, .int .i64 kd, .int .i64 o, .int .i64 r, .int .i64 t, .int .i64 m, vS g, .slice la M lc] rfl rfl (cellsNew _ _ _) (fun u hu => HONE.out u (by simpa using hu)) (by have := hql.out; unfold maxLen; omega) (by have := hql.out; omega) (by have := (HFR.out.trans HF1.out).size; simp; omega) ?_; intro v' w2 hown' hgrow hnil))
        go_roundw
        case rel => exact ⟨k + 1, by omega, by go_num, by rw [HS.out.1, HS.out.2]; exact hown', frGrown (HFR.out.trans HF1.out) HO1.out hgrow⟩
        case measure => simp [intOf]; omega
    · obtain rfl : k = N := by omega
      have hall : L.take k = L := List.take_of_length_le (by rw [HN.out]; exact Nat.le_refl _)
      rw [hall] at HO
      clear hall hfr hown
      go_wp2_with fail
      go_ret
      exact ⟨_, rfl, HO.out, HFR.out⟩
end Go.Proofs.YtbeikkkmobbnkaaGreat
namespace Go.Proofs.YtbeikkkmobbnkaaGreat
open Go.RowKit
section
variable {F : Fence} {n : Nat} {P : Program} {ops : Array Oper} {Q : Exit → Act → World → Prop} {md : Region.Mode}
/-- The operation is no 'defer'. -/
def notDefer (o : Oper) : Bool := match o.op with | .defer _ => false | _ => true
theorem notDefer_spec {o : Oper} (h : notDefer o = true) : ∀ c, o.op ≠ .defer c := fun c e => by
  unfold notDefer at h
  rw [e] at h
  cases h
theorem uponIn_inRound (l : Nat) {o : Oper} {a : Act} {next : Act → World → Prop} {r : Result Next} (h : o.uponIn F n P a next Q r) : o.uponIn (F.inRound l) n P a next Q r := h
theorem wpOpIn_inRound (l : Nat) (hro : F.round = none) (hnd : ∀ o ∈ ops, notDefer o = true) {i : Nat} {K : Act → World → Prop} {a : Act} {w : World} (hh : wpOpIn F n P ops Q i K a w) : wpOpIn (F.inRound l) n P ops Q i K a w := by
  unfold wpOpIn at *
  split
  · rename_i ho; simp only [ho] at hh; exact hh
  · rename_i o ho
    simp only [ho] at hh
    split
    · rename_i hw
      simp only [hw, if_true] at hh
      have hd := notDefer_spec (hnd o (Array.mem_of_getElem? ho))
      refine ⟨hh.1, ?_⟩
      have h2 := hh.2
      rw [hro, Oper.semAt_eq _ _ _ hd] at h2
      rw [Oper.semAt_eq _ _ _ hd]
      exact uponIn_inRound l h2
    · rename_i hw; simp only [hw] at hh; exact hh
theorem wpAnyIn_inRound (l : Nat) (hro : F.round = none) (hnd : ∀ o ∈ ops, notDefer o = true) : ∀ (fuel : Nat) (listed : Array Bool) (a : Act) (w : World), wpAnyIn F n P md ops Q fuel listed a w → wpAnyIn (F.inRound l) n P md ops Q fuel listed a w
  | 0, _, _, _, h => h
  | fuel + 1, _, _, _, h => ⟨h.1, fun i hi => wpOpIn_inRound l hro hnd (wpOpIn_mono (fun a w => wpAnyIn_inRound l hro hnd fuel _ a w) (h.2 i hi))⟩
theorem wpIn_region_quiet_round {C : World → Prop} {id l : Nat} {a : Act} {w : World} (hro : F.round = none) (hm : P.follows .mixedOrders = true) (hB : Region.lexB .any ops = true) (hnd : ops.all notDefer = true) (hC : C { w with drawn := w.drawn + 1 })
    (h : wpQuietIn F n P ops C (fun a' => ∀ w', C w' → Q .normal a' w') ops.toList a) : (Code.region id ops true).wpIn (F.inRound l) n P Q a w := by
  have hnd' : ∀ o ∈ ops, notDefer o = true := fun o ho => Array.all_eq_true_iff_forall_mem.1 hnd o ho
  simp only [Region.lexB, Bool.and_eq_true] at hB
  refine wpIn_region_any hm (wpAnyIn_inRound l hro hnd' _ _ _ _ (wpAnyIn_of_quiet (Q := fun a' => ∀ w', C w' → Q .normal a' w') hro (fun _ w' hw' h => h w' hw') _ _ _ _ hC ?_))
  have := wpAnyQIn_lex (F := F) (n := n) (C := C) (md := .any) hB.1 ops.toList 0 (Array.replicate ops.size false) a (by simp) (by simpa using hB.2) h
  simpa using this
theorem wpIn_region_fr_round {id l : Nat} {a : Act} {w : World} {L : List Oper} (hm : P.follows .mixedOrders = true) (hB : Region.lexB .any L.toArray = true) (hnd : L.toArray.all notDefer = true)
    (h : wpQuietIn Fence.wide n P L.toArray (fun w' => ∃ X : FrW w, w' = X.val) (fun a' => ∀ w', (∃ X : FrW w, w' = X.val) → Q .normal a' w') L a) : (Code.region id L.toArray true).wpIn (Fence.wide.inRound l) n P Q a w :=
  wpIn_region_quiet_round (F := Fence.wide) (C := fun w' => ∃ X : FrW w, w' = X.val) rfl hm hB hnd ⟨⟨_, (Fr.refl _ w).drew⟩, rfl⟩ (by simpa using h)
end
end Go.Proofs.YtbeikkkmobbnkaaGreat
