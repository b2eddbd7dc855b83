/- entrepotref06: put: that it answers (written by wip/tools/put6.py). -/
import Derived.Test.YtogphlnakdnchaaGreatHoldBackM1
import Derived.Test.YtogphlnakdnchaaGreatHoldBackM2
import Derived.Test.YtogphlnakdnchaaGreatHoldBackM3
import Derived.BigRegion
import Derived.Deep.RegionHeld3
namespace Go.Proofs.YtogphlnakdnchaaGreat
open Go.RowKit Go.Maps
theorem itCs_take (L : Its) : ∀ k, itCs (L.take k) = (itCs L).take (k * 2) := by
  induction L with
  | nil => intro k; simp [itCs]
  | cons q r ih =>
    intro k
    cases k with
    | zero => simp [itCs]
    | succ k =>
      have e : (k + 1) * 2 = k * 2 + 1 + 1 := by omega
      rw [e]
      show vS q.1 :: .int .i64 q.2 :: itCs (r.take k) = _
      rw [ih k]
      rfl
theorem itCs_drop (L : Its) : ∀ k, itCs (L.drop k) = (itCs L).drop (k * 2) := by
  induction L with
  | nil => intro k; simp [itCs]
  | cons q r ih =>
    intro k
    cases k with
    | zero => simp [itCs]
    | succ k =>
      have e : (k + 1) * 2 = k * 2 + 1 + 1 := by omega
      rw [e]
      show itCs (r.drop k) = _
      rw [ih k]
      rfl
theorem itCs_set (L : Its) : ∀ (k : Nat) (p : Str × Int) (n : Int), L[k]? = some p → (itCs L).set (k * 2 + 1) (.int .i64 n) = itCs (L.set k (p.1, n)) := by
  induction L with
  | nil => intro k p n h; simp at h
  | cons q r ih =>
    intro k p n h
    cases k with
    | zero => simp at h; subst h; rfl
    | succ k =>
      have e : (k + 1) * 2 + 1 = (k * 2 + 1) + 1 + 1 := by omega
      rw [e]
      show vS q.1 :: .int .i64 q.2 :: (itCs r).set (k * 2 + 1) (.int .i64 n) = _
      rw [ih k p n (by simpa using h)]
      rfl
/-- A place of an own row is written. -/
theorem own_put {w : World} {base size g n c k : Nat} {e : TypeId} {xs : List Value} (h : w.ownsRow base e size (.slice (some ⟨g, 0, none⟩) n c) n xs) (u : Value) : (w.setCell ⟨g, k, none⟩ u).ownsRow base e size (.slice (some ⟨g, 0, none⟩) n c) n (xs.set k u) := by
  obtain ⟨h1, h2⟩ := h
  refine ⟨by rw [List.length_set]; exact h1, ?_⟩
  rcases h2 with ⟨e1, _⟩ | ⟨g', c', cur, e1, q1, q2, q3, q4, q5, q6⟩
  · injection e1 with e1; cases e1
  · injection e1 with e1 _ e3
    injection e1 with e1; injection e1 with e1
    subst e1; subst e3
    refine .inr ⟨g, c, cur.setIfInBounds k u, rfl, q1, obj_set q2 k u, q3, q4, by simpa using q5, ?_⟩
    rw [Array.toList_setIfInBounds, List.take_set, q6]
theorem own_frz {w : World} {base size g n c : Nat} {e : TypeId} {xs : List Value} (h : w.ownsRow base e size (.slice (some ⟨g, 0, none⟩) n c) n xs) (j : Nat) : w.frozen? ⟨g, j, none⟩ = false := by
  rcases h.2 with ⟨e1, _⟩ | ⟨g', c', cur, e1, q1, q2, _⟩
  · injection e1 with e1; cases e1
  · injection e1 with e1 _ _
    injection e1 with e1; injection e1 with e1
    subst e1
    exact obj_frozen q2 j
set_option maxRecDepth 100000 in
set_option maxHeartbeats 16000000 in
theorem rPut6 (w : World) (base : Nat) (v : Value) (L : Its) (s : Str) (n : Int) (h : w.ownsRow base 65 2 v L.length (itCs L)) (hL : ∀ p ∈ L, okS p.1 ∧ okI p.2) (hl : L.length ≤ 100000) (hs : okS s) (hn : okI n) :
    Calls Tryz.prog 124 #[v, vS s, .int .i64 n] w fun e w' => ∃ v' L', e = .returned v' ∧ w'.ownsRow w.heap.size 65 2 v' L'.length (itCs L') ∧ (∀ p ∈ L', okS p.1 ∧ okI p.2) ∧ L'.length ≤ L.length + 1 ∧ Fr (fun _ => False) w w' := by
  obtain ⟨i0, hi', hz0, hz1, hz2⟩ := info_parts infoItem
  obtain ⟨N, hN⟩ : ∃ N, L.length = N := ⟨_, rfl⟩
  have HL := Lib.hid (Il.own h hL).1
  have HB := Lib.hid (Il.own h hL).2
  rw [hN] at h hl ⊢
  obtain ⟨a, c, rfl⟩ := row_sl h
  have HH := Lib.hid h; have HN := Lib.hid hN; have HLK := Lib.hid hL; have HSN := Lib.hid (And.intro hs hn)
  have hcap := Lib.hid (own_len h)
  have hnI : (N : Int) ≤ 100000 := by omega
  clear h hN hL hs hn
  go_enter Tryz.func124, Tryz.ntmps124
  go_wp2_with fail
  go_loopw [7] (fun i wr => ∃ k : Nat, k ≤ N ∧ i = .int .i64 k ∧ wr = w) (fun i _ => N - (intOf i).toNat)
  case atStart => exact ⟨0, Nat.zero_le _, rfl, rfl⟩
  case round =>
    obtain ⟨j, hj, rfl, rfl⟩ := hrel
    have HJ := Lib.hid hj
    by_cases hlt : j < N
    · obtain ⟨p, hp⟩ : ∃ p, L[j]? = some p := ⟨L[j]'(by rw [HN.out]; exact hlt), List.getElem?_eq_getElem _⟩
      have HP := Lib.hid hp
      obtain ⟨ad, rfl, hs1, hs2, x0, x1⟩ := HL.out.at_ hp
      obtain ⟨gd, m⟩ := p
      dsimp only at x0 x1
      have hltI : (j : Int) < N := by omega
      clear hp hs1 hs2
      cases q1 : Op.bytesLess gd s with
      | true =>
        go_wp2_with fail
        go_roundw
        case rel => exact ⟨j + 1, by omega, by go_num, (by first | rfl | trivial)⟩
        case measure => simp [intOf]; omega
      | false =>
        by_cases e : gd = s
        · have q2 : (gd == s) = true := by simpa using e
          clear e
          obtain ⟨gp, ea, -, -⟩ := row_addr HH.out (by omega)
          injection ea with ea
          subst ea
          rw [addk] at x0 x1
          dsimp only at x0 x1
          have HRD := Lib.hid (Rd.own HH.out)
          have HONE : Hid (∀ u ∈ itCs L, u.oneCell' = true) := Lib.hid (fun u hu => itCs_one hu)
          go_wp2_with (at_builtin; (refine wpList_append_src rfl _ _ 27 rfl wr.heap.size 65 i0 (.agg #[.string ⟨#[]⟩, .int .i64 0]) 24 Tryz.underlying27 hi' hz0 hz1 hz2 rfl (by decide) _ 0 [] rfl (own_none (Nat.le_refl _)) c rfl (HRD.out.fr ((Fr.refl (fun _ => False) wr).alloc (.cells #[] 65)) (fun _ _ h => h)) (fun u hu => HONE.out u hu) (by unfold maxLen; omega) (by omega) (by simp) ?_; intro va wa howna hgrowa hloca; obtain ⟨ba, bc, rfl⟩ := row_sl howna; have hFa : Hid (Fr (fun b => wr.heap.size ≤ b) wr wa) := Lib.hid (((Fr.refl _ wr).alloc (.cells #[] 65)).trans (Fr.grown hgrowa (fun r hr _ => by cases hr; exact Nat.le_refl _))); rw [Nat.zero_add, List.nil_append] at howna; have HOa := Lib.hid howna; clear howna hgrowa hloca; obtain ⟨gq, rfl, -, -⟩ := row_addr HOa.out (by omega); have y1 := ((Rd.own HOa.out).at_ (by omega) (itCs_at HP.out).2); obtain ⟨ad', ea', y1⟩ := y1; cases ea'; rw [addk] at y1; have y2 := own_frz HOa.out (j * 2 + 1)))
          have hall : ∀ p ∈ L.set j (gd, n), okS p.1 ∧ okI p.2 := by
            intro q hq
            rcases List.mem_or_eq_of_mem_set hq with hq | rfl
            · exact HLK.out q hq
            · exact ⟨(HLK.out _ (List.mem_of_getElem? HP.out)).1, HSN.out.2⟩
          have HALL := Lib.hid hall
          clear hall
          go_ret
          refine ⟨_, rfl, L.set j (gd, n), ?_, fun a b h => HALL.out (a, b) h, by rw [List.length_set, HN.out]; omega, ?_⟩
          · rw [← itCs_set L j (gd, m) n HP.out, List.length_set, HN.out]
            exact own_put HOa.out _
          · have hb := HOa.out.lt gq rfl
            exact (hFa.out.setCell (p := ⟨gq, j * 2 + 1, none⟩) (fun _ => hb.1) _).mono (fun b hb e => by omega)
        · have q2 : (gd == s) = false := by simpa using e
          clear e
          obtain ⟨hs1, hd1⟩ := sub_take HH.out Tryz.underlying27 hi' HJ.out
          obtain ⟨A2, hs2, hd2, hbk⟩ := sub_drop HH.out Tryz.underlying27 hi' hz1 HJ.out
          rw [← itCs_take] at hd1
          rw [← itCs_drop] at hd2
          have hold : ∀ ad0, (some ad) = some ad0 → ad0.block < wr.heap.size := fun ad0 e => (HB.out _ (by rw [e]; rfl)).2
          have HFD : Hid (∀ w', Fr (fun b => wr.heap.size ≤ b) wr w' → Rd w' 2 (some ad) j (itCs (L.take j))) := Lib.hid (fun w' hf => hd1.fr hf (fun ad e hh => by have := hold ad e; omega))
          have HFE : Hid (∀ w', Fr (fun b => wr.heap.size ≤ b) wr w' → Rd w' 2 A2 (N - j) (itCs (L.drop j))) := Lib.hid (fun w' hf => hd2.fr hf (fun ad e hh => by obtain ⟨ad', e', hb⟩ := hbk ad e; have := hold ad' e'; omega))
          have HONE : Hid (∀ S : Its, ∀ u ∈ itCs S, u.oneCell' = true) := Lib.hid (fun S u hu => itCs_one hu)
          have hjn : Hid (j ≤ N ∧ N ≤ 100000) := Lib.hid ⟨HJ.out, by omega⟩
          clear hd1 hd2 hbk hold hj hlt
          go_wp2_with fail
          go_region_held3 (fun _ => True) (trivial) ((first
            | (refine step_append_src rfl (.tmp 46) (.tmp 49) 27 rfl wr.heap.size 65 i0 _ 24 Tryz.underlying27 hi' hz0 hz1 hz2 rfl (by decide) _ 0 [] (by rfl) (by first | exact own_none (Nat.le_refl _) | exact (own_none (Nat.le_refl _)).alloc _ | exact own_none (by simp) | exact (Fr.refl (fun _ => False) _).drew.row (own_none' (by simp) (by omega)) (fun _ _ h => h)) c (by rfl) (HFD.out _ (by first | exact ((Fr.refl _ wr).drew).alloc _ | exact (((Fr.refl _ wr).drew).alloc _).alloc _)) (HONE.out _) (by have := hjn.out; unfold maxLen; omega) (by have := hjn.out; omega) (by simp <;> omega) ?_
               intro v1 w1 hown1 hgrow1 hloc1
               have hF1 : Fr (fun b => wr.heap.size ≤ b) wr w1 := Fr.trans (by first | exact ((Fr.refl _ wr).drew).alloc _ | exact (((Fr.refl _ wr).drew).alloc _).alloc _) (Fr.grown hgrow1 (by intro r hr _; cases hr; simp))
               rw [Nat.zero_add, List.nil_append] at hown1
               obtain ⟨a1, c1, rfl⟩ := row_sl hown1
               first
               | have hel : w1.heap[wr.heap.size + 1]? = some (.cells #[vS s, .int .i64 n] 65) := (Fr.grown (S := fun b => b = wr.heap.size) hgrow1 (by intro r hr _; cases hr; rfl)).at_ (heap_at (by simp) _) (by omega)
               | have hel : w1.heap[wr.heap.size]? = some (.cells #[vS s, .int .i64 n] 65) := (Fr.grown (S := fun b => b = wr.heap.size + 1) hgrow1 (by intro r hr _; cases hr; simp)).at_ (heap_keep (heap_at (by simp) _) _) (by omega)
               | skip)
            | (refine step_append_src rfl (.tmp 50) (.tmp 54) 27 rfl wr.heap.size 65 i0 _ 24 Tryz.underlying27 hi' hz0 hz1 hz2 rfl (by decide) (.slice a1 j c1) j (itCs (L.take j)) (by rfl) (by first | exact hown1 | exact hown1.alloc _) 1 (by rfl) (by first | exact rd_obj (cs := [vS s, .int .i64 n]) hel rfl | exact rd_obj (cs := [vS s, .int .i64 n]) (heap_new _ _) rfl) (HONE.out [(s, n)]) (by have := hjn.out; unfold maxLen; omega) (by have := hjn.out; omega) (by have := hF1.size; first | exact this | (simp; omega)) ?_
               intro v2 w2 hown2 hgrow2 hloc2
               have hF2 : Fr (fun b => wr.heap.size ≤ b) wr w2 := Fr.trans (by first | exact hF1 | exact hF1.alloc _) (Fr.grown hgrow2 (by intro r hr _; exact (hown1.lt r hr).1))
               obtain ⟨a2, c2, rfl⟩ := row_sl hown2)
            | (refine step_append_src rfl (.tmp 55) (.tmp 58) 27 rfl wr.heap.size 65 i0 _ 24 Tryz.underlying27 hi' hz0 hz1 hz2 rfl (by decide) (.slice a2 (j + 1) c2) (j + 1) (itCs (L.take j) ++ [vS s, .int .i64 n]) (by rfl) hown2 (c - j) (by rfl) (HFE.out _ hF2) (HONE.out _) (by have := hjn.out; unfold maxLen; omega) (by have := hjn.out; omega) hF2.size ?_
               intro v3 w3 hown3 hgrow3 hloc3
               obtain ⟨a3, c3, rfl⟩ := row_sl hown3
               have hF3 : Fr (fun b => wr.heap.size ≤ b) wr w3 := Fr.trans hF2 (Fr.grown hgrow3 (by intro r hr _; exact (hown2.lt r hr).1)))
            ))
          all_goals
            have hlen4 : (L.take j ++ (s, n) :: L.drop j).length = j + 1 + (N - j) := by
              have := HN.out; have := hjn.out
              simp only [List.length_append, List.length_take, List.length_cons, List.length_drop]; omega
            have hown4 : Hid (w3.ownsRow wr.heap.size 65 2 (.slice a3 (j + 1 + (N - j)) c3) (L.take j ++ (s, n) :: L.drop j).length (itCs (L.take j ++ (s, n) :: L.drop j))) := Lib.hid (by
              have e2 : itCs (L.take j ++ (s, n) :: L.drop j) = itCs (L.take j) ++ [vS s, .int .i64 n] ++ itCs (L.drop j) := by
                rw [itCs_app]
                simp [itCs]
              rw [hlen4, e2]
              exact hown3)
            have HL4 := Lib.hid hlen4; have HF3 := Lib.hid hF3
            clear hown3 hgrow3 hloc3 hlen4
            go_wp2_with fail
            go_ret
            refine ⟨_, L.take j ++ (s, n) :: L.drop j, rfl, hown4.out, ?_, by rw [HL4.out]; have := hjn.out; omega, HF3.out.mono (fun b hb e => by omega)⟩
            intro q hq
            rcases List.mem_append.1 hq with hq | hq
            · exact HLK.out q (List.mem_of_mem_take hq)
            · rcases List.mem_cons.1 hq with rfl | hq
              · exact HSN.out
              · exact HLK.out q (List.mem_of_mem_drop hq)
    · have hltI : ¬ (j : Int) < N := by omega
      obtain ⟨hs1, hd1⟩ := sub_take HH.out Tryz.underlying27 hi' HJ.out
      obtain ⟨A2, hs2, hd2, hbk⟩ := sub_drop HH.out Tryz.underlying27 hi' hz1 HJ.out
      rw [← itCs_take] at hd1
      rw [← itCs_drop] at hd2
      have hold : ∀ ad0, a = some ad0 → ad0.block < wr.heap.size := fun ad0 e => (HB.out _ (by rw [e]; rfl)).2
      have HFD : Hid (∀ w', Fr (fun b => wr.heap.size ≤ b) wr w' → Rd w' 2 a j (itCs (L.take j))) := Lib.hid (fun w' hf => hd1.fr hf (fun ad e hh => by have := hold ad e; omega))
      have HFE : Hid (∀ w', Fr (fun b => wr.heap.size ≤ b) wr w' → Rd w' 2 A2 (N - j) (itCs (L.drop j))) := Lib.hid (fun w' hf => hd2.fr hf (fun ad e hh => by obtain ⟨ad', e', hb⟩ := hbk ad e; have := hold ad' e'; omega))
      have HONE : Hid (∀ S : Its, ∀ u ∈ itCs S, u.oneCell' = true) := Lib.hid (fun S u hu => itCs_one hu)
      have hjn : Hid (j ≤ N ∧ N ≤ 100000) := Lib.hid ⟨HJ.out, by omega⟩
      clear hd1 hd2 hbk hold hj hlt
      go_wp2_with fail
      go_region_held3 (fun _ => True) (trivial) ((first
        | (refine step_append_src rfl (.tmp 46) (.tmp 49) 27 rfl wr.heap.size 65 i0 _ 24 Tryz.underlying27 hi' hz0 hz1 hz2 rfl (by decide) _ 0 [] (by rfl) (by first | exact own_none (Nat.le_refl _) | exact (own_none (Nat.le_refl _)).alloc _ | exact own_none (by simp) | exact (Fr.refl (fun _ => False) _).drew.row (own_none' (by simp) (by omega)) (fun _ _ h => h)) c (by rfl) (HFD.out _ (by first | exact ((Fr.refl _ wr).drew).alloc _ | exact (((Fr.refl _ wr).drew).alloc _).alloc _)) (HONE.out _) (by have := hjn.out; unfold maxLen; omega) (by have := hjn.out; omega) (by simp <;> omega) ?_
           intro v1 w1 hown1 hgrow1 hloc1
           have hF1 : Fr (fun b => wr.heap.size ≤ b) wr w1 := Fr.trans (by first | exact ((Fr.refl _ wr).drew).alloc _ | exact (((Fr.refl _ wr).drew).alloc _).alloc _) (Fr.grown hgrow1 (by intro r hr _; cases hr; simp))
           rw [Nat.zero_add, List.nil_append] at hown1
           obtain ⟨a1, c1, rfl⟩ := row_sl hown1
           first
           | have hel : w1.heap[wr.heap.size + 1]? = some (.cells #[vS s, .int .i64 n] 65) := (Fr.grown (S := fun b => b = wr.heap.size) hgrow1 (by intro r hr _; cases hr; rfl)).at_ (heap_at (by simp) _) (by omega)
           | have hel : w1.heap[wr.heap.size]? = some (.cells #[vS s, .int .i64 n] 65) := (Fr.grown (S := fun b => b = wr.heap.size + 1) hgrow1 (by intro r hr _; cases hr; simp)).at_ (heap_keep (heap_at (by simp) _) _) (by omega)
           | skip)
        | (refine step_append_src rfl (.tmp 50) (.tmp 54) 27 rfl wr.heap.size 65 i0 _ 24 Tryz.underlying27 hi' hz0 hz1 hz2 rfl (by decide) (.slice a1 j c1) j (itCs (L.take j)) (by rfl) (by first | exact hown1 | exact hown1.alloc _) 1 (by rfl) (by first | exact rd_obj (cs := [vS s, .int .i64 n]) hel rfl | exact rd_obj (cs := [vS s, .int .i64 n]) (heap_new _ _) rfl) (HONE.out [(s, n)]) (by have := hjn.out; unfold maxLen; omega) (by have := hjn.out; omega) (by have := hF1.size; first | exact this | (simp; omega)) ?_
           intro v2 w2 hown2 hgrow2 hloc2
           have hF2 : Fr (fun b => wr.heap.size ≤ b) wr w2 := Fr.trans (by first | exact hF1 | exact hF1.alloc _) (Fr.grown hgrow2 (by intro r hr _; exact (hown1.lt r hr).1))
           obtain ⟨a2, c2, rfl⟩ := row_sl hown2)
        | (refine step_append_src rfl (.tmp 55) (.tmp 58) 27 rfl wr.heap.size 65 i0 _ 24 Tryz.underlying27 hi' hz0 hz1 hz2 rfl (by decide) (.slice a2 (j + 1) c2) (j + 1) (itCs (L.take j) ++ [vS s, .int .i64 n]) (by rfl) hown2 (c - j) (by rfl) (HFE.out _ hF2) (HONE.out _) (by have := hjn.out; unfold maxLen; omega) (by have := hjn.out; omega) hF2.size ?_
           intro v3 w3 hown3 hgrow3 hloc3
           obtain ⟨a3, c3, rfl⟩ := row_sl hown3
           have hF3 : Fr (fun b => wr.heap.size ≤ b) wr w3 := Fr.trans hF2 (Fr.grown hgrow3 (by intro r hr _; exact (hown2.lt r hr).1)))
        ))
      all_goals
        have hlen4 : (L.take j ++ (s, n) :: L.drop j).length = j + 1 + (N - j) := by
          have := HN.out; have := hjn.out
          simp only [List.length_append, List.length_take, List.length_cons, List.length_drop]; omega
        have hown4 : Hid (w3.ownsRow wr.heap.size 65 2 (.slice a3 (j + 1 + (N - j)) c3) (L.take j ++ (s, n) :: L.drop j).length (itCs (L.take j ++ (s, n) :: L.drop j))) := Lib.hid (by
          have e2 : itCs (L.take j ++ (s, n) :: L.drop j) = itCs (L.take j) ++ [vS s, .int .i64 n] ++ itCs (L.drop j) := by
            rw [itCs_app]
            simp [itCs]
          rw [hlen4, e2]
          exact hown3)
        have HL4 := Lib.hid hlen4; have HF3 := Lib.hid hF3
        clear hown3 hgrow3 hloc3 hlen4
        go_wp2_with fail
        go_ret
        refine ⟨_, L.take j ++ (s, n) :: L.drop j, rfl, hown4.out, ?_, by rw [HL4.out]; have := hjn.out; omega, HF3.out.mono (fun b hb e => by omega)⟩
        intro q hq
        rcases List.mem_append.1 hq with hq | hq
        · exact HLK.out q (List.mem_of_mem_take hq)
        · rcases List.mem_cons.1 hq with rfl | hq
          · exact HSN.out
          · exact HLK.out q (List.mem_of_mem_drop hq)
end Go.Proofs.YtogphlnakdnchaaGreat

