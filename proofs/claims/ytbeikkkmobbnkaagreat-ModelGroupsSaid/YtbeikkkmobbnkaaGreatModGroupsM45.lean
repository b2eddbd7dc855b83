/- entrepotref25.Orders (written by wip/tools/md31.py). -/
import Derived.Test.YtbeikkkmobbnkaaGreatModGroupsM3
import Derived.Test.YtbeikkkmobbnkaaGreatModGroupsM44
import Derived.Deep.RegionHeld3
namespace Go.Proofs.YtbeikkkmobbnkaaGreat
open Go.RowKit Go.Maps
theorem infoInt : (Tryz.prog.info? 3).map (fun i => (i.zero, i.size, i.bytes)) = some (some (.int .i64 0), 1, 8) := by kernel_rfl
abbrev vI (x : Int) : Value := .int .i64 x
def atI (S : List Int) (s : Int) : Nat := (S.takeWhile fun x => decide (x < s)).length
def putI (S : List Int) (s : Int) : List Int := if S[atI S s]? = some s then S else S.take (atI S s) ++ s :: S.drop (atI S s)
theorem atI_eq {s : Int} : ∀ {S : List Int} {j : Nat}, (∀ q x, q < j → S[q]? = some x → x < s) → (∀ x, S[j]? = some x → ¬ x < s) → j ≤ S.length → atI S s = j
  | [], j, _, _, h => by simp at h; subst h; rfl
  | y :: r, 0, _, h2, _ => by
    have := h2 y rfl
    simp [atI, List.takeWhile_cons, this]
  | y :: r, j + 1, h1, h2, h3 => by
    have hy := h1 0 y (by omega) rfl
    have ih := atI_eq (S := r) (j := j) (s := s) (fun q x hq hx => h1 (q + 1) x (by omega) (by simpa using hx)) (fun x hx => h2 x (by simpa using hx)) (by simpa using h3)
    unfold atI at ih ⊢
    rw [List.takeWhile_cons]
    simp [hy, ih]
theorem putI_len (S : List Int) (s : Int) : (putI S s).length ≤ S.length + 1 := by
  unfold putI
  split
  · omega
  · simp only [List.length_append, List.length_take, List.length_cons, List.length_drop]; omega
def ordStep (l : List Int) (a : AV) : List Int := if ordF a = 0 then l else putI l (ordF a)
/-- The orders that are made, rising. -/
def ordR (L : List AV) : List Int := L.foldl ordStep []
theorem ordR_take {L : List AV} {k : Nat} {p : AV} (h : L[k]? = some p) : ordR (L.take (k + 1)) = ordStep (ordR (L.take k)) p := by
  unfold ordR
  rw [List.take_add_one, h, List.foldl_append]
  rfl
theorem ordR_len (L : List AV) : ∀ k, (ordR (L.take k)).length ≤ k
  | 0 => by simp [ordR]
  | k + 1 => by
    have ih := ordR_len L k
    cases h : L[k]? with
    | none =>
      have : L.take (k + 1) = L.take k := by rw [List.take_add_one, h]; simp
      rw [this]; omega
    | some p =>
      rw [ordR_take h]
      unfold ordStep
      split
      · omega
      · have := putI_len (ordR (L.take k)) (ordF p); omega
set_option maxRecDepth 100000 in
set_option maxHeartbeats 16000000 in
theorem r25Orders (w : World) (v : Value) (L : List AV) (h : Al w v L) (hl : L.length ≤ 1000) : Calls Tryz.prog 19 #[v] w fun e w' => ∃ v', e = .returned v' ∧ w'.ownsRow w.heap.size 3 1 v' (ordR L).length ((ordR L).map vI) ∧ Fr (fun _ => False) w w' := by
  have HL := Lib.hid h
  obtain ⟨va, vc, rfl⟩ := h.sl
  obtain ⟨N, hN⟩ : ∃ N, L.length = N := ⟨_, rfl⟩
  rw [hN] at HL hl ⊢
  have HN := Lib.hid hN
  have hNI : (N : Int) ≤ 1000 := by omega
  clear h hN hl
  go_enter Tryz.func19, Tryz.ntmps19
  go_wp2_with fail
  go_loopw [3, 4] (fun v i wr => ∃ k : Nat, k ≤ N ∧ i = .int .i64 k ∧ wr.ownsRow w.heap.size 3 1 v (ordR (L.take k)).length ((ordR (L.take k)).map vI) ∧ Fr (fun _ => False) w wr) (fun _ i _ => N - (intOf i).toNat)
  case atStart => exact ⟨0, Nat.zero_le _, rfl, World.ownsRow_nil _ _ _ _, Fr.refl _ _⟩
  case round =>
    obtain ⟨k, hk, rfl, hown, hfr⟩ := hrel
    have HFR := Lib.hid hfr
    obtain ⟨wo, hwo⟩ : ∃ wo : World, wo = wr := ⟨_, rfl⟩
    rw [← hwo] at HFR hown hfr ⊢
    clear hwo
    obtain ⟨S, hS⟩ : ∃ S, ordR (L.take k) = S := ⟨_, rfl⟩
    have hSl := ordR_len L k
    rw [hS] at hown hSl
    obtain ⟨a, c, rfl⟩ := row_sl hown
    obtain ⟨n, hn⟩ : ∃ n, S.length = n := ⟨_, rfl⟩
    rw [hn] at hown hSl ⊢
    have HSN := Lib.hid hn; have HROW := Lib.hid hown; have HS := Lib.hid hS
    have hrd := Rd.own hown
    have hnI : (n : Int) ≤ 1000 := by omega
    by_cases hlt : k < N
    · obtain ⟨pe, hp⟩ : ∃ p, L[k]? = some p := ⟨L[k]'(by rw [HN.out]; exact hlt), List.getElem?_eq_getElem _⟩
      have hlI : (k : Int) < N := by omega
      have HT := Lib.hid (ordR_take hp)
      obtain ⟨ade, rfl, hoke, z0, zs⟩ := (HL.out.fr0 aokKeeps hfr).at_ hp
      have HOKe := Lib.hid hoke
      have honee := avOne hoke
      obtain ⟨lae, lce, hle⟩ := hoke.l.sl
      obtain ⟨Pe, hPe⟩ : ∃ P : AV, P = pe := ⟨_, rfl⟩
      rw [← hPe] at hp HOKe honee HT
      obtain ⟨ce, ne, kde, oe, re, te, me, ge, le, itse⟩ := pe
      dsimp only at hle
      subst hle
      have x0e := z0 (.int .i64 ce) rfl
      have x1e := zs 0 (.int .i64 ne) rfl
      have x2e := zs 1 (.int .i64 kde) rfl
      have x3e := zs 2 (.int .i64 oe) rfl
      have x4e := zs 3 (.int .i64 re) rfl
      have x5e := zs 4 (.int .i64 te) rfl
      have x6e := zs 5 (.int .i64 me) rfl
      have x7e := zs 6 (vS ge) rfl
      have x8e := zs 7 (.slice lae itse.length lce) rfl
      dsimp only [Nat.zero_add, Nat.reduceAdd] at x0e x1e x2e x3e x4e x5e x6e x7e x8e
      have hcse : Pe.cs = #[.int .i64 ce, .int .i64 ne, .int .i64 kde, .int .i64 oe, .int .i64 re, .int .i64 te, .int .i64 me, vS ge, .slice lae itse.length lce] := by rw [hPe]; rfl
      have hPce : Pe.c = ce := by rw [hPe]
      have hPne : Pe.n = ne := by rw [hPe]
      have hPke : Pe.k = kde := by rw [hPe]
      have hPoe : Pe.o = oe := by rw [hPe]
      have hPie : Pe.its = itse := by rw [hPe]
      have hPge : Pe.g = ge := by rw [hPe]
      have hPle : Pe.l = .slice lae itse.length lce := by rw [hPe]
      obtain ⟨Me, hMe⟩ : ∃ M, itse.length = M := ⟨_, rfl⟩
      rw [hMe] at x8e hcse hPle
      rw [hcse] at honee
      have HPe := Lib.hid hp
      have HCSe := Lib.hid hcse
      have HONEe := Lib.hid honee
      have HPCe := Lib.hid hPce
      have HPNe := Lib.hid hPne
      have HPKe := Lib.hid hPke
      have HPOe := Lib.hid hPoe
      have HPIe := Lib.hid hPie
      have HPGe := Lib.hid hPge
      have HPLe := Lib.hid hPle
      have HMe := Lib.hid hMe
      clear hp hoke honee z0 zs hPe hcse hPce hPne hPke hPoe hPie hPge hPle hMe
      have hOrd : Hid (Calls Tryz.prog 41 #[.agg #[.int .i64 ce, .int .i64 ne, .int .i64 kde, .int .i64 oe, .int .i64 re, .int .i64 te, .int .i64 me, vS ge, .slice lae Me lce]] wo fun e w' => e = .returned (.int .i64 (ordF Pe)) ∧ Fr (fun _ => False) wo w') := Lib.hid (by
        have := r25Order wo Pe HOKe.out
        rw [HCSe.out] at this; exact this)
      obtain ⟨s, hs⟩ : ∃ s, ordF Pe = s := ⟨_, rfl⟩
      rw [hs] at hOrd
      have hstep : Hid (ordR (L.take (k + 1)) = if s = 0 then S else putI S s) := Lib.hid (by rw [HT.out, HS.out]; unfold ordStep; rw [hs])
      have hcell0 : Hid (∀ q x, S[q]? = some x → ∃ ad, a = some ad ∧ wo.cell? (ad.add q) = some (vI x)) := Lib.hid (fun q x hx => hrd.at_ (by have := (List.getElem?_eq_some_iff.1 hx).1; omega) (by rw [List.getElem?_map, hx]; rfl))
      clear hfr hown hS hn hrd hs
      go_wp2_with (go_at_call 41; refine hOrd.out.mono ?_; rintro e w1 ⟨rfl, hf1⟩; have HF1 := Lib.hid hf1; have HROW1 := Lib.hid (hf1.row HROW.out (fun _ _ h => h)); have hcell := Lib.hid (show ∀ q x, S[q]? = some x → ∃ ad, a = some ad ∧ w1.cell? (ad.add q) = some (vI x) from fun q x hx => by (obtain ⟨ad, e, hc⟩ := hcell0.out q x hx; exact ⟨ad, e, hf1.cell hc (fun h => h)⟩)); clear hf1)
      go_loop [6] (fun i => ∃ j : Nat, j ≤ n ∧ i = .int .i64 j ∧ ∀ q x, q < j → S[q]? = some x → x < s) (fun i => n - (intOf i).toNat)
      case atStart => exact ⟨0, Nat.zero_le _, rfl, fun q x hq => by omega⟩
      case round =>
        obtain ⟨j, hj, rfl, hlo⟩ := hrel
        have HLO := Lib.hid hlo
        clear hlo
        by_cases hend : ∃ x, S[j]? = some x ∧ x < s
        · obtain ⟨x, hx, hxs⟩ := hend
          have hjn : j < n := by have := (List.getElem?_eq_some_iff.1 hx).1; have := HSN.out; omega
          have hjI : (j : Int) < n := by omega
          obtain ⟨ad, rfl, hc⟩ := hcell.out j x hx
          have hnx : Hid (∀ q y, q < j + 1 → S[q]? = some y → y < s) := Lib.hid (fun q y hq hy => by
            by_cases e : q = j
            · subst e; rw [hx] at hy; injection hy with hy; rw [← hy]; exact hxs
            · exact HLO.out q y (by omega) hy)
          clear hx
          go_wp2_with fail
          go_round
          case rel => exact ⟨j + 1, by omega, by go_num, hnx.out⟩
          case measure => simp [intOf]; omega
        · have hat : atI S s = j := atI_eq HLO.out (fun x hx e => hend ⟨x, hx, e⟩) (by have := HSN.out; omega)
          have hfact : ((¬ (j : Int) < (n : Int)) ∧ S[j]? = none) ∨ ((j : Int) < (n : Int) ∧ ∃ ad x, a = some ad ∧ w1.cell? (ad.add j) = some (vI x) ∧ s ≤ x ∧ S[j]? = some x) := by
            by_cases e : j = n
            · exact .inl ⟨by omega, List.getElem?_eq_none (by have := HSN.out; omega)⟩
            · obtain ⟨x, hx⟩ : ∃ x, S[j]? = some x := ⟨S[j]'(by have := HSN.out; omega), List.getElem?_eq_getElem _⟩
              obtain ⟨ad, ea, hc⟩ := hcell.out j x hx
              exact .inr ⟨by omega, ad, x, ea, hc, by have : ¬ x < s := fun e2 => hend ⟨x, hx, e2⟩; omega, hx⟩
          clear hend
          by_cases hz : s = 0
          · have b1 : (s == 0) = true := by simpa using hz
            have hnx : Hid (ordR (L.take (k + 1)) = S) := Lib.hid (by rw [hstep.out, if_pos hz])
            clear hz hat
            rcases hfact with ⟨hjI, -⟩ | ⟨hjI, ad, x, rfl, hc, hsx, -⟩
            all_goals
              go_wp2_with fail
              go_roundw
              case rel => exact ⟨k + 1, by omega, by go_num, by rw [hnx.out, HSN.out]; exact HROW1.out, HFR.out.trans HF1.out⟩
              case measure => simp [intOf]; omega
          · have b1 : (s == 0) = false := by simpa using hz
            by_cases heq : S[j]? = some s
            · have hnx : Hid (ordR (L.take (k + 1)) = S) := Lib.hid (by rw [hstep.out, if_neg hz]; unfold putI; rw [hat, if_pos heq])
              clear hz hat
              rcases hfact with ⟨-, hno⟩ | ⟨hjI, ad, x, rfl, hc, hsx, hx⟩
              · rw [hno] at heq; cases heq
              · obtain rfl : x = s := by rw [hx] at heq; injection heq
                clear heq hx
                go_wp2_with fail
                go_roundw
                case rel => exact ⟨k + 1, by omega, by go_num, by rw [hnx.out, HSN.out]; exact HROW1.out, HFR.out.trans HF1.out⟩
                case measure => simp [intOf]; omega
            · have hnx : Hid (ordR (L.take (k + 1)) = S.take j ++ s :: S.drop j) := Lib.hid (by rw [hstep.out, if_neg hz]; unfold putI; rw [hat, if_neg heq])
              obtain ⟨iR, hiR, hr0, hr1, hr2⟩ := info_parts infoInt
              obtain ⟨hs1, hd1⟩ := sub_take HROW1.out Tryz.underlying43 hiR hj
              obtain ⟨A2, hs2, hd2, hbk⟩ := sub_drop HROW1.out Tryz.underlying43 hiR hr1 hj
              rw [Nat.mul_one, ← List.map_take] at hd1
              rw [Nat.mul_one, ← List.map_drop] at hd2
              have hold : ∀ ad, a = some ad → ad.block < w1.heap.size := fun ad e => (HROW1.out.lt _ (by rw [e]; rfl)).2
              have HFD : Hid (∀ w', Fr (fun b => w1.heap.size ≤ b) w1 w' → Rd w' 1 a j ((S.take j).map vI)) := Lib.hid (fun w' hf => hd1.fr hf (fun ad e hh => by have := hold ad e; omega))
              have HFE : Hid (∀ w', Fr (fun b => w1.heap.size ≤ b) w1 w' → Rd w' 1 A2 (n - j) ((S.drop j).map vI)) := Lib.hid (fun w' hf => hd2.fr hf (fun ad e hh => by obtain ⟨ad', e', hb⟩ := hbk ad e; have := hold ad' e'; omega))
              have HONE : Hid (∀ T : List Int, ∀ u ∈ T.map vI, u.oneCell' = true) := Lib.hid (fun T u hu => by obtain ⟨x, _, rfl⟩ := List.mem_map.1 hu; rfl)
              have hjn : Hid (j ≤ n ∧ n ≤ 1000) := Lib.hid ⟨hj, by omega⟩
              have hcl : Hid (n ≤ c ∧ c ≤ 9223372036854775807) := Lib.hid (own_len HROW1.out)
              have hfact2 : (¬ (j : Int) < (n : Int)) ∨ ((j : Int) < (n : Int) ∧ ∃ ad x, a = some ad ∧ w1.cell? (ad.add j) = some (vI x) ∧ s ≤ x ∧ (x == s) = false) := by
                rcases hfact with ⟨h1, -⟩ | ⟨h1, ad, x, e, hc, h2, hx⟩
                · exact .inl h1
                · exact .inr ⟨h1, ad, x, e, hc, h2, by simp; intro e2; exact heq (by rw [hx, e2])⟩
              clear hfact heq hat hz hd1 hd2 hold hbk hj
              rcases hfact2 with hjI | ⟨hjI, ad, x, rfl, hc, hsx, q2⟩
              all_goals
                go_wp2_with fail
                go_region_held3 (fun _ => True) (trivial) ((first
                  | (refine step_append_src rfl (.tmp 48) (.tmp 51) 43 rfl w1.heap.size 3 iR _ 8 Tryz.underlying43 hiR hr0 hr1 hr2 rfl (by decide) _ 0 [] (by rfl) (by first | exact own_none (Nat.le_refl _) | exact (own_none (Nat.le_refl _)).alloc _ | exact own_none (by simp) | exact (Fr.refl (fun _ => False) _).drew.row (own_none' (by simp) (by omega)) (fun _ _ h => h)) c (by rfl) (HFD.out _ (by first | exact ((Fr.refl _ w1).drew).alloc _ | exact (((Fr.refl _ w1).drew).alloc _).alloc _)) (HONE.out _) (by have := hjn.out; unfold maxLen; omega) (by have := hjn.out; omega) (by simp <;> omega) ?_
                     intro v1 w2 hown1 hgrow1 hloc1
                     have hF1 : Fr (fun b => w1.heap.size ≤ b) w1 w2 := Fr.trans (by first | exact ((Fr.refl _ w1).drew).alloc _ | exact (((Fr.refl _ w1).drew).alloc _).alloc _) (Fr.grown hgrow1 (by intro r hr _; cases hr; simp))
                     rw [Nat.zero_add, List.nil_append] at hown1
                     obtain ⟨a1, c1, rfl⟩ := row_sl hown1
                     first
                     | have hel : w2.heap[w1.heap.size + 1]? = some (.cells #[vI s] 3) := (Fr.grown (S := fun b => b = w1.heap.size) hgrow1 (by intro r hr _; cases hr; rfl)).at_ (heap_at (by simp) _) (by omega)
                     | have hel : w2.heap[w1.heap.size]? = some (.cells #[vI s] 3) := (Fr.grown (S := fun b => b = w1.heap.size + 1) hgrow1 (by intro r hr _; cases hr; simp)).at_ (heap_keep (heap_at (by simp) _) _) (by omega)
                     | skip)
                  | (refine step_append_src rfl (.tmp 52) (.tmp 54) 43 rfl w1.heap.size 3 iR _ 8 Tryz.underlying43 hiR hr0 hr1 hr2 rfl (by decide) (.slice a1 j c1) j ((S.take j).map vI) (by rfl) (by first | exact hown1 | exact hown1.alloc _) 1 (by rfl) (by first | exact rd_obj (cs := [vI s]) hel rfl | exact rd_obj (cs := [vI s]) (heap_new _ _) rfl) (HONE.out [s]) (by have := hjn.out; unfold maxLen; omega) (by have := hjn.out; omega) (by first | exact hF1.size | exact (hF1.alloc _).size) ?_
                     intro v2 w3 hown2 hgrow2 hloc2
                     have hF2 : Fr (fun b => w1.heap.size ≤ b) w1 w3 := Fr.trans (by first | exact hF1 | exact hF1.alloc _) (Fr.grown hgrow2 (by intro r hr _; exact (hown1.lt r hr).1))
                     obtain ⟨a2, c2, rfl⟩ := row_sl hown2)
                  | (refine step_append_src rfl (.tmp 55) (.tmp 58) 43 rfl w1.heap.size 3 iR _ 8 Tryz.underlying43 hiR hr0 hr1 hr2 rfl (by decide) (.slice a2 (j + 1) c2) (j + 1) ((S.take j).map vI ++ [vI s]) (by rfl) hown2 (c - j) (by rfl) (HFE.out _ hF2) (HONE.out _) (by have := hjn.out; unfold maxLen; omega) (by have := hjn.out; omega) hF2.size ?_
                     intro v3 w4 hown3 hgrow3 hloc3
                     obtain ⟨a3, c3, rfl⟩ := row_sl hown3
                     have hF3 : Fr (fun b => w1.heap.size ≤ b) w1 w4 := Fr.trans hF2 (Fr.grown hgrow3 (by intro r hr _; exact (hown2.lt r hr).1)))
                  ))
                all_goals
                  go_wp2_with fail
                  go_roundw
                  case rel =>
                    refine ⟨k + 1, by omega, by go_num, ?_, HFR.out.trans (HF1.out.trans (hF3.mono (fun b hb e => by omega)))⟩
                    have e1 : (S.take j ++ s :: S.drop j).length = j + 1 + (n - j) := by
                      have := HSN.out; have := hjn.out
                      simp only [List.length_append, List.length_take, List.length_cons, List.length_drop]; omega
                    have e2 : (S.take j ++ s :: S.drop j).map vI = (S.take j).map vI ++ [vI s] ++ (S.drop j).map vI := by simp
                    rw [hnx.out, e1, e2]
                    exact own_base hown3 (HFR.out.trans HF1.out).size
                  case measure => simp [intOf]; omega
    · obtain rfl : k = N := by omega
      have hall : L.take k = L := List.take_of_length_le (by rw [HN.out]; exact Nat.le_refl _)
      have hS2 : Hid (ordR L = S) := Lib.hid (by rw [← HS.out, hall])
      have hlI : ¬ (k : Int) < k := by omega
      clear hall hfr hown hS hn hrd
      go_wp2_with fail
      go_ret
      exact ⟨_, rfl, by rw [hS2.out, HSN.out]; exact HROW.out, HFR.out⟩
end Go.Proofs.YtbeikkkmobbnkaaGreat
