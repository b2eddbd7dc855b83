/- entrepotref27: Route. -/
import Derived.Test.YtlniekobijcanaaGreatBinsRoutesM43
import Derived.Test.YtlniekobijcanaaGreatBinsRoutesM44
import Derived.Test.YtlniekobijcanaaGreatBinsRoutesM2
import Derived.Test.YtlniekobijcanaaGreatBinsRoutesM4
import Derived.Test.YtlniekobijcanaaGreatBinsRoutesM11
import Derived.Deep.QuietTactic
namespace Go.Proofs.YtlniekobijcanaaGreat
open Go.RowKit Go.Maps
theorem cell_blk {W : World} {p : Addr} {v : Value} (h : W.cell? p = some v) : p.block < W.heap.size := by
  unfold World.cell? at h
  cases h2 : W.heap[p.block]? with
  | none => simp [h2] at h
  | some o => exact (Array.getElem?_eq_some_iff.1 h2).1
set_option maxRecDepth 100000 in
set_option maxHeartbeats 16000000 in
theorem rRoute (w : World) (g : Nat) (v : Value) (L : List BV) (l : List PV) (hF : Rl w g L) (hok : ∀ b ∈ L, 0 ≤ b.zo) (h : Pl w v l) (hl : l.length ≤ 100000) :
    Calls Tryz.prog 15 #[.pointer (some ⟨g, 0, none⟩), v] w fun e w' => ∃ v', e = .returned v' ∧ w'.ownsRow w.heap.size 55 3 v' (routeE (L.map BV.e) l).length (flat pvC (routeE (L.map BV.e) l)) ∧ Fr (fun _ => False) w w' := by
  obtain ⟨iR, hiR, hr0, hr1, hr2⟩ := info_parts infoPlace
  obtain ⟨n0, hn0⟩ : ∃ n0, w.heap.size = n0 := ⟨_, rfl⟩
  obtain ⟨va, vc, rfl⟩ := h.sl
  have HP := Lib.hid h; have HF := Lib.hid hF
  have hlen := h.len
  obtain ⟨N, hN⟩ : ∃ N, l.length = N := ⟨_, rfl⟩
  have HN := Lib.hid hN
  rw [hN] at hlen hl ⊢
  have hfd := Lib.hid (fun W n (hf : Fr (fun _ => False) w W) => rFind W g L n (hF.keep hf))
  obtain ⟨lt, hlt0⟩ : ∃ lt : PV → PV → Bool, (fun x y => decide (cR (L.map BV.e) x y < 0)) = lt := ⟨_, rfl⟩
  have hswo : SwoB lt := by rw [← hlt0]; exact cR_swo _
  have HSW := Lib.hid hswo
  have hah : Hid (∀ W (p q : PV) (a b : BE), Fr (fun _ => False) w W → binE (L.map BV.e) p.b = some a → binE (L.map BV.e) q.b = some b → Calls Tryz.prog 43 #[.pointer (some ⟨g, 0, none⟩), .agg p.cs.toArray, .agg q.cs.toArray] W fun e w' => e = .returned (.bool (lt p q)) ∧ Fr (fun _ => False) W w') := Lib.hid (fun W p q a b hf ha hb => by
    have key : ∀ (n : Int) (c : BE), binE (L.map BV.e) n = some c → ∃ (i : Nat) (A : BV), L[i]? = some A ∧ findF L n = (i : Int) ∧ c = A.e := fun n c hc => by
      rcases idxOf_cases (fun b : BV => decide (b.nu = n)) L with ⟨-, k2, -⟩ | ⟨i, A, k1, -, k3, k4⟩
      · have k2 : binF L n = none := k2
        rw [binE_e, k2] at hc; cases hc
      · rw [binE_e, show binF L n = some A from k4] at hc
        exact ⟨i, A, k1, k3, by injection hc with hc; exact hc.symm⟩
    obtain ⟨i, A, h1, h2, rfl⟩ := key _ _ ha
    obtain ⟨j, B, h3, h4, rfl⟩ := key _ _ hb
    have e : aheadF A B p.g q.g = lt p q := by
      rw [aheadF_lt (hok A (List.mem_of_getElem? h1)), ← hlt0]
      show _ = decide (cR (L.map BV.e) p q < 0)
      unfold cR
      rw [optC_some (a := (A.e, p.g)) (b := (B.e, q.g)) (by rw [ha]; rfl) (by rw [hb]; rfl)]
    rw [← e]
    exact rAhead W g L p q A B i j (hF.keep hf) h2 h1 h4 h3)
  have HLT := Lib.hid hlt0; have HN0 := Lib.hid hn0
  obtain ⟨PP, hPP⟩ : ∃ PP : Ending → World → Prop, (fun e w' => ∃ v', e = .returned v' ∧ w'.ownsRow n0 55 3 v' (routeE (L.map BV.e) l).length (flat pvC (routeE (L.map BV.e) l)) ∧ Fr (fun _ => False) w w') = PP := ⟨_, rfl⟩
  have HPP := Lib.hid hPP
  rw [hn0, hPP]
  clear h hF hok hN hlt0 hswo hPP
  go_enter Tryz.func15, Tryz.ntmps15
  go_wp2_with fail
  go_loopw [5, 6] (fun vo vi wr => ∃ k : Nat, k ≤ N ∧ vi = .int .i64 k ∧ wr.ownsRow n0 55 3 vo (routeE (L.map BV.e) (l.take k)).length (flat pvC (routeE (L.map BV.e) (l.take k))) ∧ Fr (fun _ => False) w wr) (fun _ vi _ => N - (intOf vi).toNat)
  case atStart => exact ⟨0, Nat.zero_le _, rfl, World.ownsRow_nil _ _ _ _, Fr.refl _ _⟩
  case round =>
    obtain ⟨k, hk, rfl, hown, hfr⟩ := hrel
    have HFR := Lib.hid hfr
    obtain ⟨wo, hwo⟩ : ∃ wo : World, wo = wr := ⟨_, rfl⟩
    rw [← hwo] at HFR hown hfr ⊢
    clear hwo
    obtain ⟨S, hS⟩ : ∃ S, routeE (L.map BV.e) (l.take k) = S := ⟨_, rfl⟩
    have hSl := routeE_len (L.map BV.e) (l.take k)
    have hSk : (l.take k).length ≤ k := by rw [List.length_take]; omega
    have hSb : Hid (∀ x ∈ S, ∃ b, binE (L.map BV.e) x.b = some b) := Lib.hid (fun x hx => routeE_in (by rw [hS]; exact hx))
    have hSr : Hid (S.Pairwise (fun a b => lt b a = false)) := Lib.hid (by rw [← hS, ← HLT.out]; exact stab_rise (cR_swo _) _)
    rw [hS] at hown hSl
    obtain ⟨a, c, rfl⟩ := row_sl hown
    obtain ⟨n, hn⟩ : ∃ n, S.length = n := ⟨_, rfl⟩
    rw [hn] at hown hSl ⊢
    have HSN := Lib.hid hn; have HROW := Lib.hid hown; have HS := Lib.hid hS
    have hnI : (n : Int) ≤ 100000 := by omega
    have hn1 : Hid (n ≤ 100000) := Lib.hid (by omega)
    clear hSl hSk
    by_cases hlt : k < N
    · obtain ⟨p, hp⟩ : ∃ p, l[k]? = some p := ⟨l[k]'(by rw [HN.out]; exact hlt), List.getElem?_eq_getElem _⟩
      have hkI : (k : Int) < N := by omega
      have HT := Lib.hid (routeE_take (L := L.map BV.e) hp)
      have HPK := Lib.hid hp
      obtain ⟨ad, rfl, hokp, z0, zs⟩ := (HP.out.fr0 okPvKeeps hfr).at_ hp
      have x0 := z0 (.int .i64 p.b) rfl
      have x1 := zs 0 (vS p.g) rfl
      have x2 := zs 1 (.int .i64 p.n) rfl
      dsimp only [Nat.zero_add, Nat.reduceAdd] at x0 x1 x2
      have hfk : findF L p.b = findE (L.map BV.e) p.b := findE_e _ _
      rcases findE_cases (L.map BV.e) p.b with ⟨h1, -⟩ | ⟨jb, xb, hjL, -, h1, h2⟩
      · have hstep : Hid (routeE (L.map BV.e) (l.take (k + 1)) = S) := Lib.hid (by rw [HT.out, if_pos h1]; exact hS)
        have hfk1 := Lib.hid (hfk.trans h1)
        clear hown hn hfr hokp z0 zs hp hS hfk h1 HT
        go_wp2_with (go_at_call 42; refine (hfd.out _ _ HFR.out).mono ?_; rw [hfk1.out]; rintro e w1 ⟨rfl, hf1⟩; have HF1 := Lib.hid hf1; clear hf1)
        go_roundw
        case rel => exact ⟨k + 1, by omega, by go_num, by rw [hstep.out, HSN.out]; exact HF1.out.row HROW.out (fun _ _ e => e), HFR.out.trans HF1.out⟩
        case measure => simp [intOf]; omega
      · have hne : findE (L.map BV.e) p.b ≠ -1 := by rw [h1]; omega
        have hstep : Hid (routeE (L.map BV.e) (l.take (k + 1)) = insR lt S p) := Lib.hid (by rw [HT.out, if_neg hne, hS, HLT.out])
        have hfk1 := Lib.hid (hfk.trans h1)
        have hjn : ¬ (jb : Int) < 0 := by omega
        have hpb := Lib.hid h2
        clear hown hn hfr hokp z0 zs hp hS hfk h1 HT hne hjL h2
        go_wp2_with (go_at_call 42; refine (hfd.out _ _ HFR.out).mono ?_; rw [hfk1.out]; rintro e w1 ⟨rfl, hf1⟩; have HF1 := Lib.hid (HFR.out.trans hf1); have HROW := Lib.hid (hf1.row HROW.out (fun _ _ e => e)); clear hf1)
        go_loopw [7] (fun vi wr => ∃ j : Nat, j ≤ n ∧ vi = .int .i64 j ∧ Fr (fun _ => False) w1 wr ∧ ∀ q y, j ≤ q → S[q]? = some y → lt p y = true) (fun vi _ => (intOf vi).toNat)
        case atStart => exact ⟨n, Nat.le_refl _, rfl, Fr.refl _ _, fun q y hq hy => by have := (List.getElem?_eq_some_iff.1 hy).1; have := HSN.out; omega⟩
        case round =>
          obtain ⟨j, hj, rfl, hf2, hhi⟩ := hrel
          have HF2 := Lib.hid (HF1.out.trans hf2)
          have HF12 := Lib.hid hf2
          have HHI := Lib.hid hhi
          have hr2' := hf2.row HROW.out (fun _ _ e => e)
          have HR2 := Lib.hid hr2'
          have hpl2 := HP.out.fr0 okPvKeeps HF2.out
          obtain ⟨ad2, e2, -, y0, ys⟩ := hpl2.at_ HPK.out
          cases e2
          have y1 := ys 0 (vS p.g) rfl
          have y2 := ys 1 (.int .i64 p.n) rfl
          have y0 := y0 (.int .i64 p.b) rfl
          dsimp only [Nat.zero_add, Nat.reduceAdd] at y0 y1 y2
          clear x0 x1 x2
          have hways : (j = 0) ∨ ∃ (i : Nat) (z : PV), j = i + 1 ∧ S[i]? = some z := by
            rcases Nat.eq_zero_or_pos j with e | e
            · exact .inl e
            · exact .inr ⟨j - 1, S[j - 1]'(by have := HSN.out; omega), by omega, List.getElem?_eq_getElem _⟩
          have hgoal : ∀ W, Fr (fun _ => False) wr W → (∀ i y, j = i + 1 → S[i]? = some y → lt p y = false) → insR lt S p = S.take j ++ p :: S.drop j := fun W _ hlo => ins_back HSW.out hSr.out (by have := HSN.out; omega) hhi hlo
          have HGO := Lib.hid hgoal
          clear hgoal hpl2 ys hf2 hhi hr2'
          have hoS : Hid (∀ x ∈ S, okPv wr x) := Lib.hid (fun x hx => by
            rw [← HS.out] at hx
            have h1 := (stab_perm _ _).mem_iff.1 hx
            exact HP.out.okm (List.mem_of_mem_take (List.mem_filter.1 h1).1))
          rcases hways with hj0 | ⟨i, z, hji, hz⟩
          · have hI : ¬ (0 : Int) < (j : Int) := by omega
            have hIn : ¬ 0 < j := by omega
            have hId : decide (0 < j) = false := decide_eq_false hIn
            have HLO : Hid (∀ i y, j = i + 1 → S[i]? = some y → lt p y = false) := Lib.hid (fun i y e => by omega)
            clear hj0
            go_wp2_with fail
            refine wp_region_fr (by kernel_rfl) (by kernel_rfl) ?_
            repeat (go_big_quiet_step (fail))
            refine wpQuiet_nil ?_
            rintro V ⟨⟨_, hV⟩, rfl⟩
            have hVf : Hid (Fr (fun _ => False) w V) := Lib.hid (HF2.out.trans hV)
            have hRV := Lib.hid (hV.row HR2.out (fun _ _ e => e))
            have P0 := Lib.hid (hV.cell y0 (fun e => e)); have P1 := Lib.hid (hV.cell y1 (fun e => e)); have P2 := Lib.hid (hV.cell y2 (fun e => e))
            have hres : Hid (insR lt S p = S.take j ++ p :: S.drop j) := Lib.hid (HGO.out V hV HLO.out)
            obtain ⟨hs1, hd1⟩ := sub_take hRV.out Tryz.underlying23 hiR hj
            obtain ⟨A2, hs2, hd2, hbk⟩ := sub_drop hRV.out Tryz.underlying23 hiR hr1 hj
            rw [← flat_take pvSize] at hd1
            rw [← flat_drop pvSize] at hd2
            have hold : ∀ ad, a = some ad → ad.block < V.heap.size := fun ad e => (hRV.out.lt _ (by rw [e]; rfl)).2
            have HFD : Hid (∀ w', Fr (fun b => V.heap.size ≤ b) V w' → Rd w' 3 a j (flat pvC (S.take j))) := Lib.hid (fun w' hf => hd1.fr hf (fun ad e hh => by have := hold ad e; omega))
            have HFE : Hid (∀ w', Fr (fun b => V.heap.size ≤ b) V w' → Rd w' 3 A2 (n - j) (flat pvC (S.drop j))) := Lib.hid (fun w' hf => hd2.fr hf (fun ad e hh => by obtain ⟨ad', e', hb⟩ := hbk ad e; have := hold ad' e'; omega))
            have HONE : Hid (∀ T : List PV, ∀ u ∈ flat pvC T, u.oneCell' = true) := Lib.hid (fun T => flat_one (fun r u hu => by simp only [pvC, List.mem_toArray, List.mem_cons, List.not_mem_nil, or_false] at hu; rcases hu with rfl | rfl | rfl <;> rfl))
            have hjn : Hid (j ≤ n ∧ n ≤ 100000) := Lib.hid ⟨hj, hn1.out⟩
            have hcl : Hid (n ≤ c ∧ c ≤ 9223372036854775807) := Lib.hid (own_len hRV.out)
            have HLB : Hid (¬ V.heap.size ≤ (ad.add (k * 3)).block) := Lib.hid (by have := cell_blk P0.out; omega)
            clear hV hd1 hd2 hold hbk hj y0 y1 y2
            go_wp2_with fail
            go_region_held3 (fun w' => w'.cell? (ad.add (k * 3)) = some (.int .i64 p.b) ∧ w'.cell? ⟨(ad.add (k * 3)).block, (ad.add (k * 3)).off + 1, none⟩ = some (vS p.g) ∧ w'.cell? ⟨(ad.add (k * 3)).block, (ad.add (k * 3)).off + 2, none⟩ = some (.int .i64 p.n)) (first | (refine ⟨Fr.cell (S := fun b => V.heap.size ≤ b) (w := V) ?_ P0.out HLB.out, Fr.cell (S := fun b => V.heap.size ≤ b) (w := V) ?_ P1.out HLB.out, Fr.cell (S := fun b => V.heap.size ≤ b) (w := V) ?_ P2.out HLB.out⟩ <;> (repeat (first | (with_reducible assumption) | (with_reducible exact Fr.refl _ _) | (with_reducible refine Fr.alloc ?_ _) | (with_reducible refine Fr.drew ?_) | (with_reducible refine Fr.setCell ?_ (fun h => absurd h (Nat.not_lt.2 ?_)) _) | (exact Nat.le_refl _) | (exact Fr.size (by assumption)))))) ((first
              | (guard_target =~ (ite (Region.wanted (⟨some 45, _, _, _, _, _⟩ : Oper) _ = true) _ _); refine step_append_src rfl (.tmp 41) (.tmp 44) 23 rfl V.heap.size 55 iR _ 32 Tryz.underlying23 hiR hr0 hr1 hr2 rfl (by decide) _ 0 [] (by rfl) (by first | exact own_none (Nat.le_refl _) | exact (own_none (Nat.le_refl _)).alloc _ | exact own_none (by simp) | exact (Fr.refl (fun _ => False) _).drew.row (own_none' (by simp) (by omega)) (fun _ _ h => h)) c (by rfl) (HFD.out _ (by first | exact ((Fr.refl _ V).drew).alloc _ | exact (((Fr.refl _ V).drew).alloc _).alloc _)) (HONE.out _) (by have := hjn.out; unfold maxLen; omega) (by have := hjn.out; omega) (by simp <;> omega) ?_
                 intro v1 w2' hown1 hgrow1 hloc1
                 have hG1 : Fr (fun b => V.heap.size ≤ b) V w2' := Fr.trans (by first | exact ((Fr.refl _ V).drew).alloc _ | exact (((Fr.refl _ V).drew).alloc _).alloc _) (Fr.grown hgrow1 (by intro r hr _; cases hr; simp))
                 rw [Nat.zero_add, List.nil_append] at hown1
                 obtain ⟨a1, c1, rfl⟩ := row_sl hown1
                 first
                 | have hel : w2'.heap[V.heap.size + 1]? = some (.cells #[.int .i64 p.b, vS p.g, .int .i64 p.n] 55) := (Fr.grown (S := fun b => b = V.heap.size) hgrow1 (by intro r hr _; cases hr; rfl)).at_ (heap_at (by simp) _) (by omega)
                 | have hel : w2'.heap[V.heap.size]? = some (.cells #[.int .i64 p.b, vS p.g, .int .i64 p.n] 55) := (Fr.grown (S := fun b => b = V.heap.size + 1) hgrow1 (by intro r hr _; cases hr; simp)).at_ (heap_keep (heap_at (by simp) _) _) (by omega)
                 | skip)
              | (guard_target =~ (ite (Region.wanted (⟨some 51, _, _, _, _, _⟩ : Oper) _ = true) _ _); refine step_append_src rfl (.tmp 45) (.tmp 50) 23 rfl V.heap.size 55 iR _ 32 Tryz.underlying23 hiR hr0 hr1 hr2 rfl (by decide) (.slice a1 j c1) j (flat pvC (S.take j)) (by rfl) (by first | exact hown1 | exact hown1.alloc _) 1 (by rfl) (by first | exact rd_obj (cs := [.int .i64 p.b, vS p.g, .int .i64 p.n]) hel rfl | exact rd_obj (cs := [.int .i64 p.b, vS p.g, .int .i64 p.n]) (heap_new _ _) rfl) (HONE.out [p]) (by have := hjn.out; unfold maxLen; omega) (by have := hjn.out; omega) (by first | exact hG1.size | exact (hG1.alloc _).size) ?_
                 intro v2 w3' hown2 hgrow2 hloc2
                 have hG2 : Fr (fun b => V.heap.size ≤ b) V w3' := Fr.trans (by first | exact hG1 | exact hG1.alloc _) (Fr.grown hgrow2 (by intro r hr _; exact (hown1.lt r hr).1))
                 obtain ⟨a2, c2, rfl⟩ := row_sl hown2)
              | (guard_target =~ (ite (Region.wanted (⟨some 55, _, _, _, _, _⟩ : Oper) _ = true) _ _); refine step_append_src rfl (.tmp 51) (.tmp 54) 23 rfl V.heap.size 55 iR _ 32 Tryz.underlying23 hiR hr0 hr1 hr2 rfl (by decide) (.slice a2 (j + 1) c2) (j + 1) (flat pvC (S.take j) ++ [.int .i64 p.b, vS p.g, .int .i64 p.n]) (by rfl) hown2 (c - j) (by rfl) (HFE.out _ hG2) (HONE.out _) (by have := hjn.out; unfold maxLen; omega) (by have := hjn.out; omega) hG2.size ?_
                 intro v3 w4' hown3 hgrow3 hloc3
                 obtain ⟨a3, c3, rfl⟩ := row_sl hown3
                 have hG3 : Fr (fun b => V.heap.size ≤ b) V w4' := Fr.trans hG2 (Fr.grown hgrow3 (by intro r hr _; exact (hown2.lt r hr).1)))
              ))
            all_goals
              go_wp2_with fail
              go_roundw
              case rel =>
                refine ⟨k + 1, by omega, by go_num, ?_, hVf.out.trans (hG3.mono (fun b hb e => by omega))⟩
                have e1 : (S.take j ++ p :: S.drop j).length = j + 1 + (n - j) := by
                  have := HSN.out; have := hjn.out
                  simp only [List.length_append, List.length_take, List.length_cons, List.length_drop]; omega
                have e2 : flat pvC (S.take j ++ p :: S.drop j) = flat pvC (S.take j) ++ [.int .i64 p.b, vS p.g, .int .i64 p.n] ++ flat pvC (S.drop j) := by
                  rw [flat_app, List.append_assoc]; rfl
                rw [hstep.out, hres.out, e1, e2]
                exact own_base hown3 (by have := hVf.out.size; have := HN0.out; omega)
              case measure => simp [intOf]; omega
          · have hI : (0 : Int) < (j : Int) := by omega
            have hIn : 0 < j := by omega
            have hId : decide (0 < j) = true := decide_eq_true hIn
            have hjk : (j : Int) - 1 = (i : Int) := by omega
            have hin : (i : Int) < n := by omega
            have hplS : Pl wr (.slice a n c) S := Sq.own pvSize (by rw [HSN.out]; exact HR2.out) hoS.out
            obtain ⟨az, rfl, -, u0, us⟩ := hplS.at_ hz
            have u1 := us 0 (vS z.g) rfl
            have u2 := us 1 (.int .i64 z.n) rfl
            have u0 := u0 (.int .i64 z.b) rfl
            dsimp only [Nat.zero_add, Nat.reduceAdd] at u0 u1 u2
            obtain ⟨bz, hbz⟩ := hSb.out z (List.mem_of_getElem? hz)
            have HAH := Lib.hid (fun W hf => hah.out W p z xb bz (HF2.out.trans hf) hpb.out hbz)
            have HZ := Lib.hid hz; have HJI := Lib.hid hji
            clear hplS us hz hji hbz
            cases hb : lt p z with
            | true =>
              have hnx : Hid (∀ q y, i ≤ q → S[q]? = some y → lt p y = true) := Lib.hid (fun q y hq hy => by
                by_cases e : q = i
                · subst e; rw [HZ.out] at hy; injection hy with hy; rw [← hy]; exact hb
                · exact HHI.out q y (by have := HJI.out; omega) hy)
              rw [hb] at HAH
              have y0 := FrW.cell y0; have y1 := FrW.cell y1; have y2 := FrW.cell y2; have u0 := FrW.cell u0; have u1 := FrW.cell u1; have u2 := FrW.cell u2
              clear hb
              go_wp2_with fail
              refine wp_region_fr (by kernel_rfl) (by kernel_rfl) ?_
              repeat (go_big_quiet_step ((go_at_call 43; rename_i X; refine (HAH.out X.val X.fr).mono ?_; rintro e w3 ⟨rfl, hF⟩; exact ⟨rfl, ⟨w3, X.fr.trans hF⟩, rfl⟩)))
              refine wpQuiet_nil ?_
              rintro V ⟨⟨_, hV⟩, rfl⟩
              go_wp2_with fail
              go_roundw
              case rel => exact ⟨i, by omega, by go_num, HF12.out.trans hV, hnx.out⟩
              case measure => simp [intOf]; omega
            | false =>
              have HLO : Hid (∀ i y, j = i + 1 → S[i]? = some y → lt p y = false) := Lib.hid (fun q y e hy => by
                have e2 : q = i := by have := HJI.out; omega
                subst e2; rw [HZ.out] at hy; injection hy with hy; rw [← hy]; exact hb)
              rw [hb] at HAH
              have Y0 := Lib.hid y0; have Y1 := Lib.hid y1; have Y2 := Lib.hid y2
              have y0 := FrW.cell y0; have y1 := FrW.cell y1; have y2 := FrW.cell y2; have u0 := FrW.cell u0; have u1 := FrW.cell u1; have u2 := FrW.cell u2
              clear hb
              go_wp2_with fail
              refine wp_region_fr (by kernel_rfl) (by kernel_rfl) ?_
              repeat (go_big_quiet_step ((go_at_call 43; rename_i X; refine (HAH.out X.val X.fr).mono ?_; rintro e w3 ⟨rfl, hF⟩; exact ⟨rfl, ⟨w3, X.fr.trans hF⟩, rfl⟩)))
              refine wpQuiet_nil ?_
              rintro V ⟨⟨_, hV⟩, rfl⟩
              clear y0 y1 y2 u0 u1 u2
              have y0 := Y0.out; have y1 := Y1.out; have y2 := Y2.out
              have hVf : Hid (Fr (fun _ => False) w V) := Lib.hid (HF2.out.trans hV)
              have hRV := Lib.hid (hV.row HR2.out (fun _ _ e => e))
              have P0 := Lib.hid (hV.cell y0 (fun e => e)); have P1 := Lib.hid (hV.cell y1 (fun e => e)); have P2 := Lib.hid (hV.cell y2 (fun e => e))
              have hres : Hid (insR lt S p = S.take j ++ p :: S.drop j) := Lib.hid (HGO.out V hV HLO.out)
              obtain ⟨hs1, hd1⟩ := sub_take hRV.out Tryz.underlying23 hiR hj
              obtain ⟨A2, hs2, hd2, hbk⟩ := sub_drop hRV.out Tryz.underlying23 hiR hr1 hj
              rw [← flat_take pvSize] at hd1
              rw [← flat_drop pvSize] at hd2
              have hold : ∀ ad, (some az : Option Addr) = some ad → ad.block < V.heap.size := fun ad e => (hRV.out.lt _ (by rw [e]; rfl)).2
              have HFD : Hid (∀ w', Fr (fun b => V.heap.size ≤ b) V w' → Rd w' 3 (some az) j (flat pvC (S.take j))) := Lib.hid (fun w' hf => hd1.fr hf (fun ad e hh => by have := hold ad e; omega))
              have HFE : Hid (∀ w', Fr (fun b => V.heap.size ≤ b) V w' → Rd w' 3 A2 (n - j) (flat pvC (S.drop j))) := Lib.hid (fun w' hf => hd2.fr hf (fun ad e hh => by obtain ⟨ad', e', hb⟩ := hbk ad e; have := hold ad' e'; omega))
              have HONE : Hid (∀ T : List PV, ∀ u ∈ flat pvC T, u.oneCell' = true) := Lib.hid (fun T => flat_one (fun r u hu => by simp only [pvC, List.mem_toArray, List.mem_cons, List.not_mem_nil, or_false] at hu; rcases hu with rfl | rfl | rfl <;> rfl))
              have hjn : Hid (j ≤ n ∧ n ≤ 100000) := Lib.hid ⟨hj, hn1.out⟩
              have hcl : Hid (n ≤ c ∧ c ≤ 9223372036854775807) := Lib.hid (own_len hRV.out)
              have HLB : Hid (¬ V.heap.size ≤ (ad.add (k * 3)).block) := Lib.hid (by have := cell_blk P0.out; omega)
              clear hV hd1 hd2 hold hbk hj y0 y1 y2
              go_wp2_with fail
              go_region_held3 (fun w' => w'.cell? (ad.add (k * 3)) = some (.int .i64 p.b) ∧ w'.cell? ⟨(ad.add (k * 3)).block, (ad.add (k * 3)).off + 1, none⟩ = some (vS p.g) ∧ w'.cell? ⟨(ad.add (k * 3)).block, (ad.add (k * 3)).off + 2, none⟩ = some (.int .i64 p.n)) (first | (refine ⟨Fr.cell (S := fun b => V.heap.size ≤ b) (w := V) ?_ P0.out HLB.out, Fr.cell (S := fun b => V.heap.size ≤ b) (w := V) ?_ P1.out HLB.out, Fr.cell (S := fun b => V.heap.size ≤ b) (w := V) ?_ P2.out HLB.out⟩ <;> (repeat (first | (with_reducible assumption) | (with_reducible exact Fr.refl _ _) | (with_reducible refine Fr.alloc ?_ _) | (with_reducible refine Fr.drew ?_) | (with_reducible refine Fr.setCell ?_ (fun h => absurd h (Nat.not_lt.2 ?_)) _) | (exact Nat.le_refl _) | (exact Fr.size (by assumption)))))) ((first
                | (guard_target =~ (ite (Region.wanted (⟨some 45, _, _, _, _, _⟩ : Oper) _ = true) _ _); refine step_append_src rfl (.tmp 41) (.tmp 44) 23 rfl V.heap.size 55 iR _ 32 Tryz.underlying23 hiR hr0 hr1 hr2 rfl (by decide) _ 0 [] (by rfl) (by first | exact own_none (Nat.le_refl _) | exact (own_none (Nat.le_refl _)).alloc _ | exact own_none (by simp) | exact (Fr.refl (fun _ => False) _).drew.row (own_none' (by simp) (by omega)) (fun _ _ h => h)) c (by rfl) (HFD.out _ (by first | exact ((Fr.refl _ V).drew).alloc _ | exact (((Fr.refl _ V).drew).alloc _).alloc _)) (HONE.out _) (by have := hjn.out; unfold maxLen; omega) (by have := hjn.out; omega) (by simp <;> omega) ?_
                   intro v1 w2' hown1 hgrow1 hloc1
                   have hG1 : Fr (fun b => V.heap.size ≤ b) V w2' := Fr.trans (by first | exact ((Fr.refl _ V).drew).alloc _ | exact (((Fr.refl _ V).drew).alloc _).alloc _) (Fr.grown hgrow1 (by intro r hr _; cases hr; simp))
                   rw [Nat.zero_add, List.nil_append] at hown1
                   obtain ⟨a1, c1, rfl⟩ := row_sl hown1
                   first
                   | have hel : w2'.heap[V.heap.size + 1]? = some (.cells #[.int .i64 p.b, vS p.g, .int .i64 p.n] 55) := (Fr.grown (S := fun b => b = V.heap.size) hgrow1 (by intro r hr _; cases hr; rfl)).at_ (heap_at (by simp) _) (by omega)
                   | have hel : w2'.heap[V.heap.size]? = some (.cells #[.int .i64 p.b, vS p.g, .int .i64 p.n] 55) := (Fr.grown (S := fun b => b = V.heap.size + 1) hgrow1 (by intro r hr _; cases hr; simp)).at_ (heap_keep (heap_at (by simp) _) _) (by omega)
                   | skip)
                | (guard_target =~ (ite (Region.wanted (⟨some 51, _, _, _, _, _⟩ : Oper) _ = true) _ _); refine step_append_src rfl (.tmp 45) (.tmp 50) 23 rfl V.heap.size 55 iR _ 32 Tryz.underlying23 hiR hr0 hr1 hr2 rfl (by decide) (.slice a1 j c1) j (flat pvC (S.take j)) (by rfl) (by first | exact hown1 | exact hown1.alloc _) 1 (by rfl) (by first | exact rd_obj (cs := [.int .i64 p.b, vS p.g, .int .i64 p.n]) hel rfl | exact rd_obj (cs := [.int .i64 p.b, vS p.g, .int .i64 p.n]) (heap_new _ _) rfl) (HONE.out [p]) (by have := hjn.out; unfold maxLen; omega) (by have := hjn.out; omega) (by first | exact hG1.size | exact (hG1.alloc _).size) ?_
                   intro v2 w3' hown2 hgrow2 hloc2
                   have hG2 : Fr (fun b => V.heap.size ≤ b) V w3' := Fr.trans (by first | exact hG1 | exact hG1.alloc _) (Fr.grown hgrow2 (by intro r hr _; exact (hown1.lt r hr).1))
                   obtain ⟨a2, c2, rfl⟩ := row_sl hown2)
                | (guard_target =~ (ite (Region.wanted (⟨some 55, _, _, _, _, _⟩ : Oper) _ = true) _ _); refine step_append_src rfl (.tmp 51) (.tmp 54) 23 rfl V.heap.size 55 iR _ 32 Tryz.underlying23 hiR hr0 hr1 hr2 rfl (by decide) (.slice a2 (j + 1) c2) (j + 1) (flat pvC (S.take j) ++ [.int .i64 p.b, vS p.g, .int .i64 p.n]) (by rfl) hown2 (c - j) (by rfl) (HFE.out _ hG2) (HONE.out _) (by have := hjn.out; unfold maxLen; omega) (by have := hjn.out; omega) hG2.size ?_
                   intro v3 w4' hown3 hgrow3 hloc3
                   obtain ⟨a3, c3, rfl⟩ := row_sl hown3
                   have hG3 : Fr (fun b => V.heap.size ≤ b) V w4' := Fr.trans hG2 (Fr.grown hgrow3 (by intro r hr _; exact (hown2.lt r hr).1)))
                ))
              all_goals
                go_wp2_with fail
                go_roundw
                case rel =>
                  refine ⟨k + 1, by omega, by go_num, ?_, hVf.out.trans (hG3.mono (fun b hb e => by omega))⟩
                  have e1 : (S.take j ++ p :: S.drop j).length = j + 1 + (n - j) := by
                    have := HSN.out; have := hjn.out
                    simp only [List.length_append, List.length_take, List.length_cons, List.length_drop]; omega
                  have e2 : flat pvC (S.take j ++ p :: S.drop j) = flat pvC (S.take j) ++ [.int .i64 p.b, vS p.g, .int .i64 p.n] ++ flat pvC (S.drop j) := by
                    rw [flat_app, List.append_assoc]; rfl
                  rw [hstep.out, hres.out, e1, e2]
                  exact own_base hown3 (by have := hVf.out.size; have := HN0.out; omega)
                case measure => simp [intOf]; omega
    · obtain rfl : k = N := by omega
      have hkI : ¬ (k : Int) < k := by omega
      have hres : Hid (S = routeE (L.map BV.e) l) := Lib.hid (by rw [← HS.out, List.take_of_length_le (by rw [HN.out]; exact Nat.le_refl _)])
      clear hown hn hfr hS
      go_wp2_with fail
      rw [← HPP.out]
      exact ⟨_, rfl, by rw [← hres.out, HSN.out]; exact HROW.out, HFR.out⟩
end Go.Proofs.YtlniekobijcanaaGreat
