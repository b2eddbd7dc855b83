/- model: for every input ModelMore returns true and leaves its input as it was; no condition. -/
import Derived.Test.YtbeikkkmobbnkaaGreatRows
import Derived.Test.YtbeikkkmobbnkaaGreatModMoreM42
import Derived.Test.YtbeikkkmobbnkaaGreatModMoreM43
import Derived.Test.YtbeikkkmobbnkaaGreatModMoreM44
import Derived.Test.YtbeikkkmobbnkaaGreatModMoreM45
import Derived.Test.YtbeikkkmobbnkaaGreatModMoreM46
import Derived.Test.YtbeikkkmobbnkaaGreatModMoreM2
import Derived.Test.YtbeikkkmobbnkaaGreatModMoreM1
import Derived.Test.YtbeikkkmobbnkaaGreatModMoreM47
import Derived.Deep.QuietTactic
import Derived.Deep.RegionHeld3
import Derived.BigQuiet
namespace Go.Proofs.YtbeikkkmobbnkaaGreat.modelMore
open Go.ChangeShapes Go.WideShapes Go.ChangeAt Go.RowKit Go.Maps
attribute [local go_sem] Oper.semAt_some
theorem small_len {L : List AV} {K : Nat} (h : smallF L K = true) : L.length ≤ 40 ∧ K ≤ 200 := by
  unfold smallF at h
  simp only [Bool.and_eq_true, decide_eq_true_eq] at h
  exact h.1
theorem infoAns : (Tryz.prog.info? 39).map (fun i => (i.zero, i.size, i.bytes)) = some (some (.agg #[.int .i64 0, .int .i64 0, .int .i64 0, .int .i64 0]), 4, 32) := by kernel_rfl
theorem yvSize (y : YV) : y.cs.size = 4 := rfl
theorem yvOne (y : YV) : ∀ u ∈ y.cs, u.oneCell' = true := by
  intro u hu
  simp [YV.cs] at hu
  rcases hu with rfl | rfl | rfl | rfl <;> rfl
/-- A list's cells, one by one. -/
theorem flat_inv {α : Type} {cs : α → Array Value} {k : Nat} (hcs : ∀ r, (cs r).size = k) : ∀ {L : List α} {j : Nat} {u : Value}, (flat cs L)[j]? = some u → ∃ i r q, L[i]? = some r ∧ (cs r)[q]? = some u ∧ j = i * k + q
  | [], j, u, h => by simp [flat] at h
  | x :: L, j, u, h => by
    have e : flat cs (x :: L) = (cs x).toList ++ flat cs L := by simp [flat]
    rw [e] at h
    have hl : (cs x).toList.length = k := by simp [hcs x]
    by_cases hj : j < k
    · rw [List.getElem?_append_left (by omega)] at h
      exact ⟨0, x, j, rfl, by simpa using h, by omega⟩
    · rw [List.getElem?_append_right (by omega), hl] at h
      obtain ⟨i, r, q, h1, h2, h3⟩ := flat_inv hcs h
      refine ⟨i + 1, r, q, by simpa using h1, h2, ?_⟩
      rw [Nat.add_mul]; omega
theorem Yl.rd {w : World} {a : Option Addr} {n c : Nat} {L : List YV} (h : Yl w (.slice a n c) L) : Rd w 4 a L.length (flat YV.cs L) := by
  refine ⟨flat_len1 yvSize L, fun hm => ?_⟩
  obtain ⟨h0, a', cap, e, h1⟩ := h
  injection e with e1 _ _
  cases L with
  | nil => simp at hm
  | cons x L =>
    obtain ⟨_, ad, e2, _⟩ := h1 0 x rfl
    refine ⟨ad, e1.trans e2, fun j u hu => ?_⟩
    obtain ⟨i, r, q, g1, g2, g3⟩ := flat_inv yvSize hu
    obtain ⟨_, ad', e3, hc⟩ := h1 i r g1
    rw [e2] at e3
    injection e3 with e3
    rw [e3, g3]
    exact hc q u g2
theorem flatY_snoc (L : List YV) (y : YV) : flat YV.cs (L ++ [y]) = flat YV.cs L ++ y.cs.toList := by simp [flat]
theorem gr_keep {X w1 : World} {row : Option Nat} (hg : X.grownBy w1 row) {r : Nat} (hr : row = some r) : ∀ b o, X.heap[b]? = some o → b ≠ r → w1.heap[b]? = some o := fun b o h hne =>
  (Fr.grown (S := fun b => b = r) hg (fun q e _ => by rw [hr] at e; injection e with e; exact e.symm)).at_ h hne
theorem heap_drew {W : World} {b : Nat} {o : Obj} (h : W.heap[b]? = some o) : W.drew.heap[b]? = some o := h
theorem own_emp {W : World} {base b size : Nat} {t : TypeId} (h : W.heap[b]? = some (.cells #[] t)) (hb : base ≤ b) : W.ownsRow base t size (.slice (some ⟨b, 0, none⟩) 0 0) 0 [] :=
  ⟨by simp, .inr ⟨_, _, _, rfl, hb, h, Nat.le_refl _, by unfold maxLen; omega, by simp, by simp⟩⟩
theorem own_at {v v' : Value} {s r : Nat} (h : v'.ownBlock = v.ownBlock ∨ v'.ownBlock = some s) (e : v.ownBlock = some r) : ∃ q, v'.ownBlock = some q ∧ (q = r ∨ q = s) := by
  rcases h with h | h
  · exact ⟨r, h.trans e, .inl rfl⟩
  · exact ⟨s, h, .inr rfl⟩
/-- A range's block is no row of answers: an append to one leaves it. -/
theorem gr_keepZ {X w1 : World} {base n : Nat} {v : Value} {xs : List Value} (ho : X.ownsRow base 39 4 v n xs) (hg : X.grownBy w1 v.ownBlock) : ∀ b : Nat, X.heap[b]? = some (Obj.cells #[.int .i64 0, .int .i64 0] 27) → w1.heap[b]? = some (Obj.cells #[.int .i64 0, .int .i64 0] 27) := fun b h =>
  (Fr.grown (S := fun q => v.ownBlock = some q) hg (fun q e _ => e)).at_ h (fun e => by
    rcases ho.2 with ⟨rfl, _⟩ | ⟨g, c, cur, rfl, _, hb, _⟩
    · cases e
    · have e : g = b := by injection e
      rw [← e, hb] at h
      injection h with h
      injection h with _ h2
      revert h2
      decide)
/-- A range's cells lie at b. -/
def Rg (W : World) (b : Nat) (lo hi : Int) : Prop := W.heap[b]? = some (.cells #[.int .i64 lo, .int .i64 hi] 27)
set_option maxRecDepth 100000 in
set_option maxHeartbeats 16000000 in
theorem walk (kind : Int) (gd : Str) (v vy : Value) (L : List AV) (Y : List YV) (c n k m : Int) (w : World) (hL : Al w v L) (hY : Yl w vy Y) (hoc : okI c) (hon : okI n) (hok : okI k) (hom : okI m) :
    Calls Tryz.prog 5 #[.int .i64 kind, vS gd, v, vy, .agg #[.int .i64 c, .int .i64 n, .int .i64 k, .int .i64 m]] w fun e w' => e = .returned (.bool true) ∧ Below w.heap.size w w' := by
  obtain ⟨n0, hn0⟩ : ∃ n0, w.heap.size = n0 := ⟨_, rfl⟩
  have HS := Lib.hid hn0
  obtain ⟨W0, hW0⟩ : ∃ W0, w.alloc (.cells #[.int .i64 c, .int .i64 n, .int .i64 k, .int .i64 m] 39) = W0 := ⟨_, rfl⟩
  have hF0 : Fr (fun _ => False) w W0 := by rw [← hW0]; exact (Fr.refl _ w).alloc _
  have hb0 : W0.heap[n0]? = some (.cells #[.int .i64 c, .int .i64 n, .int .i64 k, .int .i64 m] 39) := by rw [← hW0]; exact heap_at hn0.symm _
  have HL := Lib.hid (hL.fr0 aokKeeps hF0); have HY := Lib.hid (hY.fr0 yokKeeps hF0)
  have hNI := hL.len; have hKI := hY.len
  obtain ⟨va, vc, rfl⟩ := hL.sl
  obtain ⟨ya, yc, rfl⟩ := hY.sl
  obtain ⟨N, hN⟩ : ∃ N, L.length = N := ⟨_, rfl⟩
  obtain ⟨K, hK⟩ : ∃ K, Y.length = K := ⟨_, rfl⟩
  rw [hN] at HL hNI ⊢
  rw [hK] at HY hKI ⊢
  have HN := Lib.hid hN; have HK := Lib.hid hK
  have hsm := lwSmall W0 (.slice va N vc) L ya K yc HL.out hKI
  obtain ⟨s, hs⟩ : ∃ s, smallF L K = s := ⟨_, rfl⟩
  rw [hs] at hsm
  have HSM := Lib.hid hsm; have HSF := Lib.hid hs; have HF0 := Lib.hid hF0; have HB0 := Lib.hid hb0
  clear hL hY hN hK hs hsm hF0 hb0
  cases s
  · go_enter Tryz.func5, Tryz.ntmps5
    go_wp2_with (first
      | (go_at_call 7; refine HSM.out.mono ?_; rintro e w1 ⟨rfl, hf1⟩; have HF1 := Lib.hid hf1; clear hf1)
      | (go_at_call 8; refine (mdLives _).mono ?_; rintro e w2 ⟨rfl, hf2⟩; have HF2 := Lib.hid hf2; clear hf2))
    go_ret
    exact ⟨rfl, ((HF0.out.trans HF1.out).trans HF2.out).toBelow (fun b h => h.elim) (Nat.le_refl _)⟩
  · have hlen : Hid (L.length ≤ 40 ∧ K ≤ 200) := Lib.hid (small_len HSF.out)
    have hSp : Hid (∀ W (v' : Value) (Y' : List YV), Fr (fun _ => False) W0 W → Yl W v' Y' → Calls Tryz.prog 9 #[.int .i64 kind, vS gd, .slice va N vc, v'] W fun e w' => e = .returned (.agg #[.int .i64 (loF kind gd L Y'), .int .i64 (hiF kind gd L Y')]) ∧ Fr (fun _ => False) W w') := Lib.hid (fun W v' Y' hf hy => by
      exact kSpan W kind gd (.slice va N vc) v' L Y' (HL.out.fr0 aokKeeps hf) (by have := hlen.out; omega) hy)
    go_enter Tryz.func5, Tryz.ntmps5
    go_wp2_with (go_at_call 7; refine HSM.out.mono ?_; rintro e w1 ⟨rfl, hf1⟩; have HF1 := Lib.hid hf1; clear hf1)
    go_loopw [11] (fun i wr => ∃ j : Nat, j ≤ K ∧ i = .int .i64 j ∧ (∀ z ∈ Y.take j, isY c n z = false) ∧ Fr (fun _ => False) W0 wr) (fun i _ => K - (intOf i).toNat)
    case atStart => exact ⟨0, Nat.zero_le _, rfl, fun z hz => by simp at hz, HF1.out⟩
    case round =>
      obtain ⟨j, hj, rfl, hno, hfr⟩ := hrel
      have HNO := Lib.hid hno; have HFR := Lib.hid hfr
      have hbx := hfr.at_ HB0.out (fun e => e)
      have x0 := cell_obj hbx 0 (.int .i64 c) rfl; have x1 := cell_obj hbx 1 (.int .i64 n) rfl
      by_cases hlt : j < K
      · obtain ⟨p, hp⟩ : ∃ p, Y[j]? = some p := ⟨Y[j]'(by rw [HK.out]; exact hlt), List.getElem?_eq_getElem _⟩
        have hjI : (j : Int) < K := by omega
        obtain ⟨ad, rfl, hokp, z0, zs⟩ := (HY.out.fr0 yokKeeps hfr).at_ hp
        have u0 := z0 (.int .i64 p.c) rfl
        have u1 := zs 0 (.int .i64 p.n) rfl
        dsimp only [Nat.zero_add, Nat.reduceAdd] at u0 u1
        have HP := Lib.hid hp
        clear hno hfr hbx hp hokp z0 zs
        by_cases e1 : p.c = c
        · have b1 : (p.c == c) = true := by simpa using e1
          by_cases e2 : p.n = n
          · have b2 : (p.n == n) = true := by simpa using e2
            clear e1 e2
            go_wp2_with fail
            go_quiet (fail)
            go_wp2_with (go_at_call 8; refine (mdLives _).mono ?_; rintro e w2 ⟨rfl, hf2⟩; have HF2 := Lib.hid hf2; clear hf2)
            go_ret
            exact ⟨rfl, ((HF0.out.trans (HFR.out.drewN _)).trans HF2.out).toBelow (fun b h => h.elim) (Nat.le_refl _)⟩
          · have b2 : (p.n == n) = false := by simpa using e2
            have hnx : Hid (∀ z ∈ Y.take (j + 1), isY c n z = false) := Lib.hid (fun z hz => by
              rw [List.take_add_one, HP.out] at hz
              rcases List.mem_append.1 hz with hz | hz
              · exact HNO.out z hz
              · have : z = p := by simpa using hz
                rw [this]; simp [isY, e2])
            clear e1 e2
            go_wp2_with fail
            go_quiet (fail)
            go_wp2_with fail
            go_roundw
            case rel => exact ⟨j + 1, by omega, by go_num, hnx.out, HFR.out.drewN _⟩
            case measure => simp [intOf]; omega
        · have b1 : (p.c == c) = false := by simpa using e1
          have hnx : Hid (∀ z ∈ Y.take (j + 1), isY c n z = false) := Lib.hid (fun z hz => by
            rw [List.take_add_one, HP.out] at hz
            rcases List.mem_append.1 hz with hz | hz
            · exact HNO.out z hz
            · have : z = p := by simpa using hz
              rw [this]; simp [isY, e1])
          clear e1
          go_wp2_with fail
          go_quiet (fail)
          go_wp2_with fail
          go_roundw
          case rel => exact ⟨j + 1, by omega, by go_num, hnx.out, HFR.out.drewN _⟩
          case measure => simp [intOf]; omega
      · obtain rfl : j = K := by omega
        rw [List.take_of_length_le (by rw [HK.out]; exact Nat.le_refl _)] at hno
        have hplain := more_plain kind gd L Y ⟨c, n, k, m⟩ (hlen.out.1) hno
        obtain ⟨lo, hlo⟩ : ∃ lo, loF kind gd L Y = lo := ⟨_, rfl⟩
        obtain ⟨hi, hhi⟩ : ∃ hi, hiF kind gd L Y = hi := ⟨_, rfl⟩
        obtain ⟨lo2, hlo2⟩ : ∃ lo, loF kind gd L (Y ++ [⟨c, n, k, m⟩]) = lo := ⟨_, rfl⟩
        obtain ⟨hi2, hhi2⟩ : ∃ hi, hiF kind gd L (Y ++ [⟨c, n, k, m⟩]) = hi := ⟨_, rfl⟩
        have hS1 := hSp.out wr (.slice ya j yc) Y hfr (HY.out.fr0 yokKeeps hfr)
        have hS2 : Hid (∀ W (v' : Value), Fr (fun _ => False) W0 W → Yl W v' (Y ++ [⟨c, n, k, m⟩]) → Calls Tryz.prog 9 #[.int .i64 kind, vS gd, .slice va N vc, v'] W fun e w' => e = .returned (.agg #[.int .i64 lo2, .int .i64 hi2]) ∧ Fr (fun _ => False) W w') := Lib.hid (fun W v' hf hy => by
          have := hSp.out W v' (Y ++ [⟨c, n, k, m⟩]) hf hy
          rw [hlo2, hhi2] at this; exact this)
        rw [hlo, hhi] at hS1 hplain
        rw [hlo2, hhi2] at hplain
        have HS1 := Lib.hid hS1; have HPL := Lib.hid hplain
        clear hno hfr hbx x0 x1 hlt hj hS1 hplain hlo hhi hlo2 hhi2
        go_upto_region 9 with (go_at_call 9; refine HS1.out.mono ?_; rintro e w2 ⟨rfl, hf2⟩; have HF2 := Lib.hid hf2; clear hf2)
        obtain ⟨b12, hb12⟩ : ∃ b, w2.heap.size = b := ⟨_, rfl⟩
        have hrg : Rg (w2.alloc (.cells #[.int .i64 lo, .int .i64 hi] 27)) b12 lo hi := heap_at hb12.symm _
        have hfo : Fr (fun _ => False) W0 (w2.alloc (.cells #[.int .i64 lo, .int .i64 hi] 27)) := (HFR.out.trans HF2.out).alloc _
        rw [hb12]
        obtain ⟨wo, hwo⟩ : ∃ wo, w2.alloc (.cells #[.int .i64 lo, .int .i64 hi] 27) = wo := ⟨_, rfl⟩
        rw [hwo] at hrg hfo ⊢
        have hbo := hfo.at_ HB0.out (fun e => e)
        have hnl : n0 < wo.heap.size := (Array.getElem?_eq_some_iff.1 hbo).1
        have p0 := cell_obj hbo 0 (.int .i64 c) rfl; have p1 := cell_obj hbo 1 (.int .i64 n) rfl; have p2 := cell_obj hbo 2 (.int .i64 k) rfl; have p3 := cell_obj hbo 3 (.int .i64 m) rfl
        have P0 := Lib.hid p0; have P1 := Lib.hid p1; have P2 := Lib.hid p2; have P3 := Lib.hid p3; have HLT := Lib.hid hnl
        have HRG := Lib.hid hrg; have HFO := Lib.hid hfo
        obtain ⟨iR, hiR, hr0, hr1, hr2⟩ := info_parts infoAns
        have HW0 : Hid (∀ W, Fr (fun b => wo.heap.size ≤ b) wo W → Fr (fun _ => False) W0 W) := Lib.hid (fun W hf => HFO.out.trans' hf (fun b hb e => by have := HFO.out.size; omega))
        have HRD : Hid (∀ W, Fr (fun b => wo.heap.size ≤ b) wo W → Rd W 4 ya j (flat YV.cs Y)) := Lib.hid (fun W hf => by
          have := Yl.rd (HY.out.fr0 yokKeeps (HW0.out W hf))
          rw [HK.out] at this; exact this)
        have HONE : Hid (∀ u ∈ flat YV.cs Y, u.oneCell' = true) := Lib.hid (flat_one (fun r u hu => yvOne r u hu))
        have HJ : Hid (Y.length = j ∧ j ≤ 200) := Lib.hid ⟨HK.out, hlen.out.2⟩
        have HM1 : Hid (0 + j ≤ maxLen ∧ (0 + j) * 32 ≤ 140737488355328) := Lib.hid (by have := HJ.out; unfold maxLen; omega)
        have HM2 : Hid (j + 1 ≤ maxLen ∧ (j + 1) * 32 ≤ 140737488355328) := Lib.hid (by have := HJ.out; unfold maxLen; omega)
        have HO4 : Hid (∀ u ∈ [Value.int .i64 c, .int .i64 n, .int .i64 k, .int .i64 m], u.oneCell' = true) := Lib.hid (by intro u hu; simp at hu; rcases hu with rfl | rfl | rfl | rfl <;> rfl)
        have HYO : Hid (∀ W v', W.ownsRow wo.heap.size 39 4 v' (j + 1) (flat YV.cs Y ++ [.int .i64 c, .int .i64 n, .int .i64 k, .int .i64 m]) → Fr (fun b => wo.heap.size ≤ b) wo W → Yl W v' (Y ++ [⟨c, n, k, m⟩])) := Lib.hid (fun W v' ho hf => by
          refine Sq.own yvSize (base := wo.heap.size) (e := 39) ?_ (fun p hp => ?_)
          · rw [List.length_append, HJ.out.1, flatY_snoc]; exact ho
          · rcases List.mem_append.1 hp with hp | hp
            · exact yokKeeps (HY.out.okm hp) (HW0.out W hf) (fun _ e => e.elim)
            · rw [List.mem_singleton.1 hp]; exact ⟨hoc, hon, hok, hom⟩)
        clear hrg hfo hbo hnl hwo
        go_cut [13] (fun s wx => ∃ b, s = .pointer (some ⟨b, 0, none⟩) ∧ Rg wx b lo2 hi2 ∧ Fr (fun _ => False) wo wx)
        case first =>
          go_region_held3 (fun w' => w'.cell? ⟨n0, 0, none⟩ = some (.int .i64 c) ∧ w'.cell? ⟨n0, 1, none⟩ = some (.int .i64 n) ∧ w'.cell? ⟨n0, 2, none⟩ = some (.int .i64 k) ∧ w'.cell? ⟨n0, 3, none⟩ = some (.int .i64 m)) (first | (refine ⟨Fr.cell (S := fun b => wo.heap.size ≤ b) (w := wo) ?_ P0.out (Nat.not_le.2 HLT.out), Fr.cell (S := fun b => wo.heap.size ≤ b) (w := wo) ?_ P1.out (Nat.not_le.2 HLT.out), Fr.cell (S := fun b => wo.heap.size ≤ b) (w := wo) ?_ P2.out (Nat.not_le.2 HLT.out), Fr.cell (S := fun b => wo.heap.size ≤ b) (w := wo) ?_ P3.out (Nat.not_le.2 HLT.out)⟩ <;> (repeat (first | (with_reducible assumption) | (with_reducible exact Fr.refl _ _) | (with_reducible refine Fr.alloc ?_ _) | (with_reducible refine Fr.drew ?_) | (with_reducible refine Fr.setCell ?_ (fun h => absurd h (Nat.not_lt.2 ?_)) _) | (exact Nat.le_refl _) | (exact Fr.size (by assumption)))) <;> (first | done | ((try have e1 := hF1.size); (try have e2 := hF2.size); (try have e3 := hF3.size); dsimp only; omega))))
            (first
              | (go_at_call 9
                 first
                 | have hC := hS2.out w2' (.slice a2 (j + 1) c2) (HW0.out w2' hF2) (HYO.out w2' _ hown2 hF2); ((with_reducible refine hC.mono ?_); rintro e w3 ⟨rfl, hf3⟩; have hF3 : Fr (fun b => wo.heap.size ≤ b) wo w3 := Fr.trans hF2 (hf3.mono (fun _ _ e => e.elim)))
                 | have hC := hS2.out (w2'.alloc (.cells #[.int .i64 0, .int .i64 0] 27)) (.slice a2 (j + 1) c2) (HW0.out _ (hF2.alloc _)) (HYO.out _ _ (hown2.alloc _) (hF2.alloc _)); ((with_reducible refine hC.mono ?_); rintro e w3 ⟨rfl, hf3⟩; have hF3 : Fr (fun b => wo.heap.size ≤ b) wo w3 := Fr.trans (hF2.alloc _) (hf3.mono (fun _ _ e => e.elim)))
                 have hk3 := Lib.hid (fun b o (h : _ = some o) => hf3.at_ (b := b) (o := o) h (fun e => e))
                 clear hC hf3
                 first
                 | have hV := hk3.out _ _ hz2
                 | have hV := hk3.out _ (.cells #[.int .i64 0, .int .i64 0] 27) (heap_new _ _)
                 | skip
                 (try simp only [World.size_alloc] at hV)
                 try (have z0 := cell_obj hV 0 (.int .i64 0) rfl; have z1 := cell_obj hV 1 (.int .i64 0) rfl; have f0 := obj_frozen hV 0; have f1 := obj_frozen hV 1)
                 have y0 := cell_obj (heap_new w3 (.cells #[.int .i64 0, .int .i64 0] 27)) 0 (.int .i64 0) rfl
                 have y1 := cell_obj (heap_new w3 (.cells #[.int .i64 0, .int .i64 0] 27)) 1 (.int .i64 0) rfl
                 have g0 := obj_frozen (heap_new w3 (.cells #[.int .i64 0, .int .i64 0] 27)) 0
                 have g1 := obj_frozen (heap_new w3 (.cells #[.int .i64 0, .int .i64 0] 27)) 1
                 have y2 := cell_obj (heap_new w3 (.cells #[.int .i64 lo2, .int .i64 0] 27)) 1 (.int .i64 0) rfl
                 have g2 := obj_frozen (heap_new w3 (.cells #[.int .i64 lo2, .int .i64 0] 27)) 1
                 have y3 := cell_obj (obj_set (heap_new w3 (.cells #[.int .i64 0, .int .i64 0] 27)) 0 (.int .i64 lo2)) 1 (.int .i64 0) rfl
                 have g3 := obj_frozen (obj_set (heap_new w3 (.cells #[.int .i64 0, .int .i64 0] 27)) 0 (.int .i64 lo2)) 1)
              | (guard_target =~ (ite (Region.wanted (⟨some 57, _, _, _, _, _⟩ : Oper) _ = true) _ _); refine step_append_src rfl (.tmp 54) (.tmp 56) 23 rfl wo.heap.size 39 iR _ 32 Tryz.underlying23 hiR hr0 hr1 hr2 rfl (by decide) (.slice a1 j c1) j (flat YV.cs Y) (by rfl) (by first | exact hown1 | exact hown1.alloc _ | exact (hown1.alloc _).alloc _) 1 (by rfl) (by exact rd_obj (cs := [.int .i64 c, .int .i64 n, .int .i64 k, .int .i64 m]) (by (repeat (first | (with_reducible assumption) | ((with_reducible refine heap_at ?_ _); (simp; done)) | (with_reducible refine heap_keep ?_ _) | (with_reducible refine heap_drew ?_) | (with_reducible refine hk3.out _ _ ?_) | ((with_reducible refine hk2.out _ _ ?_ ?_); rotate_left; (have := HQ1.out; omega)) | ((with_reducible refine hk1.out _ _ ?_ ?_); rotate_left; ((try dsimp only); omega))))) rfl) HO4.out HM2.out.1 HM2.out.2 (by exact Fr.size (S := fun b => wo.heap.size ≤ b) (w := wo) (by (repeat (first | (with_reducible assumption) | (with_reducible exact Fr.refl _ _) | (with_reducible refine Fr.alloc ?_ _) | (with_reducible refine Fr.drew ?_) | (with_reducible refine Fr.setCell ?_ (fun h => absurd h (Nat.not_lt.2 ?_)) _) | (exact Nat.le_refl _) | (exact Fr.size (by assumption)))))) ?_
                 intro v2 w2' hown2 hgrow2 hloc2
                 have hF2 : Fr (fun b => wo.heap.size ≤ b) wo w2' := Fr.trans (by (repeat (first | (with_reducible assumption) | (with_reducible exact Fr.refl _ _) | (with_reducible refine Fr.alloc ?_ _) | (with_reducible refine Fr.drew ?_) | (with_reducible refine Fr.setCell ?_ (fun h => absurd h (Nat.not_lt.2 ?_)) _) | (exact Nat.le_refl _) | (exact Fr.size (by assumption))))) (Fr.grown hgrow2 (by intro r hr _; exact (hown1.lt r hr).1))
                 first
                 | have hkz2 := gr_keepZ hown1 hgrow2
                 | have hkz2 := gr_keepZ (hown1.alloc _) hgrow2
                 | have hkz2 := gr_keepZ ((hown1.alloc _).alloc _) hgrow2
                 first
                 | have hz2 := hkz2 _ hz
                 | have hz2 := hkz2 _ (heap_keep hz _)
                 | have hz2 := hkz2 _ (heap_new _ _)
                 | have hz2 := hkz2 _ (heap_keep (heap_new _ _) _)
                 | skip
                 obtain ⟨a2, c2, rfl⟩ := row_sl hown2
                 clear hloc2 hgrow2 hkz2)
              | (guard_target =~ (ite (Region.wanted (⟨some 54, _, _, _, _, _⟩ : Oper) _ = true) _ _); refine step_append_src rfl (.tmp 52) (.tmp 53) 23 rfl wo.heap.size 39 iR _ 32 Tryz.underlying23 hiR hr0 hr1 hr2 rfl (by decide) _ 0 [] (by rfl) (by exact own_emp (by (repeat (first | (with_reducible assumption) | ((with_reducible refine heap_at ?_ _); (simp; done)) | (with_reducible refine heap_keep ?_ _) | (with_reducible refine heap_drew ?_) | (with_reducible refine hk3.out _ _ ?_) | ((with_reducible refine hk2.out _ _ ?_ ?_); rotate_left; (have := HQ1.out; omega)) | ((with_reducible refine hk1.out _ _ ?_ ?_); rotate_left; ((try dsimp only); omega))))) (by first | exact Nat.le_refl _ | (simp; done) | omega | (simp; omega) | (dsimp only; omega))) yc (by rfl) (HRD.out _ (by (repeat (first | (with_reducible assumption) | (with_reducible exact Fr.refl _ _) | (with_reducible refine Fr.alloc ?_ _) | (with_reducible refine Fr.drew ?_) | (with_reducible refine Fr.setCell ?_ (fun h => absurd h (Nat.not_lt.2 ?_)) _) | (exact Nat.le_refl _) | (exact Fr.size (by assumption)))))) HONE.out HM1.out.1 HM1.out.2 (by exact Fr.size (S := fun b => wo.heap.size ≤ b) (w := wo) (by (repeat (first | (with_reducible assumption) | (with_reducible exact Fr.refl _ _) | (with_reducible refine Fr.alloc ?_ _) | (with_reducible refine Fr.drew ?_) | (with_reducible refine Fr.setCell ?_ (fun h => absurd h (Nat.not_lt.2 ?_)) _) | (exact Nat.le_refl _) | (exact Fr.size (by assumption)))))) ?_
                 intro v1 w1 hown1 hgrow1 hloc1
                 have hF1 : Fr (fun b => wo.heap.size ≤ b) wo w1 := Fr.trans (by (repeat (first | (with_reducible assumption) | (with_reducible exact Fr.refl _ _) | (with_reducible refine Fr.alloc ?_ _) | (with_reducible refine Fr.drew ?_) | (with_reducible refine Fr.setCell ?_ (fun h => absurd h (Nat.not_lt.2 ?_)) _) | (exact Nat.le_refl _) | (exact Fr.size (by assumption))))) (Fr.grown hgrow1 (by intro r hr _; cases hr; first | exact Nat.le_refl _ | (simp; done) | omega | (simp; omega) | (dsimp only; omega)))
                 have hk1 := Lib.hid (gr_keep hgrow1 rfl)
                 have hkz1 := gr_keepZ (base := wo.heap.size) (xs := []) (own_emp (by (repeat (first | (with_reducible assumption) | ((with_reducible refine heap_at ?_ _); (simp; done)) | (with_reducible refine heap_keep ?_ _) | (with_reducible refine heap_drew ?_) | (with_reducible refine hk3.out _ _ ?_) | ((with_reducible refine hk2.out _ _ ?_ ?_); rotate_left; (have := HQ1.out; omega)) | ((with_reducible refine hk1.out _ _ ?_ ?_); rotate_left; ((try dsimp only); omega))))) (by first | exact Nat.le_refl _ | (simp; done) | omega | (simp; omega) | (dsimp only; omega))) hgrow1
                 rw [Nat.zero_add, List.nil_append] at hown1
                 obtain ⟨a1, c1, rfl⟩ := row_sl hown1
                 obtain ⟨r1, hr1', ho1⟩ := own_at hloc1 rfl
                 have hlt1 := hown1.lt r1 hr1'
                 have hsz1 := (Fr.grown (S := fun _ => True) hgrow1 (fun _ _ _ => trivial)).size
                 (try simp at ho1)
                 (try simp at hsz1)
                 have HQ1 := Lib.hid (And.intro ho1 (And.intro hlt1 hsz1))
                 have HR1 := Lib.hid hr1'
                 clear ho1 hlt1 hsz1 hr1' hloc1 hgrow1
                 first
                 | have hz := hkz1 _ (heap_new _ _)
                 | have hz := hkz1 _ (heap_keep (heap_new _ _) _)
                 | have hz := hkz1 _ (heap_keep (heap_keep (heap_new _ _) _) _)
                 | have hz := hkz1 _ (heap_drew (heap_new _ _))
                 | have hz := hkz1 _ (heap_drew (heap_keep (heap_new _ _) _))
                 | have hz := hkz1 _ (heap_drew (heap_keep (heap_keep (heap_new _ _) _) _))
                 | skip
                 clear hkz1))
          all_goals
            go_wp2_with fail
            go_meet
            have e1 := hF1.size
            have e2 := hF2.size
            first
            | exact ⟨_, rfl, heap_new _ _, (hF3.alloc _).mono (fun b hb e => by have : wo.heap.size ≤ b := e; omega)⟩
            | exact ⟨_, rfl, obj_set (obj_set hV 0 _) 1 _, (Fr.setCell (S := fun b => wo.heap.size ≤ b) (Fr.setCell (S := fun b => wo.heap.size ≤ b) hF3 (p := ⟨_, 0, none⟩) (fun _ => by dsimp only; omega) _) (p := ⟨_, 1, none⟩) (fun _ => by dsimp only; omega) _).mono (fun b hb e => by have : wo.heap.size ≤ b := e; omega)⟩
        case rest =>
          obtain ⟨b13, rfl, hrg2, hfx⟩ := hcut
          have HR2 := Lib.hid hrg2; have HR1 := Lib.hid (show Rg wc b12 lo hi from hfx.at_ HRG.out (fun e => e)); have HFX := Lib.hid (HF0.out.trans (HFO.out.trans hfx))
          obtain ⟨g1, g2, g3⟩ := HPL.out
          clear hrg2 hfx p0 p1 p2 p3
          go_wp2_with (go_at_call 8; refine (mdLives _).mono ?_; rintro e w4 ⟨rfl, hf4⟩; have HF4 := Lib.hid hf4; have z0 := cell_obj (hf4.at_ HR1.out (fun e => e)) 0 (.int .i64 lo) rfl; have z1 := cell_obj (hf4.at_ HR1.out (fun e => e)) 1 (.int .i64 hi) rfl; have y0 := cell_obj (hf4.at_ HR2.out (fun e => e)) 0 (.int .i64 lo2) rfl; have y1 := cell_obj (hf4.at_ HR2.out (fun e => e)) 1 (.int .i64 hi2) rfl; clear hf4)
          go_ret
          exact ⟨rfl, (HFX.out.trans HF4.out).toBelow (fun b h => h.elim) (Nat.le_refl _)⟩
section
variable {H : Type} {enc : TypeId × Value → H} {w : World} {base : Nat} {spare : Nat → Bool} {held : Bool}
set_option maxRecDepth 100000 in
theorem open_ans1 {r : Reach} {b0 : Nat} {v : Value} {d : DataW H} {p : List MemPlace} (hv : Value.okWide Tryz.prog w r b0 39 v) (h : DataW.Trod enc Tryz.prog w base spare held 39 v d p) : ∃ x0 x1 x2 x3, v = .agg #[.int .i64 x0, .int .i64 x1, .int .i64 x2, .int .i64 x3] ∧ okI x0 ∧ okI x1 ∧ okI x2 ∧ okI x3 := by
  obtain ⟨y, rfl, ho⟩ := open_one (cs := YV.cs) (ok := YOk) (k := 4) (d := 2) Tryz.underlying39 (by kernel_rfl) (by kernel_rfl) yvSize open_answer hv h
  exact ⟨y.c, y.n, y.code, y.m, rfl, ho.c, ho.n, ho.code, ho.m⟩
end
set_option maxRecDepth 100000 in
theorem lifted (os : Os) (started : os.Started) (H : Type) (enc : TypeId × Value → H) :
    ReturnsInHanded {} Tryz.checked os 5 .any (Rows.modelMoreSpec.pre6 enc Tryz.prog Tryz.f5 Rows.modelMoreRow.domain false) (Rows.modelMoreSpec.post enc Tryz.prog Tryz.f5 false true false false) := by
  refine returnsInHanded_of_change (C := Tryz.checked) own started (by kernel_rfl) Tryz.func5
    (ChangeSpec.witness6 (enc := enc) (C := Tryz.checked) false ⟨#[], #[.int .i64 0, .string ⟨#[]⟩, .slice none 0 0, .slice none 0 0, .agg #[.int .i64 0, .int .i64 0, .int .i64 0, .int .i64 0]], []⟩ 8 (by kernel_rfl) (by kernel_rfl) (by kernel_rfl) (by kernel_rfl)) ?_
  intro W base args ds gs before hval0 hW hcnd _
  have hval : ∀ (j : Nat) t v, Tryz.f5.params[j]? = some t → args[j]? = some v → Value.okWide Tryz.prog W .any base t v := hval0
  have hW' := hW
  obtain ⟨p, q, hA0, hV, rfl, hfz, hnd⟩ := hW
  have hA : DataW.TrodAll enc Tryz.prog W 0 (fun _ => true) true Tryz.f5.params.toList args.toList ds p := hA0
  rw [Tryz.params5] at hA hval
  obtain ⟨v0, vs0, d0, ds0, p0, q0, hargs, rfl, rfl, h0, r0⟩ := trodAll_cons hA
  obtain ⟨v1, vs1, d1, ds1, p1, q1, rfl, rfl, rfl, h1, r1⟩ := trodAll_cons r0
  obtain ⟨v2, vs2, d2, ds2, p2, q2, rfl, rfl, rfl, h2, r2⟩ := trodAll_cons r1
  obtain ⟨v3, vs3, d3, ds3, p3, q3, rfl, rfl, rfl, h3, r3⟩ := trodAll_cons r2
  obtain ⟨v4, vs4, d4, ds4, p4, q4, rfl, rfl, rfl, h4, r4⟩ := trodAll_cons r3
  obtain ⟨rfl, rfl, rfl⟩ := trodAll_nil r4
  obtain rfl : args = #[v0, v1, v2, v3, v4] := by cases args; simp_all
  obtain ⟨rfl, rfl⟩ := trodVars_none hV
  obtain ⟨a0, rfl, rfl, rfl, w0⟩ := open_int Tryz.underlying3 (hval 0 3 v0 rfl rfl) h0
  obtain ⟨s1, rfl, ws1⟩ := open_strV Tryz.underlying9 (hval 1 9 v1 rfl rfl) h1
  obtain ⟨L2, hL2⟩ := open_asks (hval 2 22 v2 rfl rfl) h2
  obtain ⟨L3, hL3⟩ := open_answers (hval 3 23 v3 rfl rfl) h3
  obtain ⟨x0, x1, x2, x3, rfl, k0, k1, k2, k3⟩ := open_ans1 (hval 4 39 v4 rfl rfl) h4
  clear hA0 hval0
  simp only [List.append_nil] at hW'
  refine (walk a0 s1 v2 v3 L2 L3 x0 x1 x2 x3 W hL2 hL3 k0 k1 k2 k3).mono fun e W' ⟨he, hg⟩ => ?_
  subst he
  exact ⟨_, rfl, law_post laidOut (by kernel_rfl) rfl Tryz.underlying4 hW' rfl rfl hg⟩
theorem over : Rows.modelMoreRow.holds Tryz.pinned (OpenSpec.ofChange Rows.modelMoreSpec) :=
  OpenClaim.holds_of_wide 5 Tryz.f5 rfl rfl rfl rfl rfl rfl rfl ⟨rfl, rfl, rfl, rfl, rfl⟩ rfl rfl rfl rfl rfl (by kernel_rfl) Tryz.func5 (by kernel_rfl)
    (of_decide_eq_true (by kernel_rfl)) (by unfold Func.isWrapper; first | (rw [if_pos (by decide +kernel)]; kernel_rfl) | (rw [if_neg (by decide +kernel)]; exact ⟨rfl, rfl⟩))
    (fun os started H enc _ => lifted os started H enc)
theorem proved : Rows.ModelMoreSaid :=
  over
#print axioms proved
end Go.Proofs.YtbeikkkmobbnkaaGreat.modelMore
