/- entrepotref25: Group, Plain (written by wip/tools/md20.py). -/
import Derived.Test.YtbeikkkmobbnkaaGreatModMoreM2
import Derived.Test.YtbeikkkmobbnkaaGreatModMoreM24
import Derived.Test.YtbeikkkmobbnkaaGreatModMoreM17
namespace Go.Proofs.YtbeikkkmobbnkaaGreat
open Go.RowKit Go.Maps
/-- The group of a client and a number. -/
def isG (c n : Int) (a : AV) : Bool := decide (a.c = c) && decide (a.n = n)
def grpL (c n : Int) (L : List AV) : List AV := (rightL L).filter (isG c n)
theorem filter_snoc_yes {p : AV → Bool} {L : List AV} {k : Nat} {a : AV} (h : L[k]? = some a) (hm : p a = true) : (L.take (k + 1)).filter p = (L.take k).filter p ++ [a] := by
  rw [List.take_add_one, h, List.filter_append]
  simp [hm]
theorem filter_snoc_no {p : AV → Bool} {L : List AV} {k : Nat} {a : AV} (h : L[k]? = some a) (hm : p a = false) : (L.take (k + 1)).filter p = (L.take k).filter p := by
  rw [List.take_add_one, h, List.filter_append]
  simp [hm]
theorem filter_le (p : AV → Bool) (L : List AV) (k : Nat) : ((L.take k).filter p).length ≤ L.length := by
  have := List.length_filter_le p (L.take k)
  have : (L.take k).length ≤ L.length := by rw [List.length_take]; omega
  omega
/-- A row of the call's own of requests is a slice of them. -/
theorem Al.own {w : World} {base : Nat} {v : Value} {L : List AV} (h : w.ownsRow base 50 9 v L.length (flat AV.cs L)) (hL : ∀ p ∈ L, AOk w p) : Al w v L := Sq.own avSize h hL
set_option maxRecDepth 100000 in
set_option maxHeartbeats 4000000 in
theorem r25Group (w : World) (cc nn : Int) (v : Value) (L : List AV) (h : Al w v L) (hl : L.length ≤ 1000) : Calls Tryz.prog 27 #[.int .i64 cc, .int .i64 nn, v] w fun e w' => ∃ v', e = .returned v' ∧ w'.ownsRow w.heap.size 50 9 v' (grpL cc nn L).length (flat AV.cs (grpL cc nn L)) ∧ Fr (fun _ => False) w w' := by
  obtain ⟨i0, hi', hz0, hz1, hz2⟩ := info_parts infoAsk
  have hR := Lib.hid (r25Right w v L h hl)
  have hokR : Hid (∀ p ∈ rightL L, AOk w p) := Lib.hid (fun p hp => h.okm (List.mem_filter.1 hp).1)
  have hle : Hid ((rightL L).length ≤ 1000) := Lib.hid (by have := rightL_len L L.length; rw [List.take_length] at this; omega)
  obtain ⟨RL, hRL⟩ : ∃ RL, rightL L = RL := ⟨_, rfl⟩
  have hG : Hid (grpL cc nn L = RL.filter (isG cc nn)) := Lib.hid (by unfold grpL; rw [hRL])
  rw [hRL] at hR hokR hle
  obtain ⟨N, hN⟩ : ∃ N, RL.length = N := ⟨_, rfl⟩
  rw [hN] at hR hle
  have HN := Lib.hid hN
  have hfl : Hid (∀ k, ((RL.take k).filter (isG cc nn)).length ≤ N) := Lib.hid (fun k => by rw [← hN]; exact filter_le _ RL k)
  obtain ⟨G, hGG⟩ : ∃ G, grpL cc nn L = G := ⟨_, rfl⟩
  rw [hGG] at hG ⊢
  have hNI : (N : Int) ≤ 1000 := by have := hle.out; omega
  obtain ⟨a0, c0, rfl⟩ := h.sl
  obtain ⟨N0, hN0⟩ : ∃ N0, L.length = N0 := ⟨_, rfl⟩
  rw [hN0] at hR ⊢
  clear h hl hRL hN hGG hN0
  go_enter Tryz.func27, Tryz.ntmps27
  go_wp2_with (go_at_call 26; refine hR.out.mono ?_; rintro e w1 ⟨v1, rfl, ho1, hf1⟩; obtain ⟨a, cp, rfl⟩ := row_sl ho1; have HO1 := Lib.hid ho1; have HF1 := Lib.hid hf1; clear ho1 hf1)
  have hA1 : Hid (Al w1 (.slice a N cp) RL) := Lib.hid (Al.own (by rw [HN.out]; exact HO1.out) (fun p hp => aokKeeps (hokR.out p hp) HF1.out (fun _ h => h.elim)))
  go_loopw [7, 9] (fun v i wr => ∃ k : Nat, k ≤ N ∧ i = .int .i64 k ∧ wr.ownsRow w1.heap.size 50 9 v ((RL.take k).filter (isG cc nn)).length (flat AV.cs ((RL.take k).filter (isG cc nn))) ∧ Fr (fun _ => False) w1 wr) (fun _ i _ => N - (intOf i).toNat)
  case atStart => exact ⟨0, Nat.zero_le _, rfl, World.ownsRow_nil _ _ _ _, Fr.refl _ _⟩
  case round =>
    obtain ⟨k, hk, rfl, hown, hfr⟩ := hrel
    have HFR := Lib.hid hfr; have HO := Lib.hid hown
    by_cases hlt : k < N
    · obtain ⟨p, hp⟩ : ∃ p, RL[k]? = some p := ⟨RL[k]'(by rw [HN.out]; exact hlt), List.getElem?_eq_getElem _⟩
      have hlI : (k : Int) < N := by omega
      obtain ⟨ad, rfl, hok, z0, zs⟩ := (hA1.out.fr0 aokKeeps hfr).at_ hp
      have HOK := Lib.hid hok
      have hone := avOne hok
      obtain ⟨la, lc, hl⟩ := hok.l.sl
      obtain ⟨P, hP⟩ : ∃ P : AV, P = p := ⟨_, rfl⟩
      rw [← hP] at hp HOK hone
      obtain ⟨c, n, kd, o, r, t, m, g, l, its⟩ := p
      dsimp only at hl
      subst hl
      have x0 := z0 (.int .i64 c) rfl
      have x1 := zs 0 (.int .i64 n) rfl
      have x2 := zs 1 (.int .i64 kd) rfl
      have x3 := zs 2 (.int .i64 o) rfl
      have x4 := zs 3 (.int .i64 r) rfl
      have x5 := zs 4 (.int .i64 t) rfl
      have x6 := zs 5 (.int .i64 m) rfl
      have x7 := zs 6 (vS g) rfl
      have x8 := zs 7 (.slice la its.length lc) rfl
      dsimp only [Nat.zero_add, Nat.reduceAdd] at x0 x1 x2 x3 x4 x5 x6 x7 x8
      have hcs : P.cs = #[.int .i64 c, .int .i64 n, .int .i64 kd, .int .i64 o, .int .i64 r, .int .i64 t, .int .i64 m, vS g, .slice la its.length lc] := by rw [hP]; rfl
      have hPc : P.c = c := by rw [hP]
      have hPn : P.n = n := by rw [hP]
      have hPk : P.k = kd := by rw [hP]
      have hPo : P.o = o := by rw [hP]
      have hPi : P.its = its := by rw [hP]
      have hPg : P.g = g := by rw [hP]
      have hPl : P.l = .slice la its.length lc := by rw [hP]
      obtain ⟨M, hM⟩ : ∃ M, its.length = M := ⟨_, rfl⟩
      rw [hM] at x8 hcs hPl
      rw [hcs] at hone
      have HP := Lib.hid hp
      have HCS := Lib.hid hcs
      have HONE := Lib.hid hone
      have HPC := Lib.hid hPc
      have HPN := Lib.hid hPn
      have HPK := Lib.hid hPk
      have HPO := Lib.hid hPo
      have HPI := Lib.hid hPi
      have HPG := Lib.hid hPg
      have HPL := Lib.hid hPl
      have HM := Lib.hid hM
      clear hp hok hone z0 zs hP hcs hPc hPn hPk hPo hPi hPg hPl hM
      obtain ⟨q, hq⟩ : ∃ q, ((RL.take k).filter (isG cc nn)).length = q := ⟨_, rfl⟩
      obtain ⟨F, hFl⟩ : ∃ F, flat AV.cs ((RL.take k).filter (isG cc nn)) = F := ⟨_, rfl⟩
      have hql : Hid (q ≤ 1000) := Lib.hid (by have := hfl.out k; have := hle.out; omega)
      have hstep : Hid (isG cc nn P = true → ((RL.take (k + 1)).filter (isG cc nn)).length = q + 1 ∧ flat AV.cs ((RL.take (k + 1)).filter (isG cc nn)) = F ++ [.int .i64 c, .int .i64 n, .int .i64 kd, .int .i64 o, .int .i64 r, .int .i64 t, .int .i64 m, vS g, .slice la M lc]) := Lib.hid (fun hm => by
        rw [filter_snoc_yes HP.out hm, List.length_append, hq, flatA_snoc, hFl, HCS.out]
        exact ⟨rfl, rfl⟩)
      have hskip : Hid (isG cc nn P = false → ((RL.take (k + 1)).filter (isG cc nn)).length = q ∧ flat AV.cs ((RL.take (k + 1)).filter (isG cc nn)) = F) := Lib.hid (fun hm => by rw [filter_snoc_no HP.out hm]; exact ⟨hq, hFl⟩)
      have hisG : Hid (isG cc nn P = (decide (c = cc) && decide (n = nn))) := Lib.hid (by unfold isG; rw [HPC.out, HPN.out])
      rw [hq, hFl] at HO
      clear hfr hown hq hFl
      by_cases hc : c = cc
      · have b1 : (c == cc) = true := by simpa using hc
        by_cases hn : n = nn
        · have b2 : (n == nn) = true := by simpa using hn
          have HS := Lib.hid (hstep.out (by rw [hisG.out]; simp [hc, hn]))
          clear hc hn
          go_wp2_with (at_builtin; refine wpList_append_own _ rfl _ _ 22 rfl w1.heap.size 50 i0 _ 9 96 Tryz.underlying22 hi' hz0 hz1 hz2 rfl (by decide) _ q F rfl (HO.out.alloc _) ⟨wr.heap.size, 0, none⟩ 1 1 [.int .i64 c, .int .i64 n, .int .i64 kd, .int .i64 o, .int .i64 r, .int .i64 t, .int .i64 m, vS g, .slice la M lc] rfl rfl (cellsNew _ _ _) (fun u hu => HONE.out u (by simpa using hu)) (by have := hql.out; unfold maxLen; omega) (by have := hql.out; omega) (by have := (HFR.out).size; simp; omega) ?_; intro v' w2 hown' hgrow hnil)
          go_roundw
          case rel => exact ⟨k + 1, by omega, by go_num, by rw [HS.out.1, HS.out.2]; exact hown', frGrown HFR.out HO.out hgrow⟩
          case measure => simp [intOf]; omega
        · have b2 : (n == nn) = false := by simpa using hn
          have HS := Lib.hid (hskip.out (by rw [hisG.out]; simp [hn]))
          clear hc hn
          go_wp2_with fail
          go_roundw
          case rel => exact ⟨k + 1, by omega, by go_num, by rw [HS.out.1, HS.out.2]; exact HO.out, HFR.out⟩
          case measure => simp [intOf]; omega
      · have b1 : (c == cc) = false := by simpa using hc
        have HS := Lib.hid (hskip.out (by rw [hisG.out]; simp [hc]))
        clear hc
        go_wp2_with fail
        go_roundw
        case rel => exact ⟨k + 1, by omega, by go_num, by rw [HS.out.1, HS.out.2]; exact HO.out, HFR.out⟩
        case measure => simp [intOf]; omega
    · obtain rfl : k = N := by omega
      have hall : RL.take k = RL := List.take_of_length_le (by rw [HN.out]; exact Nat.le_refl _)
      rw [hall, ← hG.out] at HO
      clear hall hfr hown
      go_wp2_with fail
      go_ret
      exact ⟨_, rfl, own_base HO.out HF1.out.size, HF1.out.trans HFR.out⟩
/-- Have all of a group the same body? -/
def plainL (G : List AV) : Bool := G.all fun x => decide (bodyF x = bodyF (G.headD x))
theorem plainL_nil : plainL [] = true := rfl
theorem head_get {G : List AV} {a : AV} (h : G[0]? = some a) (x : AV) : G.headD x = a := by
  cases G with
  | nil => simp at h
  | cons b r => simpa using h
theorem plainL_no {G : List AV} {a x : AV} {j : Nat} (h0 : G[0]? = some a) (hx : G[j]? = some x) (hne : bodyF x ≠ bodyF a) : plainL G = false := by
  unfold plainL
  rw [Bool.eq_false_iff]
  intro h
  have := List.all_eq_true.1 h x (List.mem_of_getElem? hx)
  rw [head_get h0] at this
  exact hne (by simpa using this)
theorem plainL_yes {G : List AV} (h : ∀ a, G[0]? = some a → ∀ (j : Nat) (x : AV), G[j]? = some x → bodyF x = bodyF a) : plainL G = true := by
  unfold plainL
  rw [List.all_eq_true]
  intro x hx
  obtain ⟨j, hj⟩ := List.getElem?_of_mem hx
  cases G with
  | nil => simp at hj
  | cons a r => simpa using h a rfl j x hj
/-- A body, as a text. -/
def bodyS (a : AV) : ByteArray := strOfNums (bodyF a)
theorem body_conv {w' : World} {B : Nat} {v : Value} {a : AV} (h : w'.ownsRow B 5 1 v (bodyF a).length (u8s (bodyF a))) (hb : BdOk a) : ∀ W, Fr (fun _ => False) w' W → (convert 72 9 v).run Tryz.prog W = .ok (.string (bodyS a)) W := fun W hf =>
  (Bs.own (hf.row h (fun _ _ h => h)) (byt_body hb)).1.string
theorem bodyS_ne {a b : AV} (ha : BdOk a) (hb : BdOk b) (h : bodyF a ≠ bodyF b) : ((bodyS a).toList == (bodyS b).toList) = false := strNe (fun e => h (strOf_inj (byt_body ha) (byt_body hb) e))
theorem bodyS_eq {a b : AV} (h : bodyF a = bodyF b) : ((bodyS a).toList == (bodyS b).toList) = true := by unfold bodyS; rw [h]; simp
theorem r10BodyS (w : World) (a : AV) (hk : AOk w a) (hm : a.may = true) : Calls Tryz.prog 35 #[.agg a.cs] w fun e w' => ∃ v, e = .returned v ∧ (∀ W, Fr (fun _ => False) w' W → (convert 72 9 v).run Tryz.prog W = .ok (.string (bodyS a)) W) ∧ Fr (fun _ => False) w w' :=
  (r10Body w a hk (bdOk_of hk hm)).mono fun _ _ ⟨v, e, h, hf⟩ => ⟨v, e, body_conv h (bdOk_of hk hm), hf⟩
theorem kBodyS (w : World) (a : AV) (hk : AOk w a) (hm : a.may = true) : Calls Tryz.prog 46 #[.agg a.cs] w fun e w' => ∃ v, e = .returned v ∧ (∀ W, Fr (fun _ => False) w' W → (convert 72 9 v).run Tryz.prog W = .ok (.string (bodyS a)) W) ∧ Fr (fun _ => False) w w' :=
  (kBody w a hk hm).mono fun _ _ ⟨v, e, h, hf⟩ => ⟨v, e, body_conv h (bdOk_of hk hm), hf⟩
theorem grp_may {c n : Int} {L : List AV} {a : AV} (h : a ∈ grpL c n L) : a.may = true ∧ isG c n a = true ∧ a ∈ L := by
  unfold grpL rightL at h
  obtain ⟨h1, h2⟩ := List.mem_filter.1 h
  obtain ⟨h3, h4⟩ := List.mem_filter.1 h1
  exact ⟨h4, h2, h3⟩
set_option maxRecDepth 100000 in
set_option maxHeartbeats 4000000 in
theorem r25Plain (w : World) (cc nn : Int) (v : Value) (L : List AV) (h : Al w v L) (hl : L.length ≤ 1000) : Calls Tryz.prog 15 #[.int .i64 cc, .int .i64 nn, v] w fun e w' => e = .returned (.bool (plainL (grpL cc nn L))) ∧ Fr (fun _ => False) w w' := by
  have hR := Lib.hid (r25Group w cc nn v L h hl)
  have hokR : Hid (∀ p ∈ grpL cc nn L, AOk w p ∧ p.may = true) := Lib.hid (fun p hp => ⟨h.okm (grp_may hp).2.2, (grp_may hp).1⟩)
  obtain ⟨G, hG⟩ : ∃ G, grpL cc nn L = G := ⟨_, rfl⟩
  rw [hG] at hR hokR ⊢
  obtain ⟨N, hN⟩ : ∃ N, G.length = N := ⟨_, rfl⟩
  have HN := Lib.hid hN
  have hNI : (N : Int) ≤ 9223372036854775807 := by
    have h1 : G.length ≤ L.length := by rw [← hG]; unfold grpL rightL; exact Nat.le_trans (List.length_filter_le _ _) (List.length_filter_le _ _)
    omega
  rw [hN] at hR
  obtain ⟨R, hRR⟩ : ∃ R, plainL G = R := ⟨_, rfl⟩
  rw [hRR]
  have HR := Lib.hid hRR
  obtain ⟨a0, c0, rfl⟩ := h.sl
  obtain ⟨N0, hN0⟩ : ∃ N0, L.length = N0 := ⟨_, rfl⟩
  rw [hN0] at hR ⊢
  clear h hl hG hN hRR hN0
  go_enter Tryz.func15, Tryz.ntmps15
  go_wp2_with (go_at_call 27; refine hR.out.mono ?_; rintro e w1 ⟨v1, rfl, ho1, hf1⟩; obtain ⟨a, cp, rfl⟩ := row_sl ho1; have HO1 := Lib.hid ho1; have HF1 := Lib.hid hf1; clear ho1 hf1)
  have hA1 : Hid (Al w1 (.slice a N cp) G) := Lib.hid (Al.own (by rw [HN.out]; exact HO1.out) (fun p hp => aokKeeps (hokR.out p hp).1 HF1.out (fun _ h => h.elim)))
  go_loopw [8] (fun i wr => ∃ k : Nat, 1 ≤ k ∧ (k ≤ N ∨ k = 1) ∧ i = .int .i64 k ∧ (∀ a, G[0]? = some a → ∀ (j : Nat) (x : AV), j < k → G[j]? = some x → bodyF x = bodyF a) ∧ Fr (fun _ => False) w1 wr) (fun i _ => N + 1 - (intOf i).toNat)
  case atStart =>
    refine ⟨1, Nat.le_refl _, .inr rfl, rfl, fun a ha j x hj hx => ?_, Fr.refl _ _⟩
    obtain rfl : j = 0 := by omega
    rw [ha] at hx
    injection hx with hx
    rw [hx]
  case round =>
    obtain ⟨k, hk1, hk, rfl, hsame, hfr⟩ := hrel
    have HFR := Lib.hid hfr; have HSM := Lib.hid hsame
    clear hsame
    by_cases hlt : k < N
    · obtain ⟨p, hp⟩ : ∃ p, G[k]? = some p := ⟨G[k]'(by rw [HN.out]; exact hlt), List.getElem?_eq_getElem _⟩
      obtain ⟨p9, hp9⟩ : ∃ p9, G[0]? = some p9 := ⟨G[0]'(by rw [HN.out]; omega), List.getElem?_eq_getElem _⟩
      have hlI : (k : Int) < N := by omega
      have hl0 : (0 : Int) < N := by omega
      have hl0n : 0 < N := by omega
      have hmy : Hid (p.may = true) := Lib.hid (hokR.out p (List.mem_of_getElem? hp)).2
      have hmy9 : Hid (p9.may = true) := Lib.hid (hokR.out p9 (List.mem_of_getElem? hp9)).2
      have hAr := hA1.out.fr0 aokKeeps hfr
      have HAr := Lib.hid hAr
      clear hAr
      obtain ⟨ad, rfl, hok, z0, zs⟩ := (HAr.out).at_ hp
      have HOK := Lib.hid hok
      have hone := avOne hok
      obtain ⟨la, lc, hl⟩ := hok.l.sl
      obtain ⟨P, hP⟩ : ∃ P : AV, P = p := ⟨_, rfl⟩
      rw [← hP] at hp HOK hone hmy
      obtain ⟨c, n, kd, o, r, t, m, g, l, its⟩ := p
      dsimp only at hl
      subst hl
      have x0 := z0 (.int .i64 c) rfl
      have x1 := zs 0 (.int .i64 n) rfl
      have x2 := zs 1 (.int .i64 kd) rfl
      have x3 := zs 2 (.int .i64 o) rfl
      have x4 := zs 3 (.int .i64 r) rfl
      have x5 := zs 4 (.int .i64 t) rfl
      have x6 := zs 5 (.int .i64 m) rfl
      have x7 := zs 6 (vS g) rfl
      have x8 := zs 7 (.slice la its.length lc) rfl
      dsimp only [Nat.zero_add, Nat.reduceAdd] at x0 x1 x2 x3 x4 x5 x6 x7 x8
      have hcs : P.cs = #[.int .i64 c, .int .i64 n, .int .i64 kd, .int .i64 o, .int .i64 r, .int .i64 t, .int .i64 m, vS g, .slice la its.length lc] := by rw [hP]; rfl
      have hPc : P.c = c := by rw [hP]
      have hPn : P.n = n := by rw [hP]
      have hPk : P.k = kd := by rw [hP]
      have hPo : P.o = o := by rw [hP]
      have hPi : P.its = its := by rw [hP]
      have hPg : P.g = g := by rw [hP]
      have hPl : P.l = .slice la its.length lc := by rw [hP]
      obtain ⟨M, hM⟩ : ∃ M, its.length = M := ⟨_, rfl⟩
      rw [hM] at x8 hcs hPl
      rw [hcs] at hone
      have HP := Lib.hid hp
      have HCS := Lib.hid hcs
      have HONE := Lib.hid hone
      have HPC := Lib.hid hPc
      have HPN := Lib.hid hPn
      have HPK := Lib.hid hPk
      have HPO := Lib.hid hPo
      have HPI := Lib.hid hPi
      have HPG := Lib.hid hPg
      have HPL := Lib.hid hPl
      have HM := Lib.hid hM
      clear hp hok hone z0 zs hP hcs hPc hPn hPk hPo hPi hPg hPl hM
      have hxs := (⟨x0, x1, x2, x3, x4, x5, x6, x7, x8⟩ : wr.cell? (ad.add (k * 9)) = some (.int .i64 c) ∧ wr.cell? ⟨(ad.add (k * 9)).block, (ad.add (k * 9)).off + 1, none⟩ = some (.int .i64 n) ∧ wr.cell? ⟨(ad.add (k * 9)).block, (ad.add (k * 9)).off + 2, none⟩ = some (.int .i64 kd) ∧ wr.cell? ⟨(ad.add (k * 9)).block, (ad.add (k * 9)).off + 3, none⟩ = some (.int .i64 o) ∧ wr.cell? ⟨(ad.add (k * 9)).block, (ad.add (k * 9)).off + 4, none⟩ = some (.int .i64 r) ∧ wr.cell? ⟨(ad.add (k * 9)).block, (ad.add (k * 9)).off + 5, none⟩ = some (.int .i64 t) ∧ wr.cell? ⟨(ad.add (k * 9)).block, (ad.add (k * 9)).off + 6, none⟩ = some (.int .i64 m) ∧ wr.cell? ⟨(ad.add (k * 9)).block, (ad.add (k * 9)).off + 7, none⟩ = some (vS g) ∧ wr.cell? ⟨(ad.add (k * 9)).block, (ad.add (k * 9)).off + 8, none⟩ = some (.slice la M lc))
      have HXS := Lib.hid hxs
      clear hxs x0 x1 x2 x3 x4 x5 x6 x7 x8
      obtain ⟨ad9, had9, hok9, z0, zs⟩ := (HAr.out).at_ hp9
      obtain rfl : ad = ad9 := by injection had9
      have HOK9 := Lib.hid hok9
      have hone9 := avOne hok9
      obtain ⟨la9, lc9, hl9⟩ := hok9.l.sl
      obtain ⟨P9, hP9⟩ : ∃ P : AV, P = p9 := ⟨_, rfl⟩
      rw [← hP9] at hp9 HOK9 hone9 hmy9
      obtain ⟨c9, n9, kd9, o9, r9, t9, m9, g9, l9, its9⟩ := p9
      dsimp only at hl9
      subst hl9
      have x09 := z0 (.int .i64 c9) rfl
      have x19 := zs 0 (.int .i64 n9) rfl
      have x29 := zs 1 (.int .i64 kd9) rfl
      have x39 := zs 2 (.int .i64 o9) rfl
      have x49 := zs 3 (.int .i64 r9) rfl
      have x59 := zs 4 (.int .i64 t9) rfl
      have x69 := zs 5 (.int .i64 m9) rfl
      have x79 := zs 6 (vS g9) rfl
      have x89 := zs 7 (.slice la9 its9.length lc9) rfl
      dsimp only [Nat.zero_add, Nat.reduceAdd] at x09 x19 x29 x39 x49 x59 x69 x79 x89
      have hcs9 : P9.cs = #[.int .i64 c9, .int .i64 n9, .int .i64 kd9, .int .i64 o9, .int .i64 r9, .int .i64 t9, .int .i64 m9, vS g9, .slice la9 its9.length lc9] := by rw [hP9]; rfl
      have hPc9 : P9.c = c9 := by rw [hP9]
      have hPn9 : P9.n = n9 := by rw [hP9]
      have hPk9 : P9.k = kd9 := by rw [hP9]
      have hPo9 : P9.o = o9 := by rw [hP9]
      have hPi9 : P9.its = its9 := by rw [hP9]
      have hPg9 : P9.g = g9 := by rw [hP9]
      have hPl9 : P9.l = .slice la9 its9.length lc9 := by rw [hP9]
      obtain ⟨M9, hM9⟩ : ∃ M, its9.length = M := ⟨_, rfl⟩
      rw [hM9] at x89 hcs9 hPl9
      rw [hcs9] at hone9
      have HP9 := Lib.hid hp9
      have HCS9 := Lib.hid hcs9
      have HONE9 := Lib.hid hone9
      have HPC9 := Lib.hid hPc9
      have HPN9 := Lib.hid hPn9
      have HPK9 := Lib.hid hPk9
      have HPO9 := Lib.hid hPo9
      have HPI9 := Lib.hid hPi9
      have HPG9 := Lib.hid hPg9
      have HPL9 := Lib.hid hPl9
      have HM9 := Lib.hid hM9
      clear hp9 hok9 hone9 z0 zs hP9 hcs9 hPc9 hPn9 hPk9 hPo9 hPi9 hPg9 hPl9 hM9
      have h00 : ad.add (0 * 9) = ad := by obtain ⟨b, f, s⟩ := ad; cases s <;> simp [Addr.add]
      rw [h00] at x09 x19 x29 x39 x49 x59 x69 x79 x89
      clear h00
      have hfacts : Hid (∀ W : World, Fr (fun _ => False) wr W → (W.cell? (ad.add (k * 9)) = some (.int .i64 c) ∧ W.cell? ⟨(ad.add (k * 9)).block, (ad.add (k * 9)).off + 1, none⟩ = some (.int .i64 n) ∧ W.cell? ⟨(ad.add (k * 9)).block, (ad.add (k * 9)).off + 2, none⟩ = some (.int .i64 kd) ∧ W.cell? ⟨(ad.add (k * 9)).block, (ad.add (k * 9)).off + 3, none⟩ = some (.int .i64 o) ∧ W.cell? ⟨(ad.add (k * 9)).block, (ad.add (k * 9)).off + 4, none⟩ = some (.int .i64 r) ∧ W.cell? ⟨(ad.add (k * 9)).block, (ad.add (k * 9)).off + 5, none⟩ = some (.int .i64 t) ∧ W.cell? ⟨(ad.add (k * 9)).block, (ad.add (k * 9)).off + 6, none⟩ = some (.int .i64 m) ∧ W.cell? ⟨(ad.add (k * 9)).block, (ad.add (k * 9)).off + 7, none⟩ = some (vS g) ∧ W.cell? ⟨(ad.add (k * 9)).block, (ad.add (k * 9)).off + 8, none⟩ = some (.slice la M lc)) ∧ (W.cell? ad = some (.int .i64 c9) ∧ W.cell? ⟨ad.block, ad.off + 1, none⟩ = some (.int .i64 n9) ∧ W.cell? ⟨ad.block, ad.off + 2, none⟩ = some (.int .i64 kd9) ∧ W.cell? ⟨ad.block, ad.off + 3, none⟩ = some (.int .i64 o9) ∧ W.cell? ⟨ad.block, ad.off + 4, none⟩ = some (.int .i64 r9) ∧ W.cell? ⟨ad.block, ad.off + 5, none⟩ = some (.int .i64 t9) ∧ W.cell? ⟨ad.block, ad.off + 6, none⟩ = some (.int .i64 m9) ∧ W.cell? ⟨ad.block, ad.off + 7, none⟩ = some (vS g9) ∧ W.cell? ⟨ad.block, ad.off + 8, none⟩ = some (.slice la9 M9 lc9))) := Lib.hid (fun W hf => by
        obtain ⟨y0, y1, y2, y3, y4, y5, y6, y7, y8⟩ := HXS.out
        exact ⟨⟨hf.cell y0 (fun h => h), hf.cell y1 (fun h => h), hf.cell y2 (fun h => h), hf.cell y3 (fun h => h), hf.cell y4 (fun h => h), hf.cell y5 (fun h => h), hf.cell y6 (fun h => h), hf.cell y7 (fun h => h), hf.cell y8 (fun h => h)⟩, hf.cell x09 (fun h => h), hf.cell x19 (fun h => h), hf.cell x29 (fun h => h), hf.cell x39 (fun h => h), hf.cell x49 (fun h => h), hf.cell x59 (fun h => h), hf.cell x69 (fun h => h), hf.cell x79 (fun h => h), hf.cell x89 (fun h => h)⟩)
      have hC : Hid (∀ W : World, Fr (fun _ => False) wr W → Calls Tryz.prog 35 #[.agg #[.int .i64 c, .int .i64 n, .int .i64 kd, .int .i64 o, .int .i64 r, .int .i64 t, .int .i64 m, vS g, .slice la M lc]] W fun e w' => ∃ v, e = .returned v ∧ (∀ W', Fr (fun _ => False) w' W' → (convert 72 9 v).run Tryz.prog W' = .ok (.string (bodyS P)) W') ∧ Fr (fun _ => False) W w') := Lib.hid (fun W hf => by
        have := r10BodyS W P (aokKeeps HOK.out hf (fun _ h => h.elim)) hmy.out
        rw [HCS.out] at this; exact this)
      have hC9 : Hid (∀ W : World, Fr (fun _ => False) wr W → Calls Tryz.prog 35 #[.agg #[.int .i64 c9, .int .i64 n9, .int .i64 kd9, .int .i64 o9, .int .i64 r9, .int .i64 t9, .int .i64 m9, vS g9, .slice la9 M9 lc9]] W fun e w' => ∃ v, e = .returned v ∧ (∀ W', Fr (fun _ => False) w' W' → (convert 72 9 v).run Tryz.prog W' = .ok (.string (bodyS P9)) W') ∧ Fr (fun _ => False) W w') := Lib.hid (fun W hf => by
        have := r10BodyS W P9 (aokKeeps HOK9.out hf (fun _ h => h.elim)) hmy9.out
        rw [HCS9.out] at this; exact this)
      clear hfr x09 x19 x29 x39 x49 x59 x69 x79 x89
      have hbd := Lib.hid (bdOk_of HOK.out hmy.out)
      have hbd9 := Lib.hid (bdOk_of HOK9.out hmy9.out)
      have hX : Hid (Fr (fun _ => False) wr wr.drew) := Lib.hid (Fr.refl _ wr).drew
      obtain ⟨⟨y0, y1, y2, y3, y4, y5, y6, y7, y8⟩, u0, u1, u2, u3, u4, u5, u6, u7, u8⟩ := hfacts.out _ hX.out
      by_cases hb : bodyF P = bodyF P9
      · have hq := bodyS_eq hb
        have HB := Lib.hid hb
        clear hb hbd hbd9 HOK HOK9 hmy hmy9
        go_wp2_with fail
        go_region_with ((go_at_call 35; first | ((with_reducible refine (hC.out _ hX.out).mono ?_); rintro e w2 ⟨v2, rfl, hcv, hf2⟩; (try (have kk9 := K9.out _ hf2; clear k9; have k9 := kk9; clear kk9)); have K1 := Lib.hid hcv; have k1 := hcv _ (Fr.refl _ _); clear hcv; have hX := Lib.hid (hX.out.trans hf2); clear hf2; clear y0 y1 y2 y3 y4 y5 y6 y7 y8 u0 u1 u2 u3 u4 u5 u6 u7 u8; obtain ⟨⟨y0, y1, y2, y3, y4, y5, y6, y7, y8⟩, u0, u1, u2, u3, u4, u5, u6, u7, u8⟩ := hfacts.out _ hX.out) | ((with_reducible refine (hC9.out _ hX.out).mono ?_); rintro e w2 ⟨v2, rfl, hcv, hf2⟩; (try (have kk1 := K1.out _ hf2; clear k1; have k1 := kk1; clear kk1)); have K9 := Lib.hid hcv; have k9 := hcv _ (Fr.refl _ _); clear hcv; have hX := Lib.hid (hX.out.trans hf2); clear hf2; clear y0 y1 y2 y3 y4 y5 y6 y7 y8 u0 u1 u2 u3 u4 u5 u6 u7 u8; obtain ⟨⟨y0, y1, y2, y3, y4, y5, y6, y7, y8⟩, u0, u1, u2, u3, u4, u5, u6, u7, u8⟩ := hfacts.out _ hX.out)))
        all_goals
          go_wp2_with fail
          go_roundw
          case rel =>
            refine ⟨k + 1, by omega, by omega, by go_num, fun a ha j x hj hx => ?_, HFR.out.trans hX.out⟩
            by_cases e : j = k
            · subst e
              have e1 : P = x := Option.some.inj (HP.out.symm.trans hx)
              have e2 : P9 = a := Option.some.inj (HP9.out.symm.trans ha)
              rw [← e1, ← e2]; exact HB.out
            · exact HSM.out a ha j x (by omega) hx
          case measure => simp [intOf]; omega
      · have hq := bodyS_ne hbd.out hbd9.out hb
        have hres : Hid (R = false) := Lib.hid (by rw [← HR.out]; exact plainL_no HP9.out HP.out hb)
        clear hb hbd hbd9 HOK HOK9 hmy hmy9
        go_wp2_with fail
        go_region_with ((go_at_call 35; first | ((with_reducible refine (hC.out _ hX.out).mono ?_); rintro e w2 ⟨v2, rfl, hcv, hf2⟩; (try (have kk9 := K9.out _ hf2; clear k9; have k9 := kk9; clear kk9)); have K1 := Lib.hid hcv; have k1 := hcv _ (Fr.refl _ _); clear hcv; have hX := Lib.hid (hX.out.trans hf2); clear hf2; clear y0 y1 y2 y3 y4 y5 y6 y7 y8 u0 u1 u2 u3 u4 u5 u6 u7 u8; obtain ⟨⟨y0, y1, y2, y3, y4, y5, y6, y7, y8⟩, u0, u1, u2, u3, u4, u5, u6, u7, u8⟩ := hfacts.out _ hX.out) | ((with_reducible refine (hC9.out _ hX.out).mono ?_); rintro e w2 ⟨v2, rfl, hcv, hf2⟩; (try (have kk1 := K1.out _ hf2; clear k1; have k1 := kk1; clear kk1)); have K9 := Lib.hid hcv; have k9 := hcv _ (Fr.refl _ _); clear hcv; have hX := Lib.hid (hX.out.trans hf2); clear hf2; clear y0 y1 y2 y3 y4 y5 y6 y7 y8 u0 u1 u2 u3 u4 u5 u6 u7 u8; obtain ⟨⟨y0, y1, y2, y3, y4, y5, y6, y7, y8⟩, u0, u1, u2, u3, u4, u5, u6, u7, u8⟩ := hfacts.out _ hX.out)))
        all_goals
          go_wp2_with fail
          go_ret
          exact ⟨by rw [hres.out]; rfl, HF1.out.trans (HFR.out.trans hX.out)⟩
    · have hres : Hid (R = true) := Lib.hid (by rw [← HR.out]; exact plainL_yes (fun a ha j x hx => HSM.out a ha j x (by have := (List.getElem?_eq_some_iff.1 hx).1; have := HN.out; omega) hx))
      have hlI : ¬ (k : Int) < N := by omega
      clear hfr
      go_wp2_with fail
      go_ret
      exact ⟨by rw [hres.out]; rfl, HF1.out.trans HFR.out⟩
end Go.Proofs.YtbeikkkmobbnkaaGreat
