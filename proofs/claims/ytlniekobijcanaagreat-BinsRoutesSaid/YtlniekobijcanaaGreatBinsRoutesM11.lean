/- bins: spread. -/
import Derived.Test.YtlniekobijcanaaGreatBinsRoutesM4
import Derived.Deep.QuietTactic
namespace Go.Proofs.YtlniekobijcanaaGreat
open Go.RowKit Go.Maps
theorem infoPlace : (Tryz.prog.info? 55).map (fun i => (i.zero, i.size, i.bytes)) = some (some (.agg #[.int .i64 0, .string ⟨#[]⟩, .int .i64 0]), 3, 32) := by kernel_rfl
def spF (can : BE → Int) (nE : BE → Int → Int) (s : Str) (L : List BE) (n : Int) (ord : List Int) : List BE × Int × List PV := ord.foldl (stepS can nE s) (L, n, [])
/-- What spread leaves. -/
def SpP (w : World) (g : Nat) (TS : Nat → Prop) (F : List BE × Int × List PV) (e : Ending) (w' : World) : Prop :=
  (0 < F.2.1 ∧ e = .returned (.tuple #[.slice none 0 0, .bool false]) ∧ Fr (fun _ => False) w w') ∨
  (F.2.1 ≤ 0 ∧ ∃ v L' TS', e = .returned (.tuple #[v, .bool true]) ∧ Pl w' v F.2.2 ∧ (∀ b, v.ownBlock = some b → w.heap.size ≤ b) ∧ FA w' g TS' L' ∧ L'.map BV.e = F.1 ∧ Fr (fun c => c = g) w w' ∧ ∀ b, TS' b → TS b ∨ w.heap.size ≤ b)
theorem step_some {can : BE → Int} {nE : BE → Int → Int} {s : Str} {M : List BE} {n : Int} {o : List PV} {i : Nat} {b : BE} (h : M[i]? = some b) :
    stepS can nE s (M, n, o) (i : Int) = if min n (can b) ≤ 0 then (M, n, o) else (M.set i (b.put s (nE b (min n (can b)))), n - min n (can b), o ++ [⟨b.nu, s, min n (can b)⟩]) := by
  unfold stepS
  simp only [Int.toNat_natCast]
  rw [h]
set_option maxRecDepth 100000 in
set_option maxHeartbeats 16000000 in
theorem bSpread (w : World) (g gc gt : Nat) (TS : Nat → Prop) (cbc cbt : Array Value) (L : List BV) (s : Str) (n : Int) (vord : Value) (ord : List Int) (can : BE → Int) (nE : BE → Int → Int) (PE : BE → Prop)
    (egc : ∀ args w, (callFunc gc args).run Tryz.prog w = .ok (.enter gc args) w) (egt : ∀ args w, (callFunc gt args).run Tryz.prog w = .ok (.enter gt args) w)
    (h : FA w g TS L) (hL : 0 < L.length) (hL2 : L.length ≤ 1000) (hs : okS s) (hn : okI n) (hn1 : 0 ≤ n) (hord : Sn w vord ord) (hol : ord.length ≤ 1000000) (hom : ∀ x ∈ ord, ∃ i : Nat, x = (i : Int) ∧ i < L.length)
    (hP : ∀ b ∈ L, PE b.e) (hPk : ∀ x, PE x → okI (can x))
    (hPt : ∀ (x : BE) (k : Int), PE x → 0 < k → k ≤ can x → k ≤ n → PE (x.put s (nE x k)))
    (hCan : ∀ (W : World) (x : BV), Fr (fun _ => False) w W → BOk W x → PE x.e → Calls Tryz.prog gc (#[.agg x.cs] ++ cbc) W fun e w' => e = .returned (.int .i64 (can x.e)) ∧ Fr (fun _ => False) W w')
    (hThen : ∀ (W : World) (x : BV) (k : Int), Fr (fun _ => False) w W → BOk W x → PE x.e → 0 < k → k ≤ can x.e → k ≤ n → Calls Tryz.prog gt (#[.agg x.cs, .int .i64 k] ++ cbt) W fun e w' => ∃ v, e = .returned (.agg (BV.cs (x.put v s (nE x.e k)))) ∧ BOk w' (x.put v s (nE x.e k)) ∧ (∀ c, v.ownBlock = some c → W.heap.size ≤ c) ∧ Fr (fun _ => False) W w') :
    Calls Tryz.prog 53 #[.pointer (some ⟨g, 0, none⟩), vS s, .int .i64 n, vord, .func (.func gc) #[] cbc, .func (.func gt) #[] cbt] w fun e w' => SpP w g TS (spF can nE s (L.map BV.e) n ord) e w' := by
  obtain ⟨i0, hi', hz0, hz1, hz2⟩ := info_parts infoPlace
  have HFA := Lib.hid h
  obtain ⟨ro, co, q1, -, q3⟩ := h.row
  have hcl := bnClone w _ L q3 hL2 hL
  have HOM := Lib.hid hom; have HP := Lib.hid hP; have HPK := Lib.hid hPk; have HPT := Lib.hid hPt; have HCAN := Lib.hid hCan; have HTHEN := Lib.hid hThen
  have HORD := Lib.hid hord; have HSS := Lib.hid hs; have HNN := Lib.hid hn
  have HBK : Hid (∀ b ∈ L, BOk w b ∧ (b.its ≠ [] → ∀ c, b.l.ownBlock = some c → c < w.heap.size ∧ TS c ∧ c ≠ g)) := Lib.hid (fun b hb => by
    obtain ⟨⟨r, cap, cur, h1, h2, h3, h4, h5, h6, h7, h8, h9⟩, ho, hl⟩ := h
    exact ⟨(h9 b hb).1, fun hne c hc => ⟨hl _ ((h9 b hb).2 hne c hc).1, ((h9 b hb).2 hne c hc).1, ((h9 b hb).2 hne c hc).2.1⟩⟩)
  obtain ⟨oa, oc, rfl⟩ := hord.sl
  obtain ⟨N, hN⟩ : ∃ N, L.length = N := ⟨_, rfl⟩
  obtain ⟨No, hNo⟩ : ∃ No, ord.length = No := ⟨_, rfl⟩
  have HN := Lib.hid hN; have HNo := Lib.hid hNo
  obtain ⟨SP, hSP⟩ : ∃ SP, SpP w g TS (spF can nE s (L.map BV.e) n ord) = SP := ⟨_, rfl⟩
  have HSP := Lib.hid hSP
  have c0 := cell_obj q1 0 (.slice (some ⟨ro, 0, none⟩) L.length co) rfl
  rw [hN] at hcl c0 hL hL2
  rw [hNo] at hol ⊢
  have HCL := Lib.hid hcl
  have HLB := Lib.hid hL2; have HOLB := Lib.hid hol
  have HC0 := Lib.hid c0
  rw [hSP]
  clear h q1 q3 hcl hom hP hPk hPt hCan hThen hord hs hn hN hNo hSP
  go_enter Tryz.func53, Tryz.ntmps53
  go_wp2_with (go_at_call 97; refine HCL.out.mono ?_; rintro e w1 ⟨v1, rfl, hown1, hf1⟩; have HO1 := Lib.hid hown1; have HF1 := Lib.hid hf1; obtain ⟨a1, c1, rfl⟩ := row_sl hown1; clear hown1 hf1)
  obtain ⟨r, hr1, hlow, hcm, hst⟩ : ∃ r, a1 = some ⟨r, 0, none⟩ ∧ w.heap.size ≤ r ∧ c1 ≤ maxLen ∧ SpI w (fun c => TS c ∧ c ≠ g) r c1 N PE w1 L (.slice none 0 0) [] := by
    rcases HO1.out.2 with ⟨e, h0⟩ | ⟨r, cap, cur, e, hbase, hb, hn', hm, hsz, ht⟩
    · omega
    · injection e with e1 _ e3
      subst e3
      refine ⟨r, e1, hbase, hm, ⟨cur, hb, hsz, ht⟩, HN.out, hn', fun b hb => ⟨(HBK.out b hb).1.keep HF1.out (fun _ _ _ e => e), HP.out b hb, fun hne c hc => ⟨?_, by simp [Value.ownBlock], .inl ((HBK.out b hb).2 hne c hc).2⟩⟩, World.ownsRow_nil _ _ _ _, by simp [Value.ownBlock], HF1.out, hbase⟩
      have := ((HBK.out b hb).2 hne c hc).1
      omega
  subst hr1
  have HST := Lib.hid hst; have HLOW := Lib.hid hlow; have HCM := Lib.hid hcm
  clear hst c0 hcm
  go_loopw [2, 15, 26] (fun vn vo vi wr => ∃ (j : Nat) (nj : Int) (Lj : List BV) (out : List PV), j ≤ No ∧ vi = .int .i64 j ∧ vn = .int .i64 nj ∧ 0 ≤ nj ∧ nj ≤ n ∧ out.length ≤ j ∧ (Lj.map BV.e, nj, out) = (ord.take j).foldl (stepS can nE s) (L.map BV.e, n, []) ∧ SpI w (fun c => TS c ∧ c ≠ g) r c1 N PE wr Lj vo out ∧ ∀ p ∈ out, okPv wr p) (fun _ _ vi _ => No - (intOf vi).toNat)
  case atStart => exact ⟨0, n, L, [], Nat.zero_le _, rfl, rfl, hn1, Int.le_refl _, Nat.le_refl _, rfl, HST.out, fun p hp => by cases hp⟩
  case round =>
    obtain ⟨j, nj, Lj, out, hj, rfl, rfl, hn0, hnn, hol2, hF, hI, hok⟩ := hrel
    have HI := Lib.hid hI; have HF := Lib.hid hF; have HOK := Lib.hid hok
    obtain ⟨ao, ac, rfl⟩ := row_sl hI.out
    have hnI : -9223372036854775808 ≤ nj ∧ nj ≤ 9223372036854775807 := by have := HNN.out; unfold okI at this; omega
    by_cases hlt : j < No
    · obtain ⟨xi, hxi⟩ : ∃ x, ord[j]? = some x := ⟨ord[j]'(by rw [HNo.out]; exact hlt), List.getElem?_eq_getElem _⟩
      obtain ⟨i, rfl, hiL⟩ := HOM.out xi (List.mem_of_getElem? hxi)
      obtain ⟨od, rfl, -, oz, -⟩ := (HORD.out.fr (fun _ _ _ _ _ _ _ => trivial) hI.fr (fun _ e => e.elim)).at_ hxi
      have o0 := oz (.int .i64 i) rfl
      rw [Nat.mul_one] at o0
      have hiN : i < N := by have := HN.out; omega
      have hiI : (i : Int) < N := by omega
      have hjI : (j : Int) < No := by omega
      obtain ⟨x, hx⟩ : ∃ x, Lj[i]? = some x := ⟨Lj[i]'(by rw [hI.len]; exact hiN), List.getElem?_eq_getElem _⟩
      obtain ⟨hbk, hpe, hne⟩ := hI.bins x (List.mem_of_getElem? hx)
      obtain ⟨la, lc, hl⟩ := hbk.l.sl
      obtain ⟨p0, p1, p2, p3, pf⟩ := hI.cells hx
      rw [hl] at p3
      have hstep := step_some (can := can) (nE := nE) (s := s) (M := Lj.map BV.e) (n := nj) (o := out) (i := i) (b := x.e) (by rw [List.getElem?_map, hx]; rfl)
      have hF2 : (ord.take (j + 1)).foldl (stepS can nE s) (L.map BV.e, n, []) = stepS can nE s (Lj.map BV.e, nj, out) (i : Int) := by
        rw [List.take_add_one, hxi, List.foldl_append, ← hF]
        rfl
      rw [hstep] at hF2
      have hck := HPK.out x.e hpe
      have HC := Lib.hid (HCAN.out wr x hI.fr hbk hpe)
      obtain ⟨C, hC⟩ : ∃ C, can x.e = C := ⟨_, rfl⟩
      have HCC := Lib.hid hC
      rw [hC] at hF2 hck HC
      have hcs : BV.cs x = #[.int .i64 x.nu, .int .i64 x.zo, .int .i64 x.ro, .slice la x.its.length lc] := by unfold BV.cs; rw [hl]
      rw [hcs] at HC
      have HF2 := Lib.hid hF2; have HX := Lib.hid hx; have HBKX := Lib.hid hbk; have HPE := Lib.hid hpe; have HXL := Lib.hid hl; have HCS := Lib.hid hcs
      unfold okI at hck
      clear hF2 hstep hxi oz hx hbk hpe hne hl hcs hC hI hF hok pf
      by_cases hk : min nj C ≤ 0
      · have HRES : Hid ((ord.take (j + 1)).foldl (stepS can nE s) (L.map BV.e, n, []) = (Lj.map BV.e, nj, out)) := Lib.hid (by rw [HF2.out, if_pos hk])
        go_wp2_with (go_at_fn gc; refine HC.out.mono ?_; rintro e w2 ⟨rfl, hf2⟩; have HW2 := Lib.hid hf2; clear hf2)
        go_roundw
        case rel => exact ⟨j + 1, nj, Lj, out, by omega, by go_num, rfl, hn0, hnn, by omega, HRES.out.symm, HI.out.keep0 HW2.out, HOK.out⟩
        case measure => simp [intOf]; omega
      · obtain ⟨K, hK⟩ : ∃ K, min nj C = K := ⟨_, rfl⟩
        have hKp : 0 < K := by omega
        have hKn : K ≤ nj := by omega
        have hKC : K ≤ C := by omega
        have HRES : Hid ((ord.take (j + 1)).foldl (stepS can nE s) (L.map BV.e, n, []) = ((Lj.map BV.e).set i (x.e.put s (nE x.e K)), nj - K, out ++ [⟨x.nu, s, K⟩])) := Lib.hid (by rw [HF2.out, if_neg hk, hK]; rfl)
        have hwr : IntKind.i64.wrap (nj - K) = nj - K := IntWalk.i64_in _ (by omega)
        have hkd : decide (K ≤ 0) = false := decide_eq_false (by omega)
        have HKP := Lib.hid hKp; have HKN := Lib.hid hKn; have HKC := Lib.hid hKC
        have HKR : Hid (okI K) := Lib.hid (by unfold okI; omega)
        clear hk HF2
        go_wp2_with (first
          | (go_at_fn gc; refine HC.out.mono ?_; rintro e w2 ⟨rfl, hf2⟩; have hi2 := HI.out.keep0 hf2; have HI2 := Lib.hid hi2; obtain ⟨p0, p1, p2, p3, pf⟩ := hi2.cells HX.out; rw [HXL.out] at p3; have HB2 := Lib.hid (HBKX.out.keep hf2 (fun _ _ _ e => e)); have hth := HTHEN.out w2 x K hi2.fr HB2.out HPE.out HKP.out (by rw [HCC.out]; exact HKC.out) (Int.le_trans HKN.out hnn); rw [HCS.out] at hth; have HTH := Lib.hid hth; clear hf2 hi2 pf hth)
          | (go_at_fn gt; refine HTH.out.mono ?_; rintro e w3 ⟨v, rfl, hb3, hv3, hf3⟩; have hi3 := HI2.out.keep0 hf3; obtain ⟨p0, p1, p2, p3, pf⟩ := hi3.cells HX.out; rw [HXL.out] at p3; have f0 := pf (i * 4); have f1 := pf (i * 4 + 1); have f2 := pf (i * 4 + 2); have f3 := pf (i * 4 + 3); obtain ⟨va, vc, hve⟩ := hb3.l.sl; dsimp only [BV.put] at hve; subst hve; have hi4 := hi3.store HX.out hb3 (HPT.out x.e K HPE.out HKP.out (by rw [HCC.out]; exact HKC.out) (Int.le_trans HKN.out hnn)) (fun c hc => by have h1 := hv3 c hc; obtain ⟨⟨cur, k1, -⟩, -⟩ := HI2.out; have h2 := (Array.getElem?_eq_some_iff.1 k1).1; exact ⟨by omega, (fun e => by have := (HI2.out.out.lt c e).2; omega), .inr (by have := HI2.out.fr.size; omega)⟩); obtain ⟨W4, hW4⟩ : ∃ W, ((((w3.setCell ⟨r, i * 4, none⟩ (.int .i64 x.nu)).setCell ⟨r, i * 4 + 1, none⟩ (.int .i64 x.zo)).setCell ⟨r, i * 4 + 2, none⟩ (.int .i64 x.ro)).setCell ⟨r, i * 4 + 3, none⟩ (.slice va (setF x.its s (nE x.e K)).length vc)) = W := ⟨_, rfl⟩; have hi4' : SpI w (fun c => TS c ∧ c ≠ g) r c1 N PE W4 (Lj.set i (x.put (.slice va (setF x.its s (nE x.e K)).length vc) s (nE x.e K))) (.slice ao out.length ac) out := (by rw [← hW4]; exact hi4); have HI4 := Lib.hid hi4'; have y0 := (hi4'.cells (i := i) (x := x.put (.slice va (setF x.its s (nE x.e K)).length vc) s (nE x.e K)) (by rw [List.getElem?_set]; simp; have := (List.getElem?_eq_some_iff.1 HX.out).1; omega)).1; dsimp only [BV.put] at y0 ⊢; dsimp only [BV.cs]; clear hb3 hv3 hf3 hi3 hi4 hi4' pf)
          | (at_builtin; refine wpList_append_src rfl _ _ 23 rfl w.heap.size 55 i0 (.agg #[.int .i64 0, .string ⟨#[]⟩, .int .i64 0]) 32 Tryz.underlying23 hi' hz0 hz1 hz2 rfl (by decide) (.slice ao out.length ac) out.length (flat pvC out) rfl (((Fr.refl (fun _ => False) W4).alloc _).row HI4.out.out (fun _ _ e => e)) 1 rfl (rd_obj (cs := [.int .i64 x.nu, vS s, .int .i64 K]) (heap_new _ _) rfl) (by intro u hu; simp only [List.mem_cons, List.not_mem_nil, or_false] at hu; rcases hu with rfl | rfl | rfl <;> rfl) (by have := HOLB.out; unfold maxLen; omega) (by have := HOLB.out; omega) (by have := HI4.out.fr.size; simp; omega) ?_; intro v5 w5 hown5 hgrow5 hloc5; have HI5 := Lib.hid ((HI4.out.keep0 ((Fr.refl (fun _ => False) W4).alloc _)).push (p := ⟨x.nu, s, K⟩) hown5 hgrow5 hloc5); obtain ⟨a5, c5, rfl⟩ := row_sl hown5; clear hown5 hgrow5 hloc5))
        go_roundw
        case rel =>
          refine ⟨j + 1, nj - K, _, out ++ [⟨x.nu, s, K⟩], by omega, by go_num, rfl, by omega, by omega, by simp; omega, ?_, HI5.out, fun p hp => ?_⟩
          · rw [HRES.out, List.map_set]; rfl
          · rcases List.mem_append.1 hp with hp | hp
            · exact HOK.out p hp
            · rw [List.mem_singleton.1 hp]
              exact ⟨HBKX.out.nu, HSS.out, HKR.out⟩
        case measure => simp [intOf]; omega
    · obtain rfl : j = No := by omega
      have hjI : ¬ (j : Int) < j := by omega
      have hFF : spF can nE s (L.map BV.e) n ord = (Lj.map BV.e, nj, out) := by
        unfold spF
        rw [HF.out, List.take_of_length_le (by rw [HNo.out]; exact Nat.le_refl _)]
      have HFF := Lib.hid hFF
      obtain ⟨⟨r', cap', cur', h1, h2, h3, h4, h5, h6, h7, h8, h9⟩, hog, hlt'⟩ := HFA.out
      have hgl := hlt' g hog
      have HGL := Lib.hid hgl; have HOG := Lib.hid hog; have HLT := Lib.hid hlt'
      have hgc := hI.fr.at_ h1 (fun e => e)
      rw [HN.out] at hgc
      have d0 := cell_obj hgc 0 (.slice (some ⟨r', 0, none⟩) N cap') rfl
      have e0 := obj_frozen hgc 0
      have HGC := Lib.hid hgc
      clear hI hF hok h1 h2 h3 h4 h5 h6 h7 h8 h9 hog hlt' hgl hgc hFF
      by_cases hp : 0 < nj
      · go_wp2_with fail
        rw [← HSP.out, HFF.out]
        exact .inl ⟨hp, rfl, HI.out.fr⟩
      · have HNP := Lib.hid hp
        go_wp2_with fail
        rw [← HSP.out, HFF.out]
        have hI := HI.out
        have hfs : Fr (fun c => c = g) wr (wr.setCell ⟨g, 0, none⟩ (.slice (some ⟨r, 0, none⟩) N c1)) := (Fr.refl (fun c => c = g) wr).setCell (p := ⟨g, 0, none⟩) (fun _ => rfl) _
        have hgr : g ≠ r := by have := HGL.out; have := HLOW.out; omega
        have hrl := hI.fr.size
        refine .inr ⟨HNP.out, _, Lj, fun b => TS b ∨ (w.heap.size ≤ b ∧ b < wr.heap.size), rfl, ?_, fun b hb => (hI.out.lt b hb).1, ?_, rfl, ?_, fun b hb => hb.imp id (fun h => h.1)⟩
        · refine (Sq.own pvSize (hfs.row hI.out (fun b hb e => ?_)) (fun p hp => HOK.out p hp))
          have := (hI.out.lt b hb).1
          have := HGL.out
          omega
        · obtain ⟨⟨cur, k1, k2, k3⟩, k4, k5, k6, k7, k8, k9, k10⟩ := hI
          have hrw := (Array.getElem?_eq_some_iff.1 k1).1
          refine ⟨⟨r, c1, cur, ?_, hfs.at_ k1 (fun e => hgr e.symm), by rw [k4]; exact k5, ?_, k2, by rw [k4]; exact k3, .inr ⟨k10, hrw⟩, fun e => hgr e.symm, fun b hb => ?_⟩, .inl HOG.out, fun b hb => ?_⟩
          · rw [k4]; exact obj_set HGC.out 0 _
          · exact HCM.out
          · obtain ⟨b1, b2, b3⟩ := k6 b hb
            have hne : ∀ c, b.its ≠ [] → b.l.ownBlock = some c → (TS c ∨ (w.heap.size ≤ c ∧ c < wr.heap.size)) ∧ c ≠ g ∧ c ≠ r := fun c hn hc => by
              obtain ⟨c1', c2', c3'⟩ := b3 hn c hc
              rcases c3' with ⟨c4, c5⟩ | c4
              · exact ⟨.inl c4, c5, c1'⟩
              · exact ⟨.inr ⟨c4, b1.l.lt hn c hc⟩, by have := HGL.out; omega, c1'⟩
            exact ⟨b1.keep hfs (fun hn c hc e => (hne c hn hc).2.1 e), fun hn c hc => hne c hn hc⟩
          · rcases hb with hb | hb
            · have := HLT.out b hb
              simp [World.setCell]
              omega
            · simp [World.setCell]
              omega
        · exact hI.fr.mono (fun _ _ e => e.elim) |>.trans hfs
end Go.Proofs.YtlniekobijcanaaGreat
