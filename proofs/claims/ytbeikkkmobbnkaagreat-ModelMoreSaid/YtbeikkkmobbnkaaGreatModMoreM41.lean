/- model.Goods (written by wip/tools/md33.py). -/
import Derived.Test.YtbeikkkmobbnkaaGreatModMoreM3
import Derived.Test.YtbeikkkmobbnkaaGreatModMoreM38
import Derived.Test.YtbeikkkmobbnkaaGreatModMoreM1
import Derived.Test.YtbeikkkmobbnkaaGreatModMoreM40
import Derived.Test.YtbeikkkmobbnkaaGreatModMoreM24
import Derived.Test.YtbeikkkmobbnkaaGreatModMoreM17
import Derived.Shelf.Abstract
namespace Go.Proofs.YtbeikkkmobbnkaaGreat
open Go.RowKit Go.Maps
attribute [local go_sem] Oper.semAt_some
def gdIts (l : List (Str × Bool)) (its : Its) : List (Str × Bool) := its.foldl (fun l p => putS ktS.lt l p.1 true) l
theorem gdIts_take {l : List (Str × Bool)} {its : Its} {k : Nat} {p : Str × Int} (h : its[k]? = some p) : gdIts l (its.take (k + 1)) = putS ktS.lt (gdIts l (its.take k)) p.1 true := by
  unfold gdIts
  rw [List.take_add_one, h, List.foldl_append]
  rfl
theorem gdIts_len : ∀ (its : Its) (l : List (Str × Bool)), (gdIts l its).length ≤ l.length + its.length
  | [], l => by simp [gdIts]
  | p :: r, l => by
    have := gdIts_len r (putS ktS.lt l p.1 true)
    have h2 := putK_len ktS.lt l p.1 true
    show (gdIts (putS ktS.lt l p.1 true) r).length ≤ _
    simp; omega
def gdPut (l : List (Str × Bool)) (a : AV) : List (Str × Bool) := if a.g = [] then gdIts l a.its else putS ktS.lt (gdIts l a.its) a.g true
/-- The goods that the requests name, as a map. -/
def goodsL (R : List AV) : List (Str × Bool) := R.foldl gdPut []
theorem goodsL_take {R : List AV} {k : Nat} {p : AV} (h : R[k]? = some p) : goodsL (R.take (k + 1)) = gdPut (goodsL (R.take k)) p := by
  unfold goodsL
  rw [List.take_add_one, h, List.foldl_append]
  rfl
theorem goodsL_len (R : List AV) (hm : ∀ a ∈ R, a.its.length ≤ 16) : ∀ k, (goodsL (R.take k)).length ≤ 17 * k
  | 0 => by simp [goodsL]
  | k + 1 => by
    have ih := goodsL_len R hm k
    cases h : R[k]? with
    | none =>
      have : R.take (k + 1) = R.take k := by rw [List.take_add_one, h]; simp
      rw [this]; omega
    | some p =>
      rw [goodsL_take h]
      have h1 := gdIts_len p.its (goodsL (R.take k))
      have h2 := hm p (List.mem_of_getElem? h)
      unfold gdPut
      split
      · omega
      · have := putK_len ktS.lt (gdIts (goodsL (R.take k)) p.its) p.g true; omega
def encG (s : Str) : Array Value := #[vS s]
theorem kGoods (a : Option Addr) (n c : Nat) (w : World) : Calls Tryz.prog 13 #[.slice a n c] w fun e w' =>
    e = .returned (.func (.func 30) #[] #[.pointer (some ⟨w.heap.size, 0, none⟩)]) ∧ w' = w.alloc (.cells #[.slice a n c] 22) := by
  go_enter Tryz.func13, Tryz.ntmps13
  go_wp2
  go_ret
  exact ⟨rfl, rfl⟩
structure GdI (w W : World) (n0 : Nat) (l : List (Str × Bool)) : Prop where
  bx : W.heap[n0 + 1]? = some (.cells #[.map (some n0)] 63)
  mp : Mp Tryz.prog W 9 ktS Value.bool n0 l
  fr : Fr (fun b => n0 ≤ b) w W
theorem GdI.fa {B : Nat} {w W W' : World} {n0 : Nat} {l : List (Str × Bool)} (h : GdI w W n0 l) (hf : Fa B W W') (hB : w.heap.size ≤ B) : GdI w W' n0 l := ⟨Fa.cells hf h.bx, Fa.mp hf h.mp, Fa.old hf h.fr hB⟩
theorem GdI.keep {w W W' : World} {n0 : Nat} {l : List (Str × Bool)} (h : GdI w W n0 l) (hf : Fr (fun _ => False) W W') : GdI w W' n0 l := ⟨hf.at_ h.bx (fun h => h), hf.mp h.mp (fun h => h), h.fr.trans' hf (fun _ _ e => e.elim)⟩
theorem GdI.store {w W : World} {n0 : Nat} {l : List (Str × Bool)} (h : GdI w W n0 l) (hn : w.heap.size = n0) (hl : l.length < 9223372036854775807) {x : Str} (hx : okS x) :
    ∃ W', (Instr.mapUpdate 63 (.map (some n0)) (vS x) (.bool true)).run Tryz.prog W = .ok () W' ∧ GdI w W' n0 (putS ktS.lt l x true) ∧ Fr (fun b => b = n0) W W' := by
  obtain ⟨W', h1, h2, h3⟩ := h.mp.store (koS Tryz.underlying9) Tryz.underlying63 hl hx true
  have hF : Fr (fun b => b = n0) W W' := Fr.turned h3 rfl
  exact ⟨W', h1, ⟨hF.at_ h.bx (by omega), h2, h.fr.trans' hF (fun b _ e => by omega)⟩, hF⟩
set_option maxRecDepth 100000 in
set_option maxHeartbeats 8000000 in
theorem kGoods1 (S : Nat → Prop) (w : World) (Bt : Nat) (v : Value) (L : List AV) (hBt : Boxed w Bt 22 v) (h : Al w v L) (hl : L.length ≤ 1000) :
    ItX 30 #[.pointer (some ⟨Bt, 0, none⟩)] encG ((goodsL (rightL L)).map (·.1)) S w := by
  intro lp S' J Jx W hW hS' hJ hY hJx h0
  obtain ⟨n0, hn0⟩ : ∃ n0, W.heap.size = n0 := ⟨_, rfl⟩
  have HS := Lib.hid hn0
  obtain ⟨g9, hg9⟩ : ∃ gl, goodsL (rightL L) = gl := ⟨_, rfl⟩
  rw [hg9] at hY ⊢
  have HGX := Lib.hid hg9
  clear hg9
  have hBW := boxed_below hBt hW hBt.lt
  have HL := Lib.hid (h.fr0 aokKeeps (Fr.below (S := fun _ => False) hW))
  have hRL : Hid ((rightL L).length ≤ 1000) := Lib.hid (by have := rightL_len L L.length; rw [List.take_length] at this; omega)
  have hokR : Hid (∀ p ∈ rightL L, AOk W p ∧ p.its.length ≤ 16 ∧ okS p.g) := Lib.hid (fun p hp => ⟨HL.out.okm (List.mem_filter.1 hp).1, (mayK_all (may_its (List.mem_filter.1 hp).2)).1, (HL.out.okm (List.mem_filter.1 hp).1).g⟩)
  have HGL := Lib.hid (goodsL_len (rightL L) (fun a ha => (hokR.out a ha).2.1))
  obtain ⟨va, vc, rfl⟩ := h.sl
  obtain ⟨N, hN⟩ : ∃ N, L.length = N := ⟨_, rfl⟩
  rw [hN] at HL hBW
  have HSS := Lib.hid hS'; have HBW := Lib.hid hBW; have HJ0 := Lib.hid h0
  have hcB : ((W.alloc (.map #[] 0)).alloc (.cells #[.map (some n0)] 63)).cell? ⟨Bt, 0, none⟩ = some (.slice va N vc) := (((Fr.refl (fun _ => False) W).alloc _).alloc _).cell hBW.cell (fun h => h)
  clear hBt h hN hl hS' hW hBW h0
  refine (callsIn_wide (n := 0)).1 ?_
  refine callsIn_of_wp_marks Tryz.func30 rfl trivial ?_ rfl
  simp only [Tryz.ntmps30, List.size_toArray, List.length_cons, List.length_nil, Nat.reduceAdd, Nat.reduceSub, Array.replicate_succ, Array.replicate_zero, List.push_toArray, List.append_toArray, List.nil_append, List.cons_append]
  have hfn : ∀ f, Fence.wide.fn f := fun _ => trivial
  have hdp : Fence.wide.depth.isSome = false := rfl
  have hmm := @run_makeMap Tryz.prog
  gi_wp2_with (gi_at_call 31; refine (callsIn_wide.2 (kRightF _ (.slice va N vc) _ _ _)).mono ?_; rintro e w1 ⟨rfl, rfl⟩)
  clear hmm
  have hI0 : GdI W ((((W.alloc (.map #[] 0)).alloc (.cells #[.map (some n0)] 63)).alloc (.cells #[.slice va N vc] 22))) n0 [] := by
    have hm := Mp.made (κ := Str) (ν := Bool) Tryz.prog W 9 ktS Value.bool
    rw [hn0] at hm
    exact ⟨heap_keep (heap_at (by simp; omega) _) _, (hm.alloc _).alloc _, (((Fr.refl _ W).alloc _).alloc _).alloc _⟩
  have hB0 : Boxed ((((W.alloc (.map #[] 0)).alloc (.cells #[.map (some n0)] 63)).alloc (.cells #[.slice va N vc] 22))) (n0 + 2) 22 (.slice va N vc) := heap_at (by simp; omega) _
  have hs2 : ((((W.alloc (.map #[] 0)).alloc (.cells #[.map (some n0)] 63)).alloc (.cells #[.slice va N vc] 22))).heap.size = n0 + 3 := by simp; omega
  obtain ⟨W2, hW2⟩ : ∃ W2, ((((W.alloc (.map #[] 0)).alloc (.cells #[.map (some n0)] 63)).alloc (.cells #[.slice va N vc] 22))) = W2 := ⟨_, rfl⟩
  rw [hW2] at hI0 hB0 hs2
  (try rw [hW2])
  have hF2 : Fr (fun b => W.heap.size ≤ b) W W2 := hI0.fr.mono (fun b _ e => by omega)
  have HI0 := Lib.hid hI0; have HS2 := Lib.hid hs2; have HF2 := Lib.hid hF2
  clear hW2 hI0 hF2 hcB
  refine rangeX (w0 := W2) (X := rightL L) (S := fun b => b = n0) rfl (enters_of Tryz.func49 (by kernel_rfl) rfl)
    (kRight2 _ W W2 (n0 + 2) _ L hB0 HL.out HF2.out (fun b hb e => by omega)) (Below.refl _ _) (fun b hb => by omega) (fun _ => rfl)
    (fun k _ Wx => GdI W Wx n0 (goodsL ((rightL L).take k))) (fun _ _ _ _ => False)
    (fun k C A B hs hf => hs.fa hf (by omega)) (fun c k C A B hs hf => hs)
    HI0.out ?round ?done ?stop
  case stop => intro D c k C W hD hk hX; exact hX.elim
  case round =>
    rintro lq k x C Wa hx hlp hi hr
    obtain ⟨hokx, hmx, hgx⟩ := hokR.out x (List.mem_of_getElem? hx)
    have HT := Lib.hid (goodsL_take hx)
    have hll := HGL.out k
    have hkl : k < 1000 := by have := (List.getElem?_eq_some_iff.1 hx).1; have := hRL.out; omega
    obtain ⟨P, hP⟩ : ∃ P : AV, P = x := ⟨_, rfl⟩
    rw [← hP] at HT
    obtain ⟨c, n, kd, o, r, t, m, g, l, its⟩ := x
    obtain ⟨la, lc, hl⟩ := hokx.l.sl
    dsimp only at hl hmx hgx
    subst hl
    obtain ⟨M, hM⟩ : ∃ M, its.length = M := ⟨_, rfl⟩
    dsimp only [encA, AV.cs]
    have hIL : Il W (.slice la its.length lc) its := hokx.l
    have hPI : P.its = its := by rw [hP]
    have hPG : P.g = g := by rw [hP]
    rw [hM] at hIL hmx ⊢
    have HIL := Lib.hid hIL; have HPI := Lib.hid hPI; have HPG := Lib.hid hPG; have HOB := Lib.hid hIL.lt
    clear hP hx hokx hIL hPI hPG
    obtain ⟨xb, hxb⟩ : ∃ xb, Wa.heap.size = xb := ⟨_, rfl⟩
    gi_wp2
    have hFW : Fr (fun _ => False) Wa (Wa.alloc (.cells #[.int .i64 c, .int .i64 n, .int .i64 kd, .int .i64 o, .int .i64 r, .int .i64 t, .int .i64 m, vS g, .slice la M lc] 50)) := (Fr.refl _ Wa).alloc _
    have hbW : (Wa.alloc (.cells #[.int .i64 c, .int .i64 n, .int .i64 kd, .int .i64 o, .int .i64 r, .int .i64 t, .int .i64 m, vS g, .slice la M lc] 50)).heap[xb]? = some (.cells #[.int .i64 c, .int .i64 n, .int .i64 kd, .int .i64 o, .int .i64 r, .int .i64 t, .int .i64 m, vS g, .slice la M lc] 50) := heap_at hxb.symm _
    refine Took.mk (hFW.mono (fun _ _ e => e.elim)) (hi.keep hFW) ?_
    rintro Wb hG hrb hf hsz hsw hCC ⟨lr, hlr⟩
    have hbb := Fa.cells hf hbW
    have hxsz : n0 + 3 ≤ xb := by rw [← hxb, ← hs2]; exact hsw
    obtain ⟨gl, hgl⟩ : ∃ gl, goodsL ((rightL L).take k) = gl := ⟨_, rfl⟩
    rw [hgl] at hG HT hll
    have hstep : Hid (goodsL ((rightL L).take (k + 1)) = if g = [] then gdIts gl its else putS ktS.lt (gdIts gl its) g true) := Lib.hid (by rw [HT.out]; unfold gdPut; rw [HPI.out, HPG.out])
    have HG := Lib.hid hG; have HLR := Lib.hid hlr; have HBB := Lib.hid hbb
    have hgil := gdIts_len its gl
    have HLL : Hid (∀ j, (gdIts gl (its.take j)).length < 9223372036854775807) := Lib.hid (fun j => by have h1 := gdIts_len (its.take j) gl; have h2 : (its.take j).length ≤ its.length := by rw [List.length_take]; exact Nat.min_le_right _ _
                                                                                                       omega)
    have x7 := cell_obj hbb 7 (vS g) rfl; have x8 := cell_obj hbb 8 (.slice la M lc) rfl
    clear hi hr hrb hf hbb hbW hFW hgl hkl hlr hG hgil hll
    gi_wp2_with (gi_at_call 32; refine (callsIn_wide.2 (iAll _ _ _ _)).mono ?_; rintro e w3 ⟨rfl, rfl⟩)
    obtain ⟨W3, hW3⟩ : ∃ W3, Wb.alloc (.cells #[.slice la M lc] 46) = W3 := ⟨_, rfl⟩
    have hF3 : Fr (fun _ => False) Wb W3 := by rw [← hW3]; exact (Fr.refl _ Wb).alloc _
    have hB3 : Boxed W3 Wb.heap.size 46 (.slice la M lc) := by rw [← hW3]; exact heap_new _ _
    have hG3 := HG.out.keep hF3
    have hn3 : n0 < Wb.heap.size ∧ Wb.heap.size < W3.heap.size := ⟨HG.out.mp.lt, by rw [← hW3]; simp⟩
    rw [hW3]
    clear hW3
    refine rangeXN (w0 := W3) (X := its) (S := fun b => b = n0) (hF3.at_ HLR.out (fun h => h)) rfl (enters_of Tryz.func51 (by kernel_rfl) rfl)
      (iAll1 _ W3 Wb.heap.size _ its hB3 (HIL.out.fr hG3.fr (fun b hb => by omega)) (by omega) (fun hl b hb e => by have := HOB.out (by simpa using hl) b e; omega)) (Below.refl _ _) (fun b hb => by omega) (fun _ => rfl)
      (fun j _ Wx => GdI W Wx n0 (gdIts gl (its.take j)) ∧ Wx.heap[xb]? = some (.cells #[.int .i64 c, .int .i64 n, .int .i64 kd, .int .i64 o, .int .i64 r, .int .i64 t, .int .i64 m, vS g, .slice la M lc] 50)) (fun _ _ _ _ => False)
      (fun k C A B hs hf => ⟨hs.1.fa hf (by omega), Fa.cells hf hs.2⟩) (fun c k C A B hs hf => hs)
      ⟨hG3, hF3.at_ HBB.out (fun h => h)⟩ ?round2 ?done2 ?stop2
    case stop2 => intro c k C W hk hX; exact hX.elim
    case round2 =>
      rintro l3 j x3 C3 Wx hx3 hl3 hi3 hr3
      have HTJ := Lib.hid (gdIts_take (l := gl) hx3)
      have hok3 : okS x3.1 := by obtain ⟨_, _, _, _, hx⟩ := HIL.out; exact (hx j x3 hx3).1
      obtain ⟨g3, n3⟩ := x3
      dsimp only [encIt] at hok3 ⊢
      gi_wp2
      refine Took.mk (Fr.refl _ _) hi3 ?_
      rintro Wy ⟨hM, hbx⟩ hrb hf hsz hsw hCC _
      have y0 := cell_obj hM.bx 0 (.map (some n0)) rfl
      obtain ⟨W4, hst, hG4, hF4⟩ := hM.store HS.out (HLL.out j) hok3
      have HG4 := Lib.hid hG4; have HF4 := Lib.hid hF4; have HBX := Lib.hid hbx
      clear hi3 hr3 hrb hf hM hbx hG4 hF4 hx3 hG3 hB3 hF3 x7 x8
      gi_wp2_with fail
      refine ⟨HF4.out.mono (fun b _ e => .inl e), ?_⟩
      dsimp only
      rw [HTJ.out]
      exact ⟨HG4.out, HF4.out.at_ HBX.out (by omega)⟩
    case done2 =>
      rintro C3 Wx ⟨hM, hbx⟩ hr3
      have hTA : Hid (gdIts gl (its.take its.length) = gdIts gl its) := Lib.hid (by rw [List.take_length])
      have hlA := HLL.out its.length
      rw [hTA.out] at hM hlA
      have HFX : Hid (Fr (fun b => b = n0) Wb Wx) := Lib.hid ((hF3.mono (fun _ _ e => e.elim)).trans hr3)
      have z7 := cell_obj hbx 7 (vS g) rfl
      have y0 := cell_obj hM.bx 0 (.map (some n0)) rfl
      by_cases hg : g = []
      · have hx2 : (g != []) = false := by simpa using hg
        have hx3 : g.isEmpty = true := by simpa using hg
        have hnx : Hid (goodsL ((rightL L).take (k + 1)) = gdIts gl its) := Lib.hid (by rw [hstep.out, if_pos hg])
        have HM := Lib.hid hM
        clear hg hM hbx hr3 hlA hF3 hB3 hG3 x7 x8
        gi_wp2_with fail
        refine ⟨HFX.out.mono (fun b _ e => .inl e), ?_⟩
        dsimp only
        rw [hnx.out]
        exact HM.out
      · have hx2 : (g != []) = true := by simpa using hg
        have hx3 : g.isEmpty = false := by simpa using hg
        have hnx : Hid (goodsL ((rightL L).take (k + 1)) = putS ktS.lt (gdIts gl its) g true) := Lib.hid (by rw [hstep.out, if_neg hg])
        obtain ⟨W4, hst, hG4, hF4⟩ := hM.store HS.out hlA hgx
        have HG4 := Lib.hid hG4; have HF4 := Lib.hid hF4
        clear hg hM hbx hr3 hlA hF3 hB3 hG3 hG4 hF4 x7 x8
        gi_wp2_with fail
        refine ⟨(HFX.out.trans HF4.out).mono (fun b _ e => .inl e), ?_⟩
        dsimp only
        rw [hnx.out]
        exact HG4.out
  case done =>
    rintro D C Wd hD hI hr hK
    rw [List.take_length] at hI
    have y0 := cell_obj hI.bx 0 (.map (some n0)) rfl
    have hlen := HGL.out (rightL L).length
    rw [List.take_length] at hlen
    have hRl := hRL.out
    obtain ⟨cK, cS⟩ := keysSorted Wd n0 Value.bool _ hI.mp (by omega)
    obtain ⟨N9, hN9⟩ : ∃ n, g9.length = n := ⟨_, rfl⟩
    have HX : Hid ((g9.map (·.1)).length = N9) := Lib.hid (by rw [List.length_map]; exact hN9)
    have HN := Lib.hid hN9
    rw [HGX.out] at cS hI hlen
    rw [hN9] at cS hlen
    have HFA : Hid (∀ w5, Below Wd.heap.size Wd w5 → Fr (fun _ => False) W w5) := Lib.hid (fun w5 hb => (hI.fr.trans' (Fr.below (S := fun _ => False) hb) (fun b _ e => e.elim)).mono (fun b hb e => by omega))
    have HI := Lib.hid hI; have HK := Lib.hid hK; have HWD : Hid (W.heap.size ≤ Wd.heap.size) := Lib.hid hI.fr.size
    clear hI hr hK hN9
    gi_wp2_with (first
      | (gi_at_call 34; refine (callsIn_wide.2 (callsIn_wide.1 cK)).mono ?_; rintro e w' ⟨rfl, rfl⟩)
      | (gi_at_call 33; refine (callsIn_wide.2 (callsIn_wide.1 cS)).mono ?_; rintro e w5 ⟨v5, rfl, ho5, hb5⟩; obtain ⟨a5, c5, rfl⟩ := row_slice ho5; have HO5 := Lib.hid ho5; have HB5 := Lib.hid hb5; clear ho5 hb5))
    have hJ1 := Lib.hid (hJ 0 _ _ _ HJ0.out ((HFA.out _ HB5.out).mono (fun _ _ e => e.elim)))
    have HK5 := Lib.hid ((Fr.below (S := fun _ => False) HB5.out).at_ HK.out (fun e => e))
    have hD5 : D < w5.heap.size := by have := (Array.getElem?_eq_some_iff.1 HK5.out).1; exact this
    clear cK cS
    gi_loopw [29] (fun i wr => ∃ (k : Nat) (C : Nat → Prop), k ≤ N9 ∧ i = .int .i64 k ∧ J k C wr ∧ (∀ b, C b → w5.heap.size ≤ b ∧ b < wr.heap.size) ∧ Fr (fun b => S' b ∨ C b) w5 wr) (fun i _ => N9 - (intOf i).toNat)
    case atStart => exact ⟨0, _, Nat.zero_le _, rfl, hJ1.out, fun _ h => False.elim h, Fr.refl _ _⟩
    case round =>
      obtain ⟨k, C5, hk, rfl, hJr, hC, hkp⟩ := hrel
      have hKr : wr.heap[D]? = some (.deferred (some [])) := hkp.at_ HK5.out (fun e => e.elim (fun e => by have := (HSS.out _ e).1; have := HWD.out; omega) (fun e => by have := hC _ e; omega))
      have HKr := Lib.hid hKr
      clear hKr
      by_cases hlt : k < N9
      · obtain ⟨p, hp⟩ : ∃ p, g9[k]? = some p := ⟨g9[k]'(by rw [HN.out]; exact hlt), List.getElem?_eq_getElem _⟩
        obtain ⟨g', rfl, hg1, hg2⟩ := row_addr HO5.out (by omega)
        have hWD := HWD.out
        have m5 : ¬ (S' g' ∨ C5 g') := fun e => e.elim (fun e => by have := (HSS.out _ e).1; omega) (fun e => by have := hC _ e; omega)
        have hownr := hkp.row HO5.out (fun b e => by obtain rfl : g' = b := (by simpa [Value.ownBlock] using e); exact m5)
        have hcx : wr.cell? ⟨g', k, none⟩ = some (vS p.1) := by
          have := hownr.cellAt (g := g') (j := k) (by omega)
          rw [this]; simp [hp]
        have hxx : (g9.map (·.1))[k]? = some p.1 := by rw [List.getElem?_map, hp]; rfl
        obtain ⟨fn, tmps, assign, body, hy, hR⟩ := hY k p.1 C5 wr hxx hJr
        dsimp only [encG] at hy
        have hlI : (k : Int) < N9 := by omega
        have HC := Lib.hid hC; have HKP := Lib.hid hkp
        clear hC hkp hp hJr hownr hxx
        gi_wp2
        refine hR.mono ?_
        rintro e W3 (⟨rfl, hJ3, hk3⟩ | ⟨rfl, hJx3, hk3⟩)
        · gi_wp2
          go_roundw
          case rel =>
            refine ⟨k + 1, _, by omega, by go_num, hJ3, ?_, ?_⟩
            · have hs3 := hk3.size
              rintro b (e | e)
              · have := HC.out b e; exact ⟨this.1, by omega⟩
              · have := HKP.out.size; exact ⟨by omega, e.2⟩
            · exact (HKP.out.mono (fun b _ e => e.elim .inl (fun e => .inr (.inl e)))).trans (hk3.mono (fun b _ e => e.elim .inl (fun e => .inr (.inl e))))
          case measure => simp [intOf]; omega
        · gi_wp2
          have hK6 : W3.heap[D]? = some (.deferred (some [])) := hk3.at_ HKr.out (fun e => e.elim (fun e => by have := (HSS.out _ e).1; have := HWD.out; omega) (fun e => by have := HC.out _ e; omega))
          refine ⟨by simp, .inl ⟨_, _, rfl, run_takeDeferred hK6, ?_⟩⟩
          refine ⟨_, results_none rfl _ _ _, ⟨_, rfl⟩, .inr ⟨_, _, ?_, hJx _ _ _ _ hJx3 (frPut (B := W.heap.size) (.deferred none) (by have := HWD.out; omega) hK6 rfl)⟩⟩
          have := HX.out
          omega
      · have : k = N9 := by omega
        subst this
        gi_wp2
        refine ⟨by simp, .inl ⟨_, _, rfl, run_takeDeferred HKr.out, ?_⟩⟩
        exact ⟨_, results_none rfl _ _ _, ⟨_, rfl⟩, .inl ⟨C5, by rw [HX.out]; exact hJ _ _ _ _ hJr (frPut (B := W.heap.size) (.deferred none) (by have := HWD.out; omega) HKr.out rfl)⟩⟩
end Go.Proofs.YtbeikkkmobbnkaaGreat
