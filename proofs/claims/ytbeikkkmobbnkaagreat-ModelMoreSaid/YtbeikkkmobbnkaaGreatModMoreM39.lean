/- model.Orders (written by wip/tools/md29.py). -/
import Derived.Test.YtbeikkkmobbnkaaGreatModMoreM3
import Derived.Test.YtbeikkkmobbnkaaGreatModMoreM38
import Derived.Test.YtbeikkkmobbnkaaGreatModMoreM17
import Derived.Shelf.Abstract
namespace Go.Proofs.YtbeikkkmobbnkaaGreat
open Go.RowKit Go.Maps
attribute [local go_sem] Oper.semAt_some
def ordPut (l : List (Int × Bool)) (a : AV) : List (Int × Bool) := if 0 < ordF a then putS ktI.lt l (ordF a) true else l
/-- The orders that are made, as a map. -/
def ordL (R : List AV) : List (Int × Bool) := R.foldl ordPut []
theorem ordL_take {R : List AV} {k : Nat} {p : AV} (h : R[k]? = some p) : ordL (R.take (k + 1)) = ordPut (ordL (R.take k)) p := by
  unfold ordL
  rw [List.take_add_one, h, List.foldl_append]
  rfl
theorem ordL_len (R : List AV) : ∀ k, (ordL (R.take k)).length ≤ k
  | 0 => by simp [ordL]
  | k + 1 => by
    have ih := ordL_len R k
    cases h : R[k]? with
    | none =>
      have : R.take (k + 1) = R.take k := by rw [List.take_add_one, h]; simp
      rw [this]; omega
    | some p =>
      rw [ordL_take h]
      unfold ordPut
      split
      · have := putK_len ktI.lt (ordL (R.take k)) (ordF p) true; omega
      · omega
structure OrI (w W : World) (n0 : Nat) (l : List (Int × Bool)) : Prop where
  bx : W.heap[n0 + 1]? = some (.cells #[.map (some n0)] 76)
  mp : Mp Tryz.prog W 3 ktI Value.bool n0 l
  fr : Fr (fun b => n0 ≤ b) w W
theorem OrI.fa {B : Nat} {w W W' : World} {n0 : Nat} {l : List (Int × Bool)} (h : OrI w W n0 l) (hf : Fa B W W') (hB : w.heap.size ≤ B) : OrI w W' n0 l := ⟨Fa.cells hf h.bx, Fa.mp hf h.mp, Fa.old hf h.fr hB⟩
theorem OrI.keep {w W W' : World} {n0 : Nat} {l : List (Int × Bool)} (h : OrI w W n0 l) (hf : Fr (fun _ => False) W W') : OrI w W' n0 l := ⟨hf.at_ h.bx (fun h => h), hf.mp h.mp (fun h => h), h.fr.trans' hf (fun _ _ e => e.elim)⟩
theorem okOrd {w : World} {a : AV} (hk : AOk w a) (hm : a.may = true) : okI (ordF a) := by
  obtain ⟨⟨h1, h2⟩, h3, h4⟩ := may_bounds hm
  unfold ordF okI
  split <;> omega
set_option maxRecDepth 100000 in
set_option maxHeartbeats 8000000 in
theorem kOrders (w : World) (v : Value) (L : List AV) (h : Al w v L) (hl : L.length ≤ 1000) : Calls Tryz.prog 18 #[v] w fun e w' => ∃ v', e = .returned v' ∧ w'.ownsRow w.heap.size 3 1 v' (ordL (rightL L)).length ((ordL (rightL L)).map fun p => .int .i64 p.1) ∧ Fr (fun _ => False) w w' := by
  obtain ⟨n0, hn0⟩ : ∃ n0, w.heap.size = n0 := ⟨_, rfl⟩
  have HS := Lib.hid hn0
  have HL := Lib.hid h
  have hRL : Hid ((rightL L).length ≤ 1000) := Lib.hid (by have := rightL_len L L.length; rw [List.take_length] at this; omega)
  have hokR : Hid (∀ p ∈ rightL L, AOk w p ∧ p.may = true) := Lib.hid (fun p hp => ⟨h.okm (List.mem_filter.1 hp).1, (List.mem_filter.1 hp).2⟩)
  obtain ⟨va, vc, rfl⟩ := h.sl
  obtain ⟨N, hN⟩ : ∃ N, L.length = N := ⟨_, rfl⟩
  rw [hN] at HL ⊢
  clear h hN hl
  refine (callsIn_wide (n := 6)).1 ?_
  refine callsIn_of_wp_marks Tryz.func18 rfl trivial ?_ rfl
  simp only [Tryz.ntmps18, List.size_toArray, List.length_cons, List.length_nil, Nat.reduceAdd, Nat.reduceSub, Array.replicate_succ, Array.replicate_zero, List.push_toArray, List.append_toArray, List.nil_append, List.cons_append]
  have hfn : ∀ f, Fence.wide.fn f := fun _ => trivial
  have hdp : Fence.wide.depth.isSome = false := rfl
  have hmm := @run_makeMap Tryz.prog
  gi_wp2_with (gi_at_call 31; refine (callsIn_wide.2 (kRightF _ (.slice va N vc) _ _ _)).mono ?_; rintro e w1 ⟨rfl, rfl⟩)
  clear hmm
  have hI0 : OrI w (((w.alloc (.map #[] 0)).alloc (.cells #[.map (some n0)] 76)).alloc (.cells #[.slice va N vc] 22)) n0 [] := by
    have hm := Mp.made (κ := Int) (ν := Bool) Tryz.prog w 3 ktI Value.bool
    rw [hn0] at hm
    exact ⟨heap_keep (heap_at (by simp; omega) _) _, (hm.alloc _).alloc _, (((Fr.refl _ w).alloc _).alloc _).alloc _⟩
  have hB0 : Boxed (((w.alloc (.map #[] 0)).alloc (.cells #[.map (some n0)] 76)).alloc (.cells #[.slice va N vc] 22)) (n0 + 2) 22 (.slice va N vc) := heap_at (by simp; omega) _
  have hs2 : (((w.alloc (.map #[] 0)).alloc (.cells #[.map (some n0)] 76)).alloc (.cells #[.slice va N vc] 22)).heap.size = n0 + 3 := by simp; omega
  obtain ⟨W2, hW2⟩ : ∃ W2, (((w.alloc (.map #[] 0)).alloc (.cells #[.map (some n0)] 76)).alloc (.cells #[.slice va N vc] 22)) = W2 := ⟨_, rfl⟩
  rw [hW2] at hI0 hB0 hs2
  (try rw [hW2])
  have hF2 : Fr (fun b => w.heap.size ≤ b) w W2 := hI0.fr.mono (fun b _ e => by omega)
  have HI0 := Lib.hid hI0; have HS2 := Lib.hid hs2; have HF2 := Lib.hid hF2
  clear hW2 hI0 hF2
  refine rangeX (w0 := W2) (X := rightL L) (S := fun b => b = n0) rfl (enters_of Tryz.func49 (by kernel_rfl) rfl)
    (kRight2 _ w W2 (n0 + 2) _ L hB0 HL.out HF2.out (fun b hb e => by omega)) (Below.refl _ _) (fun b hb => by omega) (fun _ => rfl)
    (fun k _ W => OrI w W n0 (ordL ((rightL L).take k))) (fun _ _ _ _ => False)
    (fun k C W W' hs hf => hs.fa hf (by omega)) (fun c k C W W' hs hf => hs)
    HI0.out ?round ?done ?stop
  case stop => intro D c k C W hD hk hX; exact hX.elim
  case round =>
    rintro lp k x C W hx hlp hi hr
    obtain ⟨hokx, hmx⟩ := hokR.out x (List.mem_of_getElem? hx)
    have HT := Lib.hid (ordL_take hx)
    have hll := ordL_len (rightL L) k
    have hkl : k < 1000 := by have := (List.getElem?_eq_some_iff.1 hx).1; have := hRL.out; omega
    obtain ⟨P, hP⟩ : ∃ P : AV, P = x := ⟨_, rfl⟩
    rw [← hP] at hmx HT
    have HOKP := Lib.hid (show AOk w P by rw [hP]; exact hokx)
    have hoko := Lib.hid (okOrd HOKP.out hmx)
    obtain ⟨c, n, kd, o, r, t, m, g, l, its⟩ := x
    obtain ⟨la, lc, hl⟩ := hokx.l.sl
    dsimp only at hl
    subst hl
    obtain ⟨M, hM⟩ : ∃ M, its.length = M := ⟨_, rfl⟩
    have hcs : P.cs = #[.int .i64 c, .int .i64 n, .int .i64 kd, .int .i64 o, .int .i64 r, .int .i64 t, .int .i64 m, vS g, .slice la M lc] := by rw [hP, ← hM]; rfl
    dsimp only [encA, AV.cs]
    rw [hM]
    have HCSP := Lib.hid hcs
    clear hM hP hcs hx hokx hmx
    obtain ⟨xb, hxb⟩ : ∃ xb, W.heap.size = xb := ⟨_, rfl⟩
    gi_wp2
    have hFW : Fr (fun _ => False) W (W.alloc (.cells #[.int .i64 c, .int .i64 n, .int .i64 kd, .int .i64 o, .int .i64 r, .int .i64 t, .int .i64 m, vS g, .slice la M lc] 50)) := (Fr.refl _ W).alloc _
    have hbW : (W.alloc (.cells #[.int .i64 c, .int .i64 n, .int .i64 kd, .int .i64 o, .int .i64 r, .int .i64 t, .int .i64 m, vS g, .slice la M lc] 50)).heap[xb]? = some (.cells #[.int .i64 c, .int .i64 n, .int .i64 kd, .int .i64 o, .int .i64 r, .int .i64 t, .int .i64 m, vS g, .slice la M lc] 50) := heap_at hxb.symm _
    refine Took.mk (hFW.mono (fun _ _ e => e.elim)) (hi.keep hFW) ?_
    rintro Wb hM hrb hf hsz hsw hCC _
    have hbb := Fa.cells hf hbW
    obtain ⟨ol, hol⟩ : ∃ ol, ordL ((rightL L).take k) = ol := ⟨_, rfl⟩
    rw [hol] at hM HT hll
    have HMI := Lib.hid hM
    have x0 := cell_obj hbb 0 (.int .i64 c) rfl; have x1 := cell_obj hbb 1 (.int .i64 n) rfl; have x2 := cell_obj hbb 2 (.int .i64 kd) rfl; have x3 := cell_obj hbb 3 (.int .i64 o) rfl; have x4 := cell_obj hbb 4 (.int .i64 r) rfl
    have x5 := cell_obj hbb 5 (.int .i64 t) rfl; have x6 := cell_obj hbb 6 (.int .i64 m) rfl; have x7 := cell_obj hbb 7 (vS g) rfl; have x8 := cell_obj hbb 8 (.slice la M lc) rfl
    have hMF2 : Fr (fun b => w.heap.size ≤ b) w Wb := hM.fr.mono (fun b _ e => by omega)
    have hOrd : Hid (Calls Tryz.prog 38 #[.agg #[.int .i64 c, .int .i64 n, .int .i64 kd, .int .i64 o, .int .i64 r, .int .i64 t, .int .i64 m, vS g, .slice la M lc]] Wb fun e w' => e = .returned (.int .i64 (ordF P)) ∧ Fr (fun _ => False) Wb w') := Lib.hid (by
      have := kOrder Wb P (aokKeeps HOKP.out hMF2 (fun b hb => hb))
      rw [HCSP.out] at this; exact this)
    obtain ⟨OP, hOP⟩ : ∃ OP, ordF P = OP := ⟨_, rfl⟩
    rw [hOP] at hOrd hoko
    have hput : Hid (ordPut ol P = if 0 < OP then putS ktI.lt ol OP true else ol) := Lib.hid (by unfold ordPut; rw [hOP])
    have hlen : Hid (ol.length < 9223372036854775807) := Lib.hid (by omega)
    clear hi hr hrb hf hbb hM hMF2 hOP hbW hFW hol hll hkl
    by_cases hpos : 0 < OP
    · have hnx : Hid (ordL ((rightL L).take (k + 1)) = putS ktI.lt ol OP true) := Lib.hid (by rw [HT.out, hput.out, if_pos hpos])
      gi_wp2_with (gi_at_call 38; refine (callsIn_wide.2 hOrd.out).mono ?_; rintro e w3 ⟨rfl, hf3⟩; have HF3 := Lib.hid hf3; have y0 := cell_obj (hf3.at_ HMI.out.bx (fun h => h)) 0 (.map (some n0)) rfl; obtain ⟨w4, hst4, hm4, ht4⟩ := (hf3.mp HMI.out.mp (fun h => h)).store (koI Tryz.underlying3) Tryz.underlying76 hlen.out hoko.out true; have hst4' : (Instr.mapUpdate 76 (.map (some n0)) (.int .i64 OP) (.bool true)).run Tryz.prog w3 = .ok () w4 := hst4; have HM4 := Lib.hid hm4; have HT4 := Lib.hid ht4; clear hf3 hm4 ht4 hst4)
      have hF4 : Fr (fun b => b = n0) Wb w4 := (HF3.out.mono (fun _ _ e => e.elim)).trans (Fr.turned HT4.out rfl)
      refine ⟨hF4.mono (fun b _ e => .inl e), ?_⟩
      dsimp only
      rw [hnx.out]
      exact ⟨hF4.at_ HMI.out.bx (by omega), HM4.out, HMI.out.fr.trans' hF4 (fun b _ e => by omega)⟩
    · have hnx : Hid (ordL ((rightL L).take (k + 1)) = ol) := Lib.hid (by rw [HT.out, hput.out, if_neg hpos])
      have b1 : decide (0 < OP) = false := by simp; omega
      gi_wp2_with (gi_at_call 38; refine (callsIn_wide.2 hOrd.out).mono ?_; rintro e w3 ⟨rfl, hf3⟩; have HF3 := Lib.hid hf3; clear hf3)
      refine ⟨HF3.out.mono (fun _ _ e => e.elim), ?_⟩
      dsimp only
      rw [hnx.out]
      exact HMI.out.keep HF3.out
  case done =>
    rintro D C W hD hI hr hK
    rw [List.take_length] at hI
    have y0 := cell_obj hI.bx 0 (.map (some n0)) rfl
    have hlen := ordL_len (rightL L) (rightL L).length
    rw [List.take_length] at hlen
    obtain ⟨cK, cS⟩ := keysSortedI W n0 Value.bool _ hI.mp (by have := hRL.out; omega)
    obtain ⟨ol, hol⟩ : ∃ ol, ordL (rightL L) = ol := ⟨_, rfl⟩
    rw [hol] at cS hI
    have HOL := Lib.hid hol
    have HI := Lib.hid hI; have HK := Lib.hid hK
    clear hI hr hlen hol
    gi_wp2_with (first
      | (gi_at_call 40; refine cK.mono ?_; rintro e w' ⟨rfl, rfl⟩)
      | (gi_at_call 39; refine cS.mono ?_; rintro e w5 ⟨v5, rfl, ho5, hb5⟩; have HO5 := Lib.hid ho5; have HB5 := Lib.hid hb5; clear ho5 hb5))
    have hK5 := (Fr.below (S := fun _ => False) HB5.out).at_ HK.out (fun e => e)
    refine ⟨by simp, .inl ⟨_, _, rfl, run_takeDeferred hK5, ?_⟩⟩
    have hsz := HI.out.fr.size
    have hz2 := HS2.out
    have hn := HS.out
    refine ⟨_, results_tmp rfl _ _ _, v5, rfl, ?_, ?_⟩
    · rw [HOL.out]; exact ownsRow_putObj (ownsRow_base_a HO5.out (by omega)) _ hK5 rfl
    · have h1 : Fr (fun b => n0 ≤ b) w w5 := HI.out.fr.trans' (Fr.below (S := fun _ => False) HB5.out) (fun b _ e => e.elim)
      exact (h1.putObj (l := D) (fun h => by omega) _).mono (fun b hb e => by omega)
end Go.Proofs.YtbeikkkmobbnkaaGreat
