/- model.Wanted (written by wip/tools/md27.py). -/
import Derived.Test.YtbeikkkmobbnkaaGreatModGroupsM3
import Derived.Test.YtbeikkkmobbnkaaGreatModGroupsM49
import Derived.Test.YtbeikkkmobbnkaaGreatModGroupsM2
import Derived.Test.YtbeikkkmobbnkaaGreatModGroupsM24
import Derived.Test.YtbeikkkmobbnkaaGreatModGroupsM17
namespace Go.Proofs.YtbeikkkmobbnkaaGreat
open Go.RowKit Go.Maps
attribute [local go_sem] Oper.semAt_some
def isW (o : Int) (a : AV) : Bool := decide (0 < ordF a) && decide (ordF a = o)
/-- What is wanted for an order. -/
def wantF (o : Int) (L : List AV) : Its := match (rightL L).find? (isW o) with | some a => a.its | none => []
theorem find_take_no {α : Type} {p : α → Bool} {L : List α} {k : Nat} {a : α} (h : (L.take k).find? p = none) (ha : L[k]? = some a) (hp : p a = false) : (L.take (k + 1)).find? p = none := by
  rw [List.take_add_one, ha, List.find?_append, h]
  simp [hp]
theorem find_take_yes {α : Type} {p : α → Bool} {L : List α} {k : Nat} {a : α} (h : (L.take k).find? p = none) (ha : L[k]? = some a) (hp : p a = true) : L.find? p = some a := by
  have e : L = L.take k ++ a :: L.drop (k + 1) := by
    rw [← (List.getElem?_eq_some_iff.1 ha).2, ← List.drop_eq_getElem_cons (List.getElem?_eq_some_iff.1 ha).1, List.take_append_drop]
  rw [e, List.find?_append, h]
  simp [hp]
theorem Il.fa {B : Nat} {W W' : World} {v : Value} {L : Its} (h : Il W v L) (hf : Fa B W W') : Il W' v L := by
  obtain ⟨h0, a, c, e, hx⟩ := h
  refine ⟨h0, a, c, e, fun i p hp => ?_⟩
  obtain ⟨q1, q2, ad, e2, c0, c1⟩ := hx i p hp
  exact ⟨q1, q2, ad, e2, Fa.cell hf c0, Fa.cell hf c1⟩
structure WnI (w W : World) (n0 : Nat) (o : Int) (v : Value) : Prop where
  bo : W.heap[n0]? = some (.cells #[.int .i64 o] 3)
  bv : W.heap[n0 + 1]? = some (.cells #[v] 46)
  fr : Fr (fun b => n0 ≤ b) w W
theorem WnI.fa {B : Nat} {w W W' : World} {n0 : Nat} {o : Int} {v : Value} (h : WnI w W n0 o v) (hf : Fa B W W') (hB : w.heap.size ≤ B) : WnI w W' n0 o v :=
  ⟨Fa.cells hf h.bo, Fa.cells hf h.bv, Fa.old hf h.fr hB⟩
theorem WnI.keep {w W W' : World} {n0 : Nat} {o : Int} {v : Value} (h : WnI w W n0 o v) (hf : Fr (fun _ => False) W W') : WnI w W' n0 o v :=
  ⟨hf.at_ h.bo (fun h => h), hf.at_ h.bv (fun h => h), h.fr.trans' hf (fun _ _ e => e.elim)⟩
def WnJ (w : World) (n0 : Nat) (o : Int) (R : List AV) (k : Nat) (_ : Nat → Prop) (W : World) : Prop := WnI w W n0 o (.slice none 0 0) ∧ (R.take k).find? (isW o) = none
def WnX (w : World) (n0 : Nat) (o : Int) (R : List AV) (c : Code) (_ : Nat) (_ : Nat → Prop) (W : World) : Prop := c = .ret ∧ ∃ v a, WnI w W n0 o v ∧ Il W v a.its ∧ R.find? (isW o) = some a
set_option maxRecDepth 100000 in
set_option maxHeartbeats 8000000 in
theorem kWanted (w : World) (od : Int) (v : Value) (L : List AV) (h : Al w v L) : Calls Tryz.prog 21 #[.int .i64 od, v] w fun e w' => ∃ v', e = .returned v' ∧ Il w' v' (wantF od L) ∧ Fr (fun _ => False) w w' := by
  obtain ⟨n0, hn0⟩ : ∃ n0, w.heap.size = n0 := ⟨_, rfl⟩
  have HS := Lib.hid hn0
  have HL := Lib.hid h
  have hokR : Hid (∀ p ∈ rightL L, AOk w p ∧ p.may = true) := Lib.hid (fun p hp => ⟨h.okm (List.mem_filter.1 hp).1, (List.mem_filter.1 hp).2⟩)
  obtain ⟨va, vc, rfl⟩ := h.sl
  obtain ⟨N, hN⟩ : ∃ N, L.length = N := ⟨_, rfl⟩
  rw [hN] at HL ⊢
  clear h hN
  refine (callsIn_wide (n := 0)).1 ?_
  refine callsIn_of_wp_marks Tryz.func21 rfl trivial ?_ rfl
  simp only [Tryz.ntmps21, List.size_toArray, List.length_cons, List.length_nil, Nat.reduceAdd, Nat.reduceSub, Array.replicate_succ, Array.replicate_zero, List.push_toArray, List.append_toArray, List.nil_append, List.cons_append]
  have hfn : ∀ f, Fence.wide.fn f := fun _ => trivial
  have hdp : Fence.wide.depth.isSome = false := rfl
  gi_wp2_with (gi_at_call 31; refine (callsIn_wide.2 (kRightF _ (.slice va N vc) _ _ _)).mono ?_; rintro e w1 ⟨rfl, rfl⟩)
  have hI0 : WnI w (((w.alloc (.cells #[.int .i64 od] 3)).alloc (.cells #[.slice none 0 0] 46)).alloc (.cells #[.slice va N vc] 22)) n0 od (.slice none 0 0) :=
    ⟨heap_keep (heap_keep (heap_at hn0.symm _) _) _, heap_keep (heap_at (by simp; omega) _) _, (((Fr.refl _ w).alloc _).alloc _).alloc _⟩
  have hB0 : Boxed (((w.alloc (.cells #[.int .i64 od] 3)).alloc (.cells #[.slice none 0 0] 46)).alloc (.cells #[.slice va N vc] 22)) (n0 + 2) 22 (.slice va N vc) := heap_at (by simp; omega) _
  have hs2 : (((w.alloc (.cells #[.int .i64 od] 3)).alloc (.cells #[.slice none 0 0] 46)).alloc (.cells #[.slice va N vc] 22)).heap.size = n0 + 3 := by simp; omega
  obtain ⟨W2, hW2⟩ : ∃ W2, (((w.alloc (.cells #[.int .i64 od] 3)).alloc (.cells #[.slice none 0 0] 46)).alloc (.cells #[.slice va N vc] 22)) = W2 := ⟨_, rfl⟩
  rw [hW2] at hI0 hB0 hs2
  (try rw [hW2])
  have hF2 : Fr (fun b => w.heap.size ≤ b) w W2 := hI0.fr.mono (fun b _ e => by omega)
  have HI0 := Lib.hid hI0; have HS2 := Lib.hid hs2; have HF2 := Lib.hid hF2
  clear hW2 hI0 hF2
  refine rangeX (w0 := W2) (X := rightL L) (S := fun b => b = n0 + 1) rfl (enters_of Tryz.func49 (by kernel_rfl) rfl)
    (kRight2 _ w W2 (n0 + 2) _ L hB0 HL.out HF2.out (fun b hb e => by omega)) (Below.refl _ _) (fun b hb => by omega) (fun _ => rfl)
    (WnJ w n0 od (rightL L)) (WnX w n0 od (rightL L))
    (fun k C W W' hs hf => ⟨hs.1.fa hf (by omega), hs.2⟩) (fun c k C W W' hs hf => by obtain ⟨e, v, a, h1, h2, h3⟩ := hs; exact ⟨e, v, a, h1.fa hf (by omega), h2.fa hf, h3⟩)
    ⟨HI0.out, rfl⟩ ?round ?done ?stop
  case round =>
    rintro lp k x C W hx hlp hi hr
    obtain ⟨hokx, hmx⟩ := hokR.out x (List.mem_of_getElem? hx)
    have HX := Lib.hid hx
    obtain ⟨P, hP⟩ : ∃ P : AV, P = x := ⟨_, rfl⟩
    rw [← hP] at HX hmx
    have HOKP := Lib.hid (show AOk w P by rw [hP]; exact hokx)
    obtain ⟨c, n, kd, o, r, t, m, g, l, its⟩ := x
    obtain ⟨la, lc, hl⟩ := hokx.l.sl
    dsimp only at hl
    subst hl
    obtain ⟨M, hM⟩ : ∃ M, its.length = M := ⟨_, rfl⟩
    have hcs : P.cs = #[.int .i64 c, .int .i64 n, .int .i64 kd, .int .i64 o, .int .i64 r, .int .i64 t, .int .i64 m, vS g, .slice la M lc] := by rw [hP, ← hM]; rfl
    have hPl : Hid (∀ W, Fr (fun b => w.heap.size ≤ b) w W → Il W (.slice la M lc) P.its) := Lib.hid (fun W hf => by have := (aokKeeps HOKP.out hf (fun b hb => hb)).l; rw [hP] at this ⊢; rw [← hM]; exact this)
    have h16 : Hid (P.its.length = M ∧ M ≤ 16) := Lib.hid (by have h1 := (bdOk_of HOKP.out hmx).len; rw [hP] at h1 ⊢; dsimp only at h1 ⊢; exact ⟨hM, by omega⟩)
    dsimp only [encA, AV.cs]
    rw [hM]
    have HCSP := Lib.hid hcs
    clear hM hP hcs hx hokx hmx
    obtain ⟨xb, hxb⟩ : ∃ xb, W.heap.size = xb := ⟨_, rfl⟩
    gi_wp2
    have hFW : Fr (fun _ => False) W (W.alloc (.cells #[.int .i64 c, .int .i64 n, .int .i64 kd, .int .i64 o, .int .i64 r, .int .i64 t, .int .i64 m, vS g, .slice la M lc] 50)) := (Fr.refl _ W).alloc _
    have hbW : (W.alloc (.cells #[.int .i64 c, .int .i64 n, .int .i64 kd, .int .i64 o, .int .i64 r, .int .i64 t, .int .i64 m, vS g, .slice la M lc] 50)).heap[xb]? = some (.cells #[.int .i64 c, .int .i64 n, .int .i64 kd, .int .i64 o, .int .i64 r, .int .i64 t, .int .i64 m, vS g, .slice la M lc] 50) := heap_at hxb.symm _
    refine Took.mk (hFW.mono (fun _ _ e => e.elim)) ⟨hi.1.keep hFW, hi.2⟩ ?_
    rintro Wb ⟨hM, hno⟩ hrb hf hsz hsw hCC _
    have hbb := Fa.cells hf hbW
    have HMI := Lib.hid hM; have HNO := Lib.hid hno
    have x0 := cell_obj hbb 0 (.int .i64 c) rfl; have x1 := cell_obj hbb 1 (.int .i64 n) rfl; have x2 := cell_obj hbb 2 (.int .i64 kd) rfl; have x3 := cell_obj hbb 3 (.int .i64 o) rfl; have x4 := cell_obj hbb 4 (.int .i64 r) rfl
    have x5 := cell_obj hbb 5 (.int .i64 t) rfl; have x6 := cell_obj hbb 6 (.int .i64 m) rfl; have x7 := cell_obj hbb 7 (vS g) rfl; have x8 := cell_obj hbb 8 (.slice la M lc) rfl
    have HBB := Lib.hid hbb
    have hMF2 : Fr (fun b => w.heap.size ≤ b) w Wb := hM.fr.mono (fun b _ e => by omega)
    have hOrd : Hid (Calls Tryz.prog 38 #[.agg #[.int .i64 c, .int .i64 n, .int .i64 kd, .int .i64 o, .int .i64 r, .int .i64 t, .int .i64 m, vS g, .slice la M lc]] Wb fun e w' => e = .returned (.int .i64 (ordF P)) ∧ Fr (fun _ => False) Wb w') := Lib.hid (by
      have := kOrder Wb P (aokKeeps HOKP.out hMF2 (fun b hb => hb))
      rw [HCSP.out] at this; exact this)
    have hCl : Hid (∀ W, Fr (fun _ => False) Wb W → Calls Tryz.prog 42 #[.slice la M lc] W fun e w' => ∃ v', e = .returned v' ∧ w'.ownsRow W.heap.size 52 2 v' P.its.length (itCs P.its) ∧ Fr (fun _ => False) W w') := Lib.hid (fun W hf => itClone W _ P.its (hPl.out W (hMF2.trans' hf (fun _ _ e => e.elim))) (by have := h16.out; omega))
    have hokI : Hid (∀ p ∈ P.its, okS p.1 ∧ okI p.2) := Lib.hid (fun p hp => by
      obtain ⟨_, _, _, _, hx⟩ := HOKP.out.l
      obtain ⟨i, hi⟩ := List.getElem?_of_mem hp
      exact ⟨(hx i p hi).1, (hx i p hi).2.1⟩)
    obtain ⟨OP, hOP⟩ : ∃ OP, ordF P = OP := ⟨_, rfl⟩
    rw [hOP] at hOrd
    have hisW : Hid (isW od P = (decide (0 < OP) && decide (OP = od))) := Lib.hid (by unfold isW; rw [hOP])
    clear hi hr hrb hf hbb hM hno hMF2 hOP hbW hFW
    by_cases hpos : 0 < OP
    · by_cases heq : OP = od
      · have b1 : (OP == od) = true := by simpa using heq
        have hyes : Hid ((rightL L).find? (isW od) = some P) := Lib.hid (find_take_yes HNO.out HX.out (by rw [hisW.out, decide_eq_true hpos, decide_eq_true heq]; rfl))
        clear heq
        gi_wp2_with (first
          | (gi_at_call 38; refine (callsIn_wide.2 hOrd.out).mono ?_; rintro e w3 ⟨rfl, hf3⟩; have HF3 := Lib.hid hf3; have y0 := cell_obj (hf3.at_ HMI.out.bo (fun h => h)) 0 (.int .i64 od) rfl; have y8 := cell_obj (hf3.at_ HBB.out (fun h => h)) 8 (.slice la M lc) rfl; clear hf3)
          | (gi_at_call 42; refine (callsIn_wide.2 (hCl.out _ HF3.out)).mono ?_; rintro e w4 ⟨v4, rfl, ho4, hf4⟩; obtain ⟨ca, cc, rfl⟩ := row_sl ho4; have HO4 := Lib.hid ho4; have HF4 := Lib.hid (HF3.out.trans hf4); have u0 := cell_obj ((HF3.out.trans hf4).at_ HMI.out.bv (fun h => h)) 0 (.slice none 0 0) rfl; have u1 := obj_frozen ((HF3.out.trans hf4).at_ HMI.out.bv (fun h => h)) 0; clear ho4 hf4))
        have hI4 := HMI.out.keep HF4.out
        have hset : Fr (fun b => b = n0 + 1) Wb (w4.setCell ⟨n0 + 1, 0, none⟩ (.slice ca P.its.length cc)) := Fr.setCell (S := fun b => b = n0 + 1) (HF4.out.mono (fun _ _ e => e.elim)) (p := ⟨n0 + 1, 0, none⟩) (fun _ => rfl) _
        have hset4 : Fr (fun b => b = n0 + 1) w4 (w4.setCell ⟨n0 + 1, 0, none⟩ (.slice ca P.its.length cc)) := Fr.setCell (S := fun b => b = n0 + 1) (Fr.refl _ _) (p := ⟨n0 + 1, 0, none⟩) (fun _ => rfl) _
        refine ⟨hset.mono (fun b _ e => .inl e), rfl, .slice ca P.its.length cc, P, ⟨?_, ?_, ?_⟩, ?_, hyes.out⟩
        · exact hset.at_ HMI.out.bo (by omega)
        · exact obj_set hI4.bv 0 _
        · exact HMI.out.fr.trans' hset (fun b _ e => by omega)
        · refine (Il.own HO4.out (fun p hp => hokI.out p hp)).1.keep hset4 (fun _ b hb e => ?_)
          have h1 := (HO4.out.lt b hb).1
          have h2 := (Array.getElem?_eq_some_iff.1 HMI.out.bv).1
          have h3 := HF3.out.size
          omega
      · have b1 : (OP == od) = false := by simpa using heq
        have hnx : Hid (((rightL L).take (k + 1)).find? (isW od) = none) := Lib.hid (find_take_no HNO.out HX.out (by rw [hisW.out]; simp [heq]))
        clear heq
        gi_wp2_with (gi_at_call 38; refine (callsIn_wide.2 hOrd.out).mono ?_; rintro e w3 ⟨rfl, hf3⟩; have HF3 := Lib.hid hf3; have y0 := cell_obj (hf3.at_ HMI.out.bo (fun h => h)) 0 (.int .i64 od) rfl; clear hf3)
        exact ⟨HF3.out.mono (fun _ _ e => e.elim), HMI.out.keep HF3.out, hnx.out⟩
    · have b1 : decide (0 < OP) = false := by simp; omega
      have hnx : Hid (((rightL L).take (k + 1)).find? (isW od) = none) := Lib.hid (find_take_no HNO.out HX.out (by rw [hisW.out, b1]; rfl))
      gi_wp2_with (gi_at_call 38; refine (callsIn_wide.2 hOrd.out).mono ?_; rintro e w3 ⟨rfl, hf3⟩; have HF3 := Lib.hid hf3; have y0 := cell_obj (hf3.at_ HMI.out.bo (fun h => h)) 0 (.int .i64 od) rfl; clear hf3)
      exact ⟨HF3.out.mono (fun _ _ e => e.elim), HMI.out.keep HF3.out, hnx.out⟩
  case stop =>
    rintro D c k C W hD hk ⟨rfl, v', a, hI, hIl, hfd⟩ hr hK
    have hfa : Fa n0 W (W.putObj D (.deferred none)) := frPut (B := n0) (.deferred none) (by have := HS2.out; omega) hK rfl
    have hI2 := hI.fa hfa (by have := HS.out; omega)
    have hIl2 := hIl.fa hfa
    have hc5 := cell_obj hI2.bv 0 v' rfl
    have HI2 := Lib.hid hI2; have HIL2 := Lib.hid hIl2; have HFD := Lib.hid hfd
    clear hI hIl hfd hr hI2 hIl2 hfa
    gi_wp2_with fail
    refine ⟨by simp, .inl ⟨_, _, rfl, run_takeDeferred hK, ?_⟩⟩
    refine ⟨v', by simp [results, Tryz.results21, go_sem, hc5], v', rfl, ?_, HI2.out.fr.mono (fun b hb e => by have := HS.out; omega)⟩
    unfold wantF
    rw [HFD.out]
    exact HIL2.out
  case done =>
    rintro D C W hD ⟨hI, hno⟩ hr hK
    rw [List.take_length] at hno
    have u0 := cell_obj hI.bv 0 (.slice none 0 0) rfl
    have u1 := obj_frozen hI.bv 0
    have HI := Lib.hid hI; have HNO := Lib.hid hno
    have hst : (W.setCell ⟨n0 + 1, 0, none⟩ (.slice none 0 0)).heap[n0 + 1]? = some (.cells #[.slice none 0 0] 46) := obj_set hI.bv 0 _
    have hK2 : (W.setCell ⟨n0 + 1, 0, none⟩ (.slice none 0 0)).heap[D]? = some (.deferred (some [])) := (Below.heap_setCell W ⟨n0 + 1, 0, none⟩ (.slice none 0 0) D (by have := HS2.out; dsimp only; omega)).trans hK
    have hfa : Fa n0 (W.setCell ⟨n0 + 1, 0, none⟩ (.slice none 0 0)) ((W.setCell ⟨n0 + 1, 0, none⟩ (.slice none 0 0)).putObj D (.deferred none)) := frPut (B := n0) (.deferred none) (by have := HS2.out; omega) hK2 rfl
    have hc5 := cell_obj (Fa.cells hfa hst) 0 (.slice none 0 0) rfl
    have HFA := Lib.hid hfa; have HK2 := Lib.hid hK2
    clear hI hno hr hst hfa hK2
    gi_wp2_with fail
    refine ⟨by simp, .inl ⟨_, _, rfl, run_takeDeferred HK2.out, ?_⟩⟩
    refine ⟨.slice none 0 0, by simp [results, Tryz.results21, go_sem, hc5], .slice none 0 0, rfl, ?_, ?_⟩
    · unfold wantF
      rw [HNO.out]
      exact ⟨by simp, none, 0, rfl, fun i p hp => by simp at hp⟩
    · have h1 : Fr (fun b => n0 ≤ b) w (W.setCell ⟨n0 + 1, 0, none⟩ (.slice none 0 0)) := HI.out.fr.setCell (p := ⟨n0 + 1, 0, none⟩) (fun _ => by show n0 ≤ n0 + 1; omega) _
      exact (Fa.old HFA.out h1 (by have := HS.out; omega)).mono (fun b hb e => by have := HS.out; omega)
end Go.Proofs.YtbeikkkmobbnkaaGreat
