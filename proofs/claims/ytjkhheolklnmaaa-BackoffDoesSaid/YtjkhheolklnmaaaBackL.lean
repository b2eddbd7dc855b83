/- backoff's law: walks -/
import Derived.Test.YtjkhheolklnmaaaBackK
namespace Go.Proofs.Ytjkhheolklnmaaa
open Go.RowKit Go.Maps
attribute [local go_sem] Oper.semAt_some
theorem TSl.fa {B : Nat} {w w' : World} {lo : Nat} {v : Value} {X : List KV} (h : TSl w lo v X) (hf : Fa B w w') : TSl w' lo v X := by
  obtain ⟨a, c, e, h1, h2, h3⟩ := h
  refine ⟨a, c, e, h1, h2, fun i p hp => ?_⟩
  obtain ⟨ad, e, hl, c1, c2⟩ := h3 i p hp
  exact ⟨ad, e, hl, Fa.cell hf c1, Fa.cell hf c2⟩
def WalksI (w : World) (v : Value) (k : Nat) (_ : Nat → Prop) (W : World) : Prop :=
  Boxed W w.heap.size 39 v ∧ Boxed W (w.heap.size + 1) 4 (.bool false) ∧ Boxed W (w.heap.size + 3) 3 (.int .i64 k)
def WalksX (_ : Code) (_ : Nat) (_ : Nat → Prop) (_ : World) : Prop := False
set_option maxHeartbeats 2000000 in
theorem bWalks (g m : Nat) (X : List KV) (w : World) (lo : Nat) (v : Value) (h : TX w g m X) (hl : X.length ≤ 1000) (hv : TSl w lo v X) :
    Calls Try.prog 22 #[.pointer (some ⟨g, 0, none⟩), v] w fun e w' => e = .returned (.bool true) ∧ Below w.heap.size w w' := by
  have hnil := fun (w : World) (f : Fn) (x y : Array Value) => run_eql_func_nil (P := Try.prog) w 48 _ _ _ f x y Try.underlying48
  obtain ⟨a, c, rfl, -⟩ := id hv
  obtain ⟨n, hn⟩ : ∃ n : Nat, X.length = n := ⟨_, rfl⟩
  rw [hn]
  have hn1 : (n : Int) ≤ 1000 := by omega
  have HN := Lib.hid hn; have HV := Lib.hid hv; have HT := Lib.hid h
  clear hn hv h hl
  refine (callsIn_wide (n := 0)).1 ?_
  refine callsIn_of_wp_marks Try.func22 rfl trivial ?_ rfl
  simp only [Try.ntmps22, List.size_toArray, List.length_cons, List.length_nil, Nat.reduceAdd, Nat.reduceSub, Array.replicate_succ, Array.replicate_zero, List.push_toArray, List.append_toArray, List.nil_append, List.cons_append]
  have hfn : ∀ f, Fence.wide.fn f := fun _ => trivial
  have hdp : Fence.wide.depth.isSome = false := rfl
  gi_wp2_with (gi_at_call 23; refine (callsIn_wide.2 (bAll _ _)).mono ?_; rintro e w1 ⟨rfl, rfl⟩)
  obtain ⟨W0, hW0⟩ : ∃ W0, (((w.alloc (.cells #[.slice a n c] 39)).alloc (.cells #[.bool false] 4)).alloc (.cells #[.pointer (some ⟨g, 0, none⟩)] 28)).alloc (.cells #[.int .i64 0] 3) = W0 := ⟨_, rfl⟩
  have hs0 : W0.heap.size = w.heap.size + 4 := by rw [← hW0]; simp
  have hb0 : Below w.heap.size w W0 := by rw [← hW0]; exact ((((Below.refl _ w).alloc (Nat.le_refl _) _).alloc (by simp) _).alloc (by simp; omega) _).alloc (by simp; omega) _
  have bV : Boxed W0 w.heap.size 39 (.slice a n c) := by rw [← hW0]; exact heap_keep (heap_keep (heap_keep (heap_new _ _) _) _) _
  have bR : Boxed W0 (w.heap.size + 1) 4 (.bool false) := by rw [← hW0]; exact heap_keep (heap_keep (heap_at (by simp) _) _) _
  have bT : Boxed W0 (w.heap.size + 2) 28 (.pointer (some ⟨g, 0, none⟩)) := by rw [← hW0]; exact heap_keep (heap_at (by simp) _) _
  have bN : Boxed W0 (w.heap.size + 3) 3 (.int .i64 0) := by rw [← hW0]; exact heap_at (by simp) _
  rw [hW0]
  clear hW0 hnil
  have hT0 := HT.out.below hb0 HT.out.lt.1 HT.out.lt.2
  have hlt := HT.out.lt
  obtain ⟨l, hTm, hRp⟩ := hT0.ex
  have hn2 := hRp.len
  have HN2 := Lib.hid hn2
  have hll : l.length * 8 ≤ 140737488355328 := by have := HN.out; omega
  clear hn2
  refine rangeX (w0 := W0) (S := fun b => b = w.heap.size + 3) rfl (enters_of Try.func25 (by kernel_rfl) rfl)
    (bAll1 (fun b => b = w.heap.size + 3) W0 _ g m l X bT hTm hRp hll (by omega) (by omega) (by omega)) (Below.refl _ _) (fun b hb => by omega) (fun _ => rfl)
    (WalksI w (.slice a n c)) WalksX
    (fun k C W W' hs hf => ⟨Fa.box hf hs.1, Fa.box hf hs.2.1, Fa.box hf hs.2.2⟩)
    (fun c k C W W' hs hf => hs) ⟨bV, bR, bN⟩ ?round ?done ?stop
  case round =>
    rintro lp k x C W hx hlp hi hr
    dsimp only [encKV]
    gi_wp2
    refine Took.mk (Fr.refl _ _) hi ?_
    rintro Wb ⟨hbv, hbr, hbn⟩ hrb hf hsz hsw hCC _
    have hcv := hbv.cell
    have hcn := hbn.cell
    have hkn : (k : Int) < n := by have := HN.out; have := (List.getElem?_eq_some_iff.1 hx).1; omega
    obtain ⟨a', c', e, -, -, h3⟩ := HV.out.below (hb0.trans (hrb.toBelow (B := w.heap.size) (fun b hb => by omega) (by omega)))
    rw [HN.out] at e
    obtain ⟨ad, e2, _, c1, c2⟩ := h3 k x hx
    injection e with e1 _ e3
    subst e3
    obtain rfl : a = some ad := e1.trans e2
    obtain ⟨x1, x2⟩ := x
    dsimp only at c1 c2 ⊢
    have hfz := hbn.frozen
    clear hi hr hf h3 e1 e2 hx
    gi_wp2
    refine ⟨(Fr.refl _ _).setCell (p := ⟨w.heap.size + 1 + 1 + 1, 0, none⟩) (fun _ => .inl rfl) _, hbv.other (show w.heap.size ≠ w.heap.size + 1 + 1 + 1 by omega) _, hbr.other (show w.heap.size + 1 ≠ w.heap.size + 1 + 1 + 1 by omega) _, ?_⟩
    have := hbn.set (.int .i64 (k + 1))
    exact this
  case stop => intro D c k C W hD hk hX; exact hX.elim
  case done =>
    rintro D C W hD ⟨hbv, hbr, hbn⟩ hr hK
    rw [HN.out] at hbn
    have hcv := hbv.cell
    have hcn := hbn.cell
    have hfz := hbr.frozen
    have hcr := hbr.cell
    have hB2 := hb0.trans (hr.toBelow (B := w.heap.size) (fun b hb => by omega) (by omega))
    have hK5 := (Below.heap_setCell W ⟨w.heap.size + 1, 0, none⟩ (.bool true) D (by simp; omega)).trans hK
    have hc5 := (Fa.box (frPut (B := w.heap.size) (.deferred none) (by omega) hK5 rfl) (hbr.set (.bool true))).cell
    have HB2 := Lib.hid hB2
    have hws : w.heap.size + 1 < W.heap.size := by have := hr.size; omega
    clear hB2 hr
    gi_wp2
    refine ⟨by simp, .inl ⟨_, _, rfl, run_takeDeferred hK5, ?_⟩⟩
    refine ⟨.bool true, by simp [results, Try.results22, go_sem, hc5], rfl, ?_⟩
    exact HB2.out.trans ((((Fr.refl (fun b => w.heap.size ≤ b) W).setCell (p := ⟨w.heap.size + 1, 0, none⟩) (fun _ => by simp) _).putObj (l := D) (fun _ => by omega) _).toBelow (fun b hb => hb) (by omega))
end Go.Proofs.Ytjkhheolklnmaaa
