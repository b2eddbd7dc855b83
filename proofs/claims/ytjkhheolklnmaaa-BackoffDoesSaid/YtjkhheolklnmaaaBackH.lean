/- backoff.Timers: First, Pop -/
import Derived.Test.YtjkhheolklnmaaaBackG
namespace Go.Proofs.Ytjkhheolklnmaaa
open Go.RowKit Go.Maps
attribute [local go_sem] Oper.semAt_some
def FirstI (w : World) (k : Nat) (_ : Nat → Prop) (W : World) : Prop := k = 0 ∧ Boxed W w.heap.size 3 (.int .i64 0) ∧ Boxed W (w.heap.size + 1) 4 (.bool false)
def FirstX (w : World) (X : List KV) (c : Code) (_ : Nat) (_ : Nat → Prop) (W : World) : Prop := c = .ret ∧ ∃ p, X[0]? = some p ∧ Boxed W w.heap.size 3 (.int .i64 p.2) ∧ Boxed W (w.heap.size + 1) 4 (.bool true)
def firstAt (X : List KV) : Int := (X[0]?.map (·.2)).getD 0
theorem ret_two {a b : Int} {c d : Bool} (h : a = b) (h' : c = d) : Ending.returned (.tuple #[.int .i64 a, .bool c]) = .returned (.tuple #[.int .i64 b, .bool d]) := by rw [h, h']
set_option maxHeartbeats 2000000 in
theorem bFirst_of (p0 : Option Addr) (X : List KV) (w : World) (hit : ∀ (W : World) (Bt : Nat) (S : Nat → Prop), Below w.heap.size w W → Boxed W Bt 28 (.pointer p0) → (∀ b, S b → w.heap.size ≤ b ∧ b ≠ Bt) → ItX 25 #[.pointer (some ⟨Bt, 0, none⟩)] encKV X S W) :
    Calls Try.prog 21 #[.pointer p0] w fun e w' =>
      e = .returned (.tuple #[.int .i64 (firstAt X), .bool (decide (0 < X.length))]) ∧ Below w.heap.size w w' := by
  refine (callsIn_wide (n := 0)).1 ?_
  refine callsIn_of_wp_marks Try.func21 rfl trivial ?_ rfl
  simp only [Try.ntmps21, List.size_toArray, List.length_cons, List.length_nil, Nat.reduceAdd, Nat.reduceSub, Array.replicate_succ, Array.replicate_zero, List.push_toArray, List.append_toArray, List.nil_append, List.cons_append]
  have hfn : ∀ f, Fence.wide.fn f := fun _ => trivial
  have hdp : Fence.wide.depth.isSome = false := rfl
  gi_wp2_with (gi_at_call 23; refine (callsIn_wide.2 (bAll _ _)).mono ?_; rintro e w1 ⟨rfl, rfl⟩)
  obtain ⟨W0, hW0⟩ : ∃ W0, ((w.alloc (.cells #[.int .i64 0] 3)).alloc (.cells #[.bool false] 4)).alloc (.cells #[.pointer p0] 28) = W0 := ⟨_, rfl⟩
  have hs0 : W0.heap.size = w.heap.size + 3 := by rw [← hW0]; simp
  have hb0 : Below w.heap.size w W0 := by rw [← hW0]; exact (((Below.refl _ w).alloc (Nat.le_refl _) _).alloc (by simp) _).alloc (by simp; omega) _
  have bN : Boxed W0 w.heap.size 3 (.int .i64 0) := by rw [← hW0]; exact ((Boxed.new w _ _).alloc _).alloc _
  have bO : Boxed W0 (w.heap.size + 1) 4 (.bool false) := by
    rw [← hW0]; have := (Boxed.new (w.alloc (.cells #[.int .i64 0] 3)) 4 (.bool false)).alloc (.cells #[.pointer p0] 28); rwa [World.size_alloc] at this
  have bT : Boxed W0 (w.heap.size + 2) 28 (.pointer p0) := by
    rw [← hW0]; have := Boxed.new ((w.alloc (.cells #[.int .i64 0] 3)).alloc (.cells #[.bool false] 4)) 28 (.pointer p0); rwa [World.size_alloc, World.size_alloc] at this
  rw [hW0]
  clear hW0
  have hX1 : ∀ p, X[0]? = some p → firstAt X = p.2 ∧ 0 < X.length := fun p hp => ⟨by simp [firstAt, hp], (List.getElem?_eq_some_iff.1 hp).1⟩
  have hX0 : X.length = 0 → firstAt X = 0 := fun e => by have : X = [] := List.eq_nil_of_length_eq_zero e; subst this; rfl
  have H0 := Lib.hid hX0; have H1 := Lib.hid hX1
  clear hX0 hX1
  refine rangeX (S := fun b => b = w.heap.size ∨ b = w.heap.size + 1) rfl (enters_of Try.func25 (by kernel_rfl) rfl)
    (hit W0 _ _ hb0 bT (fun b hb => by omega)) (Below.refl _ _) (fun b hb => by omega) (fun _ => rfl)
    (FirstI w) (FirstX w X)
    (fun k C W W' hs hf => ⟨hs.1, Fa.box hf hs.2.1, Fa.box hf hs.2.2⟩)
    (fun c k C W W' hs hf => by obtain ⟨e, p, h1, h2, h3⟩ := hs; exact ⟨e, p, h1, Fa.box hf h2, Fa.box hf h3⟩)
    ⟨rfl, bN, bO⟩ ?round ?done ?stop
  case round =>
    rintro lp k x C W hx hlp hi hr
    dsimp only [encKV]
    gi_wp2
    refine Took.mk (Fr.refl _ _) hi ?_
    rintro Wb ⟨rfl, hbn, hbo⟩ hrb hf hsz hsw hCC _
    have hcn := hbn.cell
    have hco := hbo.cell
    have hfn := hbn.frozen
    have hfo := hbo.frozen
    clear hi hr hf
    gi_wp2
    exact ⟨((Fr.refl _ _).setCell (p := ⟨w.heap.size, 0, none⟩) (fun _ => .inl (.inl rfl)) _).setCell (p := ⟨w.heap.size + 1, 0, none⟩) (fun _ => .inl (.inr rfl)) _, rfl, x, hx, (hbn.set _).other (by omega) _, (hbo.other (by omega) _).set _⟩
  case done =>
    rintro D C W hD ⟨h0, hbn, hbo⟩ hr hK
    have hcn := hbn.cell
    have hco := hbo.cell
    have hfn := hbn.frozen
    have hfo := hbo.frozen
    have hK2 : ((W.setCell ⟨w.heap.size, 0, none⟩ (.int .i64 0)).setCell ⟨w.heap.size + 1, 0, none⟩ (.bool false)).heap[D]? = some (.deferred (some [])) :=
      (Below.heap_setCell _ _ _ _ (by simp; omega)).trans ((Below.heap_setCell _ _ _ _ (by simp; omega)).trans hK)
    have b1 := Fa.box (frPut (B := w.heap.size) (.deferred none) (by omega) hK2 rfl) ((hbn.set (.int .i64 0)).other (show w.heap.size ≠ w.heap.size + 1 by omega) (.bool false))
    have b2 := Fa.box (frPut (B := w.heap.size) (.deferred none) (by omega) hK2 rfl) ((hbo.other (show w.heap.size + 1 ≠ w.heap.size by omega) (.int .i64 0)).set (.bool false))
    have q1 := b1.cell
    have q2 := b2.cell
    gi_wp2
    refine ⟨by simp, .inl ⟨_, _, rfl, run_takeDeferred hK2, ?_⟩⟩
    refine ⟨.tuple #[.int .i64 0, .bool false], by simp [results, Try.results21, go_sem, q1, q2], ?_, ?_⟩
    · exact ret_two (H0.out h0).symm (by simp [h0])
    · exact hb0.trans ((((hr.setCell (p := ⟨w.heap.size, 0, none⟩) (fun _ => .inl rfl) _).setCell (p := ⟨w.heap.size + 1, 0, none⟩) (fun _ => .inr rfl) _).putObj (l := D) (fun h => by omega) _).toBelow (fun b hb => by omega) (by omega))
  case stop =>
    rintro D c k C W hD hk ⟨rfl, p, hp, hbn, hbo⟩ hr hK
    have b1 := Fa.box (frPut (B := w.heap.size) (.deferred none) (by omega) hK rfl) hbn
    have b2 := Fa.box (frPut (B := w.heap.size) (.deferred none) (by omega) hK rfl) hbo
    have q1 := b1.cell
    have q2 := b2.cell
    obtain ⟨e1, e2⟩ := H1.out p hp
    gi_wp2
    refine ⟨by simp, .inl ⟨_, _, rfl, run_takeDeferred hK, ?_⟩⟩
    refine ⟨.tuple #[.int .i64 p.2, .bool true], by simp [results, Try.results21, go_sem, q1, q2], ?_, ?_⟩
    · exact ret_two e1.symm (by simp [e2])
    · exact hb0.trans ((hr.putObj (l := D) (fun h => by omega) _).toBelow (fun b hb => by omega) (by omega))
theorem bFirst (g m : Nat) (l X : List KV) (w : World) (h : Tm w g m l) (hX : Rp l X) (hl : l.length * 8 ≤ 140737488355328) :
    Calls Try.prog 21 #[.pointer (some ⟨g, 0, none⟩)] w fun e w' =>
      e = .returned (.tuple #[.int .i64 (firstAt X), .bool (decide (0 < X.length))]) ∧ Below w.heap.size w w' :=
  bFirst_of _ X w fun W Bt S hW hB hS => bAll1 S W Bt g m l X hB (h.below hW h.glt h.map.lt) hX hl (fun e => (hS _ e).2 rfl) (fun e => by have := (hS _ e).1; have := h.glt; omega) (fun e => by have := (hS _ e).1; have := h.map.lt; omega)
theorem bFirst_no (w : World) : Calls Try.prog 21 #[.pointer none] w fun e w' =>
      e = .returned (.tuple #[.int .i64 0, .bool false]) ∧ Below w.heap.size w w' :=
  bFirst_of none [] w fun W Bt S hW hB hS => bAll1_no S W Bt hB
theorem due_cons {X : List KV} {now : Int} {p : KV} {r : List KV} (h : dueL X now = p :: r) : X[0]? = some p ∧ p.2 ≤ now := by
  cases X with
  | nil => simp [dueL] at h
  | cons q s =>
    simp only [dueL, List.takeWhile_cons] at h
    split at h
    · rename_i hq
      injection h with h1 h2
      subst h1
      exact ⟨rfl, by simpa using hq⟩
    · cases h
theorem bPop_none (g m : Nat) (l X : List KV) (now : Int) (w : World) (h : Tm w g m l) (hX : Rp l X) (hl : l.length * 8 ≤ 140737488355328) (hd : dueL X now = []) :
    Calls Try.prog 16 #[.pointer (some ⟨g, 0, none⟩), .int .i64 now] w fun e w' => e = .returned (.tuple #[.int .i64 0, .bool false]) ∧ Below w.heap.size w w' := by
  have hc := bDue g m l X now w h hX hl
  rw [hd] at hc
  have HC := Lib.hid hc
  clear hc hd
  go_enter Try.func16, Try.ntmps16
  go_wp2_with (go_at_call 14; refine HC.out.mono ?_; rintro e w1 ⟨v, rfl, hown, hb⟩; obtain ⟨a, c, rfl⟩ := own_zero hown; clear hown)
  go_ret2
  exact ⟨rfl, hb⟩
theorem bPop_no (now : Int) (w : World) :
    Calls Try.prog 16 #[.pointer none, .int .i64 now] w fun e w' => e = .returned (.tuple #[.int .i64 0, .bool false]) ∧ Below w.heap.size w w' := by
  go_enter Try.func16, Try.ntmps16
  go_wp2_with (go_at_call 14; refine (bDue_no _ _).mono ?_; rintro e w1 ⟨v, rfl, hown, hb⟩; obtain ⟨a, c, rfl⟩ := own_zero hown; clear hown)
  go_ret2
  exact ⟨rfl, hb⟩
set_option maxHeartbeats 1000000 in
theorem bPop_some (g m : Nat) (l X : List KV) (now : Int) (p : KV) (r : List KV) (w : World) (h : Tm w g m l) (hX : Rp l X) (hl : l.length * 8 ≤ 140737488355328) (hd : dueL X now = p :: r) :
    Calls Try.prog 16 #[.pointer (some ⟨g, 0, none⟩), .int .i64 now] w fun e w' => e = .returned (.tuple #[.int .i64 p.1, .bool true]) ∧ Tm w' g m (delS l p.1) ∧ Fr (fun b => b = m) w w' := by
  have hc := bDue g m l X now w h hX hl
  rw [hd] at hc
  have hx0 := (due_cons hd).1
  have hmem : p ∈ l := hX.perm.mem_iff.1 (List.mem_of_getElem? hx0)
  have hok := (h.map.ok tmK).1 p hmem
  have HC := Lib.hid hc
  have hdr : ∀ w1, Below w.heap.size w w1 → Calls Try.prog 19 #[.pointer (some ⟨g, 0, none⟩), .int .i64 p.1] w1 fun e w' => (∃ b, e = .returned (.bool b)) ∧ Tm w' g m (delS l p.1) ∧ Fr (fun b => b = m) w1 w' := fun w1 hb =>
    (bDrop w1 g m l p.1 (h.below hb h.glt h.map.lt) hok).mono fun e w' hh => ⟨⟨_, hh.1⟩, hh.2.1, Fr.turned hh.2.2 rfl⟩
  have HD := Lib.hid hdr
  have hmlt := h.map.lt
  clear hc hd hx0 hmem hok hdr h
  go_enter Try.func16, Try.ntmps16
  go_wp2_with (first
    | (go_at_call 14; refine HC.out.mono ?_; rintro e w1 ⟨v, rfl, hown, hb⟩; obtain ⟨g', cap, rfl, hg', hlt⟩ := hown.form (by simp); have hcell : w1.cell? ⟨g', 0, none⟩ = some (.int .i64 p.1) := (by have := hown.cellAt (g := g') (j := 0) (by simp); simpa using this)))
  refine (HD.out w1 hb).mono ?_
  rintro e w2 ⟨⟨b, rfl⟩, hT, hf⟩
  have hcell2 := hf.cell hcell (by simp; omega)
  have HF := Lib.hid ((Fr.below (S := fun b => b = m) hb).trans hf)
  have HT := Lib.hid hT
  clear hcell hown hf hT hb HD HC
  go_wp2
  go_ret2
  exact ⟨rfl, HT.out, HF.out⟩
end Go.Proofs.Ytjkhheolklnmaaa
