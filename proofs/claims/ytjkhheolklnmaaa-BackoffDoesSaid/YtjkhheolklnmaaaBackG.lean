/- backoff.Timers: Due, First, Pop -/
import Derived.Test.YtjkhheolklnmaaaBackF
import Derived.Test.YtjkhheolklnmaaaCol
namespace Go.Proofs.Ytjkhheolklnmaaa
open Go.RowKit Go.Maps
attribute [local go_sem] Oper.semAt_some
theorem infoInt : (Try.prog.info? 3).map (fun i => (i.zero, i.size, i.bytes)) = some (some (.int .i64 0), 1, 8) := by kernel_rfl
/-- What is due. -/
def dueL (X : List KV) (now : Int) : List KV := X.takeWhile fun p => decide (p.2 ≤ now)
theorem due_take {X : List KV} {now : Int} {k : Nat} (h : ∀ p ∈ X.take k, p.2 ≤ now) (hx : k = X.length ∨ ∃ p, X[k]? = some p ∧ ¬ p.2 ≤ now) : dueL X now = X.take k := by
  induction X generalizing k with
  | nil => simp [dueL]
  | cons q r ih =>
    cases k with
    | zero =>
      rcases hx with h0 | ⟨p, hp, hn⟩
      · simp at h0
      · have : p = q := by simpa using hp.symm
        subst this
        simp [dueL, hn]
    | succ k =>
      have hq : q.2 ≤ now := h q (by simp)
      have := ih (k := k) (fun p hp => h p (by simp [hp])) (by
        rcases hx with h0 | ⟨p, hp, hn⟩
        · exact .inl (by simpa using h0)
        · exact .inr ⟨p, by simpa using hp, hn⟩)
      simp only [dueL] at this ⊢
      simp [hq, this]
def DueI (w : World) (X : List KV) (now : Int) (k : Nat) (C : Nat → Prop) (W : World) : Prop :=
  (∃ v, Col W w.heap.size (w.heap.size + 1) 33 3 1 C v k ((X.take k).map fun p => .int .i64 p.1)) ∧ Boxed W w.heap.size 3 (.int .i64 now) ∧ ∀ p ∈ X.take k, p.2 ≤ now
def DueX (w : World) (X : List KV) (now : Int) (c : Code) (_ : Nat) (_ : Nat → Prop) (W : World) : Prop :=
  c = .exit 0 ∧ ∃ v j p, Boxed W (w.heap.size + 1) 33 v ∧ W.ownsRow w.heap.size 3 1 v j ((X.take j).map fun p => .int .i64 p.1) ∧ (∀ p ∈ X.take j, p.2 ≤ now) ∧ X[j]? = some p ∧ ¬ p.2 ≤ now
set_option maxHeartbeats 2000000 in
theorem bDue_of (p0 : Option Addr) (X : List KV) (now : Int) (w : World) (hlX : X.length * 8 ≤ 140737488355328) (hit : ∀ (W : World) (Bt : Nat) (S : Nat → Prop), Below w.heap.size w W → Boxed W Bt 28 (.pointer p0) → (∀ b, S b → w.heap.size ≤ b ∧ b ≠ Bt) → ItX 25 #[.pointer (some ⟨Bt, 0, none⟩)] encKV X S W) :
    Calls Try.prog 14 #[.pointer p0, .int .i64 now] w fun e w' =>
      ∃ v, e = .returned v ∧ w'.ownsRow w.heap.size 3 1 v (dueL X now).length ((dueL X now).map fun p => .int .i64 p.1) ∧ Below w.heap.size w w' := by
  obtain ⟨i0, hi', hz0, hz1, hz2⟩ := info_parts infoInt
  refine (callsIn_wide (n := 0)).1 ?_
  refine callsIn_of_wp_marks Try.func14 rfl trivial ?_ rfl
  simp only [Try.ntmps14, List.size_toArray, List.length_cons, List.length_nil, Nat.reduceAdd, Nat.reduceSub, Array.replicate_succ, Array.replicate_zero, List.push_toArray, List.append_toArray, List.nil_append, List.cons_append]
  have hfn : ∀ f, Fence.wide.fn f := fun _ => trivial
  have hdp : Fence.wide.depth.isSome = false := rfl
  gi_wp2_with (gi_at_call 23; refine (callsIn_wide.2 (bAll _ _)).mono ?_; rintro e w1 ⟨rfl, rfl⟩)
  obtain ⟨W0, hW0⟩ : ∃ W0, ((w.alloc (.cells #[.int .i64 now] 3)).alloc (.cells #[.slice none 0 0] 33)).alloc (.cells #[.pointer p0] 28) = W0 := ⟨_, rfl⟩
  have hs0 : W0.heap.size = w.heap.size + 3 := by rw [← hW0]; simp
  have hb0 : Below w.heap.size w W0 := by rw [← hW0]; exact (((Below.refl _ w).alloc (Nat.le_refl _) _).alloc (by simp) _).alloc (by simp; omega) _
  have bN : Boxed W0 w.heap.size 3 (.int .i64 now) := by rw [← hW0]; exact ((Boxed.new w _ _).alloc _).alloc _
  have bO : Boxed W0 (w.heap.size + 1) 33 (.slice none 0 0) := by
    rw [← hW0]; have := (Boxed.new (w.alloc (.cells #[.int .i64 now] 3)) 33 (.slice none 0 0)).alloc (.cells #[.pointer p0] 28); rwa [World.size_alloc] at this
  have bT : Boxed W0 (w.heap.size + 2) 28 (.pointer p0) := by
    rw [← hW0]; have := Boxed.new ((w.alloc (.cells #[.int .i64 now] 3)).alloc (.cells #[.slice none 0 0] 33)) 28 (.pointer p0); rwa [World.size_alloc, World.size_alloc] at this
  rw [hW0]
  clear hW0
  refine rangeX (S := fun b => b = w.heap.size + 1) rfl (enters_of Try.func25 (by kernel_rfl) rfl)
    (hit W0 _ _ hb0 bT (fun b hb => by omega)) (Below.refl _ _) (fun b hb => by omega) (fun _ => rfl)
    (DueI w X now) (DueX w X now)
    (fun k C W W' hs hf => ⟨hs.1.elim fun v hv => ⟨v, hv.fa hf⟩, Fa.box hf hs.2.1, hs.2.2⟩)
    (fun c k C W W' hs hf => by obtain ⟨e, v, j, p, h1, h2, h3⟩ := hs; exact ⟨e, v, j, p, Fa.box hf h1, Fa.row hf h2, h3⟩)
    ⟨⟨_, bO, World.ownsRow_nil _ _ _ _, fun b hb => by cases hb⟩, bN, by simp⟩
    ?round ?done ?stop
  case round =>
    rintro lp k x C W hx hlp hi hr
    dsimp only [encKV]
    gi_wp2
    refine Took.mk (Fr.refl _ _) hi ?_
    rintro Wb ⟨⟨v, hcol⟩, hbn, hdue⟩ hrb hf hsz hsw hCC _
    have hcn := hbn.cell
    have hco := hcol.box.cell
    have hkl : k < X.length := (List.getElem?_eq_some_iff.1 hx).1
    clear hi hr hf
    gi_wp2_with (gi_at_builtin; refine wpListIn_append_own_at _ rfl _ _ 33 rfl w.heap.size 3 i0 (.int .i64 0) 1 8 Try.underlying33 hi' hz0 hz1 hz2 rfl (by decide) _ _ _ rfl (hcol.row.alloc _) ⟨Wb.heap.size, 0, none⟩ 1 1 [.int .i64 x.1] rfl rfl (cell_one_new _ _ _) (by simp [Value.oneCell']) (by unfold maxLen; omega) (by omega) (by have := hrb.size; simp; omega) ?_; intro v' w1 hown' hgrow _ hat; obtain ⟨g', cap', rfl⟩ := ownsRow_succ hown'; obtain ⟨hv1, hc1, hf1⟩ := hcol.appended (S := fun b => b = w.heap.size + 1) (by decide) rfl hsz hown' hgrow hat; have hcc := hv1.cell; have hcf := hv1.frozen)
    · have hlt : now < x.2 := by assumption
      exact ⟨Fr.refl _ _, rfl, v, k, x, hcol.box, hcol.row, hdue, hx, by omega⟩
    · have hlt : x.2 ≤ now := by assumption
      have htk : X.take (k + 1) = X.take k ++ [x] := by rw [List.take_add_one, hx]; rfl
      refine ⟨hf1, ⟨_, by rw [htk, List.map_append]; exact hc1⟩, hf1.box hbn ?_, ?_⟩
      · rintro (e | e | e)
        · omega
        · have := hCC _ e; omega
        · omega
      · intro p hp
        rw [htk] at hp
        rcases List.mem_append.1 hp with hp | hp
        · exact hdue p hp
        · have : p = x := by simpa using hp
          rw [this]; exact hlt
  case done =>
    rintro D C W hD ⟨⟨v, hcol⟩, hbn, hdue⟩ hr hK
    have hco := hcol.box.cell
    gi_wp2
    refine ⟨by simp, .inl ⟨_, _, rfl, run_takeDeferred hK, ?_⟩⟩
    refine ⟨_, results_tmp rfl _ _ _, v, rfl, ?_, ?_⟩
    · rw [due_take hdue (.inl rfl)]
      exact ownsRow_putObj (by simpa using hcol.row) _ hK rfl
    · exact hb0.trans ((hr.putObj (l := D) (fun h => by omega) _).toBelow (fun b hb => by omega) (by omega))
  case stop =>
    rintro D c k C W hD hk ⟨rfl, v, j, p, hbo, hrow, hdue, hp, hnp⟩ hr hK
    have hco := hbo.cell
    gi_wp2
    refine ⟨by simp, .inl ⟨_, _, rfl, run_takeDeferred hK, ?_⟩⟩
    refine ⟨_, results_tmp rfl _ _ _, v, rfl, ?_, ?_⟩
    · rw [due_take hdue (.inr ⟨p, hp, by omega⟩)]
      have hj : j = (X.take j).length := by rw [List.length_take]; have := (List.getElem?_eq_some_iff.1 hp).1; omega
      rw [← hj]
      exact ownsRow_putObj hrow _ hK rfl
    · exact hb0.trans ((hr.putObj (l := D) (fun h => by omega) _).toBelow (fun b hb => by omega) (by omega))
theorem bDue (g m : Nat) (l X : List KV) (now : Int) (w : World) (h : Tm w g m l) (hX : Rp l X) (hl : l.length * 8 ≤ 140737488355328) :
    Calls Try.prog 14 #[.pointer (some ⟨g, 0, none⟩), .int .i64 now] w fun e w' =>
      ∃ v, e = .returned v ∧ w'.ownsRow w.heap.size 3 1 v (dueL X now).length ((dueL X now).map fun p => .int .i64 p.1) ∧ Below w.heap.size w w' :=
  bDue_of _ X now w (by rw [← hX.len]; exact hl) fun W Bt S hW hB hS => bAll1 S W Bt g m l X hB (h.below hW h.glt h.map.lt) hX hl (fun e => (hS _ e).2 rfl) (fun e => by have := (hS _ e).1; have := h.glt; omega) (fun e => by have := (hS _ e).1; have := h.map.lt; omega)
theorem bDue_no (now : Int) (w : World) :
    Calls Try.prog 14 #[.pointer none, .int .i64 now] w fun e w' => ∃ v, e = .returned v ∧ w'.ownsRow w.heap.size 3 1 v 0 [] ∧ Below w.heap.size w w' :=
  bDue_of none [] now w (by simp) fun W Bt S hW hB hS => bAll1_no S W Bt hB
end Go.Proofs.Ytjkhheolklnmaaa
