/- backoff's law: lives -/
import Derived.Test.YtjkhheolklnmaaaBackH
namespace Go.Proofs.Ytjkhheolklnmaaa
open Go.RowKit Go.Maps
theorem okI_small {x : Int} (h0 : 0 ≤ x) (h1 : x ≤ 1000) : okI x := by unfold okI; omega
/-- A Timers of the call's own, which holds X. -/
structure TX (w : World) (g m : Nat) (X : List KV) : Prop where
  ex : ∃ l, Tm w g m l ∧ Rp l X
theorem TX.below {B : Nat} {w w' : World} {g m : Nat} {X : List KV} (h : TX w g m X) (hb : Below B w w') (h1 : g < B) (h2 : m < B) : TX w' g m X := h.ex.elim fun l hl => ⟨l, hl.1.below hb h1 h2, hl.2⟩
theorem TX.lt {w : World} {g m : Nat} {X : List KV} (h : TX w g m X) : g < w.heap.size ∧ m < w.heap.size := h.ex.elim fun l hl => ⟨hl.1.glt, hl.1.map.lt⟩
theorem TX.nd {w : World} {g m : Nat} {X : List KV} (h : TX w g m X) : KeysND X := h.ex.elim fun _ hl => hl.2.nd.perm hl.2.perm.symm
theorem xNew (w : World) : Calls Try.prog 12 #[] w fun e w' => e = .returned (.pointer (some ⟨w.heap.size + 1, 0, none⟩)) ∧ TX w' (w.heap.size + 1) w.heap.size [] ∧ Fr (fun _ => False) w w' ∧ w'.heap.size = w.heap.size + 2 :=
  (bNew w).mono fun _ _ ⟨h1, h2, h3, h4⟩ => ⟨h1, ⟨[], h2, Rp.nil⟩, Fr.below h3, h4⟩
theorem xSet (w : World) (g m : Nat) (X : List KV) (x v : Int) (h : TX w g m X) (hx : okI x) (hl : X.length < 17592186044416) :
    Calls Try.prog 13 #[.pointer (some ⟨g, 0, none⟩), .int .i64 x, .int .i64 v] w fun e w' => e = .returned (.tuple #[]) ∧ TX w' g m (tSet X x v) ∧ Fr (fun b => b = m) w w' := by
  obtain ⟨l, hT, hX⟩ := h.ex
  exact (bSet w g m l x v hT hx (by have := hX.len; omega)).mono fun _ _ ⟨h1, h2, h3⟩ => ⟨h1, ⟨_, h2, hX.set _ x v⟩, Fr.turned h3 rfl⟩
theorem xAt (w : World) (g m : Nat) (X : List KV) (x : Int) (h : TX w g m X) (hx : okI x) :
    Calls Try.prog 17 #[.pointer (some ⟨g, 0, none⟩), .int .i64 x] w fun e w' => e = .returned (.tuple #[.int .i64 ((getS X x).getD 0), .bool (getS X x).isSome]) ∧ w = w' := by
  obtain ⟨l, hT, hX⟩ := h.ex
  have := bAt w g m l x hT hx
  rwa [hX.get] at this
theorem xDrop (w : World) (g m : Nat) (X : List KV) (x : Int) (h : TX w g m X) (hx : okI x) :
    Calls Try.prog 19 #[.pointer (some ⟨g, 0, none⟩), .int .i64 x] w fun e w' => e = .returned (.bool (getS X x).isSome) ∧ TX w' g m (delS X x) ∧ Fr (fun b => b = m) w w' := by
  obtain ⟨l, hT, hX⟩ := h.ex
  have := bDrop w g m l x hT hx
  rw [hX.get] at this
  exact this.mono fun _ _ ⟨h1, h2, h3⟩ => ⟨h1, ⟨_, h2, hX.del x⟩, Fr.turned h3 rfl⟩
theorem xLen (w : World) (g m : Nat) (X : List KV) (h : TX w g m X) :
    Calls Try.prog 15 #[.pointer (some ⟨g, 0, none⟩)] w fun e w' => e = .returned (.int .i64 X.length) ∧ w = w' := by
  obtain ⟨l, hT, hX⟩ := h.ex
  have := bLen w g m l hT
  rwa [hX.len] at this
theorem xDue (w : World) (g m : Nat) (X : List KV) (now : Int) (h : TX w g m X) (hl : X.length ≤ 17592186044416) :
    Calls Try.prog 14 #[.pointer (some ⟨g, 0, none⟩), .int .i64 now] w fun e w' =>
      ∃ v, e = .returned v ∧ w'.ownsRow w.heap.size 3 1 v (dueL X now).length ((dueL X now).map fun p => .int .i64 p.1) ∧ Fr (fun _ => False) w w' := by
  obtain ⟨l, hT, hX⟩ := h.ex
  exact (bDue g m l X now w hT hX (by have := hX.len; omega)).mono fun _ _ ⟨v, h1, h2, h3⟩ => ⟨v, h1, h2, Fr.below h3⟩
theorem xFirst (w : World) (g m : Nat) (X : List KV) (h : TX w g m X) (hl : X.length ≤ 17592186044416) :
    Calls Try.prog 21 #[.pointer (some ⟨g, 0, none⟩)] w fun e w' =>
      e = .returned (.tuple #[.int .i64 (firstAt X), .bool (decide (0 < X.length))]) ∧ Fr (fun _ => False) w w' := by
  obtain ⟨l, hT, hX⟩ := h.ex
  exact (bFirst g m l X w hT hX (by have := hX.len; omega)).mono fun _ _ ⟨h1, h2⟩ => ⟨h1, Fr.below h2⟩
theorem xPop_none (w : World) (g m : Nat) (X : List KV) (now : Int) (h : TX w g m X) (hl : X.length ≤ 17592186044416) (hd : dueL X now = []) :
    Calls Try.prog 16 #[.pointer (some ⟨g, 0, none⟩), .int .i64 now] w fun e w' => e = .returned (.tuple #[.int .i64 0, .bool false]) ∧ Fr (fun _ => False) w w' := by
  obtain ⟨l, hT, hX⟩ := h.ex
  exact (bPop_none g m l X now w hT hX (by have := hX.len; omega) hd).mono fun _ _ ⟨h1, h2⟩ => ⟨h1, Fr.below h2⟩
theorem xPop_some (w : World) (g m : Nat) (X : List KV) (now : Int) (p : KV) (r : List KV) (h : TX w g m X) (hl : X.length ≤ 17592186044416) (hd : dueL X now = p :: r) :
    Calls Try.prog 16 #[.pointer (some ⟨g, 0, none⟩), .int .i64 now] w fun e w' => e = .returned (.tuple #[.int .i64 p.1, .bool true]) ∧ TX w' g m (delS X p.1) ∧ Fr (fun b => b = m) w w' := by
  obtain ⟨l, hT, hX⟩ := h.ex
  exact (bPop_some g m l X now p r w hT hX (by have := hX.len; omega) hd).mono fun _ _ ⟨h1, h2, h3⟩ => ⟨h1, ⟨_, h2, hX.del _⟩, h3⟩
theorem TX.fr {S : Nat → Prop} {w w' : World} {g m : Nat} {X : List KV} (h : TX w g m X) (hf : Fr S w w') (h1 : ¬ S g) (h2 : ¬ S m) : TX w' g m X := h.ex.elim fun l hl => ⟨l, hl.1.fr hf h1 h2, hl.2⟩
set_option maxHeartbeats 2000000 in
theorem bLives (w : World) : Calls Try.prog 9 #[] w fun e w' => e = .returned (.bool true) ∧ Below w.heap.size w w' := by
  have hfn := fun (w : World) (f : Fn) (x y : Array Value) => run_eql_func_nil (P := Try.prog) w 48 _ _ _ f x y Try.underlying48
  go_enter Try.func9, Try.ntmps9
  go_wp2_with (first
    | (go_at_call 12; refine (xNew _).mono ?_; rintro e w1 ⟨rfl, hT1, hf1, hs1⟩)
    | (go_at_call 23; refine (bAll _ _).mono ?_; rintro e w2 ⟨rfl, rfl⟩; have hsz := hs1))
  have hF0 : Fr (fun b => w.heap.size ≤ b) w w1 := hf1.mono (fun _ _ h => h.elim)
  have hT2 := hT1.fr (S := fun _ => False) ((Fr.refl _ w1).alloc (.cells #[.pointer (some ⟨w.heap.size + 1, 0, none⟩)] 28)) (fun h => h) (fun h => h)
  have hF2 := hF0.alloc (.cells #[.pointer (some ⟨w.heap.size + 1, 0, none⟩)] 28)
  clear hfn hT1 hf1 hF0 hs1 hsz
  generalize w1.alloc (.cells #[.pointer (some ⟨w.heap.size + 1, 0, none⟩)] 28) = W at *
  refine (xSet W _ _ _ 5 2 hT2 (okI_small (by omega) (by omega)) (by simp)).mono ?_
  rintro e W1 ⟨rfl, hT3, hf⟩
  have hF3 := hF2.trans' hf (fun b _ e => by omega)
  clear hT2 hF2 hf
  go_wp2_with fail
  refine (xSet W1 _ _ _ 3 2 hT3 (okI_small (by omega) (by omega)) (by decide)).mono ?_
  rintro e W2 ⟨rfl, hT4, hf⟩
  have hF4 := hF3.trans' hf (fun b _ e => by omega)
  clear hT3 hF3 hf
  go_wp2_with fail
  refine (xSet W2 _ _ _ 9 1 hT4 (okI_small (by omega) (by omega)) (by decide)).mono ?_
  rintro e W3 ⟨rfl, hT5, hf⟩
  have hF5 := hF4.trans' hf (fun b _ e => by omega)
  have e5 : tSet (tSet (tSet [] 5 2) 3 2) 9 1 = [(9, 1), (3, 2), (5, 2)] := by decide
  rw [e5] at hT5
  clear hT4 hF4 hf e5
  go_wp2_with fail
  refine (xPop_some W3 _ _ _ 2 (9, 1) [(3, 2), (5, 2)] hT5 (by simp) (by decide)).mono ?_
  rintro e W4 ⟨rfl, hT6, hf⟩
  have hF6 := hF5.trans' hf (fun b _ e => by omega)
  have e6 : delS [((9 : Int), (1 : Int)), (3, 2), (5, 2)] 9 = [(3, 2), (5, 2)] := by decide
  rw [e6] at hT6
  clear hT5 hF5 hf e6
  go_wp2_with fail
  refine (xDue W4 _ _ _ 2 hT6 (by simp)).mono ?_
  rintro e W5 ⟨v, rfl, hown, hf⟩
  have hF7 := hF6.trans' hf (fun b _ e => e.elim)
  have e7 : dueL [((3 : Int), (2 : Int)), (5, 2)] 2 = [(3, 2), (5, 2)] := by decide
  rw [e7] at hown
  obtain ⟨g', cap, rfl, _, hlt⟩ := hown.form (by simp)
  have hcell : W5.cell? ⟨g', 0, none⟩ = some (.int .i64 3) := by
    have := hown.cellAt (g := g') (j := 0) (by simp)
    simpa using this
  have HF := Lib.hid hF7
  clear hT6 hF6 hf e7 hown hF7
  go_wp2_with (first
    | (go_at_call 10; refine (bWait 2 10 3 _ (by omega) (by omega)).mono ?_; rintro e w' ⟨rfl, rfl⟩; have ew : wait 2 10 3 = 10 := (by decide); rw [ew]; clear ew)
    | (go_at_call 11; refine (bNext 1 2 10 1 _ (by omega) (by omega) (by omega) (by omega)).mono ?_; rintro e w' ⟨rfl, rfl⟩; have ew : next 1 2 10 1 = 5 := (by decide); rw [ew]; clear ew))
  go_ret
  exact ⟨rfl, HF.out.toBelow (fun b h => h) (Nat.le_refl _)⟩
end Go.Proofs.Ytjkhheolklnmaaa
