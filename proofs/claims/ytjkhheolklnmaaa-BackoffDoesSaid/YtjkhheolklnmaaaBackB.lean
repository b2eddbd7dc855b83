/- backoff.Timers: New, made, Set, At, Drop, Len. -/
import Derived.Test.YtjkhheolklnmaaaBackA
import Derived.Test.YtjkhheolklnmaaaMaps
namespace Go.Proofs.Ytjkhheolklnmaaa
open Go.RowKit Go.Maps
theorem tmK : KO Try.prog 3 ktI := koI Try.underlying3
theorem zeroInt (w : World) : (zeroValue 3).run Try.prog w = .ok (.int .i64 0) w := by kernel_rfl
/-- Block g is a Timers whose map is block m, which holds l. -/
structure Tm (w : World) (g m : Nat) (l : List (Int × Int)) : Prop where
  box : w.heap[g]? = some (.cells #[.map (some m)] 53 (0, 0))
  map : Mp Try.prog w 3 ktI (Value.int .i64) m l
section
variable {w w' : World} {g m : Nat} {l : List (Int × Int)}
theorem Tm.glt (h : Tm w g m l) : g < w.heap.size := (Array.getElem?_eq_some_iff.1 h.box).1
theorem Tm.cell (h : Tm w g m l) : w.cell? ⟨g, 0, none⟩ = some (.map (some m)) := by simp [World.cell?, h.box]
theorem Tm.ne (h : Tm w g m l) : g ≠ m := by
  rintro rfl
  obtain ⟨_, es, clock, hb, _⟩ := h.map
  rw [h.box] at hb; cases hb
theorem Tm.kept {row : Option Nat} (h : Tm w g m l) (hg : w.grownBy w' row) (h1 : some g ≠ row) (h2 : some m ≠ row) : Tm w' g m l :=
  ⟨(hg.block g h.glt h1).trans h.box, h.map.kept hg h2⟩
theorem Tm.below {B : Nat} (h : Tm w g m l) (hb : Below B w w') (h1 : g < B) (h2 : m < B) : Tm w' g m l := ⟨(hb.block g h1).trans h.box, h.map.below hb h2⟩
theorem Tm.alloc (h : Tm w g m l) (o : Obj) : Tm (w.alloc o) g m l := ⟨(Below.heap_alloc w o g h.glt).trans h.box, h.map.alloc o⟩
theorem Tm.drew (h : Tm w g m l) : Tm w.drew g m l := ⟨h.box, h.map⟩
theorem Tm.drewN (h : Tm w g m l) (n : Nat) : Tm (w.drewN n) g m l := ⟨h.box, h.map⟩
end
theorem bNew (w : World) : Calls Try.prog 12 #[] w fun e w' => e = .returned (.pointer (some ⟨w.heap.size + 1, 0, none⟩)) ∧ Tm w' (w.heap.size + 1) w.heap.size [] ∧ Below w.heap.size w w' ∧ w'.heap.size = w.heap.size + 2 := by
  have hmm := @run_makeMap Try.prog
  go_enter Try.func12, Try.ntmps12
  go_wp2
  go_ret
  refine ⟨rfl, ⟨?_, ?_⟩, ((Below.refl _ _).alloc (Nat.le_refl _) _).alloc (by simp) _, by simp⟩
  · have := heap_alloc_new (w.alloc (.map #[] 0)) (.cells #[.map (some w.heap.size)] 53)
    rwa [World.size_alloc] at this
  · exact (Mp.made Try.prog w 3 ktI (Value.int .i64)).alloc _
theorem bmade_no (w : World) : Calls Try.prog 24 #[.pointer none] w fun e w' => e = .returned (.bool false) ∧ w = w' := by
  go_enter Try.func24, Try.ntmps24
  go_wp2
  go_ret
  exact ⟨rfl, rfl⟩
theorem bmade (w : World) (g m : Nat) (hc : w.cell? ⟨g, 0, none⟩ = some (.map (some m))) : Calls Try.prog 24 #[.pointer (some ⟨g, 0, none⟩)] w fun e w' => e = .returned (.bool true) ∧ w = w' := by
  have hn := fun (w : World) (r : Option Nat) => run_neq_map_nil (P := Try.prog) w 51 _ _ r Try.underlying51
  go_enter Try.func24, Try.ntmps24
  go_wp2
  go_ret
  exact ⟨rfl, rfl⟩
theorem ltI (x y : Int) : ktI.lt x y = decide (x < y) := rfl
def putI (l : List (Int × Int)) (x v : Int) : List (Int × Int) := putS ktI.lt l x v
theorem bSet_no (w : World) (x v : Int) : Calls Try.prog 13 #[.pointer none, .int .i64 x, .int .i64 v] w fun e w' => e = .returned (.tuple #[]) ∧ w = w' := by
  go_enter Try.func13, Try.ntmps13
  go_wp2_with (go_at_call 24; refine (bmade_no _).mono ?_; rintro e w' ⟨rfl, rfl⟩)
  go_end0
  exact ⟨rfl, rfl⟩
theorem bSet (w : World) (g m : Nat) (l : List (Int × Int)) (x v : Int) (h : Tm w g m l) (hx : okI x) (hl : l.length < 9223372036854775807) :
    Calls Try.prog 13 #[.pointer (some ⟨g, 0, none⟩), .int .i64 x, .int .i64 v] w fun e w' => e = .returned (.tuple #[]) ∧ Tm w' g m (putI l x v) ∧ w.mapTurned w' m := by
  have hc := h.cell
  obtain ⟨w1, hrun, hm, ht⟩ := h.map.store tmK Try.underlying51 hl hx v
  have hrun' : (Instr.mapUpdate 51 (.map (some m)) (.int .i64 x) (.int .i64 v)).run Try.prog w = .ok () w1 := hrun
  clear hrun
  go_enter Try.func13, Try.ntmps13
  go_wp2_with (go_at_call 24; refine (bmade _ g m hc).mono ?_; rintro e w' ⟨rfl, rfl⟩)
  go_end0
  exact ⟨rfl, ⟨(ht.grown.block g h.glt (by simp [h.ne])).trans h.box, hm⟩, ht⟩
theorem bAt_no (w : World) (x : Int) : Calls Try.prog 17 #[.pointer none, .int .i64 x] w fun e w' => e = .returned (.tuple #[.int .i64 0, .bool false]) ∧ w = w' := by
  go_enter Try.func17, Try.ntmps17
  go_wp2_with (go_at_call 24; refine (bmade_no _).mono ?_; rintro e w' ⟨rfl, rfl⟩)
  go_ret2
  exact ⟨rfl, rfl⟩
theorem bAt (w : World) (g m : Nat) (l : List (Int × Int)) (x : Int) (h : Tm w g m l) (hx : okI x) :
    Calls Try.prog 17 #[.pointer (some ⟨g, 0, none⟩), .int .i64 x] w fun e w' => e = .returned (.tuple #[.int .i64 ((getS l x).getD 0), .bool (getS l x).isSome]) ∧ w = w' := by
  have hc := h.cell
  have hrun : (Instr.lookup 51 (.map (some m)) (.int .i64 x) true).run Try.prog w = .ok (.tuple #[.int .i64 ((getS l x).getD 0), .bool (getS l x).isSome]) w := by
    have := h.map.look_ok tmK Try.underlying51 (zeroInt w) hx
    cases hg : getS l x <;> rw [hg] at this <;> exact this
  go_enter Try.func17, Try.ntmps17
  go_wp2_with (go_at_call 24; refine (bmade _ g m hc).mono ?_; rintro e w' ⟨rfl, rfl⟩)
  go_ret2
  exact ⟨rfl, rfl⟩
theorem bDrop_no (w : World) (x : Int) : Calls Try.prog 19 #[.pointer none, .int .i64 x] w fun e w' => e = .returned (.bool false) ∧ w = w' := by
  go_enter Try.func19, Try.ntmps19
  go_wp2_with (go_at_call 17; refine (bAt_no _ _).mono ?_; rintro e w' ⟨rfl, rfl⟩)
  go_ret
  exact ⟨rfl, rfl⟩
theorem delS_none {l : List (Int × Int)} {x : Int} (h : getS l x = none) : delS l x = l := by
  unfold delS
  rw [List.filter_eq_self]
  intro p hp
  induction l with
  | nil => cases hp
  | cons q r ih =>
    simp only [getS] at h
    split at h
    · cases h
    · rename_i hne
      rcases List.mem_cons.1 hp with rfl | hp
      · simp [hne]
      · exact ih h hp
theorem bDrop (w : World) (g m : Nat) (l : List (Int × Int)) (x : Int) (h : Tm w g m l) (hx : okI x) :
    Calls Try.prog 19 #[.pointer (some ⟨g, 0, none⟩), .int .i64 x] w fun e w' => e = .returned (.bool (getS l x).isSome) ∧ Tm w' g m (delS l x) ∧ w.mapTurned w' m := by
  have hc := h.cell
  have hat := bAt w g m l x h hx
  obtain ⟨w1, hrun, hm, ht⟩ := h.map.drop tmK Try.underlying51 hx 0
  have hrun' : (Builtin.delete_ #[51, 3] 0 #[.map (some m), .int .i64 x]).run Try.prog w = .ok (.tuple #[]) w1 := hrun
  clear hrun
  have hs := fun (e : getS l x = none) => delS_none e
  have hrefl := h.map.owns.turned_refl
  cases hg : getS l x with
  | none =>
    rw [hg] at hat
    have := hs hg
    have HD := Lib.hid this
    clear this hs hg hrun' hm ht
    go_enter Try.func19, Try.ntmps19
    go_wp2_with (go_at_call 17; refine hat.mono ?_; rintro e w' ⟨rfl, rfl⟩)
    go_ret
    exact ⟨rfl, by rw [HD.out]; exact h, hrefl⟩
  | some v =>
    rw [hg] at hat
    clear hs hg
    go_enter Try.func19, Try.ntmps19
    go_wp2_with (go_at_call 17; refine hat.mono ?_; rintro e w' ⟨rfl, rfl⟩)
    go_ret
    exact ⟨rfl, ⟨(ht.grown.block g h.glt (by simp [h.ne])).trans h.box, hm⟩, ht⟩
theorem bLen_no (w : World) : Calls Try.prog 15 #[.pointer none] w fun e w' => e = .returned (.int .i64 0) ∧ w = w' := by
  go_enter Try.func15, Try.ntmps15
  go_wp2_with (go_at_call 24; refine (bmade_no _).mono ?_; rintro e w' ⟨rfl, rfl⟩)
  go_ret
  exact ⟨rfl, rfl⟩
theorem bLen (w : World) (g m : Nat) (l : List (Int × Int)) (h : Tm w g m l) :
    Calls Try.prog 15 #[.pointer (some ⟨g, 0, none⟩)] w fun e w' => e = .returned (.int .i64 l.length) ∧ w = w' := by
  have hc := h.cell
  have hrun := h.map.len Try.underlying51 3
  go_enter Try.func15, Try.ntmps15
  go_wp2_with (go_at_call 24; refine (bmade _ g m hc).mono ?_; rintro e w' ⟨rfl, rfl⟩)
  go_ret
  exact ⟨rfl, rfl⟩
end Go.Proofs.Ytjkhheolklnmaaa
