/- ident's law IdentDoes: a table and the document's table side by side, and every call at either. -/
import Derived.Test.YtakjiicnbocjeaaIdDoesM37
import Derived.Test.YtakjiicnbocjeaaIdDoesM45
import Derived.Test.YtakjiicnbocjeaaIdDoesM46
import Derived.Test.YtakjiicnbocjeaaIdDoesM47
namespace Go.Proofs.Ytakjiicnbocjeaa
open Go.RowKit Go.Maps
/-- Table g says A, the document's table gx says X; all that lay in W0 is as it was; the law's own boxes hold what bx says. -/
structure DuT (W0 : World) (g gx : Nat) (A X : Tbl) (bx : List (Nat × Obj)) (W : World) : Prop where
  ex : ∃ TS TX, TA W g TS A ∧ RT W gx TX X ∧ (∀ b, TS b → W0.heap.size ≤ b) ∧ (∀ b, TX b → W0.heap.size ≤ b) ∧ (∀ b, TS b → ¬ TX b) ∧ ∀ q ∈ bx, W.heap[q.1]? = some q.2 ∧ ¬ TS q.1 ∧ ¬ TX q.1
  fr : Fr (fun b => W0.heap.size ≤ b) W0 W
  ok : Good A
  okx : Good X
section
variable {W0 W W' : World} {g gx : Nat} {A X : Tbl} {bx : List (Nat × Obj)}
theorem DuT.keep (h : DuT W0 g gx A X bx W) (hf : Fr (fun _ => False) W W') : DuT W0 g gx A X bx W' := by
  obtain ⟨TS, TX, h1, h2, h3, h4, h5, h0⟩ := h.ex
  exact ⟨⟨TS, TX, h1.fr hf (fun _ _ e => e), h2.fr hf (fun _ _ e => e), h3, h4, h5, fun q e => ⟨hf.at_ (h0 q e).1 (fun e => e), (h0 q e).2⟩⟩, h.fr.trans (hf.mono (fun _ _ e => e.elim)), h.ok, h.okx⟩
theorem DuT.stepA {B : Tbl} {TS TS' TX : Nat → Prop} (h : DuT W0 g gx A X bx W) (h2 : RT W gx TX X) (h3 : ∀ b, TS b → W0.heap.size ≤ b) (h4 : ∀ b, TX b → W0.heap.size ≤ b) (h5 : ∀ b, TS b → ¬ TX b) (h0 : ∀ q ∈ bx, W.heap[q.1]? = some q.2 ∧ ¬ TS q.1 ∧ ¬ TX q.1)
    (hB : TA W' g TS' B) (hs : Stp TS W W' TS') (hk : Good B) : DuT W0 g gx B X bx W' := by
  refine ⟨⟨TS', TX, hB, h2.fr hs.1 (fun b hb e => h5 b e hb), hs.low h3 h.fr.size, h4, fun b hb hx => ?_, fun q e => ⟨hs.1.at_ (h0 q e).1 (h0 q e).2.1, fun hb => ?_, (h0 q e).2.2⟩⟩, hs.fr h.fr h3, hk, h.okx⟩
  · rcases hs.2 b hb with e | e
    · exact h5 b e hx
    · have := h2.lt b hx; omega
  · rcases hs.2 _ hb with e2 | e2
    · exact (h0 q e).2.1 e2
    · have := (Array.getElem?_eq_some_iff.1 (h0 q e).1).1; omega
theorem DuT.stepX {Y : Tbl} {TS TX TX' : Nat → Prop} (h : DuT W0 g gx A X bx W) (h1 : TA W g TS A) (h3 : ∀ b, TS b → W0.heap.size ≤ b) (h4 : ∀ b, TX b → W0.heap.size ≤ b) (h5 : ∀ b, TS b → ¬ TX b) (h0 : ∀ q ∈ bx, W.heap[q.1]? = some q.2 ∧ ¬ TS q.1 ∧ ¬ TX q.1)
    (hY : RT W' gx TX' Y) (hs : Stp TX W W' TX') (hk : Good Y) : DuT W0 g gx A Y bx W' := by
  refine ⟨⟨TS, TX', h1.fr hs.1 (fun b hb e => h5 b hb e), hY, h3, hs.low h4 h.fr.size, fun b hb hx => ?_, fun q e => ⟨hs.1.at_ (h0 q e).1 (h0 q e).2.2, (h0 q e).2.1, fun hb => ?_⟩⟩, hs.fr h.fr h4, h.ok, hk⟩
  · rcases hs.2 b hx with e | e
    · exact h5 b hb e
    · have := h1.lt b hb; omega
  · rcases hs.2 _ hb with e2 | e2
    · exact (h0 q e).2.2 e2
    · have := (Array.getElem?_eq_some_iff.1 (h0 q e).1).1; omega
theorem DuT.ops {v : Value} {L : List OpV} (h : DuT W0 g gx A X bx W) (hv : Sq 8 OpV.cs OpOkZ W0 v L) : Sq 8 OpV.cs OpOkZ W v L := hv.fr opZKeeps h.fr (fun b hb => hb)
/-- A box that lies there since Wb. -/
theorem DuT.newbox {Wb : World} {b : Nat} {o : Obj} (h : DuT W0 g gx A X bx Wb) (hf : Fr (fun _ => False) Wb W) (hb : Wb.heap.size ≤ b) (hz : W.heap[b]? = some o) : DuT W0 g gx A X ((b, o) :: bx) W := by
  obtain ⟨TS, TX, h1, h2, h3, h4, h5, h0⟩ := h.ex
  refine ⟨⟨TS, TX, h1.fr hf (fun _ _ e => e), h2.fr hf (fun _ _ e => e), h3, h4, h5, fun q hq => ?_⟩, h.fr.trans (hf.mono (fun _ _ e => e.elim)), h.ok, h.okx⟩
  rcases List.mem_cons.1 hq with rfl | hq
  · exact ⟨hz, fun e => by have := h1.lt _ e; dsimp only at this; omega, fun e => by have := h2.lt _ e; dsimp only at this; omega⟩
  · exact ⟨hf.at_ (h0 q hq).1 (fun e => e), (h0 q hq).2⟩
theorem DuT.box (h : DuT W0 g gx A X bx W) (o : Obj) : DuT W0 g gx A X ((W.heap.size, o) :: bx) (W.alloc o) := h.newbox ((Fr.refl _ W).alloc _) (Nat.le_refl _) (heap_new _ _)
theorem DuT.unbox (h : DuT W0 g gx A X bx W) : DuT W0 g gx A X [] W := by
  obtain ⟨TS, TX, h1, h2, h3, h4, h5, -⟩ := h.ex
  exact ⟨⟨TS, TX, h1, h2, h3, h4, h5, fun o e => by cases e⟩, h.fr, h.ok, h.okx⟩
theorem DuT.drop1 {q : Nat × Obj} (h : DuT W0 g gx A X (q :: bx) W) : DuT W0 g gx A X bx W := by
  obtain ⟨TS, TX, h1, h2, h3, h4, h5, h0⟩ := h.ex
  exact ⟨⟨TS, TX, h1, h2, h3, h4, h5, fun q hq => h0 q (List.mem_cons_of_mem _ hq)⟩, h.fr, h.ok, h.okx⟩
theorem DuT.at_ {q : Nat × Obj} (h : DuT W0 g gx A X bx W) (hq : q ∈ bx) : W.heap[q.1]? = some q.2 := by
  obtain ⟨TS, TX, -, -, -, -, -, h0⟩ := h.ex
  exact (h0 q hq).1
theorem DuT.bx0 {b : Nat} {o : Obj} (h : DuT W0 g gx A X ((b, o) :: bx) W) : W.heap[b]? = some o := h.at_ (q := (b, o)) (List.mem_cons_self ..)
theorem DuT.bx1 {b b' : Nat} {o o' : Obj} (h : DuT W0 g gx A X ((b', o') :: (b, o) :: bx) W) : W.heap[b]? = some o := h.at_ (q := (b, o)) (by simp)
theorem DuT.bx2 {b b' b2 : Nat} {o o' o2 : Obj} (h : DuT W0 g gx A X ((b2, o2) :: (b', o') :: (b, o) :: bx) W) : W.heap[b]? = some o := h.at_ (q := (b, o)) (by simp)
/-- The newest box is turned. -/
theorem DuT.setbox {b : Nat} {o o' : Obj} (h : DuT W0 g gx A X ((b, o) :: bx) W) (hn : ∀ q ∈ bx, q.1 ≠ b) (hb : W0.heap.size ≤ b) (hf : Fr (fun x => x = b) W W') (hz : W'.heap[b]? = some o') : DuT W0 g gx A X ((b, o') :: bx) W' := by
  obtain ⟨TS, TX, h1, h2, h3, h4, h5, h0⟩ := h.ex
  have hbb := h0 (b, o) (List.mem_cons_self ..)
  refine ⟨⟨TS, TX, h1.fr hf (fun x hx e => by subst e; exact hbb.2.1 hx), h2.fr hf (fun x hx e => by subst e; exact hbb.2.2 hx), h3, h4, h5, fun q hq => ?_⟩, h.fr.trans (hf.mono (fun x _ e => by subst e; exact hb)), h.ok, h.okx⟩
  rcases List.mem_cons.1 hq with rfl | hq
  · exact ⟨hz, hbb.2⟩
  · exact ⟨hf.at_ (h0 q (List.mem_cons_of_mem _ hq)).1 (hn q hq), (h0 q (List.mem_cons_of_mem _ hq)).2⟩
/-- An answer's four cells are stored into the newest box. -/
theorem DuT.setAns {b : Nat} {x0 x1 x2 x3 : Value} (y : Ans) (h : DuT W0 g gx A X ((b, .cells #[x0, x1, x2, x3] 31) :: bx) W) (hn : ∀ q ∈ bx, q.1 ≠ b) (hb : W0.heap.size ≤ b) :
    DuT W0 g gx A X ((b, .cells #[.int .i64 y.c, .int .i64 y.n, .int .i64 y.code, .int .i64 y.k] 31) :: bx) ((((W.setCell ⟨b, 0, none⟩ (.int .i64 y.c)).setCell ⟨b, 1, none⟩ (.int .i64 y.n)).setCell ⟨b, 2, none⟩ (.int .i64 y.code)).setCell ⟨b, 3, none⟩ (.int .i64 y.k)) := by
  have h0 := h.bx0
  have h4 := obj_set (obj_set (obj_set (obj_set h0 0 (.int .i64 y.c)) 1 (.int .i64 y.n)) 2 (.int .i64 y.code)) 3 (.int .i64 y.k)
  refine h.setbox hn hb ?_ h4
  refine (((((Fr.refl _ W).setCell ?_ _).setCell ?_ _).setCell ?_ _).setCell ?_ _) <;> exact fun _ => rfl
theorem mixF_ok (bs : List Int) : RowOk ⟨mixF 7 bs, false, Ans.zero⟩ := by
  have h : ∀ x y : Int, 0 ≤ bits .xor .u64 x y ∧ bits .xor .u64 x y < 18446744073709551616 := fun x y => by
    show 0 ≤ IntKind.u64.wrap _ ∧ IntKind.u64.wrap _ < _
    rw [IntKind.wrap_u64]; omega
  exact ⟨(h _ _).1, (h _ _).2, (by show okI 0; unfold okI; omega), (by show okI 0; unfold okI; omega)⟩
/-- What was new in W stays. -/
abbrev Nw (n0 : Nat) (W W' : World) : Prop := ∀ b, n0 ≤ b → b < W.heap.size → W'.heap[b]? = W.heap[b]?
theorem nw_of {TS : Nat → Prop} {n0 : Nat} (hf : Fr TS W W') (hT : ∀ b, TS b → b < n0) : Nw n0 W W' := fun b h0 hb => hf.same b hb (fun e => by have := hT b e; omega)
theorem dAsk {Wb : World} {v : Value} {bs : List Int} (c n : Int) (h : DuT W0 g gx A X bx Wb) (hf : Fr (fun _ => False) Wb W) (hv : Bs W v bs) :
    Calls Try.prog 11 #[.pointer (some ⟨g, 0, none⟩), .int .i64 c, .int .i64 n, v] W fun e w' => e = .returned (.tuple #[.int .i64 (askA A c n (mixF 7 bs)).1, (askA A c n (mixF 7 bs)).2.enc]) ∧ DuT W0 g gx (askT A c n (mixF 7 bs)) X bx w' ∧ Nw Wb.heap.size W w' ∧ W.heap.size ≤ w'.heap.size := by
  have hk := h.keep hf
  obtain ⟨TS, TX, h1, h2, h3, h4, h5, h0⟩ := h.ex
  have hf0 : ∀ q ∈ bx, W.heap[q.1]? = some q.2 ∧ ¬ TS q.1 ∧ ¬ TX q.1 := fun q e => ⟨hf.at_ (h0 q e).1 (fun e => e), (h0 q e).2⟩
  refine (xAsk W g TS A c n v bs (h1.fr hf (fun _ _ e => e)) hv).mono ?_
  rintro e w' ⟨rfl, TS', h6, h7⟩
  exact ⟨rfl, hk.stepA (h2.fr hf (fun _ _ e => e)) h3 h4 h5 hf0 h6 h7 (h.ok.ask c n _ (mixF_ok bs)), nw_of h7.1 (fun b hb => h1.lt b hb), h7.1.size⟩
theorem dAskX {Wb : World} {v : Value} {bs : List Int} (c n : Int) (h : DuT W0 g gx A X bx Wb) (hf : Fr (fun _ => False) Wb W) (hv : Bs W v bs) (hl : (bs.length : Int) ≤ 140737488351232) :
    Calls Try.prog 18 #[.pointer (some ⟨gx, 0, none⟩), .int .i64 c, .int .i64 n, v] W fun e w' => e = .returned (.tuple #[.int .i64 (askA X c n (mixF 7 bs)).1, (askA X c n (mixF 7 bs)).2.enc]) ∧ DuT W0 g gx A (askT X c n (mixF 7 bs)) bx w' ∧ Nw Wb.heap.size W w' ∧ W.heap.size ≤ w'.heap.size := by
  have hk := h.keep hf
  obtain ⟨TS, TX, h1, h2, h3, h4, h5, h0⟩ := h.ex
  have hf0 : ∀ q ∈ bx, W.heap[q.1]? = some q.2 ∧ ¬ TS q.1 ∧ ¬ TX q.1 := fun q e => ⟨hf.at_ (h0 q e).1 (fun e => e), (h0 q e).2⟩
  refine (rAsk W gx TX X c n v bs (h2.fr hf (fun _ _ e => e)) hv hl (fun c => (h.okx.cli c).2.2.2.1) (fun c => (h.okx.cli c).2.1)).mono ?_
  rintro e w' ⟨rfl, TX', h6, h7⟩
  exact ⟨rfl, hk.stepX (h1.fr hf (fun _ _ e => e)) h3 h4 h5 hf0 h6 h7 (h.okx.ask c n _ (mixF_ok bs)), nw_of h7.1 (fun b hb => h2.lt b hb), h7.1.size⟩
theorem dTell (a : Ans) (h : DuT W0 g gx A X bx W) (hk : okI a.k) (hn : okI a.n) :
    Calls Try.prog 12 #[.pointer (some ⟨g, 0, none⟩), a.enc] W fun e w' => e = .returned (.int .i64 (tellA A a)) ∧ DuT W0 g gx (tellT A a) X bx w' := by
  obtain ⟨TS, TX, h1, h2, h3, h4, h5, h0⟩ := h.ex
  refine (xTell W g TS A a h1).mono ?_
  rintro e w' ⟨rfl, TS', h6, h7⟩
  exact ⟨rfl, h.stepA h2 h3 h4 h5 h0 h6 h7 (h.ok.tell a hk hn)⟩
theorem dTellX (a : Ans) (h : DuT W0 g gx A X bx W) (hk : okI a.k) (hn : okI a.n) :
    Calls Try.prog 19 #[.pointer (some ⟨gx, 0, none⟩), a.enc] W fun e w' => e = .returned (.int .i64 (tellA X a)) ∧ DuT W0 g gx A (tellT X a) bx w' := by
  obtain ⟨TS, TX, h1, h2, h3, h4, h5, h0⟩ := h.ex
  refine (rTell W gx TX X a h2 (fun c => (h.okx.cli c).2.2.2.1) (fun c => (h.okx.cli c).2.1)).mono ?_
  rintro e w' ⟨rfl, TX', h6, h7⟩
  exact ⟨rfl, h.stepX h1 h3 h4 h5 h0 h6 h7 (h.okx.tell a hk hn)⟩
theorem dLow (c n : Int) (h : DuT W0 g gx A X bx W) :
    Calls Try.prog 13 #[.pointer (some ⟨g, 0, none⟩), .int .i64 c, .int .i64 n] W fun e w' => e = .returned (.int .i64 (lowA A c n)) ∧ DuT W0 g gx (lowT A c n) X bx w' := by
  obtain ⟨TS, TX, h1, h2, h3, h4, h5, h0⟩ := h.ex
  refine (xLow W g TS A c n h1).mono ?_
  rintro e w' ⟨rfl, TS', h6, h7⟩
  exact ⟨rfl, h.stepA h2 h3 h4 h5 h0 h6 h7 (h.ok.lowT c n)⟩
theorem dLowX (c n : Int) (h : DuT W0 g gx A X bx W) :
    Calls Try.prog 20 #[.pointer (some ⟨gx, 0, none⟩), .int .i64 c, .int .i64 n] W fun e w' => e = .returned (.int .i64 (lowA X c n)) ∧ DuT W0 g gx A (lowT X c n) bx w' := by
  obtain ⟨TS, TX, h1, h2, h3, h4, h5, h0⟩ := h.ex
  refine (rLow W gx TX X c n h2 (fun c => (h.okx.cli c).2.1)).mono ?_
  rintro e w' ⟨rfl, TX', h6, h7⟩
  exact ⟨rfl, h.stepX h1 h3 h4 h5 h0 h6 h7 (h.okx.lowT c n)⟩
theorem dMark (c : Int) (h : DuT W0 g gx A X bx W) (hc : okI c) :
    Calls Try.prog 15 #[.pointer (some ⟨g, 0, none⟩), .int .i64 c] W fun e w' => e = .returned (.int .i64 (markM A c)) ∧ DuT W0 g gx A X bx w' := by
  obtain ⟨TS, TX, h1, h2, h3, h4, h5, h0⟩ := h.ex
  refine (xMark W g TS A c h1 hc).mono ?_
  rintro e w' ⟨rfl, hf⟩
  exact ⟨rfl, h.keep hf⟩
theorem dLen (c : Int) (h : DuT W0 g gx A X bx W) (hc : okI c) :
    Calls Try.prog 14 #[.pointer (some ⟨g, 0, none⟩), .int .i64 c] W fun e w' => e = .returned (.int .i64 (lenM A c)) ∧ W = w' := by
  obtain ⟨TS, TX, h1, h2, h3, h4, h5, h0⟩ := h.ex
  exact xLen W g TS A c h1 hc
theorem dLooks (h : DuT W0 g gx A A bx W) :
    Calls Try.prog 22 #[.pointer (some ⟨g, 0, none⟩), .pointer (some ⟨gx, 0, none⟩)] W fun e w' => e = .returned (.bool true) ∧ DuT W0 g gx A A bx w' := by
  obtain ⟨TS, TX, h1, h2, h3, h4, h5, h0⟩ := h.ex
  refine (wLooks W g gx TS TX A h1 h2 h.ok).mono ?_
  rintro e w' ⟨rfl, hb⟩
  exact ⟨rfl, h.keep (Fr.below hb)⟩
theorem tab_len {A : Tbl} (h : Good A) : (((tabC A).flatten).length : Int) ≤ 1000000 := by
  have h1 := tabs_len h.all
  have h2 := h.len
  have h3 := numB_le (n := (A.length : Int)) (k := 1) (by omega) (by omega) (by omega)
  have e : (tabC A).flatten = numB (A.length : Int) ++ (A.flatMap cliC).flatten := by simp [tabC]
  rw [e, List.length_append]
  omega
theorem dPack (h : DuT W0 g gx A X bx W) :
    Calls Try.prog 17 #[.pointer (some ⟨g, 0, none⟩)] W fun e w' => ∃ v, e = .returned v ∧ Bs w' v (tabC A).flatten ∧ DuT W0 g gx A X bx w' := by
  obtain ⟨TS, TX, h1, h2, h3, h4, h5, h0⟩ := h.ex
  refine (xPack W g TS A h1 h.ok).mono ?_
  rintro e w' ⟨hb, v, rfl, hv⟩
  exact ⟨v, rfl, hv.1, h.keep (Fr.below hb)⟩
theorem dUnpack {v : Value} (h : DuT W0 g gx A X bx W) (hv : Bs W v (tabC A).flatten) :
    Calls Try.prog 21 #[v] W fun e w' => ∃ g', e = .returned (.tuple #[.pointer (some ⟨g', 0, none⟩), .int .i64 0]) ∧ DuT W0 g' gx A X bx w' := by
  obtain ⟨TS, TX, h1, h2, h3, h4, h5, h0⟩ := h.ex
  refine (iUnpack W v _ hv (by have := tab_len h.ok; omega) (tabC_byt h.ok)).mono ?_
  rw [unpT_give h.ok]
  rintro e w' ⟨hb, (⟨h6, -⟩ | ⟨A', g', TS', h6, rfl, h7, h8⟩)⟩
  · cases h6
  · cases h6
    have hf := Fr.below (S := fun _ => False) hb
    have hs := h.fr.size
    exact ⟨g', rfl, ⟨TS', TX, h7, h2.fr hf (fun _ _ e => e), fun b hb => by have := h8 b hb; omega, h4, fun b hb hx => by have := h8 b hb; have := h2.lt b hx; omega, fun q e => ⟨hf.at_ (h0 q e).1 (fun e => e), fun hb => by have := h8 _ hb; have := (Array.getElem?_eq_some_iff.1 (h0 q e).1).1; omega, (h0 q e).2.2⟩⟩, h.fr.trans (hf.mono (fun _ _ e => e.elim)), h.ok, h.okx⟩
end
end Go.Proofs.Ytakjiicnbocjeaa
