/- stock's law StockDoes: a stock and the document's stock side by side, and every call at either. -/
import Derived.Test.YtclgmnobockfnaaStkDoesM15
import Derived.Test.YtclgmnobockfnaaStkDoesM27
import Derived.Test.YtclgmnobockfnaaStkDoesM30
import Derived.Test.YtclgmnobockfnaaStkDoesM32
namespace Go.Proofs.Ytclgmnobockfnaa
open Go.RowKit Go.Maps
/-- Stock g says A, the document's stock gx says X; all that lay in W0 is as it was; the law's own box ob holds O. -/
structure DuI (W0 : World) (g gx : Nat) (A X : Stk) (ob : Nat) (O : Option Obj) (W : World) : Prop where
  ex : ∃ TS TX, SA W g TS A ∧ RS W gx TX X ∧ (∀ b, TS b → W0.heap.size ≤ b) ∧ (∀ b, TX b → W0.heap.size ≤ b) ∧ (∀ b, TS b → ¬ TX b) ∧ ∀ o, O = some o → W.heap[ob]? = some o ∧ ¬ TS ob ∧ ¬ TX ob
  fr : Fr (fun b => W0.heap.size ≤ b) W0 W
  ok : SOk A
  okx : SOk X
section
variable {W0 W W' : World} {g gx ob : Nat} {A X : Stk} {O : Option Obj}
theorem DuI.keep (h : DuI W0 g gx A X ob O W) (hf : Fr (fun _ => False) W W') : DuI W0 g gx A X ob O W' := by
  obtain ⟨TS, TX, h1, h2, h3, h4, h5, h0⟩ := h.ex
  exact ⟨⟨TS, TX, h1.fr hf (fun _ _ e => e), h2.fr hf (fun _ _ e => e), h3, h4, h5, fun o e => ⟨hf.at_ (h0 o e).1 (fun e => e), (h0 o e).2⟩⟩, h.fr.trans (hf.mono (fun _ _ e => e.elim)), h.ok, h.okx⟩
theorem DuI.stepA {B : Stk} {TS TS' TX : Nat → Prop} (h : DuI W0 g gx A X ob O W) (h2 : RS W gx TX X) (h3 : ∀ b, TS b → W0.heap.size ≤ b) (h4 : ∀ b, TX b → W0.heap.size ≤ b) (h5 : ∀ b, TS b → ¬ TX b) (h0 : ∀ o, O = some o → W.heap[ob]? = some o ∧ ¬ TS ob ∧ ¬ TX ob)
    (hB : SA W' g TS' B) (hs : Stp TS W W' TS') (hk : SOk B) : DuI W0 g gx B X ob O W' := by
  refine ⟨⟨TS', TX, hB, h2.fr hs.1 (fun b hb e => h5 b e hb), hs.low h3 h.fr.size, h4, fun b hb hx => ?_, fun o e => ⟨hs.1.at_ (h0 o e).1 (h0 o e).2.1, fun hb => ?_, (h0 o e).2.2⟩⟩, hs.fr h.fr h3, hk, h.okx⟩
  · rcases hs.2 b hb with e | e
    · exact h5 b e hx
    · have := h2.lt b hx; omega
  · rcases hs.2 _ hb with e2 | e2
    · exact (h0 o e).2.1 e2
    · have := (Array.getElem?_eq_some_iff.1 (h0 o e).1).1; omega
theorem DuI.stepX {Y : Stk} {TS TX TX' : Nat → Prop} (h : DuI W0 g gx A X ob O W) (h1 : SA W g TS A) (h3 : ∀ b, TS b → W0.heap.size ≤ b) (h4 : ∀ b, TX b → W0.heap.size ≤ b) (h5 : ∀ b, TS b → ¬ TX b) (h0 : ∀ o, O = some o → W.heap[ob]? = some o ∧ ¬ TS ob ∧ ¬ TX ob)
    (hY : RS W' gx TX' Y) (hs : Stp TX W W' TX') (hk : SOk Y) : DuI W0 g gx A Y ob O W' := by
  refine ⟨⟨TS, TX', h1.fr hs.1 (fun b hb e => h5 b hb e), hY, h3, hs.low h4 h.fr.size, fun b hb hx => ?_, fun o e => ⟨hs.1.at_ (h0 o e).1 (h0 o e).2.2, (h0 o e).2.1, fun hb => ?_⟩⟩, hs.fr h.fr h4, h.ok, hk⟩
  · rcases hs.2 b hx with e | e
    · exact h5 b hb e
    · have := h1.lt b hb; omega
  · rcases hs.2 _ hb with e2 | e2
    · exact (h0 o e).2.2 e2
    · have := (Array.getElem?_eq_some_iff.1 (h0 o e).1).1; omega
theorem DuI.il {v : Value} {L : Its} (h : DuI W0 g gx A X ob O W) (hv : Il W0 v L) : Il W v L := hv.fr h.fr (fun b hb => hb)
theorem DuI.ops {v : Value} {L : List SOpV} (h : DuI W0 g gx A X ob O W) (hv : SOps W0 v L) : SOps W v L := hv.fr h.fr (fun b hb => hb)
end
/-- A box is laid. -/
theorem DuI.box {W0 W : World} {g gx : Nat} {A X : Stk} (h : DuI W0 g gx A X 0 none W) (o : Obj) : DuI W0 g gx A X W.heap.size (some o) (W.alloc o) := by
  obtain ⟨TS, TX, h1, h2, h3, h4, h5, -⟩ := h.ex
  have hf : Fr (fun _ => False) W (W.alloc o) := (Fr.refl _ W).alloc _
  exact ⟨⟨TS, TX, h1.fr hf (fun _ _ e => e), h2.fr hf (fun _ _ e => e), h3, h4, h5, fun o' e => by cases e; exact ⟨heap_new _ _, fun e => by have := h1.lt _ e; omega, fun e => by have := h2.lt _ e; omega⟩⟩, h.fr.trans (hf.mono (fun _ _ e => e.elim)), h.ok, h.okx⟩
theorem DuI.unbox {W0 W : World} {g gx ob : Nat} {A X : Stk} {O : Option Obj} (h : DuI W0 g gx A X ob O W) : DuI W0 g gx A X 0 none W := by
  obtain ⟨TS, TX, h1, h2, h3, h4, h5, -⟩ := h.ex
  exact ⟨⟨TS, TX, h1, h2, h3, h4, h5, fun o e => by cases e⟩, h.fr, h.ok, h.okx⟩
theorem DuI.bx {W0 W : World} {g gx ob : Nat} {A X : Stk} {o : Obj} (h : DuI W0 g gx A X ob (some o) W) : W.heap[ob]? = some o := by
  obtain ⟨TS, TX, -, -, -, -, -, h0⟩ := h.ex
  exact (h0 o rfl).1
theorem dDo {W0 W : World} {g gx ob : Nat} {A X : Stk} {O : Option Obj} {v : Value} {L : Its} (k : Int) (h : DuI W0 g gx A X ob O W) (hv : Il W v L) :
    Calls Try.prog 12 #[.pointer (some ⟨g, 0, none⟩), .int .i64 k, v] W fun e w' => e = .returned (.int .i64 (doS A k L).1) ∧ DuI W0 g gx (doS A k L).2 X ob O w' := by
  obtain ⟨TS, TX, h1, h2, h3, h4, h5, h0⟩ := h.ex
  refine (sDo W g TS A k v L h1 h.ok hv).mono ?_
  rintro e w' ⟨rfl, TS', h6, h7⟩
  exact ⟨rfl, h.stepA h2 h3 h4 h5 h0 h6 h7 (doS_ok h.ok)⟩
theorem dDoX {W0 W : World} {g gx ob : Nat} {A X : Stk} {O : Option Obj} {v : Value} {L : Its} (k : Int) (h : DuI W0 g gx A X ob O W) (hv : Il W v L) :
    Calls Try.prog 22 #[.pointer (some ⟨gx, 0, none⟩), .int .i64 k, v] W fun e w' => e = .returned (.int .i64 (doS X k L).1) ∧ DuI W0 g gx A (doS X k L).2 ob O w' := by
  obtain ⟨TS, TX, h1, h2, h3, h4, h5, h0⟩ := h.ex
  refine (r7Do W gx TX X k v L h2 h.okx hv).mono ?_
  rintro e w' ⟨rfl, TX', h6, h7⟩
  exact ⟨rfl, h.stepX h1 h3 h4 h5 h0 h6 h7 (doS_ok h.okx)⟩
theorem dCount {W0 W : World} {g gx ob : Nat} {A X : Stk} {O : Option Obj} {s : Str} (n : Int) (h : DuI W0 g gx A X ob O W) (hs : okS s) :
    Calls Try.prog 19 #[.pointer (some ⟨g, 0, none⟩), vS s, .int .i64 n] W fun e w' => e = .returned (.tuple #[.int .i64 (countS A s n).1, .int .i64 (countS A s n).2.1]) ∧ DuI W0 g gx (countS A s n).2.2 X ob O w' := by
  obtain ⟨TS, TX, h1, h2, h3, h4, h5, h0⟩ := h.ex
  refine (sCount W g TS A s n h1 hs h.ok).mono ?_
  rintro e w' ⟨rfl, h6, h7⟩
  exact ⟨rfl, h.stepA h2 h3 h4 h5 h0 h6 ⟨h7, fun b hb => .inl hb⟩ (countS_ok h.ok)⟩
theorem dCountX {W0 W : World} {g gx ob : Nat} {A X : Stk} {O : Option Obj} {s : Str} (n : Int) (h : DuI W0 g gx A X ob O W) :
    Calls Try.prog 20 #[.pointer (some ⟨gx, 0, none⟩), vS s, .int .i64 n] W fun e w' => e = .returned (.tuple #[.int .i64 (countS X s n).1, .int .i64 (countS X s n).2.1]) ∧ DuI W0 g gx A (countS X s n).2.2 ob O w' := by
  obtain ⟨TS, TX, h1, h2, h3, h4, h5, h0⟩ := h.ex
  refine (r7Count W gx TX X s n h2 h.okx).mono ?_
  rintro e w' ⟨rfl, TX', h6, h7⟩
  exact ⟨rfl, h.stepX h1 h3 h4 h5 h0 h6 h7 (countS_ok h.okx)⟩
theorem dOffer {W0 W : World} {g gx ob : Nat} {A X : Stk} {O : Option Obj} {v : Value} {L : Its} (h : DuI W0 g gx A X ob O W) (hv : Il W v L) :
    Calls Try.prog 23 #[.pointer (some ⟨g, 0, none⟩), v] W fun e w' => ∃ v', e = .returned v' ∧ Il w' v' (if mayL L = true then offerS A L else []) ∧ DuI W0 g gx A X ob O w' ∧ Fr (fun _ => False) W w' := by
  obtain ⟨TS, TX, h1, h2, h3, h4, h5, h0⟩ := h.ex
  refine (sOffer W g TS A v L h1 h.ok hv).mono ?_
  rintro e w' ⟨v', rfl, h6, h7, h8⟩
  exact ⟨v', rfl, h6, h.keep h8, h8⟩
theorem dFree {W0 W : World} {g gx ob : Nat} {A X : Stk} {O : Option Obj} {v : Value} {L : Its} (h : DuI W0 g gx A X ob O W) (hv : Il W v L) (hm : mayL L = true) :
    Calls Try.prog 26 #[.pointer (some ⟨gx, 0, none⟩), v] W fun e w' => ∃ v', e = .returned v' ∧ Il w' v' (offerS X L) ∧ DuI W0 g gx A X ob O w' ∧ Fr (fun _ => False) W w' := by
  obtain ⟨TS, TX, h1, h2, h3, h4, h5, h0⟩ := h.ex
  refine (r7Free W gx TX X v L h2 h.okx hv hm).mono ?_
  rintro e w' ⟨v', rfl, h6, h7, h8⟩
  exact ⟨v', rfl, h6, h.keep h8, h8⟩
theorem dLooks {W0 W : World} {g gx ob : Nat} {A : Stk} {O : Option Obj} (h : DuI W0 g gx A A ob O W) :
    Calls Try.prog 16 #[.pointer (some ⟨g, 0, none⟩), .pointer (some ⟨gx, 0, none⟩)] W fun e w' => e = .returned (.bool true) ∧ DuI W0 g gx A A ob O w' ∧ Fr (fun _ => False) W w' := by
  obtain ⟨TS, TX, h1, h2, h3, h4, h5, h0⟩ := h.ex
  refine (tLooks W g gx TS TX A h1 h2 h.ok).mono ?_
  rintro e w' ⟨rfl, h8⟩
  exact ⟨rfl, h.keep h8, h8⟩
theorem dPack {W0 W : World} {g gx ob : Nat} {A X : Stk} {O : Option Obj} (h : DuI W0 g gx A X ob O W) :
    Calls Try.prog 13 #[.pointer (some ⟨g, 0, none⟩)] W fun e w' => ∃ v, e = .returned v ∧ Bs w' v (packS A) ∧ (∀ b, v.ownBlock = some b → b < w'.heap.size) ∧ DuI W0 g gx A X ob O w' ∧ Fr (fun _ => False) W w' := by
  obtain ⟨TS, TX, h1, h2, h3, h4, h5, h0⟩ := h.ex
  refine (sPack W g TS A h1 h.ok).mono ?_
  rintro e w' ⟨v, rfl, h6, h7⟩
  exact ⟨v, rfl, (Bs.own h6 (packS_byt h.ok)).1, fun b hb => (h6.lt b hb).2, h.keep h7, h7⟩
theorem dPackX {W0 W : World} {g gx ob : Nat} {A X : Stk} {O : Option Obj} (h : DuI W0 g gx A X ob O W) :
    Calls Try.prog 27 #[.pointer (some ⟨gx, 0, none⟩)] W fun e w' => ∃ v, e = .returned v ∧ Bs w' v (packS X) ∧ DuI W0 g gx A X ob O w' ∧ Fr (fun _ => False) W w' := by
  obtain ⟨TS, TX, h1, h2, h3, h4, h5, h0⟩ := h.ex
  refine (r7Pack W gx TX X h2 h.okx).mono ?_
  rintro e w' ⟨v, rfl, h6, h7⟩
  exact ⟨v, rfl, (Bs.own h6 (packS_byt h.okx)).1, h.keep h7, h7⟩
/-- What was packed is unpacked: another stock, that says the same. -/
theorem dUnpack {W0 W : World} {g gx ob : Nat} {A X : Stk} {O : Option Obj} {v : Value} (h : DuI W0 g gx A X ob O W) (hv : Bs W v (packS A)) (hb : ∀ b, v.ownBlock = some b → b < W.heap.size) :
    Calls Try.prog 14 #[v] W fun e w' => ∃ g', e = .returned (.tuple #[.pointer (some ⟨g', 0, none⟩), .int .i64 0]) ∧ DuI W0 g' gx A X ob O w' := by
  obtain ⟨TS, TX, h1, h2, h3, h4, h5, h0⟩ := h.ex
  refine (sUnpack W v (packS A) hv (by have := packS_len h.ok; omega) (packS_byt h.ok) hb).mono ?_
  rw [unpS_pack h.ok]
  rintro e w' ⟨hf, g', TS', rfl, h6, h7⟩
  have hs := h.fr.size
  exact ⟨g', rfl, ⟨TS', TX, h6, h2.fr hf (fun _ _ e => e), fun b hb => by have := h7 b hb; omega, h4, fun b hb hx => by have := h7 b hb; have := h2.lt b hx; omega, fun o e => ⟨hf.at_ (h0 o e).1 (fun e => e), fun hb => by have := h7 _ hb; have := (Array.getElem?_eq_some_iff.1 (h0 o e).1).1; omega, (h0 o e).2.2⟩⟩, h.fr.trans (hf.mono (fun _ _ e => e.elim)), h.ok, h.okx⟩
/-- A stock, its fork, the document's stock. -/
structure FkI (W0 : World) (g c gx : Nat) (A C X : Stk) (ob : Nat) (O : Option Obj) (W : World) : Prop where
  ex : ∃ TS TC TX, SA W g TS A ∧ SA W c TC C ∧ RS W gx TX X ∧ (∀ b, TS b → W0.heap.size ≤ b) ∧ (∀ b, TC b → W0.heap.size ≤ b) ∧ (∀ b, TX b → W0.heap.size ≤ b) ∧ (∀ b, TS b → ¬ TX b) ∧ (∀ b, TS b → ¬ TC b) ∧ (∀ b, TC b → ¬ TX b) ∧ ∀ o, O = some o → W.heap[ob]? = some o ∧ ¬ TS ob ∧ ¬ TC ob ∧ ¬ TX ob
  fr : Fr (fun b => W0.heap.size ≤ b) W0 W
  ok : SOk A
  okc : SOk C
  okx : SOk X
theorem FkI.drop {W0 W : World} {g c gx ob : Nat} {A C X : Stk} {O : Option Obj} (h : FkI W0 g c gx A C X ob O W) : DuI W0 c gx C X ob O W := by
  obtain ⟨TS, TC, TX, h1, h2, h3, h4, h5, h6, h7, h8, h9, h0⟩ := h.ex
  exact ⟨⟨TC, TX, h2, h3, h5, h6, h9, fun o e => ⟨(h0 o e).1, (h0 o e).2.2⟩⟩, h.fr, h.okc, h.okx⟩
theorem FkI.step {W0 W W' : World} {g c gx ob : Nat} {A B C X : Stk} {O : Option Obj} {TS TS' TC TX : Nat → Prop} (h : FkI W0 g c gx A C X ob O W) (h2 : SA W c TC C) (h3 : RS W gx TX X) (h4 : ∀ b, TS b → W0.heap.size ≤ b) (h5 : ∀ b, TC b → W0.heap.size ≤ b) (h6 : ∀ b, TX b → W0.heap.size ≤ b)
    (h7 : ∀ b, TS b → ¬ TX b) (h8 : ∀ b, TS b → ¬ TC b) (h9 : ∀ b, TC b → ¬ TX b) (h0 : ∀ o, O = some o → W.heap[ob]? = some o ∧ ¬ TS ob ∧ ¬ TC ob ∧ ¬ TX ob) (hB : SA W' g TS' B) (hs : Stp TS W W' TS') (hk : SOk B) : FkI W0 g c gx B C X ob O W' := by
  refine ⟨⟨TS', TC, TX, hB, h2.fr hs.1 (fun b hb e => h8 b e hb), h3.fr hs.1 (fun b hb e => h7 b e hb), hs.low h4 h.fr.size, h5, h6, fun b hb hx => ?_, fun b hb hx => ?_, h9, fun o e => ⟨hs.1.at_ (h0 o e).1 (h0 o e).2.1, fun hb => ?_, (h0 o e).2.2⟩⟩, hs.fr h.fr h4, hk, h.okc, h.okx⟩
  · rcases hs.2 b hb with e | e
    · exact h7 b e hx
    · have := h3.lt b hx; omega
  · rcases hs.2 b hb with e | e
    · exact h8 b e hx
    · have := h2.lt b hx; omega
  · rcases hs.2 _ hb with e2 | e2
    · exact (h0 o e).2.1 e2
    · have := (Array.getElem?_eq_some_iff.1 (h0 o e).1).1; omega
theorem dFork {W0 W : World} {g gx ob : Nat} {A X : Stk} {O : Option Obj} (h : DuI W0 g gx A X ob O W) :
    Calls Try.prog 21 #[.pointer (some ⟨g, 0, none⟩)] W fun e w' => ∃ c, e = .returned (.pointer (some ⟨c, 0, none⟩)) ∧ FkI W0 g c gx A A X ob O w' := by
  obtain ⟨TS, TX, h1, h2, h3, h4, h5, h0⟩ := h.ex
  refine (sFork W g TS A h1).mono ?_
  rintro e w' ⟨c, TC, rfl, h6, h7, h8⟩
  have hs := h.fr.size
  exact ⟨c, rfl, ⟨TS, TC, TX, h1.fr h7 (fun _ _ e => e), h6, h2.fr h7 (fun _ _ e => e), h3, fun b hb => by have := h8 b hb; omega, h4, h5, fun b hb hx => by have := h1.lt b hb; have := h8 b hx; omega, fun b hb hx => by have := h2.lt b hx; have := h8 b hb; omega, fun o e => ⟨h7.at_ (h0 o e).1 (fun e => e), (h0 o e).2.1, fun hb => by have := h8 _ hb; have := (Array.getElem?_eq_some_iff.1 (h0 o e).1).1; omega, (h0 o e).2.2⟩⟩, h.fr.trans (h7.mono (fun _ _ e => e.elim)), h.ok, h.ok, h.okx⟩
theorem FkI.bx {W0 W : World} {g c gx ob : Nat} {A C X : Stk} {o : Obj} (h : FkI W0 g c gx A C X ob (some o) W) : W.heap[ob]? = some o := by
  obtain ⟨TS, TC, TX, -, -, -, -, -, -, -, -, -, h0⟩ := h.ex
  exact (h0 o rfl).1
theorem FkI.il {W0 W : World} {g c gx ob : Nat} {A C X : Stk} {O : Option Obj} {v : Value} {L : Its} (h : FkI W0 g c gx A C X ob O W) (hv : Il W0 v L) : Il W v L := hv.fr h.fr (fun b hb => hb)
theorem fDo {W0 W : World} {g c gx ob : Nat} {A C X : Stk} {O : Option Obj} {v : Value} {L : Its} (k : Int) (h : FkI W0 g c gx A C X ob O W) (hv : Il W v L) :
    Calls Try.prog 12 #[.pointer (some ⟨g, 0, none⟩), .int .i64 k, v] W fun e w' => (∃ n, e = .returned (.int .i64 n)) ∧ FkI W0 g c gx (doS A k L).2 C X ob O w' := by
  obtain ⟨TS, TC, TX, h1, h2, h3, h4, h5, h6, h7, h8, h9, h0⟩ := h.ex
  refine (sDo W g TS A k v L h1 h.ok hv).mono ?_
  rintro e w' ⟨rfl, TS', h10, h11⟩
  exact ⟨⟨_, rfl⟩, h.step h2 h3 h4 h5 h6 h7 h8 h9 h0 h10 h11 (doS_ok h.ok)⟩
theorem fCount {W0 W : World} {g c gx ob : Nat} {A C X : Stk} {O : Option Obj} {s : Str} (n : Int) (h : FkI W0 g c gx A C X ob O W) (hs : okS s) :
    Calls Try.prog 19 #[.pointer (some ⟨g, 0, none⟩), vS s, .int .i64 n] W fun e w' => (∃ a b, e = .returned (.tuple #[.int .i64 a, .int .i64 b])) ∧ FkI W0 g c gx (countS A s n).2.2 C X ob O w' := by
  obtain ⟨TS, TC, TX, h1, h2, h3, h4, h5, h6, h7, h8, h9, h0⟩ := h.ex
  refine (sCount W g TS A s n h1 hs h.ok).mono ?_
  rintro e w' ⟨rfl, h10, h11⟩
  exact ⟨⟨_, _, rfl⟩, h.step h2 h3 h4 h5 h6 h7 h8 h9 h0 h10 ⟨h11, fun b hb => .inl hb⟩ (countS_ok h.ok)⟩
theorem Il.rd {w : World} {a : Option Addr} {n c : Nat} {L : Its} (h : Il w (.slice a n c) L) : Rd w 2 a L.length (itCs L) := by
  obtain ⟨_, a', c', e, h1⟩ := h
  injection e with e1 _ _
  refine ⟨itCs_len L, fun hm => ?_⟩
  obtain ⟨p0, hp0⟩ : ∃ p, L[0]? = some p := ⟨L[0], List.getElem?_eq_getElem hm⟩
  obtain ⟨-, -, ad, ha, -, -⟩ := h1 0 p0 hp0
  refine ⟨ad, by rw [e1, ha], fun j u hu => ?_⟩
  have hj := (List.getElem?_eq_some_iff.1 hu).1
  rw [itCs_len] at hj
  obtain ⟨i, hi⟩ : ∃ i, j = i * 2 ∨ j = i * 2 + 1 := ⟨j / 2, by omega⟩
  have hil : i < L.length := by omega
  obtain ⟨p, hp⟩ : ∃ p, L[i]? = some p := ⟨L[i], List.getElem?_eq_getElem hil⟩
  obtain ⟨-, -, ad', ha', k0, k1⟩ := h1 i p hp
  have : ad' = ad := by rw [ha] at ha'; exact (Option.some.inj ha').symm
  subst this
  obtain ⟨c0, c1⟩ := itCs_at hp
  rcases hi with rfl | rfl
  · rw [c0] at hu; cases hu; exact k0
  · rw [c1] at hu; cases hu; rw [add_field]; exact k1
end Go.Proofs.Ytclgmnobockfnaa
