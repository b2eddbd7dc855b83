/- stock's laws: a stock that a law made, and every call at it: what it answers, what it leaves. -/
import Derived.Test.YtclgmnobockfnaaStkDoesM9
import Derived.Test.YtclgmnobockfnaaStkDoesM10
import Derived.Test.YtclgmnobockfnaaStkDoesM14
import Derived.Test.YtclgmnobockfnaaStkDoesM1
namespace Go.Proofs.Ytclgmnobockfnaa
open Go.RowKit Go.Maps
/-- Stock g says A; all that lay in W0 is as it was. -/
structure StI (W0 : World) (g : Nat) (A : Stk) (W : World) : Prop where
  ex : ∃ TS, SA W g TS A ∧ ∀ b, TS b → W0.heap.size ≤ b
  fr : Fr (fun b => W0.heap.size ≤ b) W0 W
  ok : SOk A
theorem SOk.nil : SOk [] := ⟨List.Pairwise.nil, fun p hp => (by cases hp), fun p hp => (by cases hp), (by simp)⟩
section
variable {W0 W W' : World} {g : Nat} {A : Stk}
theorem StI.keep (h : StI W0 g A W) (hf : Fr (fun _ => False) W W') : StI W0 g A W' := by
  obtain ⟨TS, h1, h2⟩ := h.ex
  exact ⟨⟨TS, h1.fr hf (fun _ _ e => e), h2⟩, h.fr.trans (hf.mono (fun _ _ e => e.elim)), h.ok⟩
/-- Blocks of the caller's own, that are new and the stock's no more than W0's, may change. -/
theorem StI.old {w : World} (h : StI W0 g A W) (hf : Fr (fun b => w.heap.size ≤ b) w W0) (hs : w.heap.size ≤ W0.heap.size) : Fr (fun b => w.heap.size ≤ b) w W :=
  hf.trans (h.fr.mono (fun b _ e => Nat.le_trans hs e))
theorem StI.base {W1 : World} (h : StI W0 g A W) (hf : Fr (fun b => W1.heap.size ≤ b) W1 W0) (hs : W1.heap.size ≤ W0.heap.size) : StI W1 g A W := by
  obtain ⟨TS, h1, h2⟩ := h.ex
  exact ⟨⟨TS, h1, fun b hb => Nat.le_trans hs (h2 b hb)⟩, h.old hf hs, h.ok⟩
theorem StI.step {B : Stk} {TS TS' : Nat → Prop} (h : StI W0 g A W) (h2 : ∀ b, TS b → W0.heap.size ≤ b) (hB : SA W' g TS' B) (hs : Stp TS W W' TS') (hk : SOk B) : StI W0 g B W' := by
  refine ⟨⟨TS', hB, hs.low h2 h.fr.size⟩, hs.fr h.fr h2, hk⟩
end
theorem tNew (W : World) : Calls Try.prog 10 #[] W fun e w' => ∃ g, e = .returned (.pointer (some ⟨g, 0, none⟩)) ∧ StI W g [] w' := by
  refine (sgNew W).mono ?_
  rintro e w' ⟨g, TS, rfl, h1, h2, h3⟩
  exact ⟨g, rfl, ⟨TS, h1, h2⟩, h3.mono (fun _ _ e => e.elim), SOk.nil⟩
theorem tDo {W0 W : World} {g : Nat} {A : Stk} {v : Value} {L : Its} (k : Int) (h : StI W0 g A W) (hv : Il W v L) :
    Calls Try.prog 12 #[.pointer (some ⟨g, 0, none⟩), .int .i64 k, v] W fun e w' => e = .returned (.int .i64 (doS A k L).1) ∧ StI W0 g (doS A k L).2 w' := by
  obtain ⟨TS, h1, h2⟩ := h.ex
  refine (sDo W g TS A k v L h1 h.ok hv).mono ?_
  rintro e w' ⟨rfl, TS', h3, h4⟩
  exact ⟨rfl, h.step h2 h3 h4 (doS_ok h.ok)⟩
theorem tCount {W0 W : World} {g : Nat} {A : Stk} {s : Str} (n : Int) (h : StI W0 g A W) (hs : okS s) :
    Calls Try.prog 19 #[.pointer (some ⟨g, 0, none⟩), vS s, .int .i64 n] W fun e w' => e = .returned (.tuple #[.int .i64 (countS A s n).1, .int .i64 (countS A s n).2.1]) ∧ StI W0 g (countS A s n).2.2 w' := by
  obtain ⟨TS, h1, h2⟩ := h.ex
  refine (sCount W g TS A s n h1 hs h.ok).mono ?_
  rintro e w' ⟨rfl, h3, h4⟩
  exact ⟨rfl, h.step h2 h3 ⟨h4, fun b hb => .inl hb⟩ (countS_ok h.ok)⟩
/-- The string that a stock packs to. -/
def packStr (A : Stk) : ByteArray := strOfNums (packS A)
theorem tPack {W0 W : World} {g : Nat} {A : Stk} (h : StI W0 g A W) :
    Calls Try.prog 13 #[.pointer (some ⟨g, 0, none⟩)] W fun e w' => ∃ v, e = .returned v ∧ (convert 31 9 v).run Try.prog w' = .ok (.string (packStr A)) w' ∧ Fr (fun _ => False) W w' ∧ StI W0 g A w' := by
  obtain ⟨TS, h1, h2⟩ := h.ex
  refine (sPack W g TS A h1 h.ok).mono ?_
  rintro e w' ⟨v, rfl, h3, h4⟩
  exact ⟨v, rfl, (Bs.own h3 (packS_byt h.ok)).1.string, h4, h.keep h4⟩
theorem tFork {W0 W : World} {g : Nat} {A : Stk} (h : StI W0 g A W) :
    Calls Try.prog 21 #[.pointer (some ⟨g, 0, none⟩)] W fun e w' => ∃ g', e = .returned (.pointer (some ⟨g', 0, none⟩)) ∧ StI W g' A w' ∧ StI W0 g A w' := by
  obtain ⟨TS, h1, h2⟩ := h.ex
  refine (sFork W g TS A h1).mono ?_
  rintro e w' ⟨g', TS', rfl, h3, h4, h5⟩
  exact ⟨g', rfl, ⟨⟨TS', h3, h5⟩, h4.mono (fun _ _ e => e.elim), h.ok⟩, h.keep h4⟩
theorem tOffer {W0 W : World} {g : Nat} {A : Stk} {v : Value} {L : Its} (h : StI W0 g A W) (hv : Il W v L) :
    Calls Try.prog 23 #[.pointer (some ⟨g, 0, none⟩), v] W fun e w' => ∃ v', e = .returned v' ∧ Il w' v' (if mayL L = true then offerS A L else []) ∧ (∀ b, v'.ownBlock = some b → W.heap.size ≤ b ∧ b < w'.heap.size) ∧ Fr (fun _ => False) W w' ∧ StI W0 g A w' := by
  obtain ⟨TS, h1, h2⟩ := h.ex
  refine (sOffer W g TS A v L h1 h.ok hv).mono ?_
  rintro e w' ⟨v', rfl, h3, h4, h5⟩
  exact ⟨v', rfl, h3, h4, h5, h.keep h5⟩
/-- The op in a box of the law's own. -/
theorem StI.op {W0 W : World} {g ob : Nat} {A : Stk} {kd n : Int} {l s : Value} (h : StI W0 g A W) (hb : W0.heap[ob]? = some (.cells #[.int .i64 kd, l, s, .int .i64 n] 28)) :
    W.cell? ⟨ob, 0, none⟩ = some (.int .i64 kd) ∧ W.cell? ⟨ob, 1, none⟩ = some l ∧ W.cell? ⟨ob, 2, none⟩ = some s ∧ W.cell? ⟨ob, 3, none⟩ = some (.int .i64 n) := by
  have := h.fr.at_ hb (fun e => by have := (Array.getElem?_eq_some_iff.1 hb).1; omega)
  exact ⟨cell_obj this 0 _ rfl, cell_obj this 1 _ rfl, cell_obj this 2 _ rfl, cell_obj this 3 _ rfl⟩
theorem StI.drew {W0 W : World} {g : Nat} {A : Stk} (h : StI W0 g A W) : StI W0 g A W.drew := h.keep (Fr.refl _ W).drew
theorem StI.il {W0 W : World} {g : Nat} {A : Stk} {v : Value} {L : Its} (h : StI W0 g A W) (hv : Il W0 v L) : Il W v L := hv.fr h.fr (fun b hb => hb)
theorem StI.ops {W0 W : World} {g : Nat} {A : Stk} {v : Value} {L : List SOpV} (h : StI W0 g A W) (hv : SOps W0 v L) : SOps W v L := hv.fr h.fr (fun b hb => hb)
end Go.Proofs.Ytclgmnobockfnaa
