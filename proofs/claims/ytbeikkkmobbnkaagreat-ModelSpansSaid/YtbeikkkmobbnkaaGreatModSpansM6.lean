/- A region that draws its order, whose operations only read and whose calls may lay blocks, within a round of a range over a function: one walk in the text's order serves (the library's theorem on quiet regions asks for no round). -/
import Derived.Test.YtbeikkkmobbnkaaGreatModSpansM1
import Derived.Sort.QuietIn
namespace Go.Proofs.YtbeikkkmobbnkaaGreat
open Go.RowKit
section
variable {F : Fence} {n : Nat} {P : Program} {ops : Array Oper} {Q : Exit → Act → World → Prop} {md : Region.Mode}
/-- The operation is no 'defer'. -/
def notDefer (o : Oper) : Bool := match o.op with | .defer _ => false | _ => true
theorem notDefer_spec {o : Oper} (h : notDefer o = true) : ∀ c, o.op ≠ .defer c := fun c e => by
  unfold notDefer at h
  rw [e] at h
  cases h
theorem uponIn_inRound (l : Nat) {o : Oper} {a : Act} {next : Act → World → Prop} {r : Result Next} (h : o.uponIn F n P a next Q r) : o.uponIn (F.inRound l) n P a next Q r := h
theorem wpOpIn_inRound (l : Nat) (hro : F.round = none) (hnd : ∀ o ∈ ops, notDefer o = true) {i : Nat} {K : Act → World → Prop} {a : Act} {w : World} (hh : wpOpIn F n P ops Q i K a w) : wpOpIn (F.inRound l) n P ops Q i K a w := by
  unfold wpOpIn at *
  split
  · rename_i ho; simp only [ho] at hh; exact hh
  · rename_i o ho
    simp only [ho] at hh
    split
    · rename_i hw
      simp only [hw, if_true] at hh
      have hd := notDefer_spec (hnd o (Array.mem_of_getElem? ho))
      refine ⟨hh.1, ?_⟩
      have h2 := hh.2
      rw [hro, Oper.semAt_eq _ _ _ hd] at h2
      rw [Oper.semAt_eq _ _ _ hd]
      exact uponIn_inRound l h2
    · rename_i hw; simp only [hw] at hh; exact hh
theorem wpAnyIn_inRound (l : Nat) (hro : F.round = none) (hnd : ∀ o ∈ ops, notDefer o = true) : ∀ (fuel : Nat) (listed : Array Bool) (a : Act) (w : World), wpAnyIn F n P md ops Q fuel listed a w → wpAnyIn (F.inRound l) n P md ops Q fuel listed a w
  | 0, _, _, _, h => h
  | fuel + 1, _, _, _, h => ⟨h.1, fun i hi => wpOpIn_inRound l hro hnd (wpOpIn_mono (fun a w => wpAnyIn_inRound l hro hnd fuel _ a w) (h.2 i hi))⟩
theorem wpIn_region_quiet_round {C : World → Prop} {id l : Nat} {a : Act} {w : World} (hro : F.round = none) (hm : P.follows .mixedOrders = true) (hB : Region.lexB .any ops = true) (hnd : ops.all notDefer = true) (hC : C { w with drawn := w.drawn + 1 })
    (h : wpQuietIn F n P ops C (fun a' => ∀ w', C w' → Q .normal a' w') ops.toList a) : (Code.region id ops true).wpIn (F.inRound l) n P Q a w := by
  have hnd' : ∀ o ∈ ops, notDefer o = true := fun o ho => Array.all_eq_true_iff_forall_mem.1 hnd o ho
  simp only [Region.lexB, Bool.and_eq_true] at hB
  refine wpIn_region_any hm (wpAnyIn_inRound l hro hnd' _ _ _ _ (wpAnyIn_of_quiet (Q := fun a' => ∀ w', C w' → Q .normal a' w') hro (fun _ w' hw' h => h w' hw') _ _ _ _ hC ?_))
  have := wpAnyQIn_lex (F := F) (n := n) (C := C) (md := .any) hB.1 ops.toList 0 (Array.replicate ops.size false) a (by simp) (by simpa using hB.2) h
  simpa using this
theorem wpIn_region_fr_round {id l : Nat} {a : Act} {w : World} {L : List Oper} (hm : P.follows .mixedOrders = true) (hB : Region.lexB .any L.toArray = true) (hnd : L.toArray.all notDefer = true)
    (h : wpQuietIn Fence.wide n P L.toArray (fun w' => ∃ X : FrW w, w' = X.val) (fun a' => ∀ w', (∃ X : FrW w, w' = X.val) → Q .normal a' w') L a) : (Code.region id L.toArray true).wpIn (Fence.wide.inRound l) n P Q a w :=
  wpIn_region_quiet_round (F := Fence.wide) (C := fun w' => ∃ X : FrW w, w' = X.val) rfl hm hB hnd ⟨⟨_, (Fr.refl _ w).drew⟩, rfl⟩ (by simpa using h)
end
end Go.Proofs.YtbeikkkmobbnkaaGreat
