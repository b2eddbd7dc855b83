/- A region that draws its order: all its operations but the last only read (its calls may draw), and the last one (a store) waits for all: one walk in the text's order serves. -/
import Derived.BigQuiet
import Derived.StillTail
namespace Go.Proofs.YtlniekobijcanaaGreat
open Go
/-- The last operation, made harmless. -/
def idle (o : Oper) : Oper := { o with op := .assign (.const (.bool false)) }
section
variable {P : Program} {md : Region.Mode} {l : List Oper} {z : Oper} {C : World → Prop}
theorem idle_size : (l ++ [idle z]).toArray.size = (l ++ [z]).toArray.size := by simp
theorem idle_after (i : Nat) : ((l ++ [idle z]).toArray[i]?).map (·.after) = ((l ++ [z]).toArray[i]?).map (·.after) := by
  simp only [List.getElem?_toArray]
  rcases Nat.lt_trichotomy i l.length with h | h | h
  · rw [List.getElem?_append_left h, List.getElem?_append_left h]
  · subst h; simp [idle]
  · rw [List.getElem?_append_right (by omega), List.getElem?_append_right (by omega), List.getElem?_eq_none (by simp; omega), List.getElem?_eq_none (by simp; omega)]
theorem idle_dst (i : Nat) : ((l ++ [idle z]).toArray[i]?).bind (·.dst) = ((l ++ [z]).toArray[i]?).bind (·.dst) := by
  simp only [List.getElem?_toArray]
  rcases Nat.lt_trichotomy i l.length with h | h | h
  · rw [List.getElem?_append_left h, List.getElem?_append_left h]
  · subst h; simp [idle]
  · rw [List.getElem?_append_right (by omega), List.getElem?_append_right (by omega), List.getElem?_eq_none (by simp; omega), List.getElem?_eq_none (by simp; omega)]
theorem idle_ready (listed : Array Bool) : Region.ready md (l ++ [idle z]).toArray listed = Region.ready md (l ++ [z]).toArray listed := by
  unfold Region.ready
  rw [idle_size]
  refine List.filter_congr fun i _ => ?_
  have h := idle_after (l := l) (z := z) i
  congr 1
  generalize (l ++ [idle z]).toArray[i]? = x at *
  generalize (l ++ [z]).toArray[i]? = y at *
  cases x <;> cases y <;> simp at h ⊢
  rw [h]
theorem idle_yielded (tmps : Array Value) : yielded (l ++ [idle z]).toArray tmps = yielded (l ++ [z]).toArray tmps := by
  funext j
  unfold yielded
  rw [idle_dst]
theorem idle_wpOp {Q : Exit → Act → World → Prop} {i : Nat} (hi : i < l.length) (K : Act → World → Prop) (a : Act) (w : World) : wpOp P (l ++ [idle z]).toArray Q i K a w = wpOp P (l ++ [z]).toArray Q i K a w := by
  have h : (l ++ [idle z]).toArray[i]? = (l ++ [z]).toArray[i]? := by simp only [List.getElem?_toArray]; rw [List.getElem?_append_left hi, List.getElem?_append_left hi]
  unfold wpOp
  rw [h, idle_yielded]
theorem wpAny_done {ops : Array Oper} {Q : Exit → Act → World → Prop} {a : Act} {w : World} {listed : Array Bool} (h : Region.ready md ops listed = []) (hQ : Q .normal a w) : ∀ f, wpAny P md ops Q f listed a w
  | 0 => ⟨h, hQ⟩
  | f + 1 => ⟨fun _ => hQ, fun i hi => by rw [h] at hi; cases hi⟩
theorem wpAnyQ_done {ops : Array Oper} {Q : Act → Prop} {a : Act} {listed : Array Bool} (h : Region.ready md ops listed = []) : ∀ f, wpAnyQ P md ops C Q f listed a → Q a
  | 0, hq => hq.2
  | _ + 1, hq => hq.1 h
/-- Each operation waits for earlier ones only. -/
def acyB (md : Region.Mode) (ops : Array Oper) : Bool := (List.range ops.size).all fun k => match ops[k]? with
  | some o => o.after.all fun e => !Region.binds md e || decide (e.on < k)
  | none => true
theorem ready_some {ops : Array Oper} {listed : Array Bool} (ha : acyB md ops = true) (hs : listed.size = ops.size) : ∀ (n k : Nat), k < ops.size → k ≤ n → listed.getD k true = false → Region.ready md ops listed ≠ []
  | n, k, hk, hn, hu => by
    by_cases hall : ∀ j, j < k → listed.getD j false = true
    · intro e
      have : k ∈ Region.ready md ops listed := by
        refine mem_ready.2 ⟨hu, ops[k], Array.getElem?_eq_getElem hk, fun e he hb => ?_⟩
        have h1 := List.all_eq_true.1 ha k (List.mem_range.2 hk)
        rw [Array.getElem?_eq_getElem hk] at h1
        obtain ⟨i, hi, rfl⟩ := Array.mem_iff_getElem.1 he
        have h2 := Array.all_eq_true.1 h1 i hi
        simp only [hb, Bool.not_true, Bool.false_or, decide_eq_true_eq] at h2
        exact hall _ h2
      rw [e] at this; cases this
    · cases n with
      | zero => exact absurd (fun j hj => by omega) hall
      | succ n =>
        have : ∃ j, j < k ∧ listed.getD j false ≠ true := Classical.byContradiction fun h => hall fun j hj => Classical.byContradiction fun hne => h ⟨j, hj, hne⟩
        obtain ⟨j, hj, hne⟩ := this
        refine ready_some ha hs n j (by omega) (by omega) ?_
        exact getD_in (by omega) (by simpa using hne)
theorem quiet_tail_sim {Q : Exit → Act → World → Prop} (hs : Region.sinkB md (l ++ [z]).toArray l.length = true) (hc : Region.chainB md (l ++ [z]).toArray l.length = true) (ha : acyB md (l ++ [z]).toArray = true) (hd : z.dst = none) :
    ∀ (fuel : Nat) (listed : Array Bool) (a : Act) (w : World), C w → HeadInv md (l ++ [z]).toArray l.length listed →
      wpAnyQ P md (l ++ [idle z]).toArray C (fun a' => ∀ w', C w' → wpOp P (l ++ [z]).toArray Q l.length (fun a w => Q .normal a w) a' w') fuel listed a → wpAny P md (l ++ [z]).toArray Q fuel listed a w := by
  intro fuel
  have hsz : (l ++ [z]).toArray.size = l.length + 1 := by simp
  induction fuel with
  | zero =>
    intro listed a w hw inv h
    have h1 := h.1
    rw [idle_ready] at h1
    exact absurd h1 (ready_some ha inv.size _ l.length (by omega) (Nat.le_refl _) (inv.tail _ (Nat.le_refl _) (by omega)))
  | succ fuel ih =>
    intro listed a w hw inv h
    have hne := ready_some ha inv.size _ l.length (by omega) (Nat.le_refl _) (inv.tail _ (Nat.le_refl _) (by omega))
    refine ⟨fun e => absurd e hne, fun i hi => ?_⟩
    have hq := h.2 i (by rw [idle_ready]; exact hi)
    have hi1 : i < l.length + 1 := by
      obtain ⟨_, o, ho, _⟩ := mem_ready.1 hi
      have := (Array.getElem?_eq_some_iff.1 ho).1
      omega
    by_cases hil : i < l.length
    · rw [← idle_wpOp hil]
      exact wpOp_of_qOp hw (fun a' w' hw' hK => ih _ a' w' hw' (inv.set hi hil) hK) hq
    · have hin : i = l.length := by omega
      subst hin
      have hall : ∀ j, j < l.length → listed.getD j true = true := by
        intro j hj
        cases e : listed.getD j true with
        | true => rfl
        | false => exact absurd hi (tail_waits hs hc (by omega) inv _ j rfl hj e _ (Nat.le_refl _))
      have hdone : Region.ready md (l ++ [z]).toArray (listed.setIfInBounds l.length true) = [] := by
        rw [List.eq_nil_iff_forall_not_mem]
        intro j hj
        obtain ⟨hu, o, ho, _⟩ := mem_ready.1 hj
        have hjl := (Array.getElem?_eq_some_iff.1 ho).1
        by_cases e : j = l.length
        · subst e
          have hls : l.length < listed.size := by rw [inv.size]; omega
          simp [hls] at hu
        · rw [getD_set_ne true (fun h => e h.symm)] at hu
          rw [hall j (by omega)] at hu; cases hu
      have h0 : (l ++ [idle z]).toArray[l.length]? = some (idle z) := by simp
      obtain ⟨v, _, hK⟩ := yieldsIn_of_qOp h0 hq
      have hput : a.put (idle z).dst v = a := by
        have : (idle z).dst = none := hd
        rw [this]; rfl
      rw [hput] at hK
      have hQ := wpAnyQ_done (by rw [idle_ready]; exact hdone) _ hK w hw
      exact wpOp_mono (fun a' w' h' => wpAny_done hdone h' _) hQ
/-- What is asked of the region, apart from its walk. -/
def tailQ (l : List Oper) (n : Nat) : Bool :=
  decide (l.length = n + 1) && (match l[n]? with | some z => z.dst.isNone | none => false) && Region.sinkB .any l.toArray n && Region.chainB .any l.toArray n && acyB .any l.toArray && Region.lexB .any (l.take n ++ (l.drop n).map idle).toArray
theorem wp_region_quiet_tail {id : Nat} {Q : Exit → Act → World → Prop} {a : Act} {w : World} {l : List Oper} (n : Nat) (hm : P.follows .mixedOrders = true) (hB : tailQ l n = true)
    (h : wpQuiet P (l.take n ++ (l.drop n).map idle).toArray (fun w' => ∃ q, w' = w.drewN q) (fun a' => ∀ q, wpList P l.toArray Q (l.drop n) a' (w.drewN q)) (l.take n ++ (l.drop n).map idle) a) : (Code.region id l.toArray true).wp P Q a w := by
  simp only [tailQ, Bool.and_eq_true, decide_eq_true_eq] at hB
  obtain ⟨⟨⟨⟨⟨hl, hd⟩, hs⟩, hc⟩, ha⟩, hx⟩ := hB
  obtain ⟨z, hz⟩ : ∃ z, l[n]? = some z := ⟨l[n], List.getElem?_eq_getElem (by omega)⟩
  rw [hz] at hd
  have hdz : z.dst = none := by simpa using hd
  have hdr : l.drop n = [z] := by
    rw [List.drop_eq_getElem_cons (by omega), (List.getElem?_eq_some_iff.1 hz).2, List.drop_eq_nil_of_le (by omega)]
  obtain ⟨L, hL⟩ : ∃ L, l.take n = L := ⟨_, rfl⟩
  have hlL : l = L ++ [z] := by rw [← hL, ← hdr, List.take_append_drop]
  have hnL : L.length = n := by rw [← hL, List.length_take]; omega
  rw [hdr, hL, List.map_cons, List.map_nil] at h hx
  subst hlL
  subst hnL
  have hz0 : (L ++ [z]).toArray[L.length]? = some z := by simp
  have eQ : (fun a' => ∀ q, wpList P (L ++ [z]).toArray Q [z] a' (w.drewN q)) = (fun a' => ∀ w', (∃ q, w' = w.drewN q) → wpOp P (L ++ [z]).toArray Q L.length (fun a w => Q .normal a w) a' w') := by
    funext a'
    have e : ∀ q, wpList P (L ++ [z]).toArray Q [z] a' (w.drewN q) = wpOp P (L ++ [z]).toArray Q L.length (fun a w => Q .normal a w) a' (w.drewN q) := fun q => by
      unfold wpOp wpList
      simp only [hz0]
      rfl
    refine propext ⟨?_, fun h q => by rw [e]; exact h _ ⟨q, rfl⟩⟩
    rintro h w' ⟨q, rfl⟩
    rw [← e]; exact h q
  rw [eQ] at h
  refine wp_region_any hm ?_
  have hx' := hx
  simp only [Region.lexB, Bool.and_eq_true] at hx'
  have H := wpAnyQ_lex (P := P) (C := fun w' => ∃ q, w' = w.drewN q) (md := .any) hx'.1 (L ++ [idle z]) 0 (Array.replicate (L ++ [idle z]).toArray.size false) a (by simp) (by simpa using hx'.2) h
  have inv0 : HeadInv .any (L ++ [z]).toArray L.length (Array.replicate (L ++ [z]).toArray.size false) :=
    ⟨by simp, fun j oj _ hl => (by rw [getD_replicate_false] at hl; cases hl), fun t _ ht => getD_in (by simpa using ht) (getD_replicate_false _ _)⟩
  rw [idle_size, show (L ++ [idle z]).length = (L ++ [z]).toArray.size by simp] at H
  exact quiet_tail_sim (C := fun w' => ∃ q, w' = w.drewN q) hs hc ha hdz _ _ a { w with drawn := w.drawn + 1 } ⟨1, rfl⟩ inv0 H
end
end Go.Proofs.YtlniekobijcanaaGreat
