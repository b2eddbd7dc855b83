/- Texts of this claim, joined: A region that draws its order, whose operations only read, but for boxes of its own (each laid, and stored once): one walk in the text's order serves; A struct stored into a box of the region's own; bins: compare; bins: the closures of Put and Take. -/
import Derived.Test.YtefjdcghdcbojaaGreatBinsBackM1
import Derived.Test.YtefjdcghdcbojaaGreatBinsBackM4
import Derived.Test.YtefjdcghdcbojaaGreatBinsBackM2
import Derived.Deep.MidRow
import Derived.Deep.RegionHeld3
import Derived.Deep.CutBlock
import Derived.BigQuiet
import Derived.Deep.DeepCutAuto
namespace Go.Proofs.YtefjdcghdcbojaaGreat
open Go Go.RowKit
/-- A box: which operation lays it, in which slot, its type, its first cells; which operation stores there, out of which slot. -/
structure Bx where
  ia : Nat
  d : Tmp
  T : TypeId
  z : Array Value
  st : Nat
  s : Tmp
def idleU (o : Oper) : Oper := { o with op := .assign (.const undef) }
def boxedF (idx : List Nat) : Nat → List Oper → List Oper
  | _, [] => []
  | i, o :: r => (if idx.contains i then idleU o else o) :: boxedF idx (i + 1) r
def bxIdx (bx : List Bx) : List Nat := bx.flatMap fun b => [b.ia, b.st]
theorem boxedF_get (idx : List Nat) : ∀ (l : List Oper) (k i : Nat), (boxedF idx k l)[i]? = (l[i]?).map fun o => if idx.contains (k + i) then idleU o else o
  | [], _, _ => by simp [boxedF]
  | o :: r, k, 0 => by simp [boxedF]
  | o :: r, k, i + 1 => by
    simp only [boxedF, List.getElem?_cons_succ]
    rw [boxedF_get idx r (k + 1) i, show k + 1 + i = k + (i + 1) by omega]
section
variable {P : Program} {idx : List Nat} {l : List Oper} {md : Region.Mode}
theorem bxd_get (i : Nat) : (boxedF idx 0 l).toArray[i]? = (l.toArray[i]?).map fun o => if idx.contains i then idleU o else o := by
  rw [List.getElem?_toArray, List.getElem?_toArray, boxedF_get, Nat.zero_add]
theorem bxd_len : (boxedF idx 0 l).length = l.length := by
  suffices h : ∀ (l : List Oper) k, (boxedF idx k l).length = l.length from h l 0
  intro l
  induction l with
  | nil => intro k; rfl
  | cons o r ih => intro k; simp [boxedF, ih]
theorem bxd_size : (boxedF idx 0 l).toArray.size = l.toArray.size := by simp [bxd_len]
theorem bxd_after (i : Nat) : ((boxedF idx 0 l).toArray[i]?).map (·.after) = (l.toArray[i]?).map (·.after) := by
  rw [bxd_get]
  cases l.toArray[i]? with
  | none => rfl
  | some o => by_cases h : i ∈ idx <;> simp [h, idleU]
theorem bxd_dst (i : Nat) : ((boxedF idx 0 l).toArray[i]?).bind (·.dst) = (l.toArray[i]?).bind (·.dst) := by
  rw [bxd_get]
  cases l.toArray[i]? with
  | none => rfl
  | some o => by_cases h : i ∈ idx <;> simp [h, idleU]
theorem bxd_ready (listed : Array Bool) : Region.ready md (boxedF idx 0 l).toArray listed = Region.ready md l.toArray listed := by
  unfold Region.ready
  rw [bxd_size]
  refine List.filter_congr fun i _ => ?_
  have h := bxd_after (idx := idx) (l := l) i
  congr 1
  generalize (boxedF idx 0 l).toArray[i]? = x at *
  generalize l.toArray[i]? = y at *
  cases x <;> cases y <;> simp_all
theorem bxd_yielded (ts : Array Value) : yielded (boxedF idx 0 l).toArray ts = yielded l.toArray ts := by
  funext j
  unfold yielded
  rw [bxd_dst]
end
/-- Where all others have been written, the slots are as at the end. -/
theorem fin_at {P : Program} {md : Region.Mode} {ops : Array Oper} {C : World → Prop} {aF : Act} : ∀ (fuel : Nat) (listed : Array Bool) (a : Act), wpAnyQ P md ops C (fun x => x = aF) fuel listed a →
    ∀ t, (∀ (i : Nat) (o : Oper), ops[i]? = some o → listed.getD i true = false → o.dst ≠ some t) → a.tmps[t]? = aF.tmps[t]?
  | 0, _, a, h, t, _ => by have h2 : a = aF := h.2; rw [h2]
  | fuel + 1, listed, a, h, t, ht => by
    cases hr : Region.ready md ops listed with
    | nil => have h2 : a = aF := h.1 hr; rw [h2]
    | cons i r =>
      have hi : i ∈ Region.ready md ops listed := by rw [hr]; exact List.mem_cons_self
      have h1 := h.2 i hi
      obtain ⟨hun, o, ho, _⟩ := mem_ready.1 hi
      obtain ⟨v, _, hK⟩ := yieldsIn_of_qOp ho h1
      have h3 := fin_at fuel _ _ hK t (fun j oj hj hu => ht j oj hj (by
        by_cases e : i = j
        · subst e; exact hun
        · rwa [getD_set_ne true e] at hu))
      rw [← h3]
      have hd := ht i o ho hun
      cases hdd : o.dst with
      | none => rfl
      | some d =>
        have hne : d ≠ t := fun e => hd (by rw [hdd, e])
        simp [Act.put, Array.getElem?_setIfInBounds_ne hne]
def BxNe (b c : Bx) : Prop := b.ia ≠ c.ia ∧ b.ia ≠ c.st ∧ b.st ≠ c.ia ∧ b.st ≠ c.st ∧ b.d ≠ c.d
instance (b c : Bx) : Decidable (BxNe b c) := inferInstanceAs (Decidable (_ ∧ _))
theorem BxNe.symm {b c : Bx} (h : BxNe b c) : BxNe c b := ⟨Ne.symm h.1, Ne.symm h.2.2.1, Ne.symm h.2.1, Ne.symm h.2.2.2.1, Ne.symm h.2.2.2.2⟩
theorem bxNe_all : ∀ {bx : List Bx}, bx.Pairwise BxNe → ∀ b ∈ bx, ∀ c ∈ bx, b = c ∨ BxNe b c
  | [], _, b, hb, _, _ => by cases hb
  | x :: r, h, b, hb, c, hc => by
    obtain ⟨h1, h2⟩ := List.pairwise_cons.1 h
    rcases List.mem_cons.1 hb with hb' | hb' <;> rcases List.mem_cons.1 hc with hc' | hc'
    · exact .inl (hb'.trans hc'.symm)
    · exact .inr (hb' ▸ h1 c hc')
    · exact .inr (hc' ▸ (h1 b hb').symm)
    · exact bxNe_all h2 b hb' c hc'
/-- What is asked of the boxes. -/
def boxB (l : List Oper) (bx : List Bx) : Bool :=
  Region.noSelect l.toArray && decide (bx.Pairwise BxNe) && bx.all (fun b => b.ia != b.st) && acyB .any l.toArray &&
  bx.all (fun b =>
    (match l[b.ia]? with
     | some o => (match o.op with | .alloc T => T == b.T | _ => false) && o.dst == some b.d && o.guard.isNone
     | none => false) &&
    (match l[b.st]? with
     | some o => (match o.op with | .store T (.tmp d) (.tmp s) => T == b.T && d == b.d && s == b.s | _ => false) && o.dst.isNone && o.guard.isNone &&
        o.after.any (fun e => Region.binds .any e && e.on == b.ia) && o.after.any (fun e => Region.binds .any e && (match l[e.on]? with | some x => x.dst == some b.s | none => false))
     | none => false) &&
    bx.all (fun c => b.s != c.d)) &&
  (List.range l.length).all (fun i => (bxIdx bx).contains i || (match l[i]? with | some o => bx.all (fun b => !(o.looksAt l.toArray).contains b.d && o.dst != some b.d) | none => true)) &&
  (List.range l.length).all (fun i => (List.range l.length).all fun j => i == j || (match l[i]?, l[j]? with | some x, some y => x.dst.isNone || x.dst != y.dst | _, _ => true))
structure BxOk (l : List Oper) (bx : List Bx) : Prop where
  sel : Region.noSelect l.toArray = true
  ds : ∀ b ∈ bx, ∀ c ∈ bx, b = c ∨ BxNe b c
  dd : ∀ b ∈ bx, b.ia ≠ b.st
  acy : acyB .any l.toArray = true
  al : ∀ b ∈ bx, ∃ o, l[b.ia]? = some o ∧ o.op = .alloc b.T ∧ o.dst = some b.d ∧ o.guard = none
  st : ∀ b ∈ bx, ∃ o, l[b.st]? = some o ∧ o.op = .store b.T (.tmp b.d) (.tmp b.s) ∧ o.dst = none ∧ o.guard = none ∧ (∃ e ∈ o.after, Region.binds .any e = true ∧ e.on = b.ia) ∧ ∃ e ∈ o.after, Region.binds .any e = true ∧ ∃ x, l[e.on]? = some x ∧ x.dst = some b.s
  sd : ∀ b ∈ bx, ∀ c ∈ bx, b.s ≠ c.d
  ap : ∀ (i : Nat) (o : Oper), l[i]? = some o → i ∉ bxIdx bx → ∀ b ∈ bx, b.d ∉ o.looksAt l.toArray ∧ o.dst ≠ some b.d
  un : ∀ (i j : Nat) (x y : Oper) (t : Tmp), l[i]? = some x → l[j]? = some y → x.dst = some t → y.dst = some t → i = j
theorem boxB_ok {l : List Oper} {bx : List Bx} (h : boxB l bx = true) : BxOk l bx := by
  unfold boxB at h
  simp only [Bool.and_eq_true, List.all_eq_true, decide_eq_true_eq] at h
  obtain ⟨⟨⟨⟨⟨⟨h1, h2⟩, h3⟩, h4⟩, h5⟩, h6⟩, h7⟩ := h
  refine ⟨h1, bxNe_all h2, fun b hb => by simpa using h3 b hb, h4, fun b hb => ?_, fun b hb => ?_, fun b hb c hc => ?_, fun i o hi hn b hb => ?_, fun i j x y t hi hj hx hy => ?_⟩
  · have := (h5 b hb).1.1
    cases ho : l[b.ia]? with
    | none => rw [ho] at this; cases this
    | some o =>
      rw [ho] at this
      simp only [Bool.and_eq_true, beq_iff_eq, Option.isNone_iff_eq_none] at this
      obtain ⟨⟨g1, g2⟩, g3⟩ := this
      refine ⟨o, rfl, ?_, g2, g3⟩
      cases hop : o.op <;> rw [hop] at g1 <;> simp at g1
      rw [g1]
  · have := (h5 b hb).1.2
    cases ho : l[b.st]? with
    | none => rw [ho] at this; cases this
    | some o =>
      rw [ho] at this
      simp only [Bool.and_eq_true, beq_iff_eq, Option.isNone_iff_eq_none, Array.any_eq_true] at this
      obtain ⟨⟨⟨⟨g1, g2⟩, g3⟩, ⟨i, hi, g4⟩⟩, ⟨j, hj, g5⟩⟩ := this
      refine ⟨o, rfl, ?_, g2, g3, ⟨_, Array.getElem_mem hi, ?_, ?_⟩, ⟨_, Array.getElem_mem hj, ?_, ?_⟩⟩
      · revert g1
        split
        · rename_i T d s hop
          intro g1
          simp only [Bool.and_eq_true, beq_iff_eq] at g1
          obtain ⟨⟨rfl, rfl⟩, rfl⟩ := g1
          exact hop
        · intro g1; cases g1
      · exact g4.1
      · exact g4.2
      · exact g5.1
      · have g6 := g5.2
        cases hx : l[(o.after[j]).on]? with
        | none => rw [hx] at g6; cases g6
        | some x => rw [hx] at g6; exact ⟨x, rfl, by simpa using g6⟩
  · have := (h5 b hb).2 c hc
    simpa using this
  · have hil := (List.getElem?_eq_some_iff.1 hi).1
    have := h6 i (List.mem_range.2 hil)
    rw [hi] at this
    simp only [Bool.or_eq_true, List.contains_iff_mem, List.all_eq_true, Bool.and_eq_true] at this
    rcases this with h | h
    · exact absurd (by simpa using h) hn
    · have := h b hb
      simp at this
      exact ⟨this.1, this.2⟩
  · have hil := (List.getElem?_eq_some_iff.1 hi).1
    have hjl := (List.getElem?_eq_some_iff.1 hj).1
    have := h7 i (List.mem_range.2 hil) j (List.mem_range.2 hjl)
    rw [hi, hj] at this
    simp only [Bool.or_eq_true, beq_iff_eq] at this
    rcases this with h | h
    · exact h
    · rw [hx, hy] at h; simp at h
theorem put_out {a : Act} {dst : Option Tmp} {v : Value} {t : Nat} (h : dst ≠ some t) : (a.put dst v).tmps[t]? = a.tmps[t]? := by
  cases dst with
  | none => rfl
  | some d =>
    have hne : d ≠ t := fun e => h (by rw [e])
    simp [Act.put, Array.getElem?_setIfInBounds_ne hne]
theorem put_at {a : Act} {v : Value} {t : Nat} (h : t < a.tmps.size) : (a.put (some t) v).tmps[t]? = some v := by simp [Act.put, h]
theorem put_size {a : Act} {dst : Option Tmp} {v : Value} : (a.put dst v).tmps.size = a.tmps.size := by cases dst <;> simp [Act.put]
theorem put_dfr {a : Act} {dst : Option Tmp} {v : Value} : (a.put dst v).defers = a.defers := by cases dst <;> rfl
theorem put_same {a a' : Act} {dst : Option Tmp} {v : Value} {t : Nat} (h : a.tmps[t]? = a'.tmps[t]?) (hs : a.tmps.size = a'.tmps.size) : (a.put dst v).tmps[t]? = (a'.put dst v).tmps[t]? := by
  by_cases e : dst = some t
  · subst e
    by_cases ht : t < a.tmps.size
    · rw [put_at ht, put_at (by omega)]
    · rw [Array.getElem?_eq_none (by rw [put_size]; omega), Array.getElem?_eq_none (by rw [put_size]; omega)]
  · rw [put_out e, put_out e]; exact h
theorem act_ext {a b : Act} (h1 : a.defers = b.defers) (h2 : ∀ t : Nat, a.tmps[t]? = b.tmps[t]?) : a = b := by
  obtain ⟨x, y⟩ := a
  obtain ⟨z, u⟩ := b
  have : x = z := by
    apply Array.ext_getElem?
    exact h2
  subst this
  have h1' : y = u := h1
  rw [h1']
theorem look_congr {ops : Array Oper} {o : Oper} {a a' : Act} (hs : ∀ cs b, o.op ≠ .select cs b) (h : ∀ t ∈ o.looksAt ops, a.tmps[t]? = a'.tmps[t]?) :
    execOp a.eval o = execOp a'.eval o ∧ Region.wanted o (yielded ops a.tmps) = Region.wanted o (yielded ops a'.tmps) := by
  constructor
  · refine execOp_congr o hs (fun x hx => ?_)
    cases x with
    | tmp t =>
      have : t ∈ o.looksAt ops := by
        unfold Oper.looksAt
        refine List.mem_append_left _ (List.mem_filterMap.2 ⟨.tmp t, by simpa using hx, rfl⟩)
      simp [Act.eval, h t this]
    | _ => rfl
  · unfold Region.wanted
    cases hg : o.guard with
    | none => rfl
    | some q =>
      obtain ⟨g, want⟩ := q
      have : yielded ops a.tmps g = yielded ops a'.tmps g := by
        unfold yielded
        cases hd : (ops[g]?).bind (·.dst) with
        | none => rfl
        | some t =>
          have hm : t ∈ o.looksAt ops := by
            unfold Oper.looksAt
            refine List.mem_append_right _ ?_
            rw [hg]
            simp [hd]
          simp [h t hm]
      simp [this]
def bPtr (n : Nat) : Value := .pointer (some ⟨n, 0, none⟩)
def bSrc (aF : Act) (b : Bx) : Value := (aF.tmps[b.s]?).getD undef
structure BInv (l : List Oper) (bx : List Bx) (w0 : World) (aF : Act) (listed : Array Bool) (a' a : Act) (n : Nat → Nat) (w : World) : Prop where
  fr : Fr (fun _ => False) w0 w
  df : a.defers = a'.defers
  sz : a.tmps.size = a'.tmps.size
  out : ∀ t : Nat, (∀ b ∈ bx, listed.getD b.ia true = true → b.d ≠ t) → a.tmps[t]? = a'.tmps[t]?
  box : ∀ b ∈ bx, listed.getD b.ia true = true → a.tmps[b.d]? = some (bPtr (n b.ia)) ∧ w0.heap.size ≤ n b.ia ∧ w.heap[n b.ia]? = some (.cells (if listed.getD b.st true = true then (bSrc aF b).cells else b.z) b.T)
  ne : ∀ b ∈ bx, ∀ c ∈ bx, listed.getD b.ia true = true → listed.getD c.ia true = true → n b.ia = n c.ia → b = c
  ord : ∀ b ∈ bx, listed.getD b.st true = true → listed.getD b.ia true = true
  lsz : listed.size = l.length
  bnd : ∀ b ∈ bx, b.d < a.tmps.size
theorem ia_idx {bx : List Bx} {b : Bx} (h : b ∈ bx) : b.ia ∈ bxIdx bx := List.mem_flatMap.2 ⟨b, h, by simp⟩
theorem st_idx {bx : List Bx} {b : Bx} (h : b ∈ bx) : b.st ∈ bxIdx bx := List.mem_flatMap.2 ⟨b, h, by simp⟩
theorem getD_set_same {xs : Array Bool} {i : Nat} (h : i < xs.size) : (xs.setIfInBounds i true).getD i true = true := by simp [h]
/-- A box is laid. -/
theorem BInv.laid {l : List Oper} {bx : List Bx} (ok : BxOk l bx) {w0 : World} {aF : Act} {listed : Array Bool} {a' a : Act} {n : Nat → Nat} {w : World} (h : BInv l bx w0 aF listed a' a n w) {b : Bx} (hb : b ∈ bx) (hu : listed.getD b.ia true = false) (hlt : b.ia < l.length) (v : Value) :
    BInv l bx w0 aF (listed.setIfInBounds b.ia true) (a'.put (some b.d) v) (a.put (some b.d) (bPtr w.heap.size)) (fun i => if i = b.ia then w.heap.size else n i) (w.alloc (.cells b.z b.T)) := by
  have hls := h.lsz
  have hset : (listed.setIfInBounds b.ia true).getD b.ia true = true := getD_set_same (by omega)
  have hst0 : listed.getD b.st true = false := by
    cases e : listed.getD b.st true with
    | false => rfl
    | true => have := h.ord b hb e; rw [hu] at this; cases this
  have hne : b.ia ≠ b.st := ok.dd b hb
  have hst1 : (listed.setIfInBounds b.ia true).getD b.st true = false := by rw [getD_set_ne true hne]; exact hst0
  have old : ∀ c ∈ bx, c ≠ b → (listed.setIfInBounds b.ia true).getD c.ia true = listed.getD c.ia true ∧ (listed.setIfInBounds b.ia true).getD c.st true = listed.getD c.st true ∧ c.d ≠ b.d ∧ c.ia ≠ b.ia := fun c hc hcb => by
    rcases ok.ds b hb c hc with e | ⟨h1, h2, _, _, h5⟩
    · exact absurd e.symm hcb
    · exact ⟨getD_set_ne true h1, getD_set_ne true h2, Ne.symm h5, Ne.symm h1⟩
  refine ⟨h.fr.alloc _, by rw [put_dfr, put_dfr, h.df], by rw [put_size, put_size, h.sz], fun t ht => ?_, fun c hc hl => ?_, fun c hc e he hl hm hn => ?_, fun c hc hl => ?_, by simp [h.lsz], fun c hc => by rw [put_size]; exact h.bnd c hc⟩
  · have h1 : (some b.d : Option Tmp) ≠ some t := fun e => ht b hb hset (by injection e)
    rw [put_out h1, put_out h1]
    refine h.out t (fun c hc hl => ?_)
    by_cases hcb : c = b
    · rw [hcb, hu] at hl; cases hl
    · exact ht c hc (by rw [(old c hc hcb).1]; exact hl)
  · by_cases hcb : c = b
    · subst hcb
      refine ⟨by rw [put_at (h.bnd c hc), if_pos rfl], by rw [if_pos rfl]; exact h.fr.size, ?_⟩
      rw [if_pos rfl, hst1, if_neg (by simp)]
      exact heap_new _ _
    · obtain ⟨o1, o2, o3, o4⟩ := old c hc hcb
      rw [o1] at hl
      obtain ⟨h1, h2, h3⟩ := h.box c hc hl
      refine ⟨by rw [put_out (fun e => o3 (by injection e with e; exact e.symm)), if_neg o4]; exact h1, by rw [if_neg o4]; exact h2, ?_⟩
      rw [if_neg o4, o2]
      exact heap_keep h3 _
  · by_cases hcb : c = b <;> by_cases heb : e = b
    · rw [hcb, heb]
    · obtain ⟨o1, _, _, o4⟩ := old e he heb
      rw [o1] at hm
      have := (Array.getElem?_eq_some_iff.1 (h.box e he hm).2.2).1
      rw [hcb, if_pos rfl, if_neg o4] at hn
      omega
    · obtain ⟨o1, _, _, o4⟩ := old c hc hcb
      rw [o1] at hl
      have := (Array.getElem?_eq_some_iff.1 (h.box c hc hl).2.2).1
      rw [heb, if_pos rfl, if_neg o4] at hn
      omega
    · obtain ⟨o1, _, _, o4⟩ := old c hc hcb
      obtain ⟨p1, _, _, p4⟩ := old e he heb
      rw [o1] at hl
      rw [p1] at hm
      rw [if_neg o4, if_neg p4] at hn
      exact h.ne c hc e he hl hm hn
  · by_cases hcb : c = b
    · rw [hcb]; exact hset
    · obtain ⟨o1, o2, _, _⟩ := old c hc hcb
      rw [o2] at hl
      rw [o1]
      exact h.ord c hc hl
/-- A box is stored. -/
theorem BInv.stored {l : List Oper} {bx : List Bx} (ok : BxOk l bx) {w0 : World} {aF : Act} {listed : Array Bool} {a' a : Act} {n : Nat → Nat} {w w' : World} (h : BInv l bx w0 aF listed a' a n w) {b : Bx} (hb : b ∈ bx) (hia : listed.getD b.ia true = true) (hlt : b.st < l.length)
    (hc : w'.heap[n b.ia]? = some (.cells (bSrc aF b).cells b.T)) (hf : Fr (fun c => c = n b.ia) w w') (v u : Value) :
    BInv l bx w0 aF (listed.setIfInBounds b.st true) (a'.put none v) (a.put none u) n w' := by
  have hls := h.lsz
  have hset : (listed.setIfInBounds b.st true).getD b.st true = true := getD_set_same (by omega)
  have hia' : ∀ c ∈ bx, (listed.setIfInBounds b.st true).getD c.ia true = listed.getD c.ia true := fun c hc => by
    refine getD_set_ne true ?_
    rcases ok.ds b hb c hc with e | e
    · rw [← e]; exact Ne.symm (ok.dd b hb)
    · exact e.2.2.1
  have hst' : ∀ c ∈ bx, c ≠ b → (listed.setIfInBounds b.st true).getD c.st true = listed.getD c.st true := fun c hc hcb => by
    rcases ok.ds b hb c hc with e | e
    · exact absurd e.symm hcb
    · exact getD_set_ne true e.2.2.2.1
  refine ⟨h.fr.trans' hf (fun x hx e => by have := (h.box b hb hia).2.1; omega), h.df, h.sz, fun t ht => h.out t (fun c hc hl => ht c hc (by rw [hia' c hc]; exact hl)), fun c hcm hl => ?_, fun c hc e he hl hm hn => ?_, fun c hcm hl => ?_, by simp [h.lsz], h.bnd⟩
  · rw [hia' c hcm] at hl
    obtain ⟨h1, h2, h3⟩ := h.box c hcm hl
    refine ⟨h1, h2, ?_⟩
    by_cases hcb : c = b
    · subst hcb
      rw [hset, if_pos rfl]
      exact hc
    · rw [hst' c hcm hcb]
      exact hf.at_ h3 (fun e => hcb (h.ne c hcm b hb hl hia e))
  · rw [hia' c hc] at hl
    rw [hia' e he] at hm
    exact h.ne c hc e he hl hm hn
  · rw [hia' c hcm]
    by_cases hcb : c = b
    · rw [hcb]; exact hia
    · rw [hst' c hcm hcb] at hl
      exact h.ord c hcm hl
/-- A core operation. -/
theorem BInv.core {l : List Oper} {bx : List Bx} {w0 : World} {aF : Act} {listed : Array Bool} {a' a : Act} {n : Nat → Nat} {w w' : World} (h : BInv l bx w0 aF listed a' a n w) (hf : Fr (fun _ => False) w w') {i : Nat} (hi : i ∉ bxIdx bx) {dst : Option Tmp} (hd : ∀ b ∈ bx, dst ≠ some b.d) (v : Value) :
    BInv l bx w0 aF (listed.setIfInBounds i true) (a'.put dst v) (a.put dst v) n w' := by
  have e : ∀ j, j ∈ bxIdx bx → (listed.setIfInBounds i true).getD j true = listed.getD j true := fun j hj => getD_set_ne true (fun e => hi (e ▸ hj))
  refine ⟨h.fr.trans hf, by rw [put_dfr, put_dfr, h.df], by rw [put_size, put_size, h.sz], fun t ht => put_same (h.out t (fun b hb hl => ht b hb (by rw [e _ (ia_idx hb)]; exact hl))) h.sz, fun b hb hl => ?_, fun b hb c hc hl hm => ?_, fun b hb hl => ?_, by simp [h.lsz], fun b hb => by rw [put_size]; exact h.bnd b hb⟩
  · rw [e _ (ia_idx hb)] at hl
    obtain ⟨h1, h2, h3⟩ := h.box b hb hl
    refine ⟨by rw [put_out (hd b hb)]; exact h1, h2, ?_⟩
    rw [e _ (st_idx hb)]
    exact hf.at_ h3 (fun e => e)
  · rw [e _ (ia_idx hb)] at hl
    rw [e _ (ia_idx hc)] at hm
    exact h.ne b hb c hc hl hm
  · rw [e _ (st_idx hb)] at hl
    rw [e _ (ia_idx hb)]
    exact h.ord b hb hl
section
variable {P : Program} {l : List Oper} {bx : List Bx} {w0 : World} {aF : Act} {Q : Exit → Act → World → Prop}
theorem wpAnyQ_end {C : World → Prop} {ops : Array Oper} {Q' : Act → Prop} {listed : Array Bool} {a : Act} (h : Region.ready .any ops listed = []) : ∀ f, wpAnyQ P .any ops C Q' f listed a → Q' a
  | 0, hq => hq.2
  | _ + 1, hq => hq.1 h
/-- What all classes say of one operation: one value. -/
theorem all_put {ops : Array Oper} {fuel : Nat} {listed : Array Bool} {a' : Act} {i : Nat} {o : Oper} (ho : ops[i]? = some o) (hr : i ∈ Region.ready .any ops listed)
    (hw : ∀ (j : Nat) (x : Oper) (t : Tmp), ops[j]? = some x → x.dst = some t → o.dst = some t → j = i) (hil : i < listed.size)
    (hH : ∀ wX, Fr (fun _ => False) w0 wX → wpAnyQ P .any ops (fun w' => ∃ Y : FrW wX, w' = Y.val) (fun x => x = aF) (fuel + 1) listed a') (wX : World) (hX : Fr (fun _ => False) w0 wX) :
    ∃ v, YieldsIn P ops (fun w' => ∃ Y : FrW wX, w' = Y.val) o v a' ∧ ∀ wY, Fr (fun _ => False) w0 wY → wpAnyQ P .any ops (fun w' => ∃ Y : FrW wY, w' = Y.val) (fun x => x = aF) fuel (listed.setIfInBounds i true) (a'.put o.dst v) := by
  have hset : (listed.setIfInBounds i true).getD i true = true := getD_set_same hil
  have fin : ∀ wY, Fr (fun _ => False) w0 wY → ∃ v, YieldsIn P ops (fun w' => ∃ Y : FrW wY, w' = Y.val) o v a' ∧ wpAnyQ P .any ops (fun w' => ∃ Y : FrW wY, w' = Y.val) (fun x => x = aF) fuel (listed.setIfInBounds i true) (a'.put o.dst v) ∧ ∀ t, o.dst = some t → (a'.put o.dst v).tmps[t]? = aF.tmps[t]? := fun wY hY => by
    obtain ⟨v, h1, h2⟩ := yieldsIn_of_qOp ho ((hH wY hY).2 i hr)
    refine ⟨v, h1, h2, fun t ht => fin_at fuel _ _ h2 t (fun j x hj hu hx => ?_)⟩
    have := hw j x t hj hx ht
    rw [this, hset] at hu
    cases hu
  obtain ⟨v, h1, h2, h3⟩ := fin wX hX
  refine ⟨v, h1, fun wY hY => ?_⟩
  obtain ⟨u, _, g2, g3⟩ := fin wY hY
  have e : a'.put o.dst v = a'.put o.dst u := by
    refine act_ext (by rw [put_dfr, put_dfr]) (fun t => ?_)
    by_cases ht : o.dst = some t
    · rw [h3 t ht, g3 t ht]
    · rw [put_out ht, put_out ht]
  rw [e]
  exact g2
theorem box_sim (ok : BxOk l bx)
    (hal : ∀ b ∈ bx, ∀ w, (Instr.alloc b.T true (.tuple #[])).run P w = .ok (bPtr w.heap.size) (w.alloc (.cells b.z b.T)))
    (hst : ∀ b ∈ bx, ∀ w n, w.heap[n]? = some (.cells b.z b.T) → ∃ w', (Instr.storeAt b.T (bPtr n) (bSrc aF b)).run P w = .ok () w' ∧ w'.heap[n]? = some (.cells (bSrc aF b).cells b.T) ∧ Fr (fun c => c = n) w w')
    (hQ : ∀ (n : Nat → Nat) (w' : World) (a : Act), Fr (fun _ => False) w0 w' → (∀ b ∈ bx, w0.heap.size ≤ n b.ia ∧ w'.heap[n b.ia]? = some (.cells (bSrc aF b).cells b.T)) → (∀ b ∈ bx, ∀ c ∈ bx, n b.ia = n c.ia → b = c) → a.defers = aF.defers → a.tmps.size = aF.tmps.size → (∀ t : Nat, (∀ b ∈ bx, b.d ≠ t) → a.tmps[t]? = aF.tmps[t]?) → (∀ b ∈ bx, a.tmps[b.d]? = some (bPtr (n b.ia))) → Q .normal a w') :
    ∀ (fuel : Nat) (listed : Array Bool) (a' a : Act) (n : Nat → Nat) (w : World), BInv l bx w0 aF listed a' a n w →
      (∀ wX, Fr (fun _ => False) w0 wX → wpAnyQ P .any (boxedF (bxIdx bx) 0 l).toArray (fun w' => ∃ Y : FrW wX, w' = Y.val) (fun x => x = aF) fuel listed a') → wpAny P .any l.toArray Q fuel listed a w := by
  have hend : ∀ (fuel : Nat) (listed : Array Bool) (a' a : Act) (n : Nat → Nat) (w : World), BInv l bx w0 aF listed a' a n w →
      (∀ wX, Fr (fun _ => False) w0 wX → wpAnyQ P .any (boxedF (bxIdx bx) 0 l).toArray (fun w' => ∃ Y : FrW wX, w' = Y.val) (fun x => x = aF) fuel listed a') → Region.ready .any l.toArray listed = [] → Q .normal a w := fun fuel listed a' a n w inv hH hr => by
    have hall : ∀ k, k < l.length → listed.getD k true = true := fun k hk => by
      cases e : listed.getD k true with
      | true => rfl
      | false => exact absurd hr (ready_some ok.acy (by rw [inv.lsz]; simp) k k (by simpa using hk) (Nat.le_refl _) e)
    have ea : a' = aF := wpAnyQ_end (P := P) (C := fun w' => ∃ Y : FrW w0, w' = Y.val) (Q' := fun x => x = aF) (ops := (boxedF (bxIdx bx) 0 l).toArray) (by rw [bxd_ready]; exact hr) fuel (hH w0 (Fr.refl _ _))
    have hia : ∀ b ∈ bx, listed.getD b.ia true = true := fun b hb => by
      obtain ⟨o, ho, _⟩ := ok.al b hb
      exact hall _ (List.getElem?_eq_some_iff.1 ho).1
    have hsa : ∀ b ∈ bx, listed.getD b.st true = true := fun b hb => by
      obtain ⟨o, ho, _⟩ := ok.st b hb
      exact hall _ (List.getElem?_eq_some_iff.1 ho).1
    refine hQ n w a inv.fr (fun b hb => ?_) (fun b hb c hc e => inv.ne b hb c hc (hia b hb) (hia c hc) e) (by rw [inv.df, ea]) (by rw [inv.sz, ea]) (fun t ht => by rw [inv.out t (fun b hb _ => ht b hb), ea]) (fun b hb => (inv.box b hb (hia b hb)).1)
    obtain ⟨_, h2, h3⟩ := inv.box b hb (hia b hb)
    rw [hsa b hb, if_pos rfl] at h3
    exact ⟨h2, h3⟩
  intro fuel
  induction fuel with
  | zero =>
    intro listed a' a n w inv hH
    have hr : Region.ready .any l.toArray listed = [] := by have := (hH w0 (Fr.refl _ _)).1; rwa [bxd_ready] at this
    exact ⟨hr, hend 0 listed a' a n w inv hH hr⟩
  | succ fuel ih =>
    intro listed a' a n w inv hH
    refine ⟨hend _ listed a' a n w inv hH, fun i hi => ?_⟩
    obtain ⟨hun, o, ho, hdeps⟩ := mem_ready.1 hi
    have hol : l[i]? = some o := by simpa using ho
    have hil : i < l.length := (List.getElem?_eq_some_iff.1 hol).1
    have hlsz := inv.lsz
    have hi' : i ∈ Region.ready .any (boxedF (bxIdx bx) 0 l).toArray listed := by rw [bxd_ready]; exact hi
    have uniq : ∀ (j : Nat) (x : Oper) (t : Tmp), (boxedF (bxIdx bx) 0 l).toArray[j]? = some x → x.dst = some t → o.dst = some t → j = i := fun j x t hj hx ht => by
      rw [bxd_get] at hj
      cases hy : l.toArray[j]? with
      | none => rw [hy] at hj; cases hj
      | some y =>
        rw [hy] at hj
        have hyd : y.dst = some t := by
          simp only [Option.map_some, Option.some.injEq] at hj
          rw [← hj] at hx
          by_cases hc : (bxIdx bx).contains j = true
          · rw [if_pos hc] at hx; exact hx
          · rw [if_neg hc] at hx; exact hx
        exact ok.un j i y o t (by simpa using hy) hol hyd ht
    by_cases hA : ∃ b ∈ bx, b.ia = i
    · -- a box is laid
      obtain ⟨b, hb, rfl⟩ := hA
      obtain ⟨o', ho', hop, hod, hog⟩ := ok.al b hb
      rw [hol] at ho'
      obtain rfl : o = o' := by injection ho'
      have hob : (boxedF (bxIdx bx) 0 l).toArray[b.ia]? = some (idleU o) := by rw [bxd_get, ho]; simp [ia_idx hb]
      obtain ⟨v, _, hK⟩ := all_put (w0 := w0) (fuel := fuel) (a' := a') hob hi' (fun j x t hj hx ht => uniq j x t hj hx ht) (by omega) hH w0 (Fr.refl _ _)
      have hK' : ∀ wY, Fr (fun _ => False) w0 wY → wpAnyQ P .any (boxedF (bxIdx bx) 0 l).toArray (fun w' => ∃ Y : FrW wY, w' = Y.val) (fun x => x = aF) fuel (listed.setIfInBounds b.ia true) (a'.put (some b.d) v) := by rw [← hod]; exact hK
      unfold wpOp
      rw [ho]
      simp only [Region.wanted, hog, if_true]
      left
      unfold Oper.wp execOp
      simp only [hop, hod, Sem.run_bind, hal b hb w, Result.andThen_ok, Sem.run_pure, Oper.upon_value]
      exact ih _ _ _ _ _ (inv.laid ok hb hun hil v) hK'
    · by_cases hS : ∃ b ∈ bx, b.st = i
      · -- a box is stored
        obtain ⟨b, hb, rfl⟩ := hS
        obtain ⟨o', ho', hop, hod, hog, ⟨e1, he1, hb1, hon1⟩, ⟨e2, he2, hb2, x, hx, hxd⟩⟩ := ok.st b hb
        rw [hol] at ho'
        obtain rfl : o = o' := by injection ho'
        have hob : (boxedF (bxIdx bx) 0 l).toArray[b.st]? = some (idleU o) := by rw [bxd_get, ho]; simp [st_idx hb]
        obtain ⟨v, _, hK⟩ := all_put (w0 := w0) (fuel := fuel) (a' := a') hob hi' (fun j x t hj hx ht => uniq j x t hj hx ht) (by omega) hH w0 (Fr.refl _ _)
        have hK' : ∀ wY, Fr (fun _ => False) w0 wY → wpAnyQ P .any (boxedF (bxIdx bx) 0 l).toArray (fun w' => ∃ Y : FrW wY, w' = Y.val) (fun x => x = aF) fuel (listed.setIfInBounds b.st true) (a'.put none v) := by rw [← hod]; exact hK
        have hia : listed.getD b.ia true = true := by
          have h1 := hdeps e1 he1 hb1
          rw [hon1] at h1
          obtain ⟨oa, hoa, _⟩ := ok.al b hb
          have := (List.getElem?_eq_some_iff.1 hoa).1
          simp only [Array.getD_eq_getD_getElem?] at h1 ⊢
          rw [Array.getElem?_eq_getElem (by omega)] at h1 ⊢
          exact h1
        have hsrc : (a.tmps[b.s]?).getD undef = bSrc aF b := by
          unfold bSrc
          have h1 : a.tmps[b.s]? = a'.tmps[b.s]? := inv.out b.s (fun c hc _ e => ok.sd b hb c hc e.symm)
          have h2 : a'.tmps[b.s]? = aF.tmps[b.s]? := fin_at (fuel + 1) listed a' (hH w0 (Fr.refl _ _)) b.s (fun j y hj hu hy => by
            rw [bxd_get] at hj
            cases hz : l.toArray[j]? with
            | none => rw [hz] at hj; cases hj
            | some z =>
              rw [hz] at hj
              have hzd : z.dst = some b.s := by
                simp only [Option.map_some, Option.some.injEq] at hj
                rw [← hj] at hy
                by_cases hc : (bxIdx bx).contains j = true
                · rw [if_pos hc] at hy; exact hy
                · rw [if_neg hc] at hy; exact hy
              have ej := ok.un j e2.on z x b.s (by simpa using hz) hx hzd hxd
              have h3 := hdeps e2 he2 hb2
              have := (List.getElem?_eq_some_iff.1 hx).1
              rw [ej] at hu
              simp only [Array.getD_eq_getD_getElem?] at h3 hu
              rw [Array.getElem?_eq_getElem (by omega)] at h3 hu
              simp only [Option.getD_some] at h3 hu
              rw [h3] at hu
              cases hu)
          rw [h1, h2]
        obtain ⟨q1, q2, q3⟩ := inv.box b hb hia
        rw [hun, if_neg (by simp)] at q3
        obtain ⟨w', r1, r2, r3⟩ := hst b hb w (n b.ia) q3
        have ed : a.eval (.tmp b.d) = bPtr (n b.ia) := by simp [Act.eval, q1]
        have es : a.eval (.tmp b.s) = bSrc aF b := by rw [← hsrc]; simp [Act.eval]
        unfold wpOp
        rw [ho]
        simp only [Region.wanted, hog, if_true]
        left
        unfold Oper.wp execOp
        simp only [hop, hod, ed, es, Sem.run_bind, r1, Result.andThen_ok, Sem.run_pure, Oper.upon_skip]
        exact ih _ _ _ _ _ (inv.stored ok hb hia hil r2 r3 v undef) hK'
      · -- a core operation
        have hni : i ∉ bxIdx bx := fun h => by
          obtain ⟨b, hb, hm⟩ := List.mem_flatMap.1 h
          simp only [List.mem_cons, List.not_mem_nil, or_false] at hm
          rcases hm with e | e
          · exact hA ⟨b, hb, e.symm⟩
          · exact hS ⟨b, hb, e.symm⟩
        have hob : (boxedF (bxIdx bx) 0 l).toArray[i]? = some o := by rw [bxd_get, ho]; simp [hni]
        obtain ⟨v, hY, hK⟩ := all_put (w0 := w0) (fuel := fuel) (a' := a') hob hi' uniq (by omega) hH w inv.fr
        have hap := ok.ap i o hol hni
        have hsel := Region.noSelect_spec ok.sel
        obtain ⟨c1, c2⟩ := look_congr (ops := l.toArray) (o := o) (a := a) (a' := a') (fun cs b => hsel i o cs b ho) (fun t ht => inv.out t (fun b hb _ e => (hap b hb).1 (e ▸ ht)))
        have key : ∀ w', Fr (fun _ => False) w w' → wpAny P .any l.toArray Q fuel (listed.setIfInBounds i true) (a.put o.dst v) w' := fun w' hf => ih _ _ _ _ _ (inv.core hf hni (fun b hb => (hap b hb).2) v) hK
        unfold wpOp
        rw [ho]
        simp only []
        rw [c2]
        rcases hY with ⟨hw, hq⟩ | ⟨hw, rfl⟩
        · rw [bxd_yielded] at hw
          rw [if_pos hw]
          left
          refine Oper.wp_of_quiet (C := fun w' => ∃ Y : FrW w, w' = Y.val) (K := fun x => x = a.put o.dst v) ⟨⟨w, Fr.refl _ w⟩, rfl⟩ ?_ ⟨v, fun w1 h1 => ?_, rfl⟩
          · rintro x w' ⟨Y, rfl⟩ rfl
            exact key _ Y.fr
          · have := hq w1 h1
            unfold Oper.quietAt at *
            rw [c1]
            exact this
        · rw [bxd_yielded] at hw
          rw [if_neg (by rw [hw]; simp)]
          exact key w (Fr.refl _ w)
def bPuts (bx : List Bx) (n : Nat → Nat) (x : Act) : Act := bx.foldl (fun x b => x.put (some b.d) (bPtr (n b.ia))) x
theorem bPuts_dfr {n : Nat → Nat} : ∀ {bx : List Bx} {x : Act}, (bPuts bx n x).defers = x.defers
  | [], _ => rfl
  | b :: r, x => (bPuts_dfr (bx := r)).trans put_dfr
theorem bPuts_out {n : Nat → Nat} {t : Nat} : ∀ {bx : List Bx} {x : Act}, (∀ b ∈ bx, b.d ≠ t) → (bPuts bx n x).tmps[t]? = x.tmps[t]?
  | [], _, _ => rfl
  | b :: r, x, h => (bPuts_out (bx := r) (fun c hc => h c (List.mem_cons_of_mem _ hc))).trans (put_out (fun e => h b List.mem_cons_self (by injection e)))
theorem bPuts_at {n : Nat → Nat} : ∀ {bx : List Bx} {x : Act}, bx.Pairwise (fun b c => b.d ≠ c.d) → ∀ b ∈ bx, b.d < x.tmps.size → (bPuts bx n x).tmps[b.d]? = some (bPtr (n b.ia))
  | [], _, _, b, hb, _ => by cases hb
  | c :: r, x, h, b, hb, hs => by
    obtain ⟨h1, h2⟩ := List.pairwise_cons.1 h
    rcases List.mem_cons.1 hb with e | hb'
    · subst e
      exact (bPuts_out (bx := r) (fun c hc => Ne.symm (h1 c hc))).trans (put_at hs)
    · exact bPuts_at h2 b hb' (by rw [put_size]; exact hs)
theorem wp_region_box {id : Nat} {a : Act} {w : World} (bx : List Bx) {l' : List Oper} (hm : P.follows .mixedOrders = true) (hl : boxedF (bxIdx bx) 0 l = l') (hB : boxB l bx = true) (hL : Region.lexB .any l'.toArray = true) (hd : bx.all (fun b => decide (b.d < a.tmps.size)) = true)
    (hal : ∀ b ∈ bx, ∀ w, (Instr.alloc b.T true (.tuple #[])).run P w = .ok (bPtr w.heap.size) (w.alloc (.cells b.z b.T)))
    (h : ∃ aF : Act, (∀ X : FrW w, wpQuiet P l'.toArray (fun w' => ∃ Y : FrW X.val, w' = Y.val) (fun a' => a' = aF) l' a) ∧
      (∀ b ∈ bx, ∀ w n, w.heap[n]? = some (.cells b.z b.T) → ∃ w', (Instr.storeAt b.T (bPtr n) (bSrc aF b)).run P w = .ok () w' ∧ w'.heap[n]? = some (.cells (bSrc aF b).cells b.T) ∧ Fr (fun c => c = n) w w') ∧
      ∀ (n : Nat → Nat) (w' : World), Fr (fun _ => False) w w' → (∀ b ∈ bx, w.heap.size ≤ n b.ia ∧ w'.heap[n b.ia]? = some (.cells (bSrc aF b).cells b.T)) → (∀ b ∈ bx, ∀ c ∈ bx, n b.ia = n c.ia → b = c) → Q .normal (bPuts bx n aF) w') : (Code.region id l.toArray true).wp P Q a w := by
  have ok := boxB_ok hB
  obtain ⟨aF, h, hst, hQ⟩ := h
  subst hl
  have hd' : ∀ b ∈ bx, b.d < a.tmps.size := fun b hb => of_decide_eq_true (List.all_eq_true.1 hd b hb)
  have hf : ∀ i, (Array.replicate l.toArray.size false).getD i true = true → l.length ≤ i := fun i hi => by
    rcases Nat.lt_or_ge i l.length with h | h
    · simp [h] at hi
    · exact h
  have hdp : bx.Pairwise (fun b c => b.d ≠ c.d) := by
    have : bx.Pairwise BxNe := by
      unfold boxB at hB
      simp only [Bool.and_eq_true, decide_eq_true_eq] at hB
      exact hB.1.1.1.1.1.2
    exact this.imp (fun h => h.2.2.2.2)
  refine wp_region_any hm (box_sim (w0 := w) (aF := aF) ok hal hst ?_ _ _ a a (fun _ => 0) _ ?_ ?_)
  · intro n w' x h1 h2 h3 h4 h5 h6 h7
    have e : x = bPuts bx n aF := by
      refine act_ext (h4.trans bPuts_dfr.symm) (fun t => ?_)
      by_cases ht : ∀ b ∈ bx, b.d ≠ t
      · rw [h6 t ht, bPuts_out ht]
      · have : ∃ b ∈ bx, b.d = t := Classical.byContradiction fun hne => ht fun b hb e => hne ⟨b, hb, e⟩
        obtain ⟨b, hb, rfl⟩ := this
        have h8 := h7 b hb
        have h9 := (Array.getElem?_eq_some_iff.1 h8).1
        rw [h8, bPuts_at hdp b hb (by rw [← h5]; exact h9)]
    rw [e]
    exact hQ n w' h1 h2 h3
  · refine ⟨(Fr.refl _ w).drew, rfl, rfl, fun _ _ => rfl, fun b hb hl => ?_, fun b hb c hc hl => ?_, fun b hb hl => ?_, by simp, hd'⟩
    · obtain ⟨o, ho, _⟩ := ok.al b hb
      have := (List.getElem?_eq_some_iff.1 ho).1
      have := hf _ hl
      omega
    · obtain ⟨o, ho, _⟩ := ok.al b hb
      have := (List.getElem?_eq_some_iff.1 ho).1
      have := hf _ hl
      omega
    · obtain ⟨o, ho, _⟩ := ok.st b hb
      have := (List.getElem?_eq_some_iff.1 ho).1
      have := hf _ hl
      omega
  · intro wX hX
    simp only [Region.lexB, Bool.and_eq_true] at hL
    have := wpAnyQ_lex (C := fun w' => ∃ Y : FrW wX, w' = Y.val) (md := .any) hL.1 (boxedF (bxIdx bx) 0 l) 0 (Array.replicate (boxedF (bxIdx bx) 0 l).toArray.size false) a (by simp) (by simpa using hL.2) (h ⟨wX, hX⟩)
    rw [bxd_size] at this
    simpa [bxd_len] using this
end
end Go.Proofs.YtefjdcghdcbojaaGreat

namespace Go.Proofs.YtefjdcghdcbojaaGreat
open Go Go.RowKit
theorem box_store {P : Program} {w : World} {n : Nat} {T : TypeId} {z cs : Array Value} (h : w.heap[n]? = some (.cells z T)) (hs : cs.size = z.size) (hi : (P.info? T).map (·.size) = some cs.size) (h1 : ∀ u ∈ cs.toList, u.oneCell' = true) :
    ∃ w', (Instr.storeAt T (bPtr n) (.agg cs)).run P w = .ok () w' ∧ w'.heap[n]? = some (.cells cs T) ∧ Fr (fun c => c = n) w w' := by
  refine ⟨w.setCells n 0 cs.toList, run_storeAt_mid w n 0 T cs ?_ hi (Array.all_eq_true_iff_forall_mem.2 fun u hu => h1 u (by simpa using hu)), ?_, fr_setCells _ _ (Fr.refl _ w) (fun _ => rfl)⟩
  · exact fun j hj => ⟨by simp [World.cell?, h]; omega, by simpa using obj_frozen h (0 + j)⟩
  · obtain ⟨cur, h2, h3, h4⟩ := row_setCells cs.toList 0 h (by simp [hs])
    rw [h2]
    congr 2
    apply Array.ext_getElem?
    intro q
    rw [h4 q]
    by_cases hq : q < cs.size
    · rw [if_pos (by simpa using hq)]; simp
    · rw [if_neg (by simpa using hq), Array.getElem?_eq_none (by omega), Array.getElem?_eq_none (by omega)]
end Go.Proofs.YtefjdcghdcbojaaGreat

namespace Go.Proofs.YtefjdcghdcbojaaGreat
open Go.RowKit Go.Maps
/-- Two places by the way: of bins a, b; of goods s, t. -/
def compF (a b : BV) (s t : Str) : Int :=
  if cmpI a.zo b.zo ≠ 0 then cmpI a.zo b.zo else or2 (if a.zo.tmod 2 = 1 then wrap64 (- cmpI a.nu b.nu) else cmpI a.nu b.nu) (cmpStr s t)
set_option maxRecDepth 100000 in
set_option maxHeartbeats 8000000 in
theorem bComp (w : World) (g : Nat) (L : List BV) (p q : PV) (A B : BV) (i j : Nat) (h : Fl w g L) (hA : findF L p.b = (i : Int)) (hi : L[i]? = some A) (hB : findF L q.b = (j : Int)) (hj : L[j]? = some B) :
    Calls Tryz.prog 112 #[.pointer (some ⟨g, 0, none⟩), .agg p.cs.toArray, .agg q.cs.toArray] w fun e w' => e = .returned (.int .i64 (compF A B p.g q.g)) ∧ Fr (fun _ => False) w w' := by
  have hL : 0 < L.length := by have := (List.getElem?_eq_some_iff.1 hi).1; omega
  have hfd := Lib.hid (fun W n (hf : Fr (fun _ => False) w W) => bFind W g L n (h.keep hf) hL)
  have hfi := Lib.hid hA; have hfj := Lib.hid hB
  obtain ⟨a, c, q1, q2⟩ := h
  have hiN := (List.getElem?_eq_some_iff.1 hi).1
  have hjN := (List.getElem?_eq_some_iff.1 hj).1
  have hNI := q2.len
  obtain ⟨N, hN⟩ : ∃ N, L.length = N := ⟨_, rfl⟩
  rw [hN] at q1 q2 hNI hiN hjN
  have hiI : (i : Int) < N := by omega
  have hjI : (j : Int) < N := by omega
  obtain ⟨R, hR⟩ : ∃ R, compF A B p.g q.g = R := ⟨_, rfl⟩
  rw [hR]
  have HR := Lib.hid hR
  obtain ⟨p1, p2, p3⟩ := p
  obtain ⟨r1, r2, r3⟩ := q
  dsimp only [PV.cs] at *
  obtain ⟨ad, rfl, okA, z0, zs⟩ := q2.at_ hi
  obtain ⟨ad', e', okB, y0, ys⟩ := q2.at_ hj
  cases e'
  obtain ⟨la, lc, hl⟩ := okA.l.sl
  obtain ⟨lb, ld, hm⟩ := okB.l.sl
  have hfacts : Hid (∀ W, Fr (fun _ => False) w W → W.cell? ⟨g, 0, none⟩ = some (.slice (some ad) N c) ∧ W.cell? (ad.add (i * 4)) = some (.int .i64 A.nu) ∧ W.cell? ⟨(ad.add (i * 4)).block, (ad.add (i * 4)).off + 1, none⟩ = some (.int .i64 A.zo) ∧ W.cell? ⟨(ad.add (i * 4)).block, (ad.add (i * 4)).off + 2, none⟩ = some (.int .i64 A.ro) ∧ W.cell? ⟨(ad.add (i * 4)).block, (ad.add (i * 4)).off + 3, none⟩ = some (.slice la A.its.length lc) ∧ W.cell? (ad.add (j * 4)) = some (.int .i64 B.nu) ∧ W.cell? ⟨(ad.add (j * 4)).block, (ad.add (j * 4)).off + 1, none⟩ = some (.int .i64 B.zo) ∧ W.cell? ⟨(ad.add (j * 4)).block, (ad.add (j * 4)).off + 2, none⟩ = some (.int .i64 B.ro) ∧ W.cell? ⟨(ad.add (j * 4)).block, (ad.add (j * 4)).off + 3, none⟩ = some (.slice lb B.its.length ld)) := Lib.hid (fun W hf => by
    have n0 : ¬ (fun _ : Nat => False) g := fun e => e
    exact ⟨hf.cell (cell_obj q1 0 (.slice (some ad) N c) rfl) n0, hf.cell (z0 (.int .i64 A.nu) rfl) (fun e => e), hf.cell (zs 0 (.int .i64 A.zo) rfl) (fun e => e), hf.cell (zs 1 (.int .i64 A.ro) rfl) (fun e => e), hf.cell (zs 2 (.slice la A.its.length lc) (by rw [← hl]; rfl)) (fun e => e), hf.cell (y0 (.int .i64 B.nu) rfl) (fun e => e), hf.cell (ys 0 (.int .i64 B.zo) rfl) (fun e => e), hf.cell (ys 1 (.int .i64 B.ro) rfl) (fun e => e), hf.cell (ys 2 (.slice lb B.its.length ld) (by rw [← hm]; rfl)) (fun e => e)⟩)
  obtain ⟨ai, hai⟩ : ∃ x, ad.add (i * 4) = x := ⟨_, rfl⟩
  obtain ⟨aj, haj⟩ : ∃ x, ad.add (j * 4) = x := ⟨_, rfl⟩
  rw [hai, haj] at hfacts
  clear hL hR hN hA hB q1 q2 hi hj z0 zs y0 ys okA okB hl hm
  go_enter Tryz.func112, Tryz.ntmps112
  go_wp2_with fail
  obtain ⟨W0, hW0⟩ : ∃ W, (w.alloc (.cells #[.int .i64 p1, vS p2, .int .i64 p3] 47)).alloc (.cells #[.int .i64 r1, vS r2, .int .i64 r3] 47) = W := ⟨_, rfl⟩
  obtain ⟨n0, hn0⟩ : ∃ n, w.heap.size = n := ⟨_, rfl⟩
  have hFW : Hid (Fr (fun _ => False) w W0) := Lib.hid (by rw [← hW0]; exact ((Fr.refl _ w).alloc _).alloc _)
  have hx0 : W0.heap[n0]? = some (.cells #[.int .i64 p1, vS p2, .int .i64 p3] 47) := by rw [← hW0]; exact heap_keep (heap_at hn0.symm _) _
  have hx1 : W0.heap[n0 + 1]? = some (.cells #[.int .i64 r1, vS r2, .int .i64 r3] 47) := by rw [← hW0]; exact heap_at (by simp [hn0]) _
  rw [hW0, hn0]
  have hN0 : Hid (∀ W n, Fr (fun _ => False) W0 W → Calls Tryz.prog 77 #[.pointer (some ⟨g, 0, none⟩), .int .i64 n] W fun e w' => e = .returned (.int .i64 (findF L n)) ∧ Fr (fun _ => False) W w') := Lib.hid (fun W n hf => hfd.out W n (hFW.out.trans hf))
  obtain ⟨u0, u1, u2, u3, u4, u5, u6, u7, u8⟩ := hfacts.out W0 hFW.out
  have v0 := cell_obj hx0 0 (.int .i64 p1) rfl
  have v1 := cell_obj hx1 0 (.int .i64 r1) rfl
  have HX0 := Lib.hid hx0; have HX1 := Lib.hid hx1
  clear hx0 hx1 hfacts hW0 hn0 hfd
  refine wp_region_box [⟨20, 7, 64, #[.int .i64 0, .int .i64 0, .int .i64 0, .slice none 0 0], 22, 20⟩, ⟨21, 8, 64, #[.int .i64 0, .int .i64 0, .int .i64 0, .slice none 0 0], 23, 30⟩] (by kernel_rfl) rfl (by kernel_rfl) (by kernel_rfl) (by kernel_rfl) ?al ?_
  case al =>
    intro b hb w
    simp only [List.mem_cons, List.not_mem_nil, or_false] at hb
    rcases hb with rfl | rfl <;> kernel_rfl
  apply Exists.intro
  refine ⟨?hh, ?st, ?qq⟩
  case hh =>
    intro X
    have q0 := FrW.cell (X.fr.cell u0 (fun e => e)); have q1 := FrW.cell (X.fr.cell u1 (fun e => e)); have q2 := FrW.cell (X.fr.cell u2 (fun e => e)); have q3 := FrW.cell (X.fr.cell u3 (fun e => e)); have q4 := FrW.cell (X.fr.cell u4 (fun e => e)); have q5 := FrW.cell (X.fr.cell u5 (fun e => e)); have q6 := FrW.cell (X.fr.cell u6 (fun e => e)); have q7 := FrW.cell (X.fr.cell u7 (fun e => e)); have q8 := FrW.cell (X.fr.cell u8 (fun e => e)); have r0 := FrW.cell (X.fr.cell v0 (fun e => e)); have r1' := FrW.cell (X.fr.cell v1 (fun e => e))
    simp (config := { decide := true }) only [boxedF, bxIdx, List.flatMap_cons, List.flatMap_nil, List.cons_append, List.nil_append, idleU, if_true, if_false, ite_true, ite_false]
    repeat (go_big_quiet_step ((go_at_call 77; rename_i Y; refine (hN0.out Y.val _ (X.fr.trans Y.fr)).mono ?_; (first | rw [hfi.out] | rw [hfj.out]); rintro e w2 ⟨rfl, hF⟩; exact ⟨rfl, ⟨w2, Y.fr.trans hF⟩, rfl⟩)))
    exact wpQuiet_nil rfl
  case st =>
    intro b hb w n hw
    simp only [List.mem_cons, List.not_mem_nil, or_false] at hb
    rcases hb with rfl | rfl
    · exact box_store (cs := #[.int .i64 A.nu, .int .i64 A.zo, .int .i64 A.ro, .slice la A.its.length lc]) hw rfl (by kernel_rfl) (by intro u hu; simp only [List.mem_cons, List.not_mem_nil, or_false] at hu; rcases hu with rfl | rfl | rfl | rfl <;> rfl)
    · exact box_store (cs := #[.int .i64 B.nu, .int .i64 B.zo, .int .i64 B.ro, .slice lb B.its.length ld]) hw rfl (by kernel_rfl) (by intro u hu; simp only [List.mem_cons, List.not_mem_nil, or_false] at hu; rcases hu with rfl | rfl | rfl | rfl <;> rfl)
  case qq =>
    intro m wz hfz hbx hdiff
    have hb7 : wz.heap[m 20]? = some (.cells #[.int .i64 A.nu, .int .i64 A.zo, .int .i64 A.ro, .slice la A.its.length lc] 64) := (hbx _ (List.mem_cons_self)).2
    have hb8 : wz.heap[m 21]? = some (.cells #[.int .i64 B.nu, .int .i64 B.zo, .int .i64 B.ro, .slice lb B.its.length ld] 64) := (hbx _ (List.mem_cons_of_mem _ List.mem_cons_self)).2
    obtain ⟨b7, hb7e⟩ : ∃ b, m 20 = b := ⟨_, rfl⟩
    obtain ⟨b8, hb8e⟩ : ∃ b, m 21 = b := ⟨_, rfl⟩
    rw [hb7e] at hb7
    rw [hb8e] at hb8
    have HFZ := Lib.hid (hFW.out.trans hfz)
    have y1 := cell_obj hb7 0 (.int .i64 A.nu) rfl
    have y2 := cell_obj hb7 1 (.int .i64 A.zo) rfl
    have z1 := cell_obj hb8 0 (.int .i64 B.nu) rfl
    have z2 := cell_obj hb8 1 (.int .i64 B.zo) rfl
    have g1 := cell_obj (hfz.at_ HX0.out (fun e => e)) 1 (vS p2) rfl
    have g2 := cell_obj (hfz.at_ HX1.out (fun e => e)) 1 (vS r2) rfl
    simp only [bPuts, List.foldl_cons, List.foldl_nil, Act.put, bPtr, hb7e, hb8e]
    clear hbx hdiff hfz hb7 hb8
    simp only [List.setIfInBounds_toArray, List.set_cons_succ, List.set_cons_zero]
    obtain ⟨CZ, hCZ⟩ : ∃ x, cmpI A.zo B.zo = x := ⟨_, rfl⟩
    obtain ⟨CN, hCN⟩ : ∃ x, cmpI A.nu B.nu = x := ⟨_, rfl⟩
    obtain ⟨CS, hCS⟩ : ∃ x, cmpStr p2 r2 = x := ⟨_, rfl⟩
    have hR2 := HR.out
    unfold compF at hR2
    rw [hCZ, hCN, hCS] at hR2
    have HCZ := Lib.hid hCZ; have HCN := Lib.hid hCN; have HCS := Lib.hid hCS
    have HR2 := Lib.hid hR2
    clear hCZ hCN hCS hR2
    have kCZ := Lib.hid (fun W => cCompare A.zo B.zo W)
    rw [HCZ.out] at kCZ
    by_cases hz : CZ = 0
    · subst hz
      have hCI := Lib.hid (fun a b W => cCompare a b W)
      have hCSt := Lib.hid (fun a b W => cCompareS a b W)
      clear kCZ
      by_cases hm : A.zo.tmod 2 = 1
      · have hr : Hid (R = or2 (wrap64 (-CN)) CS) := Lib.hid (by rw [← HR2.out, if_neg (by simp), if_pos hm])
        have hm1 : (A.zo.tmod 2 == 1) = true := by simpa using hm
        clear hm
        go_wp2_with (first
          | (go_at_call 53; refine (hCI.out _ _ _).mono ?_; (first | rw [HCZ.out] | rw [HCN.out]); rintro e w5 ⟨rfl, rfl⟩)
          | (go_at_call 102; refine (hCSt.out _ _ _).mono ?_; rw [HCS.out]; rintro e w6 ⟨rfl, rfl⟩))
        refine (cOr (wrap64 (-CN)) CS wz.heap.size 2 _ (cell_obj (heap_new wz (.cells #[.int .i64 (wrap64 (-CN)), .int .i64 CS] 3)) 0 (.int .i64 (wrap64 (-CN))) rfl) (cell_obj (heap_new wz (.cells #[.int .i64 (wrap64 (-CN)), .int .i64 CS] 3)) 1 (.int .i64 CS) rfl)).mono ?_
        rintro e w7 ⟨rfl, rfl⟩
        have HF8 := Lib.hid (HFZ.out.alloc (.cells #[.int .i64 (wrap64 (-CN)), .int .i64 CS] 3))
        go_wp2_with fail
        go_ret
        exact ⟨by rw [hr.out]; rfl, HF8.out⟩
      · have hr : Hid (R = or2 CN CS) := Lib.hid (by rw [← HR2.out, if_neg (by simp), if_neg hm])
        have hm1 : (A.zo.tmod 2 == 1) = false := by simpa using hm
        clear hm
        go_wp2_with (first
          | (go_at_call 53; refine (hCI.out _ _ _).mono ?_; (first | rw [HCZ.out] | rw [HCN.out]); rintro e w5 ⟨rfl, rfl⟩)
          | (go_at_call 102; refine (hCSt.out _ _ _).mono ?_; rw [HCS.out]; rintro e w6 ⟨rfl, rfl⟩))
        refine (cOr CN CS wz.heap.size 2 _ (cell_obj (heap_new wz (.cells #[.int .i64 CN, .int .i64 CS] 3)) 0 (.int .i64 CN) rfl) (cell_obj (heap_new wz (.cells #[.int .i64 CN, .int .i64 CS] 3)) 1 (.int .i64 CS) rfl)).mono ?_
        rintro e w7 ⟨rfl, rfl⟩
        have HF8 := Lib.hid (HFZ.out.alloc (.cells #[.int .i64 CN, .int .i64 CS] 3))
        go_wp2_with fail
        go_ret
        exact ⟨by rw [hr.out]; rfl, HF8.out⟩
    · have b1 : (CZ != 0) = true := by simpa using hz
      have hr : Hid (R = CZ) := Lib.hid (by rw [← HR2.out, if_pos hz])
      clear hz
      go_wp2_with (go_at_call 53; refine (kCZ.out _).mono ?_; rintro e w5 ⟨rfl, rfl⟩)
      go_ret
      exact ⟨by rw [hr.out]; rfl, HFZ.out⟩
end Go.Proofs.YtefjdcghdcbojaaGreat

namespace Go.Proofs.YtefjdcghdcbojaaGreat
open Go.RowKit Go.Maps
def cfPut (s : Str) (a b : BE) : Int := if cmpI (kindE a s) (kindE b s) ≠ 0 ∨ kindE a s ≠ 0 then cmpI (kindE a s) (kindE b s) else cmpI (leftE a) (leftE b)
def cfTake (s : Str) (a b : BE) : Int := cmpI (ofF a.its s) (ofF b.its s)
set_option maxRecDepth 100000 in
set_option maxHeartbeats 8000000 in
theorem bPut1 (w : World) (b : BV) (s : Str) (b1 : Nat) (hk : BOk w b) (h1 : w.cell? ⟨b1, 0, none⟩ = some (vS s)) : Calls Tryz.prog 50 #[.agg b.cs, .pointer (some ⟨b1, 0, none⟩)] w fun e w' => e = .returned (.bool (kindE b.e s != 3)) ∧ Fr (fun _ => False) w w' := by
  have hKD := Lib.hid (fun W (hf : Fr (fun _ => False) w W) => bKind W b s (bokKeeps hk hf (fun _ e => e.elim)))
  obtain ⟨n0, hn0⟩ : ∃ n0, w.heap.size = n0 := ⟨_, rfl⟩
  rw [← kindE_e]
  obtain ⟨KD, hKD2⟩ : ∃ k, kindF b s = k := ⟨_, rfl⟩
  rw [hKD2] at hKD ⊢
  obtain ⟨nu, zo, ro, l, its⟩ := b
  obtain ⟨la, lc, hl⟩ := hk.l.sl
  dsimp only [BV.cs] at *
  subst hl
  obtain ⟨N, hN⟩ : ∃ N, its.length = N := ⟨_, rfl⟩
  rw [hN] at hKD ⊢
  have hb2 := ((Fr.refl (fun _ => False) w).alloc (.cells #[.int .i64 nu, .int .i64 zo, .int .i64 ro, .slice la N lc] 64)).cell h1 (fun h => h)
  clear hk h1 hKD2 hN
  go_enter Tryz.func50, Tryz.ntmps50
  go_wp2_with (go_at_call 51; refine (hKD.out _ ((Fr.refl _ w).alloc _)).mono ?_; rintro e w2 ⟨rfl, hf2⟩; have HF2 := Lib.hid (((Fr.refl (fun _ => False) w).alloc _).trans hf2); clear hf2)
  go_ret
  exact ⟨rfl, HF2.out⟩
set_option maxRecDepth 100000 in
set_option maxHeartbeats 8000000 in
theorem bPut2 (w : World) (a b : BV) (s : Str) (b1 : Nat) (ha : BOk w a) (hb : BOk w b) (h1 : w.cell? ⟨b1, 0, none⟩ = some (vS s)) : Calls Tryz.prog 52 #[.agg a.cs, .agg b.cs, .pointer (some ⟨b1, 0, none⟩)] w fun e w' => e = .returned (.int .i64 (cfPut s a.e b.e)) ∧ Fr (fun _ => False) w w' := by
  have hKA := Lib.hid (fun W (hf : Fr (fun _ => False) w W) => bKind W a s (bokKeeps ha hf (fun _ e => e.elim)))
  have hKB := Lib.hid (fun W (hf : Fr (fun _ => False) w W) => bKind W b s (bokKeeps hb hf (fun _ e => e.elim)))
  have hLA := Lib.hid (fun W (hf : Fr (fun _ => False) w W) => bLeft W a (bokKeeps ha hf (fun _ e => e.elim)))
  have hLB := Lib.hid (fun W (hf : Fr (fun _ => False) w W) => bLeft W b (bokKeeps hb hf (fun _ e => e.elim)))
  have hCM := Lib.hid (fun x y W => cCompare x y W)
  obtain ⟨n0, hn0⟩ : ∃ n0, w.heap.size = n0 := ⟨_, rfl⟩
  obtain ⟨R, hR⟩ : ∃ R, cfPut s a.e b.e = R := ⟨_, rfl⟩
  have hR2 := hR
  unfold cfPut at hR2
  rw [← kindE_e, ← kindE_e, ← leftE_e, ← leftE_e] at hR2
  rw [hR]
  obtain ⟨KA, hKA2⟩ : ∃ k, kindF a s = k := ⟨_, rfl⟩
  obtain ⟨KB, hKB2⟩ : ∃ k, kindF b s = k := ⟨_, rfl⟩
  obtain ⟨LA, hLA2⟩ : ∃ k, leftF a = k := ⟨_, rfl⟩
  obtain ⟨LB, hLB2⟩ : ∃ k, leftF b = k := ⟨_, rfl⟩
  rw [hKA2] at hKA hR2; rw [hKB2] at hKB hR2; rw [hLA2] at hLA hR2; rw [hLB2] at hLB hR2
  have HR := Lib.hid hR2
  obtain ⟨nu, zo, ro, l, its⟩ := a
  obtain ⟨mu, yo, so, m, jts⟩ := b
  obtain ⟨la, lc, hl⟩ := ha.l.sl
  obtain ⟨ma, mc, hm⟩ := hb.l.sl
  dsimp only [BV.cs] at *
  subst hl hm
  obtain ⟨N, hN⟩ : ∃ N, its.length = N := ⟨_, rfl⟩
  obtain ⟨M, hM⟩ : ∃ M, jts.length = M := ⟨_, rfl⟩
  rw [hN] at hKA hLA ⊢
  rw [hM] at hKB hLB ⊢
  obtain ⟨W0, hW0⟩ : ∃ W0, (w.alloc (.cells #[.int .i64 nu, .int .i64 zo, .int .i64 ro, .slice la N lc] 64)).alloc (.cells #[.int .i64 mu, .int .i64 yo, .int .i64 so, .slice ma M mc] 64) = W0 := ⟨_, rfl⟩
  have hF0 : Fr (fun _ => False) w W0 := by rw [← hW0]; exact ((Fr.refl _ w).alloc _).alloc _
  have hx0 : W0.heap[n0]? = some (.cells #[.int .i64 nu, .int .i64 zo, .int .i64 ro, .slice la N lc] 64) := by rw [← hW0]; exact heap_keep (heap_at hn0.symm _) _
  have hx1 : W0.heap[n0 + 1]? = some (.cells #[.int .i64 mu, .int .i64 yo, .int .i64 so, .slice ma M mc] 64) := by rw [← hW0]; exact heap_at (by simp; omega) _
  have hc1 := hF0.cell h1 (fun e => e)
  have HF0 := Lib.hid hF0; have HX0 := Lib.hid hx0; have HX1 := Lib.hid hx1; have HC1 := Lib.hid hc1
  have p0 := FrW.cell (cell_obj hx0 0 (.int .i64 nu) rfl); have p1 := FrW.cell (cell_obj hx0 1 (.int .i64 zo) rfl); have p2 := FrW.cell (cell_obj hx0 2 (.int .i64 ro) rfl); have p3 := FrW.cell (cell_obj hx0 3 (.slice la N lc) rfl)
  have q0 := FrW.cell (cell_obj hx1 0 (.int .i64 mu) rfl); have q1 := FrW.cell (cell_obj hx1 1 (.int .i64 yo) rfl); have q2 := FrW.cell (cell_obj hx1 2 (.int .i64 so) rfl); have q3 := FrW.cell (cell_obj hx1 3 (.slice ma M mc) rfl)
  have r0 := FrW.cell hc1
  clear ha hb h1 hKA2 hKB2 hLA2 hLB2 hN hM hR hR2 hx0 hx1 hc1 hF0
  obtain ⟨CK, hCK⟩ : ∃ c, cmpI KA KB = c := ⟨_, rfl⟩
  rw [hCK] at HR
  have HCK := Lib.hid hCK
  clear hCK
  go_enter Tryz.func52, Tryz.ntmps52
  go_wp2_with fail
  refine wp_region_fr (by kernel_rfl) (by kernel_rfl) ?_
  repeat (go_big_quiet_step (first | (go_at_call 51; rename_i X; (first | (with_reducible refine (hKA.out X.val (HF0.out.trans X.fr)).mono ?_) | (with_reducible refine (hKB.out X.val (HF0.out.trans X.fr)).mono ?_)); rintro e w2 ⟨rfl, hF⟩; exact ⟨rfl, ⟨w2, X.fr.trans hF⟩, rfl⟩) | (go_at_call 53; rename_i X; refine (hCM.out KA KB _).mono ?_; rw [HCK.out]; rintro e w2 ⟨rfl, rfl⟩; exact ⟨rfl, ⟨_, X.fr⟩, rfl⟩)))
  refine wpQuiet_nil ?_
  rintro V ⟨⟨_, hV⟩, rfl⟩
  have a0 : V.cell? ⟨n0, 0, none⟩ = _ := p0 ⟨V, hV⟩; have a1 : V.cell? ⟨n0, 1, none⟩ = _ := p1 ⟨V, hV⟩; have a2 : V.cell? ⟨n0, 2, none⟩ = _ := p2 ⟨V, hV⟩; have a3 : V.cell? ⟨n0, 3, none⟩ = _ := p3 ⟨V, hV⟩; have d0 : V.cell? ⟨n0 + 1, 0, none⟩ = _ := q0 ⟨V, hV⟩; have d1 : V.cell? ⟨n0 + 1, 1, none⟩ = _ := q1 ⟨V, hV⟩; have d2 : V.cell? ⟨n0 + 1, 2, none⟩ = _ := q2 ⟨V, hV⟩; have d3 : V.cell? ⟨n0 + 1, 3, none⟩ = _ := q3 ⟨V, hV⟩; have e0 : V.cell? ⟨b1, 0, none⟩ = _ := r0 ⟨V, hV⟩
  have HV := Lib.hid hV
  clear hV p0 p1 p2 p3 q0 q1 q2 q3 r0
  by_cases hc : CK = 0
  · subst hc
    by_cases hka : KA = 0
    · have hr : Hid (cmpI LA LB = R) := Lib.hid (by rw [← HR.out, if_neg (by simp [hka])])
      subst hka
      go_wp2_with (go_at_call 51; (with_reducible refine (hKA.out _ (HF0.out.trans HV.out)).mono ?_); rintro e w2 ⟨rfl, hf2⟩; have HF2 := Lib.hid (HV.out.trans hf2); have a0 := hf2.cell a0 (fun e => e); have a1 := hf2.cell a1 (fun e => e); have a2 := hf2.cell a2 (fun e => e); have a3 := hf2.cell a3 (fun e => e); have d0 := hf2.cell d0 (fun e => e); have d1 := hf2.cell d1 (fun e => e); have d2 := hf2.cell d2 (fun e => e); have d3 := hf2.cell d3 (fun e => e); have a0 := FrW.cell a0; have a1 := FrW.cell a1; have a2 := FrW.cell a2; have a3 := FrW.cell a3; have d0 := FrW.cell d0; have d1 := FrW.cell d1; have d2 := FrW.cell d2; have d3 := FrW.cell d3; clear hf2)
      refine wp_region_fr (by kernel_rfl) (by kernel_rfl) ?_
      repeat (go_big_quiet_step (first | (go_at_call 24; rename_i X; (first | (with_reducible refine (hLA.out X.val (HF0.out.trans (HF2.out.trans X.fr))).mono ?_) | (with_reducible refine (hLB.out X.val (HF0.out.trans (HF2.out.trans X.fr))).mono ?_)); rintro e w3 ⟨rfl, hF⟩; exact ⟨rfl, ⟨w3, X.fr.trans hF⟩, rfl⟩) | (go_at_call 53; rename_i X; refine (hCM.out LA LB _).mono ?_; rw [hr.out]; rintro e w3 ⟨rfl, rfl⟩; exact ⟨rfl, ⟨_, X.fr⟩, rfl⟩)))
      refine wpQuiet_nil ?_
      rintro V3 ⟨⟨_, hV3⟩, rfl⟩
      go_wp2_with fail
      go_ret
      exact ⟨rfl, HF0.out.trans (HF2.out.trans hV3)⟩
    · have hr : Hid (R = 0) := Lib.hid (by rw [← HR.out, if_pos (.inr hka)])
      have bk : (KA != 0) = true := by simpa using hka
      clear hka
      go_wp2_with (go_at_call 51; (with_reducible refine (hKA.out _ (HF0.out.trans HV.out)).mono ?_); rintro e w2 ⟨rfl, hf2⟩; have HF2 := Lib.hid (HV.out.trans hf2); clear hf2)
      go_ret
      exact ⟨by rw [hr.out]; rfl, HF0.out.trans HF2.out⟩
  · have hr : Hid (R = CK) := Lib.hid (by rw [← HR.out, if_pos (.inl hc)])
    have bk : (CK != 0) = true := by simpa using hc
    clear hc
    go_wp2_with fail
    go_ret
    exact ⟨by rw [hr.out]; rfl, HF0.out.trans HV.out⟩
end Go.Proofs.YtefjdcghdcbojaaGreat

