/- What requests and answers say of a good: plainly. -/
import Derived.Test.YtbeikkkmobbnkaaGreatModMoreM4
import Derived.Test.YtbeikkkmobbnkaaGreatModMoreM25
import Derived.Test.YtbeikkkmobbnkaaGreatModMoreM26
import Derived.Test.YtbeikkkmobbnkaaGreatModMoreM30
namespace Go.Proofs.YtbeikkkmobbnkaaGreat
open Go.RowKit Go.Maps
theorem filter_isK (x : PK) (L : List AV) : (rightL L).filter (isK x) = grpL x.1.1 x.1.2 L := rfl
def headM (kind : Int) (g : Str) (L G : List AV) : Int := match G with | [] => 0 | a :: _ => movF a kind g L
def mxF (kind : Int) (g : Str) (L G : List AV) : Int := G.foldl (fun m x => max m (movF x kind g L)) 0
theorem mxF_take {G : List AV} {k : Nat} {p : AV} (kind : Int) (g : Str) (L : List AV) (h : G[k]? = some p) : mxF kind g L (G.take (k + 1)) = max (mxF kind g L (G.take k)) (movF p kind g L) := by
  unfold mxF
  rw [List.take_add_one, h, List.foldl_append]
  rfl
/-- What a group adds to the least, to the most. -/
def leastG (kind : Int) (g : Str) (L : List AV) (Y : List YV) (c n : Int) : Int := if stF c n Y = 1 ∧ plainL (grpL c n L) = true then headM kind g L (grpL c n L) else 0
def mostG (kind : Int) (g : Str) (L : List AV) (Y : List YV) (c n : Int) : Int := if stF c n Y = 2 then 0 else mxF kind g L (grpL c n L)
/-- The sum over the first of each group, among the first k. -/
def spanT (f : Int → Int → Int) (R : List AV) : Nat → Int
  | 0 => 0
  | k + 1 => spanT f R k + (match R[k]? with | some a => if (R.take k).any (isG a.c a.n) = true then 0 else f a.c a.n | none => 0)
theorem spanT_yes {f : Int → Int → Int} {R : List AV} {k : Nat} {a : AV} (h : R[k]? = some a) (hf : (R.take k).any (isG a.c a.n) = false) : spanT f R (k + 1) = spanT f R k + f a.c a.n := by
  show spanT f R k + _ = _
  rw [h]; simp [hf]
theorem spanT_no {f : Int → Int → Int} {R : List AV} {k : Nat} {a : AV} (h : R[k]? = some a) (hf : (R.take k).any (isG a.c a.n) = true) : spanT f R (k + 1) = spanT f R k := by
  show spanT f R k + _ = _
  rw [h]; simp [hf]
/-- The keys of the first k, each once. -/
def keysT (R : List AV) : Nat → List (Int × Int)
  | 0 => []
  | k + 1 => keysT R k ++ (match R[k]? with | some a => if (R.take k).any (isG a.c a.n) = true then [] else [(a.c, a.n)] | none => [])
theorem keysT_sum (f : Int → Int → Int) (R : List AV) : ∀ k, ((keysT R k).map fun p => f p.1 p.2).sum = spanT f R k
  | 0 => rfl
  | k + 1 => by
    unfold keysT spanT
    rw [List.map_append, List.sum_append, keysT_sum f R k]
    congr 1
    cases R[k]? with
    | none => rfl
    | some a => dsimp only; split <;> simp
theorem isG_iff {c n : Int} {a : AV} : isG c n a = true ↔ a.c = c ∧ a.n = n := by simp [isG]
theorem keysT_mem (R : List AV) : ∀ k, k ≤ R.length → ∀ p, p ∈ keysT R k ↔ ∃ a ∈ R.take k, a.c = p.1 ∧ a.n = p.2
  | 0, _, p => by simp [keysT]
  | k + 1, hk, p => by
    obtain ⟨a, ha⟩ : ∃ a, R[k]? = some a := ⟨R[k], List.getElem?_eq_getElem (by omega)⟩
    unfold keysT
    rw [List.mem_append, keysT_mem R k (by omega) p, List.take_add_one, ha]
    simp only [Option.toList_some, List.mem_append, List.mem_singleton]
    constructor
    · rintro (⟨x, hx, h⟩ | h)
      · exact ⟨x, .inl hx, h⟩
      · by_cases e : (R.take k).any (isG a.c a.n) = true
        · rw [if_pos e] at h; cases h
        · rw [if_neg e] at h
          rw [List.mem_singleton] at h
          rw [h]
          exact ⟨a, .inr rfl, rfl, rfl⟩
    · rintro ⟨x, hx | rfl, h1, h2⟩
      · exact .inl ⟨x, hx, h1, h2⟩
      · by_cases e : (R.take k).any (isG x.c x.n) = true
        · obtain ⟨y, hy, hyy⟩ := List.any_eq_true.1 e
          obtain ⟨h3, h4⟩ := isG_iff.1 hyy
          exact .inl ⟨y, hy, h3.trans h1, h4.trans h2⟩
        · rw [if_neg e]
          exact .inr (by rw [List.mem_singleton]; exact Prod.ext h1.symm h2.symm)
theorem keysT_nodup (R : List AV) : ∀ k, k ≤ R.length → (keysT R k).Nodup
  | 0, _ => by simp [keysT]
  | k + 1, hk => by
    obtain ⟨a, ha⟩ : ∃ a, R[k]? = some a := ⟨R[k], List.getElem?_eq_getElem (by omega)⟩
    unfold keysT
    rw [ha]
    dsimp only
    by_cases e : (R.take k).any (isG a.c a.n) = true
    · rw [if_pos e, List.append_nil]; exact keysT_nodup R k (by omega)
    · rw [if_neg e]
      refine List.nodup_append.2 ⟨keysT_nodup R k (by omega), by simp, fun p hp q hq e2 => ?_⟩
      rw [List.mem_singleton] at hq
      subst hq
      subst e2
      obtain ⟨x, hx, h1, h2⟩ := (keysT_mem R k (by omega) _).1 hp
      exact e (List.any_eq_true.2 ⟨x, hx, isG_iff.2 ⟨h1, h2⟩⟩)
theorem sum_perm {l l' : List Int} (h : l.Perm l') : l.sum = l'.sum := by
  induction h with
  | nil => rfl
  | cons x _ ih => simp [ih]
  | swap x y l => simp; omega
  | trans _ _ h1 h2 => exact h1.trans h2
/-- The sum over entries that are not still to come. -/
def sumNot (left : Lit → Bool) (l : List (PK × Value)) (f : Int → Int → Int) : Int := ((l.filter fun p => !left (ktP.lit p.1)).map fun p => f p.1.1.1 p.1.1.2).sum
theorem ktP_same (x y : PK) : (ktP.lit x).sameKey (ktP.lit y) = decide (x = y) := whoK.same x y
theorem sumNot_cons (left : Lit → Bool) (p : PK × Value) (r : List (PK × Value)) (f : Int → Int → Int) : sumNot left (p :: r) f = (if left (ktP.lit p.1) = true then 0 else f p.1.1.1 p.1.1.2) + sumNot left r f := by
  unfold sumNot
  cases e : left (ktP.lit p.1) <;> simp [List.filter_cons, e]
theorem sumNot_rest {left : Lit → Bool} {f : Int → Int → Int} {x : PK} : ∀ {l : List (PK × Value)}, x ∉ l.map (·.1) → sumNot (fun z => left z && !z.sameKey (ktP.lit x)) l f = sumNot left l f
  | [], _ => rfl
  | p :: r, h => by
    rw [List.map_cons, List.mem_cons] at h
    have e : ¬ p.1 = x := fun e => h (.inl e.symm)
    rw [sumNot_cons, sumNot_cons, sumNot_rest (fun hm => h (.inr hm))]
    have e3 : (left (ktP.lit p.1) && !(ktP.lit p.1).sameKey (ktP.lit x)) = left (ktP.lit p.1) := by rw [ktP_same, decide_eq_false e]; simp
    rw [e3]
theorem sumNot_step {left : Lit → Bool} {f : Int → Int → Int} {x : PK} (hl : left (ktP.lit x) = true) : ∀ {l : List (PK × Value)}, (l.map (·.1)).Nodup → (getS l x).isSome = true →
    sumNot (fun z => left z && !z.sameKey (ktP.lit x)) l f = sumNot left l f + f x.1.1 x.1.2
  | [], _, h => by simp [getS] at h
  | p :: r, hn, h => by
    rw [List.map_cons, List.nodup_cons] at hn
    rw [sumNot_cons, sumNot_cons]
    by_cases e : p.1 = x
    · rw [sumNot_rest (by rw [← e]; exact hn.1), e, hl, ktP_same]
      simp
      omega
    · rw [sumNot_step hl hn.2 (by simpa [getS, e] using h)]
      have e3 : (left (ktP.lit p.1) && !(ktP.lit p.1).sameKey (ktP.lit x)) = left (ktP.lit p.1) := by rw [ktP_same, decide_eq_false e]; simp
      rw [e3]
      omega
theorem sumNot_all {left : Lit → Bool} (h : ∀ k, left k = false) (l : List (PK × Value)) (f : Int → Int → Int) : sumNot left l f = (l.map fun p => f p.1.1.1 p.1.1.2).sum := by
  unfold sumNot
  rw [List.filter_eq_self.2 (fun p _ => by simp [h])]
theorem mpP_nd {P : Program} {k : TypeId} {enc : Value → Value} {w : World} {b : Nat} {l : List (PK × Value)} (h : Mp P w k ktP enc b l) (K : KO P k ktP) : (l.map (·.1)).Nodup := by
  have h2 := (h.ok K).2
  rw [List.nodup_iff_pairwise_ne, List.pairwise_map]
  refine h2.imp (fun {p q} hlt e => ?_)
  rw [e] at hlt
  have : ktP.lt q.1 q.1 = false := by
    show bytesBefore _ _ = false
    rw [bytesBefore_eq]
    exact decide_eq_false (str_irr _)
  rw [this] at hlt
  cases hlt
theorem sumNot_none (l : List (PK × Value)) (f : Int → Int → Int) (hn : (l.map (·.1)).Nodup) : sumNot (Maps.has (ktP.dat id l)) l f = 0 := by
  unfold sumNot
  rw [List.filter_eq_nil_iff.2]
  · rfl
  · intro p hp
    have := dat_has whoK id p.1 l
    rw [this, getK_of hn hp]
    simp
/-- The sum over the map is the sum over the first of each group. -/
theorem span_eq {w0 W : World} {n0 nb bm : Nat} {L : List AV} {l : List (PK × Value)} {C : Nat → Prop} (h : GrI w0 W n0 nb bm (rightL L) l C) (hok : ∀ p ∈ rightL L, okI p.c ∧ okI p.n) (f : Int → Int → Int) :
    (l.map fun p => f p.1.1.1 p.1.1.2).sum = spanT f (rightL L) (rightL L).length := by
  rw [← keysT_sum]
  have hnd := mpP_nd h.mp whoK
  have e : (l.map fun p => f p.1.1.1 p.1.1.2) = (l.map (fun p => p.1.1)).map fun p => f p.1 p.2 := by rw [List.map_map]; rfl
  rw [e]
  refine sum_perm (List.Perm.map _ ?_)
  have hn2 : (l.map (fun p => p.1.1)).Nodup := by
    have : l.map (fun p : PK × Value => p.1.1) = (l.map (·.1)).map Subtype.val := by rw [List.map_map]; rfl
    rw [this, List.nodup_iff_pairwise_ne, List.pairwise_map]
    exact (List.nodup_iff_pairwise_ne.1 hnd).imp (fun {a b} hne e => hne (Subtype.ext e))
  refine (List.perm_ext_iff_of_nodup hn2 (keysT_nodup _ _ (Nat.le_refl _))).2 (fun p => ?_)
  rw [keysT_mem _ _ (Nat.le_refl _), List.take_length]
  constructor
  · intro hp
    obtain ⟨q, hq, rfl⟩ := List.mem_map.1 hp
    have hg := getK_of hnd hq
    have hne := h.ne q.1 q.2 hg
    obtain ⟨a, ha⟩ := List.exists_mem_of_ne_nil _ hne
    obtain ⟨h1, h2⟩ := List.mem_filter.1 ha
    obtain ⟨h3, h4⟩ := isG_iff.1 (show isG q.1.1.1 q.1.1.2 a = true from h2)
    exact ⟨a, h1, h3, h4⟩
  · rintro ⟨a, ha, h1, h2⟩
    obtain ⟨o1, o2⟩ := hok a ha
    have hx : ((rightL L).filter (isK (PK.of a o1 o2))) ≠ [] := fun e => by
      have : a ∈ (rightL L).filter (isK (PK.of a o1 o2)) := List.mem_filter.2 ⟨ha, isK_of⟩
      rw [e] at this; cases this
    cases hg : getS l (PK.of a o1 o2) with
    | none => exact absurd (h.none _ hg) hx
    | some v =>
      refine List.mem_map.2 ⟨_, getK_mem hg, ?_⟩
      exact Prod.ext h1 h2
end Go.Proofs.YtbeikkkmobbnkaaGreat
