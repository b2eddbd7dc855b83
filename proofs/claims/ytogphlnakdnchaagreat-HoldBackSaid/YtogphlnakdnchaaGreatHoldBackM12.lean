/- Texts of this claim, joined: As XEff, where the calls of the chain may turn what the other operations do not read; A region that draws its order: operations that only read, a chain of calls (each waits for the one ahead), a box that may be laid at any time, and the store into it behind all others: one walk in the text's order serves. O: the blocks that the chain's calls own (they are made within the region); the box is none of them; hold: Pack: the region ahead of its loop; hold: no shelf; The keys of map[int]api.Hold, in order; Ranges over functions whose iterator gives values of its own making (Rep: what is given reads as); hold: Orders, the iterator; hold: Pack (written by wip/tools/pack08.py). -/
import Derived.Test.YtogphlnakdnchaaGreatHoldBackM10
import Derived.Test.YtogphlnakdnchaaGreatHoldBackM1
import Derived.Test.YtogphlnakdnchaaGreatHoldBackM9
import Derived.Test.YtogphlnakdnchaaGreatHoldBackM11
import Derived.Test.YtogphlnakdnchaaGreatHoldBackM2
import Derived.Test.YtogphlnakdnchaaGreatHoldBackM8
import Derived.Shelf.Abstract
import Derived.Test.YtogphlnakdnchaaGreatShelfH
namespace Go.Proofs.YtogphlnakdnchaaGreat
open Go Go.RowKit
def wpEfS (S : Nat → Prop) (P : Program) (ops : Array Oper) (Q : Act → World → Prop) : List (Oper × Bool) → Act → World → Prop
  | [], a, w => ∀ w1, Fr (fun _ => False) w w1 → Q a w1
  | (o, cl) :: es, a, w => ∀ w1, Fr (fun _ => False) w w1 → wpList P ops (fun ex a2 w2 => ex = Exit.normal ∧ a2.defers = a.defers ∧ (cl = true → Fr S w1 w2) ∧ wpEfS S P ops Q es a2 w2) [o] a w1
section
variable {S : Nat → Prop} {P : Program} {l : List Oper} {E : Efs} {pu : List Nat} {w0 : World} {aF : Act} {Q : Exit → Act → World → Prop}
theorem all_putS {ops : Array Oper} {fuel : Nat} {listed : Array Bool} {a' : Act} {i : Nat} {o : Oper} (ho : ops[i]? = some o) (hr : i ∈ Region.ready .any ops listed)
    (hw : ∀ (j : Nat) (x : Oper) (t : Tmp), ops[j]? = some x → x.dst = some t → o.dst = some t → j = i) (hil : i < listed.size)
    (hH : ∀ wX, Fr S w0 wX → wpAnyQ P .any ops (fun w' => ∃ Y : FrW wX, w' = Y.val) (fun x => x = aF) (fuel + 1) listed a') (wX : World) (hX : Fr S w0 wX) :
    ∃ v, YieldsIn P ops (fun w' => ∃ Y : FrW wX, w' = Y.val) o v a' ∧ ∀ wY, Fr S w0 wY → wpAnyQ P .any ops (fun w' => ∃ Y : FrW wY, w' = Y.val) (fun x => x = aF) fuel (listed.setIfInBounds i true) (a'.put o.dst v) := by
  have hset : (listed.setIfInBounds i true).getD i true = true := getD_set_same hil
  have fin : ∀ wY, Fr S w0 wY → ∃ v, YieldsIn P ops (fun w' => ∃ Y : FrW wY, w' = Y.val) o v a' ∧ wpAnyQ P .any ops (fun w' => ∃ Y : FrW wY, w' = Y.val) (fun x => x = aF) fuel (listed.setIfInBounds i true) (a'.put o.dst v) ∧ ∀ t, o.dst = some t → (a'.put o.dst v).tmps[t]? = aF.tmps[t]? := fun wY hY => by
    obtain ⟨v, h1, h2⟩ := yieldsIn_of_qOp ho ((hH wY hY).2 i hr)
    refine ⟨v, h1, h2, fun t ht => fin_at fuel _ _ h2 t (fun j x hj hu hx => ?_)⟩
    have := hw j x t hj hx ht
    rw [this, hset] at hu
    cases hu
  obtain ⟨v, h1, h2, h3⟩ := fin wX hX
  refine ⟨v, h1, fun wY hY => ?_⟩
  obtain ⟨u, _, g2, g3⟩ := fin wY hY
  have e : a'.put o.dst v = a'.put o.dst u := by
    refine act_ext (by rw [put_dfr, put_dfr]) (fun t => ?_)
    by_cases ht : o.dst = some t
    · rw [h3 t ht, g3 t ht]
    · rw [put_out ht, put_out ht]
  rw [e]
  exact g2
structure EInvS (S : Nat → Prop) (P : Program) (l : List Oper) (E : Efs) (pu : List Nat) (w0 : World) (aF : Act) (Q : Act → World → Prop) (listed : Array Bool) (k : Nat) (a' a af : Act) (w : World) : Prop where
  lst : ∀ (p e : Nat), (efIdx E)[p]? = some e → (listed.getD e true = true ↔ p < k)
  kle : k ≤ E.length
  df : a.defers = a'.defers ∧ af.defers = aF.defers
  sz : a.tmps.size = a'.tmps.size ∧ af.tmps.size = aF.tmps.size ∧ a.tmps.size = af.tmps.size
  don : ∀ (p e t : Nat) (o : Oper), p < k → (efIdx E)[p]? = some e → l[e]? = some o → o.dst = some t → a.tmps[t]? = af.tmps[t]?
  out : ∀ t : Nat, (∀ (p e : Nat) (o : Oper), p < k → (efIdx E)[p]? = some e → l[e]? = some o → o.dst ≠ some t) → a.tmps[t]? = a'.tmps[t]? ∧ af.tmps[t]? = aF.tmps[t]?
  eff : ∃ wk, Fr (fun _ => False) wk w ∧ wpEfS S P l.toArray Q (efOps l (E.drop k)) af wk
  cls : (Fr S w0 w) ∨ (∀ i, i < l.length → i ∉ efIdx E → listed.getD i true = false → i ∈ pu)
  lsz : listed.size = l.length
  cld : ∀ (j : Nat) (x : Oper), l[j]? = some x → listed.getD j true = true → ∀ e ∈ x.after, Region.binds .any e = true → listed.getD e.on false = true
theorem eff_simS {dp : Nat} (ok : EfOk l E pu dp)
    (hpu : ∀ i ∈ pu, ∀ o, l[i]? = some o → ∃ v, ∀ w, (execOp aF.eval o).run P w = .ok (.value v) w) :
    ∀ (fuel : Nat) (listed : Array Bool) (k : Nat) (a' a af : Act) (w : World), EInvS S P l E pu w0 aF (fun x y => Q .normal x y) listed k a' a af w →
      (∀ wX, Fr S w0 wX → wpAnyQ P .any (boxedF (efIdx E) 0 l).toArray (fun w' => ∃ Y : FrW wX, w' = Y.val) (fun x => x = aF) fuel listed a') → wpAny P .any l.toArray Q fuel listed a w := by
  have hend : ∀ (fuel : Nat) (listed : Array Bool) (k : Nat) (a' a af : Act) (w : World), EInvS S P l E pu w0 aF (fun x y => Q .normal x y) listed k a' a af w →
      (∀ wX, Fr S w0 wX → wpAnyQ P .any (boxedF (efIdx E) 0 l).toArray (fun w' => ∃ Y : FrW wX, w' = Y.val) (fun x => x = aF) fuel listed a') → Region.ready .any l.toArray listed = [] → Q .normal a w := fun fuel listed k a' a af w inv hH hr => by
    have hall : ∀ j, j < l.length → listed.getD j true = true := fun j hj => by
      cases e : listed.getD j true with
      | true => rfl
      | false => exact absurd hr (ready_some ok.acy (by rw [inv.lsz]; simp) j j (by simpa using hj) (Nat.le_refl _) e)
    have ea : a' = aF := wpAnyQ_end (P := P) (C := fun w' => ∃ Y : FrW w0, w' = Y.val) (Q' := fun x => x = aF) (ops := (boxedF (efIdx E) 0 l).toArray) (by rw [bxd_ready]; exact hr) fuel (hH w0 (Fr.refl _ _))
    have hk : k = E.length := by
      rcases Nat.lt_or_ge k E.length with h | h
      · exfalso
        obtain ⟨o, ho, _⟩ := ok.eff E[k] (List.getElem_mem h)
        have h1 := hall E[k].1 (List.getElem?_eq_some_iff.1 ho).1
        have := (inv.lst k E[k].1 (efIdx_get (List.getElem?_eq_getElem h))).1 h1
        omega
      · have := inv.kle; omega
    obtain ⟨wk, hf, he⟩ := inv.eff
    rw [hk, List.drop_length] at he
    have h2 := he w hf
    have e : a = af := by
      refine act_ext (by rw [inv.df.1, inv.df.2, ea]) (fun t => ?_)
      by_cases ht : ∀ (p e : Nat) (o : Oper), p < k → (efIdx E)[p]? = some e → l[e]? = some o → o.dst ≠ some t
      · rw [(inv.out t ht).1, (inv.out t ht).2, ea]
      · have : ∃ (p e : Nat) (o : Oper), p < k ∧ (efIdx E)[p]? = some e ∧ l[e]? = some o ∧ o.dst = some t := Classical.byContradiction fun hn => ht fun p e o h1 h2 h3 h4 => hn ⟨p, e, o, h1, h2, h3, h4⟩
        obtain ⟨p, e, o, h1, h2, h3, h4⟩ := this
        exact inv.don p e t o h1 h2 h3 h4
    rw [e]
    exact h2
  intro fuel
  induction fuel with
  | zero =>
    intro listed k a' a af w inv hH
    have hr : Region.ready .any l.toArray listed = [] := by have := (hH w0 (Fr.refl _ _)).1; rwa [bxd_ready] at this
    exact ⟨hr, hend 0 listed k a' a af w inv hH hr⟩
  | succ fuel ih =>
    intro listed k a' a af w inv hH
    refine ⟨hend _ listed k a' a af w inv hH, fun i hi => ?_⟩
    obtain ⟨hun, o, ho, hdeps⟩ := mem_ready.1 hi
    have hol : l[i]? = some o := by simpa using ho
    have hil : i < l.length := (List.getElem?_eq_some_iff.1 hol).1
    have hlsz := inv.lsz
    have hi' : i ∈ Region.ready .any (boxedF (efIdx E) 0 l).toArray listed := by rw [bxd_ready]; exact hi
    have back : ∀ (j : Nat) (x : Oper) (t : Tmp), (boxedF (efIdx E) 0 l).toArray[j]? = some x → x.dst = some t → ∃ y, l[j]? = some y ∧ y.dst = some t := fun j x t hj hx => by
      rw [bxd_get] at hj
      cases hy : l.toArray[j]? with
      | none => rw [hy] at hj; cases hj
      | some y =>
        rw [hy] at hj
        refine ⟨y, by simpa using hy, ?_⟩
        simp only [Option.map_some, Option.some.injEq] at hj
        rw [← hj] at hx
        by_cases hc : (efIdx E).contains j = true
        · rw [if_pos hc] at hx; exact hx
        · rw [if_neg hc] at hx; exact hx
    have uniq : ∀ (j : Nat) (x : Oper) (t : Tmp), (boxedF (efIdx E) 0 l).toArray[j]? = some x → x.dst = some t → o.dst = some t → j = i := fun j x t hj hx ht => by
      obtain ⟨y, hy, hyd⟩ := back j x t hj hx
      exact ok.un j i y o t hy hol hyd ht
    -- a slot all of whose writers are listed is as at the end
    have fin : ∀ t : Nat, (∀ (j : Nat) (y : Oper), l[j]? = some y → y.dst = some t → listed.getD j true = true) → a'.tmps[t]? = aF.tmps[t]? := fun t ht =>
      fin_at (fuel + 1) listed a' (hH w0 (Fr.refl _ _)) t (fun j y hj hu hy => by
        obtain ⟨z, hz, hzd⟩ := back j y t hj hy
        rw [ht j z hz hzd] at hu
        cases hu)
    by_cases hE : i ∈ efIdx E
    · -- the chain's next
      obtain ⟨p, hp⟩ := List.getElem?_of_mem hE
      have hpk : ¬ p < k := fun h => by rw [(inv.lst p i hp).2 h] at hun; cases hun
      have hpk2 : p = k := by
        rcases Nat.lt_or_ge k p with h | h
        · exfalso
          obtain ⟨q, rfl⟩ : ∃ q, p = q + 1 := ⟨p - 1, by omega⟩
          have hq := (List.getElem?_eq_some_iff.1 hp).1
          have hqe : (efIdx E)[q]? = some (efIdx E)[q] := List.getElem?_eq_getElem (by omega)
          obtain ⟨o', ho', hw⟩ := ok.chn q _ i hqe hp
          rw [hol] at ho'
          obtain rfl : o = o' := by injection ho'
          obtain ⟨b, hb⟩ := efIdx_some hqe
          obtain ⟨x, hx, _⟩ := ok.eff _ (List.mem_of_getElem? hb)
          have h1 := listed_dep hdeps (by rw [hlsz]; exact (List.getElem?_eq_some_iff.1 hx).1) hw
          have := (inv.lst q _ hqe).1 h1
          omega
        · omega
      obtain rfl : k = p := hpk2.symm
      obtain ⟨cl, hcl⟩ := efIdx_some hp
      obtain ⟨o', ho', hog, hos, hlate⟩ := ok.eff _ (List.mem_of_getElem? hcl)
      dsimp only at ho' hlate
      rw [hol] at ho'
      obtain rfl : o = o' := by injection ho'
      have hob : (boxedF (efIdx E) 0 l).toArray[i]? = some (idleU o) := by rw [bxd_get, ho]; simp [hE]
      obtain ⟨u, _, hK⟩ := all_putS (w0 := w0) (fuel := fuel) (a' := a') hob hi' (fun j x t hj hx ht => uniq j x t hj hx ht) (by omega) hH w0 (Fr.refl _ _)
      have hK' : ∀ wY, Fr S w0 wY → wpAnyQ P .any (boxedF (efIdx E) 0 l).toArray (fun w' => ∃ Y : FrW wY, w' = Y.val) (fun x => x = aF) fuel (listed.setIfInBounds i true) (a'.put o.dst u) := hK
      have hlk : ∀ t ∈ o.looksAt l.toArray, a.tmps[t]? = af.tmps[t]? := fun t ht => by
        have hw : ∀ (j : Nat) (y : Oper), l[j]? = some y → y.dst = some t → listed.getD j true = true := fun j y hy hyd => listed_dep hdeps (by rw [hlsz]; exact (List.getElem?_eq_some_iff.1 hy).1) (sees_spec hos ht hy hyd)
        by_cases hex : ∀ (p e : Nat) (x : Oper), p < k → (efIdx E)[p]? = some e → l[e]? = some x → x.dst ≠ some t
        · rw [(inv.out t hex).1, (inv.out t hex).2]
          exact fin t hw
        · have : ∃ (p e : Nat) (x : Oper), p < k ∧ (efIdx E)[p]? = some e ∧ l[e]? = some x ∧ x.dst = some t := Classical.byContradiction fun hn => hex fun p e x h1 h2 h3 h4 => hn ⟨p, e, x, h1, h2, h3, h4⟩
          obtain ⟨p, e, x, h1, h2, h3, h4⟩ := this
          exact inv.don p e t x h1 h2 h3 h4
      have hsel := Region.noSelect_spec ok.sel
      obtain ⟨c1, _⟩ := look_congr (ops := l.toArray) (o := o) (a := a) (a' := af) (fun cs b => hsel i o cs b ho) hlk
      obtain ⟨wk, hf, he⟩ := inv.eff
      rw [efOps_drop hcl hol] at he
      have he1 := he w hf
      have hwp : o.wp P af w (fun a2 w2 => Exit.normal = Exit.normal ∧ a2.defers = af.defers ∧ (cl = true → Fr S w w2) ∧ wpEfS S P l.toArray (fun x y => Q .normal x y) (efOps l (E.drop (k + 1))) a2 w2) (fun ex a2 w2 => ex = Exit.normal ∧ a2.defers = af.defers ∧ (cl = true → Fr S w w2) ∧ wpEfS S P l.toArray (fun x y => Q .normal x y) (efOps l (E.drop (k + 1))) a2 w2) := by
        have h1 : (if Region.wanted o (yielded l.toArray af.tmps) then _ else _) := he1
        simp only [Region.wanted, hog, if_true] at h1
        rcases h1 with h1 | ⟨_, x, y, h2⟩
        · exact h1
        · cases h2.1
      have hset : ∀ j, (listed.setIfInBounds i true).getD j true = true ↔ (j = i ∨ listed.getD j true = true) := fun j => by
        by_cases e : i = j
        · subst e; simp [getD_set_same (show i < listed.size by omega)]
        · rw [getD_set_ne true e]
          exact ⟨.inr, fun h => h.elim (fun e2 => absurd e2.symm e) id⟩
      unfold wpOp
      rw [ho]
      simp only [Region.wanted, hog, if_true]
      left
      refine eff_conv c1 (fun v w2 h => ?_) (fun x w2 h => h.2.1) (fun ex x w2 h => h.1) hwp
      obtain ⟨_, hd2, hcl2, hrest⟩ := h
      refine ih _ (k + 1) (a'.put o.dst u) _ (af.put o.dst v) w2 ⟨fun p e hpe => ?_, ?_, ⟨by rw [put_dfr, put_dfr]; exact inv.df.1, by rw [put_dfr]; exact inv.df.2⟩, ⟨by rw [put_size, put_size]; exact inv.sz.1, by rw [put_size]; exact inv.sz.2.1, by rw [put_size, put_size]; exact inv.sz.2.2⟩, fun p e t x h1 h2 h3 h4 => ?_, fun t ht => ?_, ⟨w2, Fr.refl _ _, hrest⟩, ?_, by simp [hlsz], cld_set hol hdeps inv.cld⟩ hK'
      · rw [hset e]
        by_cases hpk : p = k
        · subst hpk
          rw [hp] at hpe
          cases hpe
          simp
        · have hne : e ≠ i := fun he => by
            subst he
            have h1 := (List.getElem?_eq_some_iff.1 hp)
            have h2 := (List.getElem?_eq_some_iff.1 hpe)
            exact hpk ((List.getElem_inj ok.nod).1 (h2.2.trans h1.2.symm))
          rw [show (e = i ∨ listed.getD e true = true) ↔ listed.getD e true = true from ⟨fun h => h.elim (fun h => absurd h hne) id, .inr⟩, inv.lst p e hpe]
          omega
      · have := (List.getElem?_eq_some_iff.1 hcl).1; omega
      · by_cases hto : o.dst = some t
        · by_cases hts : t < a.tmps.size
          · rw [hto, put_at hts, put_at (by rw [← inv.sz.2.2]; exact hts)]
          · rw [Array.getElem?_eq_none (by rw [put_size]; omega), Array.getElem?_eq_none (by rw [put_size, ← inv.sz.2.2]; omega)]
        · rw [put_out hto, put_out hto]
          by_cases hpk : p = k
          · subst hpk
            rw [hp] at h2
            cases h2
            rw [hol] at h3
            cases h3
            exact absurd h4 hto
          · exact inv.don p e t x (by omega) h2 h3 h4
      · have hto : o.dst ≠ some t := ht k i o (by omega) hp hol
        rw [put_out hto, put_out hto, put_out hto]
        exact inv.out t (fun p e x h1 h2 h3 => ht p e x (by omega) h2 h3)
      · cases cl with
        | true =>
          rcases inv.cls with h | h
          · exact .inl (h.trans (hcl2 rfl))
          · refine .inr (fun j hj hjn hjl => h j hj hjn ?_)
            cases e : listed.getD j true with
            | false => rfl
            | true => rw [(hset j).2 (.inr e)] at hjl; cases hjl
        | false =>
          refine .inr (fun j hj hjn hjl => Classical.byContradiction fun hjp => ?_)
          have h1 := listed_depT inv.cld hlsz dp hdeps (by rw [hlsz]; exact hj) (hlate rfl j hj hjn hjp)
          rw [(hset j).2 (.inr h1)] at hjl
          cases hjl
    · -- one that only reads
      have hob : (boxedF (efIdx E) 0 l).toArray[i]? = some o := by rw [bxd_get, ho]; simp [hE]
      have hsel := Region.noSelect_spec ok.sel
      have hapart : ∀ t, (t ∈ o.looksAt l.toArray ∨ o.dst = some t) → ∀ (p e : Nat) (x : Oper), p < k → (efIdx E)[p]? = some e → l[e]? = some x → x.dst ≠ some t := fun t ht p e x _ h2 h3 h4 => by
        have := ok.ap i o hol hE e (List.mem_of_getElem? h2) x t h3 h4
        rcases ht with h | h
        · exact this.1 h
        · exact this.2 h
      obtain ⟨c1, c2⟩ := look_congr (ops := l.toArray) (o := o) (a := a) (a' := a') (fun cs b => hsel i o cs b ho) (fun t ht => (inv.out t (hapart t (.inl ht))).1)
      have hset : ∀ j, j ∈ efIdx E → (listed.setIfInBounds i true).getD j true = listed.getD j true := fun j hj => getD_set_ne true (fun e => hE (e ▸ hj))
      have hset2 : ∀ j, (listed.setIfInBounds i true).getD j true = false → listed.getD j true = false := fun j hj => by
        by_cases e : i = j
        · subst e; exact hun
        · rwa [getD_set_ne true e] at hj
      have key : ∀ v w', Fr (fun _ => False) w w' → (∀ wY, Fr S w0 wY → wpAnyQ P .any (boxedF (efIdx E) 0 l).toArray (fun w' => ∃ Y : FrW wY, w' = Y.val) (fun x => x = aF) fuel (listed.setIfInBounds i true) (a'.put o.dst v)) → wpAny P .any l.toArray Q fuel (listed.setIfInBounds i true) (a.put o.dst v) w' := fun v w' hf hK => by
        refine ih _ k (a'.put o.dst v) _ af w' ⟨fun p e hpe => by rw [hset e (List.mem_of_getElem? hpe)]; exact inv.lst p e hpe, inv.kle, ⟨by rw [put_dfr, put_dfr]; exact inv.df.1, inv.df.2⟩, ⟨by rw [put_size, put_size]; exact inv.sz.1, inv.sz.2.1, by rw [put_size]; exact inv.sz.2.2⟩, fun p e t x h1 h2 h3 h4 => ?_, fun t ht => ?_, ?_, ?_, by simp [hlsz], cld_set hol hdeps inv.cld⟩ hK
        · have hto : o.dst ≠ some t := fun hd => hapart t (.inr hd) p e x h1 h2 h3 h4
          rw [put_out hto]
          exact inv.don p e t x h1 h2 h3 h4
        · exact ⟨put_same (inv.out t ht).1 inv.sz.1, (inv.out t ht).2⟩
        · obtain ⟨wk, h1, h2⟩ := inv.eff
          exact ⟨wk, h1.trans hf, h2⟩
        · exact inv.cls.imp (fun h => h.trans' hf (fun _ _ e => e.elim)) (fun h j hj hjn hjl => h j hj hjn (hset2 j hjl))
      unfold wpOp
      rw [ho]
      simp only []
      rw [c2]
      rcases inv.cls with hcls | hcls
      · obtain ⟨v, hY, hK⟩ := all_putS (w0 := w0) (fuel := fuel) (a' := a') hob hi' uniq (by omega) hH w hcls
        rcases hY with ⟨hw, hq⟩ | ⟨hw, rfl⟩
        · rw [bxd_yielded] at hw
          rw [if_pos hw]
          left
          refine Oper.wp_of_quiet (C := fun w' => ∃ Y : FrW w, w' = Y.val) (K := fun x => x = a.put o.dst v) ⟨⟨w, Fr.refl _ w⟩, rfl⟩ ?_ ⟨v, fun w1 h1 => ?_, rfl⟩
          · rintro x w' ⟨Y, rfl⟩ rfl
            exact key v _ Y.fr hK
          · have := hq w1 h1
            unfold Oper.quietAt at *
            rw [c1]
            exact this
        · rw [bxd_yielded] at hw
          rw [if_neg (by rw [hw]; simp)]
          exact key undef w (Fr.refl _ w) hK
      · have hip := hcls i hil hE hun
        obtain ⟨hog, hos⟩ := ok.pur i hip o hol
        obtain ⟨v, hv⟩ := hpu i hip o hol
        obtain ⟨v', hY, hK⟩ := all_putS (w0 := w0) (fuel := fuel) (a' := a') hob hi' uniq (by omega) hH w0 (Fr.refl _ _)
        have hfin : ∀ t ∈ o.looksAt l.toArray, a'.tmps[t]? = aF.tmps[t]? := fun t ht => fin t (fun j y hy hyd => listed_dep hdeps (by rw [hlsz]; exact (List.getElem?_eq_some_iff.1 hy).1) (sees_spec hos ht hy hyd))
        obtain ⟨d1, _⟩ := look_congr (ops := l.toArray) (o := o) (a := a') (a' := aF) (fun cs b => hsel i o cs b ho) hfin
        have hvv : v' = v := by
          rcases hY with ⟨_, hq⟩ | ⟨hw, _⟩
          · have h1 := hq w0 ⟨⟨w0, Fr.refl _ _⟩, rfl⟩
            unfold Oper.quietAt at h1
            rw [d1, hv w0] at h1
            exact h1.2.symm
          · simp [Region.wanted, hog] at hw
        subst hvv
        simp only [Region.wanted, hog, if_true]
        left
        unfold Oper.wp
        rw [c1, d1, hv w]
        exact key v' w (Fr.refl _ w) hK
theorem wp_region_effS {id : Nat} {a : Act} {w : World} (S : Nat → Prop) (E : Efs) (pu : List Nat) (dp : Nat) {l' : List Oper} (hm : P.follows .mixedOrders = true) (hl : boxedF (efIdx E) 0 l = l') (hB : efB l E pu dp = true) (hL : Region.lexB .any l'.toArray = true)
    (h : ∃ aF : Act, (∀ X : World, Fr S w X → wpQuiet P l'.toArray (fun w' => ∃ Y : FrW X, w' = Y.val) (fun a' => a' = aF) l' a) ∧
      (∀ i ∈ pu, ∀ o, l[i]? = some o → ∃ v, ∀ w, (execOp aF.eval o).run P w = .ok (.value v) w) ∧ wpEfS S P l.toArray (fun x y => Q .normal x y) (efOps l E) aF w) : (Code.region id l.toArray true).wp P Q a w := by
  have ok := efB_ok hB
  obtain ⟨aF, h, hpu, he⟩ := h
  subst hl
  simp only [Region.lexB, Bool.and_eq_true] at hL
  have hH : ∀ wX, Fr S w wX → wpAnyQ P .any (boxedF (efIdx E) 0 l).toArray (fun w' => ∃ Y : FrW wX, w' = Y.val) (fun x => x = aF) l.toArray.size (Array.replicate l.toArray.size false) a := fun wX hX => by
    have := wpAnyQ_lex (C := fun w' => ∃ Y : FrW wX, w' = Y.val) (md := .any) hL.1 (boxedF (efIdx E) 0 l) 0 (Array.replicate (boxedF (efIdx E) 0 l).toArray.size false) a (by simp) (by simpa using hL.2) (h wX hX)
    rw [bxd_size] at this
    simpa [bxd_len] using this
  obtain ⟨hs, hd⟩ := fin_sz _ _ _ (hH w (Fr.refl _ _))
  refine wp_region_any hm (eff_simS (S := S) (w0 := w) (aF := aF) ok hpu _ _ 0 a a aF _ ⟨fun p e hpe => ?_, Nat.zero_le _, ⟨rfl, rfl⟩, ⟨rfl, rfl, hs.symm⟩, fun p e t o hp => by omega, fun t _ => ⟨rfl, rfl⟩, ⟨w, (Fr.refl _ w).drew, by simpa using he⟩, .inl (Fr.refl _ w).drew, by simp, fun j x hx hj => ?_⟩ hH)
  rotate_left
  · have := (List.getElem?_eq_some_iff.1 hx).1
    simp [this] at hj
  obtain ⟨b, hb⟩ := efIdx_some hpe
  obtain ⟨o, ho, _⟩ := ok.eff _ (List.mem_of_getElem? hb)
  have hel := (List.getElem?_eq_some_iff.1 ho).1
  dsimp only at hel
  constructor
  · intro h1
    simp [hel] at h1
  · intro h1; omega
end
end Go.Proofs.YtogphlnakdnchaaGreat

namespace Go.Proofs.YtogphlnakdnchaaGreat
open Go Go.RowKit
abbrev boxV (b : Nat) : Value := .pointer (some ⟨b, 0, none⟩)
def wpEfB (S : Nat → Prop) (P : Program) (ops : Array Oper) (Q : Act → World → Prop) (sto : Oper) (t : Tmp) (zo : Obj) (n0 : Nat) : List Oper → (Nat → Prop) → Act → World → Prop
  | [], O, a, w => ∀ w1 b, Fr (fun _ => False) w w1 → n0 ≤ b → w1.heap[b]? = some zo → ¬ O b → wpList P ops (fun ex a2 w2 => ex = Exit.normal ∧ a2.defers = a.defers ∧ Q a2 w2) [sto] (a.put (some t) (boxV b)) w1
  | o :: es, O, a, w => ∀ w1, Fr (fun _ => False) w w1 → wpList P ops (fun ex a2 w2 => ex = Exit.normal ∧ a2.defers = a.defers ∧ Fr S w1 w2 ∧ ∃ O' : Nat → Prop, Stp O w1 w2 O' ∧ (∀ b, O' b → b < w2.heap.size) ∧ wpEfB S P ops Q sto t zo n0 es O' a2 w2) [o] a w1
def efO (l : List Oper) (E : List Nat) : List Oper := E.filterMap fun e => l[e]?
theorem efO_drop {l : List Oper} {E : List Nat} {k e : Nat} {o : Oper} (h : E[k]? = some e) (ho : l[e]? = some o) : efO l (E.drop k) = o :: efO l (E.drop (k + 1)) := by
  have hk := (List.getElem?_eq_some_iff.1 h).1
  have he := (List.getElem?_eq_some_iff.1 h).2
  unfold efO
  rw [List.drop_eq_getElem_cons hk, he, List.filterMap_cons, ho]
def ebIdx (E : List Nat) (st q : Nat) : List Nat := E ++ [st, q]
/-- The text's order may be taken: what must hold of the region. -/
def efbB (l : List Oper) (E : List Nat) (st q : Nat) (t : Tmp) : Bool :=
  Region.noSelect l.toArray && acyB .any l.toArray && decide (ebIdx E st q).Nodup && chainB2 l E &&
  E.all (fun e => match l[e]? with | some o => o.guard.isNone && seesB l o && !(o.looksAt l.toArray).contains t && o.dst != some t | none => false) &&
  (match l[st]? with | some o => o.guard.isNone && seesB l o && o.dst.isNone && (List.range l.length).all (fun i => i == st || waits o i) | none => false) &&
  (match l[q]? with | some o => o.guard.isNone && o.dst == some t | none => false) &&
  (List.range l.length).all (fun i => (ebIdx E st q).contains i || (match l[i]? with | some o => (ebIdx E st q).all (fun e => match (l[e]?).bind (·.dst) with | some d => !(o.looksAt l.toArray).contains d && o.dst != some d | none => true) | none => true)) &&
  (List.range l.length).all (fun i => (List.range l.length).all fun j => i == j || (match l[i]?, l[j]? with | some x, some y => x.dst.isNone || x.dst != y.dst | _, _ => true))
structure EbOk (l : List Oper) (E : List Nat) (st q : Nat) (t : Tmp) : Prop where
  sel : Region.noSelect l.toArray = true
  acy : acyB .any l.toArray = true
  nod : (ebIdx E st q).Nodup
  chn : ∀ (p a b : Nat), E[p]? = some a → E[p + 1]? = some b → ∃ o, l[b]? = some o ∧ waits o a = true
  eff : ∀ e ∈ E, ∃ o, l[e]? = some o ∧ o.guard = none ∧ seesB l o = true ∧ t ∉ o.looksAt l.toArray ∧ o.dst ≠ some t
  sto : ∃ o, l[st]? = some o ∧ o.guard = none ∧ seesB l o = true ∧ o.dst = none ∧ ∀ i, i < l.length → i ≠ st → waits o i = true
  box : ∃ o, l[q]? = some o ∧ o.guard = none ∧ o.dst = some t
  ap : ∀ (i : Nat) (o : Oper), l[i]? = some o → i ∉ ebIdx E st q → ∀ e ∈ ebIdx E st q, ∀ x d, l[e]? = some x → x.dst = some d → d ∉ o.looksAt l.toArray ∧ o.dst ≠ some d
  un : ∀ (i j : Nat) (x y : Oper) (t : Tmp), l[i]? = some x → l[j]? = some y → x.dst = some t → y.dst = some t → i = j
theorem efbB_ok {l : List Oper} {E : List Nat} {st q : Nat} {t : Tmp} (h : efbB l E st q t = true) : EbOk l E st q t := by
  unfold efbB at h
  simp only [Bool.and_eq_true, List.all_eq_true, decide_eq_true_eq] at h
  obtain ⟨⟨⟨⟨⟨⟨⟨⟨h1, h2⟩, h3⟩, h4⟩, h5⟩, h6⟩, h7⟩, h8⟩, h9⟩ := h
  refine ⟨h1, h2, h3, chain_spec h4, fun e he => ?_, ?_, ?_, fun i o hi hn e he x d hx hd => ?_, fun i j x y t hx hy hxt hyt => ?_⟩
  · have := h5 e he
    cases ho : l[e]? with
    | none => rw [ho] at this; cases this
    | some o =>
      rw [ho] at this
      simp only [Bool.and_eq_true, Bool.not_eq_true', bne_iff_ne, ne_eq, Option.isNone_iff_eq_none] at this
      exact ⟨o, rfl, this.1.1.1, this.1.1.2, by simpa using this.1.2, this.2⟩
  · cases ho : l[st]? with
    | none => rw [ho] at h6; cases h6
    | some o =>
      rw [ho] at h6
      simp only [Bool.and_eq_true, Option.isNone_iff_eq_none, List.all_eq_true, List.mem_range, Bool.or_eq_true, beq_iff_eq] at h6
      exact ⟨o, rfl, h6.1.1.1, h6.1.1.2, h6.1.2, fun i hi hne => (h6.2 i hi).resolve_left hne⟩
  · cases ho : l[q]? with
    | none => rw [ho] at h7; cases h7
    | some o =>
      rw [ho] at h7
      simp only [Bool.and_eq_true, Option.isNone_iff_eq_none, beq_iff_eq] at h7
      exact ⟨o, rfl, h7.1, h7.2⟩
  · have hil := (List.getElem?_eq_some_iff.1 hi).1
    have := h8 i (List.mem_range.2 hil)
    rw [hi] at this
    simp only [Bool.or_eq_true, List.all_eq_true] at this
    rcases this with h | h
    · exact absurd (by simpa using h) hn
    · have := h e he
      rw [hx] at this
      simp only [Option.bind_some, hd, Bool.and_eq_true, Bool.not_eq_true', bne_iff_ne, ne_eq] at this
      exact ⟨by simpa using this.1, this.2⟩
  · have hil := (List.getElem?_eq_some_iff.1 hx).1
    have hjl := (List.getElem?_eq_some_iff.1 hy).1
    have := h9 i (List.mem_range.2 hil) j (List.mem_range.2 hjl)
    rw [hx, hy] at this
    simp only [Bool.or_eq_true, beq_iff_eq, bne_iff_ne, ne_eq, Option.isNone_iff_eq_none] at this
    rcases this with h | h | h
    · exact h
    · rw [h] at hxt; cases hxt
    · exact absurd (hxt.trans hyt.symm) h
section
variable {S : Nat → Prop} {P : Program} {l : List Oper} {E : List Nat} {st q : Nat} {t : Tmp} {zo : Obj} {n0 : Nat} {sto : Oper} {w0 : World} {aF : Act} {Q : Exit → Act → World → Prop}
structure EInvB (S : Nat → Prop) (P : Program) (l : List Oper) (E : List Nat) (st q : Nat) (t : Tmp) (zo : Obj) (n0 : Nat) (sto : Oper) (w0 : World) (aF : Act) (Q : Act → World → Prop) (listed : Array Bool) (k : Nat) (bo : Option Nat) (O : Nat → Prop) (a' a af : Act) (w : World) : Prop where
  lst : ∀ (p e : Nat), E[p]? = some e → (listed.getD e true = true ↔ p < k)
  kle : k ≤ E.length
  stl : listed.getD st true = false
  ql : listed.getD q true = true ↔ bo.isSome = true
  df : a.defers = a'.defers ∧ af.defers = aF.defers
  sz : a.tmps.size = a'.tmps.size ∧ af.tmps.size = aF.tmps.size ∧ a.tmps.size = af.tmps.size
  don : ∀ (p e u : Nat) (o : Oper), p < k → E[p]? = some e → l[e]? = some o → o.dst = some u → a.tmps[u]? = af.tmps[u]?
  out : ∀ u : Nat, u ≠ t → (∀ (p e : Nat) (o : Oper), p < k → E[p]? = some e → l[e]? = some o → o.dst ≠ some u) → a.tmps[u]? = a'.tmps[u]? ∧ af.tmps[u]? = aF.tmps[u]?
  bx : ∀ b, bo = some b → n0 ≤ b ∧ w.heap[b]? = some zo ∧ ¬ O b ∧ (t < a.tmps.size → a.tmps[t]? = some (boxV b))
  eff : ∃ wk, Fr (fun _ => False) wk w ∧ wpEfB S P l.toArray Q sto t zo n0 (efO l (E.drop k)) O af wk
  olt : ∀ b, O b → b < w.heap.size
  nw : n0 ≤ w.heap.size
  cls : Fr S w0 w
  lsz : listed.size = l.length
theorem eff_simB (ok : EbOk l E st q t) (hst : l[st]? = some sto)
    (hq : ∀ o, l[q]? = some o → ∀ (a : Act) (w : World), (execOp a.eval o).run P w = .ok (.value (boxV w.heap.size)) (w.alloc zo)) :
    ∀ (fuel : Nat) (listed : Array Bool) (k : Nat) (bo : Option Nat) (O : Nat → Prop) (a' a af : Act) (w : World), EInvB S P l E st q t zo n0 sto w0 aF (fun x y => Q .normal x y) listed k bo O a' a af w →
      (∀ wX, Fr S w0 wX → wpAnyQ P .any (boxedF (ebIdx E st q) 0 l).toArray (fun w' => ∃ Y : FrW wX, w' = Y.val) (fun x => x = aF) fuel listed a') → wpAny P .any l.toArray Q fuel listed a w := by
  have hstI : st ∈ ebIdx E st q := by unfold ebIdx; simp
  have hqI : q ∈ ebIdx E st q := by unfold ebIdx; simp
  have hEI : ∀ e ∈ E, e ∈ ebIdx E st q := fun e he => by unfold ebIdx; simp [he]
  have hnod := ok.nod
  unfold ebIdx at hnod
  rw [List.nodup_append] at hnod
  have hstE : st ∉ E := fun h => hnod.2.2 st h st (by simp) rfl
  have hqE : q ∉ E := fun h => hnod.2.2 q h q (by simp) rfl
  have hstq : st ≠ q := by
    have := hnod.2.1
    simp only [List.nodup_cons, List.mem_cons, List.not_mem_nil, or_false] at this
    exact this.1
  -- the store is never listed, so something is always ready
  have hne : ∀ (fuel : Nat) (listed : Array Bool) (k : Nat) (bo : Option Nat) (O : Nat → Prop) (a' a af : Act) (w : World), EInvB S P l E st q t zo n0 sto w0 aF (fun x y => Q .normal x y) listed k bo O a' a af w → Region.ready .any l.toArray listed = [] → False := fun fuel listed k bo O a' a af w inv hr =>
    absurd hr (ready_some ok.acy (by rw [inv.lsz]; simp) st st (by simpa using (List.getElem?_eq_some_iff.1 hst).1) (Nat.le_refl _) inv.stl)
  intro fuel
  induction fuel with
  | zero =>
    intro listed k bo O a' a af w inv hH
    have hr : Region.ready .any l.toArray listed = [] := by have := (hH w0 (Fr.refl _ _)).1; rwa [bxd_ready] at this
    exact (hne 0 listed k bo O a' a af w inv hr).elim
  | succ fuel ih =>
    intro listed k bo O a' a af w inv hH
    refine ⟨fun hr => (hne 0 listed k bo O a' a af w inv hr).elim, fun i hi => ?_⟩
    obtain ⟨hun, o, ho, hdeps⟩ := mem_ready.1 hi
    have hol : l[i]? = some o := by simpa using ho
    have hil : i < l.length := (List.getElem?_eq_some_iff.1 hol).1
    have hlsz := inv.lsz
    have hi' : i ∈ Region.ready .any (boxedF (ebIdx E st q) 0 l).toArray listed := by rw [bxd_ready]; exact hi
    have back : ∀ (j : Nat) (x : Oper) (u : Tmp), (boxedF (ebIdx E st q) 0 l).toArray[j]? = some x → x.dst = some u → ∃ y, l[j]? = some y ∧ y.dst = some u := fun j x u hj hx => by
      rw [bxd_get] at hj
      cases hy : l.toArray[j]? with
      | none => rw [hy] at hj; cases hj
      | some y =>
        rw [hy] at hj
        refine ⟨y, by simpa using hy, ?_⟩
        simp only [Option.map_some, Option.some.injEq] at hj
        rw [← hj] at hx
        by_cases hc : (ebIdx E st q).contains j = true
        · rw [if_pos hc] at hx; exact hx
        · rw [if_neg hc] at hx; exact hx
    have uniq : ∀ (j : Nat) (x : Oper) (u : Tmp), (boxedF (ebIdx E st q) 0 l).toArray[j]? = some x → x.dst = some u → o.dst = some u → j = i := fun j x u hj hx ht => by
      obtain ⟨y, hy, hyd⟩ := back j x u hj hx
      exact ok.un j i y o u hy hol hyd ht
    have fin : ∀ u : Nat, (∀ (j : Nat) (y : Oper), l[j]? = some y → y.dst = some u → listed.getD j true = true) → a'.tmps[u]? = aF.tmps[u]? := fun u ht =>
      fin_at (fuel + 1) listed a' (hH w0 (Fr.refl _ _)) u (fun j y hj hu hy => by
        obtain ⟨z, hz, hzd⟩ := back j y u hj hy
        rw [ht j z hz hzd] at hu
        cases hu)
    have hset : ∀ j, (listed.setIfInBounds i true).getD j true = true ↔ (j = i ∨ listed.getD j true = true) := fun j => by
      by_cases e : i = j
      · subst e; simp [getD_set_same (show i < listed.size by omega)]
      · rw [getD_set_ne true e]
        exact ⟨.inr, fun h => h.elim (fun e2 => absurd e2.symm e) id⟩
    have hstset : i ≠ st → (listed.setIfInBounds i true).getD st true = false := fun h => by rw [getD_set_ne true h]; exact inv.stl
    have hlk : ∀ (seen : seesB l o = true) (u : Tmp), u ≠ t → u ∈ o.looksAt l.toArray → a.tmps[u]? = af.tmps[u]? := fun hos u hut ht => by
      have hw : ∀ (j : Nat) (y : Oper), l[j]? = some y → y.dst = some u → listed.getD j true = true := fun j y hy hyd => listed_dep hdeps (by rw [hlsz]; exact (List.getElem?_eq_some_iff.1 hy).1) (sees_spec hos ht hy hyd)
      by_cases hex : ∀ (p e : Nat) (x : Oper), p < k → E[p]? = some e → l[e]? = some x → x.dst ≠ some u
      · rw [(inv.out u hut hex).1, (inv.out u hut hex).2]
        exact fin u hw
      · have : ∃ (p e : Nat) (x : Oper), p < k ∧ E[p]? = some e ∧ l[e]? = some x ∧ x.dst = some u := Classical.byContradiction fun hn => hex fun p e x h1 h2 h3 h4 => hn ⟨p, e, x, h1, h2, h3, h4⟩
        obtain ⟨p, e, x, h1, h2, h3, h4⟩ := this
        exact inv.don p e u x h1 h2 h3 h4
    by_cases hIx : i ∈ ebIdx E st q
    · have hob : (boxedF (ebIdx E st q) 0 l).toArray[i]? = some (idleU o) := by rw [bxd_get, ho]; simp [hIx]
      obtain ⟨u, _, hK⟩ := all_putS (w0 := w0) (fuel := fuel) (a' := a') hob hi' (fun j x t hj hx ht => uniq j x t hj hx ht) (by omega) hH w0 (Fr.refl _ _)
      have hK' : ∀ wY, Fr S w0 wY → wpAnyQ P .any (boxedF (ebIdx E st q) 0 l).toArray (fun w' => ∃ Y : FrW wY, w' = Y.val) (fun x => x = aF) fuel (listed.setIfInBounds i true) (a'.put o.dst u) := hK
      have hsel := Region.noSelect_spec ok.sel
      by_cases hiE : i ∈ E
      · -- the chain's next
        have hist : i ≠ st := fun e => hstE (e ▸ hiE)
        have hiq : i ≠ q := fun e => hqE (e ▸ hiE)
        obtain ⟨p, hp⟩ := List.getElem?_of_mem hiE
        have hpk : ¬ p < k := fun h => by rw [(inv.lst p i hp).2 h] at hun; cases hun
        have hpk2 : p = k := by
          rcases Nat.lt_or_ge k p with h | h
          · exfalso
            obtain ⟨r, rfl⟩ : ∃ r, p = r + 1 := ⟨p - 1, by omega⟩
            have hr := (List.getElem?_eq_some_iff.1 hp).1
            have hre : E[r]? = some E[r] := List.getElem?_eq_getElem (by omega)
            obtain ⟨o', ho', hw⟩ := ok.chn r _ i hre hp
            rw [hol] at ho'
            obtain rfl : o = o' := by injection ho'
            obtain ⟨x, hx, _⟩ := ok.eff _ (List.mem_of_getElem? hre)
            have h1 := listed_dep hdeps (by rw [hlsz]; exact (List.getElem?_eq_some_iff.1 hx).1) hw
            have := (inv.lst r _ hre).1 h1
            omega
          · omega
        obtain rfl : k = p := hpk2.symm
        obtain ⟨o', ho', hog, hos, hlt, hdt⟩ := ok.eff _ hiE
        rw [hol] at ho'
        obtain rfl : o = o' := by injection ho'
        obtain ⟨c1, _⟩ := look_congr (ops := l.toArray) (o := o) (a := a) (a' := af) (fun cs b => hsel i o cs b ho) (fun u hu => hlk hos u (fun e => hlt (e ▸ hu)) hu)
        obtain ⟨wk, hf, he⟩ := inv.eff
        rw [efO_drop hp hol] at he
        have he1 := he w hf
        have hwp : o.wp P af w (fun a2 w2 => Exit.normal = Exit.normal ∧ a2.defers = af.defers ∧ Fr S w w2 ∧ ∃ O' : Nat → Prop, Stp O w w2 O' ∧ (∀ b, O' b → b < w2.heap.size) ∧ wpEfB S P l.toArray (fun x y => Q .normal x y) sto t zo n0 (efO l (E.drop (k + 1))) O' a2 w2) (fun ex a2 w2 => ex = Exit.normal ∧ a2.defers = af.defers ∧ Fr S w w2 ∧ ∃ O' : Nat → Prop, Stp O w w2 O' ∧ (∀ b, O' b → b < w2.heap.size) ∧ wpEfB S P l.toArray (fun x y => Q .normal x y) sto t zo n0 (efO l (E.drop (k + 1))) O' a2 w2) := by
          have h1 : (if Region.wanted o (yielded l.toArray af.tmps) then _ else _) := he1
          simp only [Region.wanted, hog, if_true] at h1
          rcases h1 with h1 | ⟨_, x, y, h2⟩
          · exact h1
          · cases h2.1
        unfold wpOp
        rw [ho]
        simp only [Region.wanted, hog, if_true]
        left
        refine eff_conv c1 (fun v w2 h => ?_) (fun x w2 h => h.2.1) (fun ex x w2 h => h.1) hwp
        obtain ⟨_, hd2, hfs, O', hstp, holt, hrest⟩ := h
        refine ih _ (k + 1) bo O' (a'.put o.dst u) _ (af.put o.dst v) w2 ⟨fun p e hpe => ?_, ?_, hstset hist, ?_, ⟨by rw [put_dfr, put_dfr]; exact inv.df.1, by rw [put_dfr]; exact inv.df.2⟩, ⟨by rw [put_size, put_size]; exact inv.sz.1, by rw [put_size]; exact inv.sz.2.1, by rw [put_size, put_size]; exact inv.sz.2.2⟩, fun p e r x h1 h2 h3 h4 => ?_, fun r hrt ht => ?_, fun b hb => ?_, ⟨w2, Fr.refl _ _, hrest⟩, holt, Nat.le_trans inv.nw hstp.1.size, inv.cls.trans hfs, by simp [hlsz]⟩ hK'
        · rw [hset e]
          by_cases hpk : p = k
          · subst hpk
            rw [hp] at hpe
            cases hpe
            simp
          · have hne : e ≠ i := fun he => by
              subst he
              have h1 := (List.getElem?_eq_some_iff.1 hp)
              have h2 := (List.getElem?_eq_some_iff.1 hpe)
              exact hpk ((List.getElem_inj hnod.1).1 (h2.2.trans h1.2.symm))
            rw [show (e = i ∨ listed.getD e true = true) ↔ listed.getD e true = true from ⟨fun h => h.elim (fun h => absurd h hne) id, .inr⟩, inv.lst p e hpe]
            omega
        · have := (List.getElem?_eq_some_iff.1 hp).1; omega
        · rw [hset q, ← inv.ql]
          exact ⟨fun h => h.elim (fun e => absurd e.symm hiq) id, .inr⟩
        · by_cases hto : o.dst = some r
          · by_cases hts : r < a.tmps.size
            · rw [hto, put_at hts, put_at (by rw [← inv.sz.2.2]; exact hts)]
            · rw [Array.getElem?_eq_none (by rw [put_size]; omega), Array.getElem?_eq_none (by rw [put_size, ← inv.sz.2.2]; omega)]
          · rw [put_out hto, put_out hto]
            by_cases hpk : p = k
            · subst hpk
              rw [hp] at h2
              cases h2
              rw [hol] at h3
              cases h3
              exact absurd h4 hto
            · exact inv.don p e r x (by omega) h2 h3 h4
        · have hto : o.dst ≠ some r := ht k i o (by omega) hp hol
          rw [put_out hto, put_out hto, put_out hto]
          exact inv.out r hrt (fun p e x h1 h2 h3 => ht p e x (by omega) h2 h3)
        · obtain ⟨b1, b2, b3, b4⟩ := inv.bx b hb
          have hbl := (Array.getElem?_eq_some_iff.1 b2).1
          exact ⟨b1, hstp.1.at_ b2 b3, fun e => (hstp.2 b e).elim b3 (fun e => by omega), fun hts => by rw [put_out hdt]; exact b4 (by rw [put_size] at hts; exact hts)⟩
      · by_cases hiS : i = st
        · -- the store
          subst hiS
          rw [hst] at hol
          obtain rfl : sto = o := by injection hol
          obtain ⟨o', ho', hog, hos, hod, hall⟩ := ok.sto
          rw [hst] at ho'
          obtain rfl : sto = o' := by injection ho'
          have hoth : ∀ j, j < l.length → j ≠ i → listed.getD j true = true := fun j hj hne => listed_dep hdeps (by rw [hlsz]; exact hj) (hall j hj hne)
          have hk : k = E.length := by
            rcases Nat.lt_or_ge k E.length with h | h
            · exfalso
              obtain ⟨x, hx, _⟩ := ok.eff E[k] (List.getElem_mem h)
              have h1 := hoth E[k] (List.getElem?_eq_some_iff.1 hx).1 (fun e => hstE (e ▸ List.getElem_mem h))
              have := (inv.lst k E[k] (List.getElem?_eq_getElem h)).1 h1
              omega
            · have := inv.kle; omega
          obtain ⟨ob, hob2, _, hobd⟩ := ok.box
          have hbo := inv.ql.1 (hoth q (List.getElem?_eq_some_iff.1 hob2).1 (Ne.symm hstq))
          obtain ⟨b, rfl⟩ := Option.isSome_iff_exists.1 hbo
          obtain ⟨b1, b2, b3, b4⟩ := inv.bx b rfl
          obtain ⟨wk, hf, he⟩ := inv.eff
          rw [hk, List.drop_length] at he
          have he1 : wpList P l.toArray _ [sto] (af.put (some t) (boxV b)) w := he w b hf b1 b2 b3
          have hlk2 : ∀ u ∈ sto.looksAt l.toArray, a.tmps[u]? = (af.put (some t) (boxV b)).tmps[u]? := fun u hu => by
            by_cases e : u = t
            · subst e
              by_cases hts : u < a.tmps.size
              · rw [b4 hts, put_at (by rw [← inv.sz.2.2]; exact hts)]
              · have e1 : a.tmps[u]? = none := Array.getElem?_eq_none (Nat.le_of_not_lt hts)
                have e2 : (af.put (some u) (boxV b)).tmps[u]? = none := Array.getElem?_eq_none (by rw [put_size, ← inv.sz.2.2]; exact Nat.le_of_not_lt hts)
                rw [e1, e2]
            · rw [put_out (fun h => e (Option.some.inj h).symm)]
              exact hlk hos u e hu
          obtain ⟨c1, _⟩ := look_congr (ops := l.toArray) (o := sto) (a := a) (a' := af.put (some t) (boxV b)) (fun cs b => hsel i sto cs b ho) hlk2
          have hwp : sto.wp P (af.put (some t) (boxV b)) w (fun a2 w2 => Exit.normal = Exit.normal ∧ a2.defers = (af.put (some t) (boxV b)).defers ∧ Q .normal a2 w2) (fun ex a2 w2 => ex = Exit.normal ∧ a2.defers = (af.put (some t) (boxV b)).defers ∧ Q .normal a2 w2) := by
            have h1 : (if Region.wanted sto (yielded l.toArray (af.put (some t) (boxV b)).tmps) then _ else _) := he1
            simp only [Region.wanted, hog, if_true] at h1
            rcases h1 with h1 | ⟨_, x, y, h2⟩
            · exact h1
            · cases h2.1
          unfold wpOp
          rw [ho]
          simp only [Region.wanted, hog, if_true]
          left
          refine eff_conv c1 (fun v w2 h => ?_) (fun x w2 h => by have := h.2.1; rw [put_dfr] at this; exact this) (fun ex x w2 h => h.1) hwp
          have hnr : Region.ready .any l.toArray (listed.setIfInBounds i true) = [] := by
            cases hr : Region.ready .any l.toArray (listed.setIfInBounds i true) with
            | nil => rfl
            | cons j r =>
              have hj : j ∈ Region.ready .any l.toArray (listed.setIfInBounds i true) := by rw [hr]; simp
              obtain ⟨hju, x, hx, _⟩ := mem_ready.1 hj
              have hjl : j < l.length := by have := (Array.getElem?_eq_some_iff.1 hx).1; simpa using this
              have : (listed.setIfInBounds i true).getD j true = true := (hset j).2 (by
                by_cases e : j = i
                · exact .inl e
                · exact .inr (hoth j hjl e))
              rw [this] at hju; cases hju
          have ea : a'.put sto.dst u = aF := wpAnyQ_end (P := P) (C := fun w' => ∃ Y : FrW w0, w' = Y.val) (Q' := fun x => x = aF) (ops := (boxedF (ebIdx E i q) 0 l).toArray) (by rw [bxd_ready]; exact hnr) fuel (hK' w0 (Fr.refl _ _))
          rw [hod] at ea h ⊢
          have ea2 : a' = aF := ea
          have h2 : Q .normal (af.put (some t) (boxV b)) w2 := h.2.2
          have e : a = af.put (some t) (boxV b) := by
            refine act_ext (by rw [put_dfr, inv.df.1, inv.df.2, ea2]) (fun u => ?_)
            by_cases e : u = t
            · subst e
              by_cases hts : u < a.tmps.size
              · rw [b4 hts, put_at (by rw [← inv.sz.2.2]; exact hts)]
              · have e1 : a.tmps[u]? = none := Array.getElem?_eq_none (Nat.le_of_not_lt hts)
                have e2 : (af.put (some u) (boxV b)).tmps[u]? = none := Array.getElem?_eq_none (by rw [put_size, ← inv.sz.2.2]; exact Nat.le_of_not_lt hts)
                rw [e1, e2]
            · rw [put_out (fun h => e (Option.some.inj h).symm)]
              by_cases hex : ∀ (p e : Nat) (x : Oper), p < k → E[p]? = some e → l[e]? = some x → x.dst ≠ some u
              · rw [(inv.out u e hex).1, (inv.out u e hex).2, ea2]
              · have : ∃ (p e : Nat) (x : Oper), p < k ∧ E[p]? = some e ∧ l[e]? = some x ∧ x.dst = some u := Classical.byContradiction fun hn => hex fun p e x h1 h2 h3 h4 => hn ⟨p, e, x, h1, h2, h3, h4⟩
                obtain ⟨p, e, x, h1, h2, h3, h4⟩ := this
                exact inv.don p e u x h1 h2 h3 h4
          have hfin : Q .normal (a.put none v) w2 := by rw [e]; exact h2
          cases fuel with
          | zero => exact ⟨hnr, hfin⟩
          | succ f => exact ⟨fun _ => hfin, fun j hj => by rw [hnr] at hj; cases hj⟩
        · -- the box
          have hiq : i = q := by unfold ebIdx at hIx; simp [hiE, hiS] at hIx; exact hIx
          subst hiq
          obtain ⟨o', ho', hog, hod⟩ := ok.box
          rw [hol] at ho'
          obtain rfl : o = o' := by injection ho'
          have hbn : bo = none := by
            cases e : bo with
            | none => rfl
            | some b => have := inv.ql.2 (by rw [e]; rfl); rw [this] at hun; cases hun
          subst hbn
          have hrun := hq o hol a w
          unfold wpOp
          rw [ho]
          simp only [Region.wanted, hog, if_true]
          left
          unfold Oper.wp
          rw [hrun]
          show wpAny P .any l.toArray Q fuel (listed.setIfInBounds i true) (a.put o.dst (boxV w.heap.size)) (w.alloc zo)
          refine ih _ k (some w.heap.size) O (a'.put o.dst u) _ af (w.alloc zo) ⟨fun p e hpe => ?_, inv.kle, hstset hiS, ?_, ⟨by rw [put_dfr, put_dfr]; exact inv.df.1, inv.df.2⟩, ⟨by rw [put_size, put_size]; exact inv.sz.1, inv.sz.2.1, by rw [put_size]; exact inv.sz.2.2⟩, fun p e r x h1 h2 h3 h4 => ?_, fun r hrt ht => ?_, fun b hb => ?_, ?_, fun b hb => ?_, ?_, inv.cls.alloc zo, by simp [hlsz]⟩ hK'
          · rw [hset e, show (e = i ∨ listed.getD e true = true) ↔ listed.getD e true = true from ⟨fun h => h.elim (fun h => absurd (h ▸ List.mem_of_getElem? hpe) hqE) id, .inr⟩, inv.lst p e hpe]
          · rw [hset i]
            exact ⟨fun _ => rfl, fun _ => .inl rfl⟩
          · have hrt : o.dst ≠ some r := fun hd => by
              have := ok.un e i x o r h3 hol h4 hd
              exact hqE (this ▸ List.mem_of_getElem? h2)
            rw [put_out hrt]
            exact inv.don p e r x h1 h2 h3 h4
          · have hto : o.dst ≠ some r := by rw [hod]; intro h; exact hrt (Option.some.inj h).symm
            rw [put_out hto, put_out hto]
            exact inv.out r hrt ht
          · cases hb
            refine ⟨inv.nw, heap_at rfl _, fun e => by have := inv.olt _ e; omega, fun hts => ?_⟩
            rw [put_size] at hts
            rw [hod, put_at hts]
          · obtain ⟨wk, h1, h2⟩ := inv.eff
            exact ⟨wk, h1.alloc zo, h2⟩
          · have := inv.olt b hb; simp; omega
          · have := inv.nw; simp; omega
    · -- one that only reads
      have hob : (boxedF (ebIdx E st q) 0 l).toArray[i]? = some o := by rw [bxd_get, ho]; simp [hIx]
      have hsel := Region.noSelect_spec ok.sel
      obtain ⟨ob, hob2, _, hobd⟩ := ok.box
      have hnt : t ∉ o.looksAt l.toArray ∧ o.dst ≠ some t := ok.ap i o hol hIx q hqI ob t hob2 hobd
      have hapart : ∀ u, (u ∈ o.looksAt l.toArray ∨ o.dst = some u) → ∀ (p e : Nat) (x : Oper), p < k → E[p]? = some e → l[e]? = some x → x.dst ≠ some u := fun u ht p e x _ h2 h3 h4 => by
        have := ok.ap i o hol hIx e (hEI e (List.mem_of_getElem? h2)) x u h3 h4
        rcases ht with h | h
        · exact this.1 h
        · exact this.2 h
      obtain ⟨c1, c2⟩ := look_congr (ops := l.toArray) (o := o) (a := a) (a' := a') (fun cs b => hsel i o cs b ho) (fun u ht => (inv.out u (fun e => hnt.1 (e ▸ ht)) (hapart u (.inl ht))).1)
      have hset3 : ∀ j, j ∈ ebIdx E st q → (listed.setIfInBounds i true).getD j true = listed.getD j true := fun j hj => getD_set_ne true (fun e => hIx (e ▸ hj))
      have key : ∀ v w', Fr (fun _ => False) w w' → (∀ wY, Fr S w0 wY → wpAnyQ P .any (boxedF (ebIdx E st q) 0 l).toArray (fun w' => ∃ Y : FrW wY, w' = Y.val) (fun x => x = aF) fuel (listed.setIfInBounds i true) (a'.put o.dst v)) → wpAny P .any l.toArray Q fuel (listed.setIfInBounds i true) (a.put o.dst v) w' := fun v w' hf hK => by
        refine ih _ k bo O (a'.put o.dst v) _ af w' ⟨fun p e hpe => by rw [hset3 e (hEI e (List.mem_of_getElem? hpe))]; exact inv.lst p e hpe, inv.kle, by rw [hset3 st hstI]; exact inv.stl, by rw [hset3 q hqI]; exact inv.ql, ⟨by rw [put_dfr, put_dfr]; exact inv.df.1, inv.df.2⟩, ⟨by rw [put_size, put_size]; exact inv.sz.1, inv.sz.2.1, by rw [put_size]; exact inv.sz.2.2⟩, fun p e r x h1 h2 h3 h4 => ?_, fun r hrt ht => ?_, fun b hb => ?_, ?_, fun b hb => ?_, Nat.le_trans inv.nw hf.size, inv.cls.trans' hf (fun _ _ e => e.elim), by simp [hlsz]⟩ hK
        · have hto : o.dst ≠ some r := fun hd => hapart r (.inr hd) p e x h1 h2 h3 h4
          rw [put_out hto]
          exact inv.don p e r x h1 h2 h3 h4
        · exact ⟨put_same (inv.out r hrt ht).1 inv.sz.1, (inv.out r hrt ht).2⟩
        · obtain ⟨b1, b2, b3, b4⟩ := inv.bx b hb
          exact ⟨b1, hf.at_ b2 (fun e => e), b3, fun hts => by rw [put_out hnt.2]; exact b4 (by rw [put_size] at hts; exact hts)⟩
        · obtain ⟨wk, h1, h2⟩ := inv.eff
          exact ⟨wk, h1.trans hf, h2⟩
        · exact Nat.lt_of_lt_of_le (inv.olt b hb) hf.size
      unfold wpOp
      rw [ho]
      simp only []
      rw [c2]
      obtain ⟨v, hY, hK⟩ := all_putS (w0 := w0) (fuel := fuel) (a' := a') hob hi' uniq (by omega) hH w inv.cls
      rcases hY with ⟨hw, hq'⟩ | ⟨hw, rfl⟩
      · rw [bxd_yielded] at hw
        rw [if_pos hw]
        left
        refine Oper.wp_of_quiet (C := fun w' => ∃ Y : FrW w, w' = Y.val) (K := fun x => x = a.put o.dst v) ⟨⟨w, Fr.refl _ w⟩, rfl⟩ ?_ ⟨v, fun w1 h1 => ?_, rfl⟩
        · rintro x w' ⟨Y, rfl⟩ rfl
          exact key v _ Y.fr hK
        · have := hq' w1 h1
          unfold Oper.quietAt at *
          rw [c1]
          exact this
      · rw [bxd_yielded] at hw
        rw [if_neg (by rw [hw]; simp)]
        exact key undef w (Fr.refl _ w) hK
theorem wp_region_effB {id : Nat} {a : Act} {w : World} (S : Nat → Prop) (E : List Nat) (st q : Nat) (t : Tmp) (zo : Obj) {sto : Oper} {l' : List Oper} (hm : P.follows .mixedOrders = true) (hl : boxedF (ebIdx E st q) 0 l = l') (hB : efbB l E st q t = true) (hst : l[st]? = some sto)
    (hq : ∀ o, l[q]? = some o → ∀ (a : Act) (w : World), (execOp a.eval o).run P w = .ok (.value (boxV w.heap.size)) (w.alloc zo)) (hL : Region.lexB .any l'.toArray = true)
    (h : ∃ aF : Act, (∀ X : World, Fr S w X → wpQuiet P l'.toArray (fun w' => ∃ Y : FrW X, w' = Y.val) (fun a' => a' = aF) l' a) ∧
      wpEfB S P l.toArray (fun x y => Q .normal x y) sto t zo w.heap.size (efO l E) (fun _ => False) aF w) : (Code.region id l.toArray true).wp P Q a w := by
  have ok := efbB_ok hB
  obtain ⟨aF, h, he⟩ := h
  subst hl
  simp only [Region.lexB, Bool.and_eq_true] at hL
  have hH : ∀ wX, Fr S w wX → wpAnyQ P .any (boxedF (ebIdx E st q) 0 l).toArray (fun w' => ∃ Y : FrW wX, w' = Y.val) (fun x => x = aF) l.toArray.size (Array.replicate l.toArray.size false) a := fun wX hX => by
    have := wpAnyQ_lex (C := fun w' => ∃ Y : FrW wX, w' = Y.val) (md := .any) hL.1 (boxedF (ebIdx E st q) 0 l) 0 (Array.replicate (boxedF (ebIdx E st q) 0 l).toArray.size false) a (by simp) (by simpa using hL.2) (h wX hX)
    rw [bxd_size] at this
    simpa [bxd_len] using this
  obtain ⟨hs, hd⟩ := fin_sz _ _ _ (hH w (Fr.refl _ _))
  have hin : ∀ i, i < l.length → (Array.replicate l.toArray.size false).getD i true = false := fun i hi => by simp [hi]
  obtain ⟨ob, hob, _⟩ := ok.box
  refine wp_region_any hm (eff_simB (S := S) (w0 := w) (aF := aF) (zo := zo) (n0 := w.heap.size) ok hst hq _ _ 0 none (fun _ => False) a a aF _ ⟨fun p e hpe => ?_, Nat.zero_le _, hin st (List.getElem?_eq_some_iff.1 hst).1, ?_, ⟨rfl, rfl⟩, ⟨rfl, rfl, hs.symm⟩, fun p e r o hp => by omega, fun r _ _ => ⟨rfl, rfl⟩, fun b hb => (by cases hb), ⟨w, (Fr.refl _ w).drew, by simpa using he⟩, fun b hb => hb.elim, Nat.le_refl _, (Fr.refl _ w).drew, by simp⟩ hH)
  · obtain ⟨o, ho, _⟩ := ok.eff _ (List.mem_of_getElem? hpe)
    rw [hin e (List.getElem?_eq_some_iff.1 ho).1]
    constructor
    · intro h; cases h
    · intro h; omega
  · rw [hin q (List.getElem?_eq_some_iff.1 hob).1]
    constructor
    · intro h; cases h
    · intro h; cases h
end
end Go.Proofs.YtogphlnakdnchaaGreat

namespace Go.Proofs.YtogphlnakdnchaaGreat
open Go.RowKit Go.Maps
abbrev mbox : Obj := .cells #[.pointer none] 79
/-- Within the region that makes the maker: what was there is as it was; the box, if it is laid. -/
structure K0 (w0 W : World) (n0 : Nat) (bo : Option Nat) : Prop where
  fr : Fr (fun b => n0 ≤ b) w0 W
  sz : n0 ≤ W.heap.size
  bx : ∀ b, bo = some b → n0 ≤ b ∧ W.heap[b]? = some mbox
structure K1 (w0 W : World) (n0 : Nat) (bo : Option Nat) (gm : Nat) (TM : Nat → Prop) (s : Mst) : Prop where
  k : K0 w0 W n0 bo
  mkr : MK W gm TM s.1 s.2
  low : ∀ b, TM b → n0 ≤ b
  nb : ∀ b, bo = some b → ¬ TM b
/-- The maker, in a box of its own. -/
structure KF (w0 W : World) (n0 mb gm : Nat) (TM : Nat → Prop) (s : Mst) : Prop where
  mkr : MK W gm TM s.1 s.2
  box : W.heap[mb]? = some (.cells #[.pointer (some ⟨gm, 0, none⟩)] 79)
  nb : ¬ TM mb
  fr : Fr (fun b => n0 ≤ b) w0 W
  low : ∀ b, TM b → n0 ≤ b
  mb : n0 ≤ mb
section
variable {w0 W W' : World} {n0 gm b : Nat} {bo : Option Nat} {TM TM' : Nat → Prop} {s s' : Mst}
theorem K0.box (h : K0 w0 W n0 none) : K0 w0 (W.alloc mbox) n0 (some W.heap.size) :=
  ⟨h.fr.alloc _, by have := h.sz; simp; omega, fun b e => by cases e; exact ⟨h.sz, heap_at rfl _⟩⟩
theorem K0.keep (h : K0 w0 W n0 bo) (hf : Fr (fun _ => False) W W') : K0 w0 W' n0 bo :=
  ⟨h.fr.trans' hf (fun _ _ e => e.elim), Nat.le_trans h.sz hf.size, fun b e => ⟨(h.bx b e).1, hf.at_ (h.bx b e).2 (fun e => e)⟩⟩
theorem K1.box (h : K1 w0 W n0 none gm TM s) : K1 w0 (W.alloc mbox) n0 (some W.heap.size) gm TM s :=
  ⟨h.k.box, h.mkr.fr ((Fr.refl (fun _ => False) _).alloc _) (fun _ _ e => e), h.low, fun b e h2 => by cases e; have := h.mkr.lt _ h2; omega⟩
theorem K1.keep (h : K1 w0 W n0 bo gm TM s) (hf : Fr (fun _ => False) W W') : K1 w0 W' n0 bo gm TM s := ⟨h.k.keep hf, h.mkr.fr hf (fun _ _ e => e), h.low, h.nb⟩
theorem K1.step (h : K1 w0 W n0 bo gm TM s) (hm : MK W' gm TM' s'.1 s'.2) (hs : Stp TM W W' TM') : K1 w0 W' n0 bo gm TM' s' :=
  ⟨⟨h.k.fr.trans' hs.1 (fun b _ e => h.low b e), Nat.le_trans h.k.sz hs.1.size, fun b e => ⟨(h.k.bx b e).1, hs.1.at_ (h.k.bx b e).2 (h.nb b e)⟩⟩, hm, fun b e => (hs.2 b e).elim (h.low b) (fun e => Nat.le_trans h.k.sz e), fun b e h2 => (hs.2 b h2).elim (h.nb b e) (fun e2 => by have := (Array.getElem?_eq_some_iff.1 (h.k.bx b e).2).1; omega)⟩
theorem K0.new (h : K0 w0 W n0 bo) : Calls Tryz.prog 48 #[] W fun e w' => ∃ gm TM, e = .returned (.pointer (some ⟨gm, 0, none⟩)) ∧ K1 w0 w' n0 bo gm TM ([], false) ∧ Stp (fun _ => False) W w' TM := by
  refine (cMNew W).mono ?_
  rintro e w' ⟨rfl, h1, h2⟩
  exact ⟨_, _, rfl, ⟨h.keep h2, h1, fun b e => by have := h.sz; omega, fun b e h3 => by have := (Array.getElem?_eq_some_iff.1 (h.bx b e).2).1; omega⟩, h2, fun b e => .inr (by omega)⟩
theorem K1.num (h : K1 w0 W n0 bo gm TM s) (n : Int) (hn : okI n) : Calls Tryz.prog 51 #[.pointer (some ⟨gm, 0, none⟩), .int .i64 n] W fun e w' => e = .returned (.pointer (some ⟨gm, 0, none⟩)) ∧ ∃ TM', K1 w0 w' n0 bo gm TM' (mkP s (numB n)) ∧ Stp TM W w' TM' := by
  refine (cMNum W gm TM s.1 s.2 n h.mkr hn).mono ?_
  rintro e w' ⟨rfl, TM', h1, h2⟩
  exact ⟨rfl, TM', h.step h1 h2, h2⟩
theorem K1.text (h : K1 w0 W n0 bo gm TM s) (t : Str) (ht : t.length ≤ 65536) : Calls Tryz.prog 49 #[.pointer (some ⟨gm, 0, none⟩), vS t] W fun e w' => e = .returned (.pointer (some ⟨gm, 0, none⟩)) ∧ ∃ TM', K1 w0 w' n0 bo gm TM' (mkP s (textB t)) ∧ Stp TM W w' TM' := by
  refine (cMText W gm TM s.1 s.2 t h.mkr ht).mono ?_
  rintro e w' ⟨rfl, TM', h1, h2⟩
  exact ⟨rfl, TM', h.step h1 h2, h2⟩
theorem K1.fin (h : K1 w0 W n0 none gm TM s) : KF w0 (W.alloc (.cells #[.pointer (some ⟨gm, 0, none⟩)] 79)) n0 W.heap.size gm TM s :=
  ⟨h.mkr.fr ((Fr.refl (fun _ => False) _).alloc _) (fun _ _ e => e), heap_at rfl _, fun e => by have := h.mkr.lt _ e; omega, h.k.fr.alloc _, h.low, h.k.sz⟩
theorem K1.fin2 (hw : w0.heap.size = n0) (h : K1 w0 W n0 (some b) gm TM s) : KF w0 (W.setCell ⟨b, 0, none⟩ (.pointer (some ⟨gm, 0, none⟩))) n0 b gm TM s :=
  ⟨h.mkr.fr ((Fr.refl (fun c => c = b) _).setCell (p := ⟨b, 0, none⟩) (fun _ => rfl) _) (fun c hc e => h.nb b rfl (e ▸ hc)), obj_set (h.k.bx b rfl).2 0 _, h.nb b rfl, h.k.fr.setCell (p := ⟨b, 0, none⟩) (fun e => (h.k.bx b rfl).1) _, h.low, (h.k.bx b rfl).1⟩
end
end Go.Proofs.YtogphlnakdnchaaGreat

namespace Go.Proofs.YtogphlnakdnchaaGreat
open Go.RowKit Go.Maps
theorem hOrders (p : Option Addr) (w : World) : Calls Tryz.prog 19 #[.pointer p] w fun e w' =>
    e = .returned (.func (.func 54) #[] #[.pointer (some ⟨w.heap.size, 0, none⟩)]) ∧ w' = w.alloc (.cells #[.pointer p] 23) := by
  go_enter Tryz.func19, Tryz.ntmps19
  go_wp2
  go_ret
  exact ⟨rfl, rfl⟩
end Go.Proofs.YtogphlnakdnchaaGreat

namespace Go.Proofs.YtogphlnakdnchaaGreat
open Go.RowKit Go.Maps Go.Sort Go.Shelf Go.Proofs
theorem intKeys_dat {ν : Type} (enc : ν → Value) (l : List (Int × ν)) : intKeys (ktI.dat enc l) = l.map (·.1) := by
  simp [KT.dat, intKeys, ktI, Go.intOf]
theorem keys_sorted {ν : Type} {l : List (Int × ν)} (h : l.Pairwise (fun p q => ktI.lt p.1 q.1 = true)) {ss : List Int} (hp : ss.Perm (l.map (·.1))) : ss.mergeSort (fun x y => decide (x ≤ y)) = l.map (·.1) := by
  have hlt : (l.map (·.1)).Pairwise (fun x y : Int => x < y) := by
    rw [List.pairwise_map]
    exact h.imp (fun {p q} e => by have e : decide (p.1 < q.1) = true := e; simpa using e)
  have h1 : (ss.mergeSort (fun x y => decide (x ≤ y))).Pairwise (fun x y => decide (x ≤ y) = true) := List.pairwise_mergeSort (fun a b c h1 h2 => by simp at *; omega) (fun a b => by simp; omega) ss
  have h2 : (ss.mergeSort (fun x y => decide (x ≤ y))).Perm (l.map (·.1)) := (List.mergeSort_perm ss _).trans hp
  refine h2.eq_of_pairwise (le := fun x y : Int => decide (x ≤ y) = true) (fun a b _ _ h1 h2 => by simp at *; omega) h1 (hlt.imp (fun {a b} e => by simp; omega))
theorem sortsH (m : Nat) : AnyZI.SortsIn Tryz.prog Tryz.laysSortedH_ren Fence.wide m :=
  ⟨fun blk off cap ss W hH hblk hsz => callsIn_wide.2 (AnyM.slices_Sort_int Tryz.laysSortH blk off cap ss W hH hblk hsz),
   fun p cap W => callsIn_wide.2 (AnyM.slices_Sort_int_none Tryz.laysSortH p cap W)⟩
theorem keysSortedH {ν : Type} (w : World) (b : Nat) (enc : ν → Value) (l : List (Int × ν)) (h : Mp Tryz.prog w 3 ktI enc b l) (hl : (l.length : Int) ≤ 1099511627776) :
    CallsIn Fence.wide 5 Tryz.prog 94 #[.map (some b)] w (fun e w' => e = .returned (.func (.func 118) #[] #[.pointer (some ⟨w.heap.size, 0, none⟩)]) ∧ w' = w.alloc (.cells #[.map (some b)] 61)) ∧
    CallsIn Fence.wide 5 Tryz.prog 93 #[.func (.func 118) #[] #[.pointer (some ⟨w.heap.size, 0, none⟩)]] (w.alloc (.cells #[.map (some b)] 61)) (fun e w' => ∃ v, e = .returned v ∧ w'.ownsRow w.heap.size 3 1 v l.length (l.map fun p => .int .i64 p.1) ∧ Below w.heap.size w w') := by
  obtain ⟨nn, hown⟩ := id h
  have hord := h.ok (koI (P := Tryz.prog) Tryz.underlying3)
  have hsz : Maps.size (ktI.dat enc l) = l.length := dat_size ktI enc l
  have hk : intKeys (ktI.dat enc l) = l.map (·.1) := intKeys_dat enc l
  have hsort : ∀ ss : List Int, ss.Perm (l.map (·.1)) → ss.mergeSort (fun x y => decide (x ≤ y)) = l.map (·.1) := fun ss hp => keys_sorted hord.2 hp
  have hbl := hown.lt
  have hseq : SeqGives Fence.wide 2 Tryz.prog 118 #[.pointer (some ⟨w.heap.size, 0, none⟩)] encZ (fun ss => ss.Perm (intKeys (ktI.dat enc l))) (Maps.size (ktI.dat enc l)) (w.alloc (.cells #[.map (some b)] 61)) :=
    AnyZI.keys_gives (ρ := Tryz.laysKeysH_ren) { Tryz.laysKeysH with } Fence.wide _ trivial rfl (by omega) w.heap.size b nn _ _ (by simp) (by simp) (by
      obtain ⟨es, clock, hb, Ft, hs, hD⟩ := hown
      exact ⟨es, clock, (Below.heap_alloc _ _ b hbl).trans hb, Ft, hs, hD⟩)
  refine ⟨AnyZI.keys_in Tryz.laysKeysH Fence.wide 5 trivial rfl (some b) w, ?_⟩
  have cS := AnyZI.sorted_in Tryz.laysSortedH Fence.wide 5 trivial trivial trivial trivial rfl (by omega) (sortsH _) (enters_of Tryz.func117 (by kernel_rfl) rfl) 118 #[.pointer (some ⟨w.heap.size, 0, none⟩)] trivial (enters_of Tryz.func118 (by kernel_rfl) rfl) _ _ (by rw [hsz]; unfold maxLen; omega) (by rw [hsz]; omega) _ hseq
  change CallsIn _ _ Tryz.prog 93 _ _ _ at cS
  refine cS.mono ?_
  rintro e w' ⟨v, ss, rfl, hS, hrow, hnil, hb⟩
  rw [hk] at hS
  rw [hsort ss hS] at hrow
  have hlen : ss.length = l.length := by rw [hS.length_eq]; simp
  rw [hlen, List.map_map] at hrow
  exact ⟨v, rfl, ownsRow_base_a hrow (by simp), ((Below.refl _ w).alloc (Nat.le_refl _) _).trans (hb.mono (by simp))⟩
end Go.Proofs.YtogphlnakdnchaaGreat

namespace Go.Proofs.YtogphlnakdnchaaGreat
open Go.RowKit
variable {α : Type}
/-- THE ITERATOR gf GIVES X, one by one, each laid anew: what is given reads as Rep says, where it is given. -/
def ItY (gf : Nat) (lb : Array Value) (Rep : World → World → Array Value → α → Prop) (X : List α) (S : Nat → Prop) (w : World) : Prop :=
  ∀ (l : Nat) (S' : Nat → Prop) (J Jx : Nat → (Nat → Prop) → World → Prop) (W : World), Below w.heap.size w W → (∀ b, S' b → b < W.heap.size ∧ (b < w.heap.size → S b)) → (∀ k C, Ab W.heap.size (J k C)) →
    (∀ k x C W0 W1 vs, X[k]? = some x → J k C W0 → Fr (fun _ => False) W0 W1 → Rep W0 W1 vs x → J k C W1 → Yd l vs W1 fun e W' =>
      (e = .returned (.bool true) ∧ J (k + 1) (CC C W1 W') W' ∧ Fr (fun b => S' b ∨ C b) W1 W') ∨ (e = .returned (.bool false) ∧ Jx (k + 1) (CC C W1 W') W' ∧ Fr (fun b => S' b ∨ C b) W1 W')) →
    (∀ k C, Ab W.heap.size (Jx k C)) →
    J 0 (fun _ => False) W →
    Calls Tryz.prog gf (#[.func (.yield l) #[] #[]] ++ lb) W fun e W' => (∃ v, e = .returned v) ∧ ((∃ C, J X.length C W') ∨ ∃ k C, k ≤ X.length ∧ Jx k C W')
/-- **A range over an iterator that gives X**, at the outermost level of a function: the loop's variables may be boxed (W': behind the assignment; Wb: where the body begins). C: the blocks that the rounds have made. -/
theorem rangeY {g : Operand} {ps : Array Tmp} {assign body : Code} {Q : Exit → Act → World → Prop} {a : Act} {w w0 : World} {n : Nat}
    {gf : Nat} {lb : Array Value} (hg : a.eval g = .func (.func gf) #[] lb) (eg : ∀ args w, (callFunc gf args).run Tryz.prog w = .ok (.enter gf args) w)
    {Rep : World → World → Array Value → α → Prop} {X : List α} {S : Nat → Prop} (hseq : ItY gf lb Rep X S w0) (hb0 : Below w0.heap.size w0 w) (hS : ∀ b, S b → b < w.heap.size) (hps : ∀ W0 W vs x, Rep W0 W vs x → vs.size = ps.size)
    (I : Nat → (Nat → Prop) → World → Prop) (Ix : Code → Nat → (Nat → Prop) → World → Prop) (hI : ∀ k C, Ab w.heap.size (I k C)) (hIx : ∀ c k C, Ab w.heap.size (Ix c k C)) (h0 : I 0 (fun _ => False) w)
    (hround : ∀ (l k : Nat) (x : α) (C : Nat → Prop) (W0 W : World) (vs : Array Value), X[k]? = some x → I k C W0 → Fr (fun _ => False) W0 W → Rep W0 W vs x → w.heap.size ≤ l → I k C W → Fr S w W →
      assign.wpIn (Fence.wide.inRound l) 0 Tryz.prog (Exit.then (Took w S C I Ix k l W body) (fun _ _ _ => False)) { tmps := (ps.zip vs).foldl (fun t (p, v) => t.setIfInBounds p v) a.tmps, defers := [] } W)
    (hdone : ∀ (D : Nat) (C : Nat → Prop) (W : World), w.heap.size ≤ D → I X.length C W → Fr S w W → W.heap[D]? = some (.deferred (some [])) → Q .normal { a with defers := { target := .collected D, args := #[] } :: a.defers } W)
    (hstop : ∀ (D : Nat) (c : Code) (k : Nat) (C : Nat → Prop) (W : World), w.heap.size ≤ D → k ≤ X.length → Ix c k C W → Fr S w W → W.heap[D]? = some (.deferred (some [])) →
      c.wpIn Fence.wide n Tryz.prog Q { a with defers := { target := .collected D, args := #[] } :: a.defers } W) :
    (Code.rangeFunc g ps assign body).wpIn Fence.wide n Tryz.prog Q a w := by
  refine wpIn_rangeFunc ?_
  intro fn hfn
  obtain ⟨rec, hrec⟩ : ∃ rec : LoopState → Option Code → Loop, rec = fun st pe => { state := st, pending := pe, fn, tmps := a.tmps, params := ps, assign, body, defers := w.heap.size } := ⟨_, rfl⟩
  obtain ⟨W1, hW1⟩ : ∃ W1, (w.alloc (.deferred (some []))).alloc (.loop (rec .ready none)) = W1 := ⟨_, rfl⟩
  have hs1 : W1.heap.size = w.heap.size + 2 := by rw [← hW1]; simp
  have hL1 : W1.heap[w.heap.size + 1]? = some (.loop (rec .ready none)) := by
    rw [← hW1]; have := World.alloc_heap_new (w.alloc (.deferred (some []))) (.loop (rec .ready none)); rwa [World.size_alloc] at this
  have hD1 : W1.heap[w.heap.size]? = some (.deferred (some [])) := by
    rw [← hW1]; exact (Below.heap_alloc _ _ _ (by simp)).trans (World.alloc_heap_new w _)
  have hf1 : Fa w.heap.size w W1 := by rw [← hW1]; exact ((Fr.refl _ _).alloc _).alloc _
  have hr1 : Fr S w W1 := by rw [← hW1]; exact ((Fr.refl _ _).alloc _).alloc _
  have hb1 : Below w0.heap.size w0 W1 := by
    rw [← hW1]; exact hb0.trans ((((Below.refl _ w).alloc (Nat.le_refl _) _).alloc (by simp) _).mono hb0.size)
  refine ⟨w.heap.size + 1, [{ target := .collected w.heap.size, args := #[] }], W1, { target := .fn (.func gf) lb, args := #[.func (.yield (w.heap.size + 1)) #[] #[]] }, W1, gf,
    #[.func (.yield (w.heap.size + 1)) #[] #[]] ++ lb, W1, ?_, ?_, fun _ _ => trivial, ?_, (fun h => by cases h), ?_⟩
  · rw [← hW1, hrec]; exact run_enterLoop_outer _ _ _ _ _
  · simp only [resolve, hg]
    simp [go_sem]
  · simp [invoke, go_sem, eg]
  have hB : w.heap.size ≤ W1.heap.size := by omega
  have hDL : ∀ {st pe A B}, A.heap[w.heap.size + 1]? = some (.loop (rec st pe)) → A.heap[w.heap.size]? = some (.deferred (some [])) → Fa W1.heap.size A B →
      B.heap[w.heap.size + 1]? = some (.loop (rec st pe)) ∧ B.heap[w.heap.size]? = some (.deferred (some [])) := fun hl hd hf =>
    ⟨hf.at_ hl (fun hx => by have := hx.1; omega), hf.at_ hd (fun hx => by have := hx.1; omega)⟩
  refine callsIn_wide.2 ((hseq (w.heap.size + 1) (fun b => S b ∨ b = w.heap.size + 1)
    (fun k C W => I k C W ∧ Fr S w W ∧ (∀ b, C b → w.heap.size + 2 ≤ b) ∧ W.heap[w.heap.size + 1]? = some (.loop (rec .ready none)) ∧ W.heap[w.heap.size]? = some (.deferred (some [])))
    (fun k C W => ∃ c, Ix c k C W ∧ Fr S w W ∧ W.heap[w.heap.size + 1]? = some (.loop (rec .done (some c))) ∧ W.heap[w.heap.size]? = some (.deferred (some [])))
    W1 hb1 ?_ ?_ ?_ ?_ ⟨hI 0 _ _ _ h0 hf1, hr1, fun _ h => h.elim, hL1, hD1⟩).mono ?_)
  · rintro b (h | rfl)
    · have := hS b h
      exact ⟨by omega, fun _ => h⟩
    · exact ⟨by omega, fun h => by have := hb0.size; omega⟩
  · rintro k C A B ⟨hi, hr, hC, hl, hd⟩ hf
    obtain ⟨hl', hd'⟩ := hDL hl hd hf
    exact ⟨hI k C _ _ hi (Fa.up hf hB), Fa.old hf hr hB, hC, hl', hd'⟩
  · -- a round
    rintro k x C Wp W vs hx ⟨hip, -⟩ hfp hrep ⟨hi, hr, hC, hl, hd⟩
    have hy := run_yield (P := Tryz.prog) (args := vs) hl (by rw [hrec]; exact hps Wp W vs x hrep)
    rw [hrec] at hy
    have hltW : w.heap.size + 1 < W.heap.size := (Array.getElem?_eq_some_iff.1 hl).1
    have nS : ∀ (A B : World), W.heap.size ≤ A.heap.size → ¬ (S (w.heap.size + 1) ∨ CC C A B (w.heap.size + 1)) ∧ ¬ (S w.heap.size ∨ CC C A B w.heap.size) := fun A B hA => by
      constructor
      · rintro (e | e | e)
        · have := hS _ e; omega
        · have := hC _ e; omega
        · omega
      · rintro (e | e | e)
        · have := hS _ e; omega
        · have := hC _ e; omega
        · omega
    refine ⟨fn, _, assign, body, hy, roundIn_of_wpIn hfn (wpIn_mono (hround _ k x C Wp W vs hx hip hfp hrep (by omega) hi hr) ?_)⟩
    rintro e0 a' Wa h0
    cases e0 with
    | normal => ?_
    | _ => exact h0
    obtain ⟨hra, hia, hbody⟩ := h0
    have hla := hra.at_ hl (fun e => e.elim (fun e => by have := hS _ e; omega) (fun e => by have := hC _ e; omega))
    have hda := hra.at_ hd (fun e => e.elim (fun e => by have := hS _ e; omega) (fun e => by have := hC _ e; omega))
    refine ⟨_, run_beginRound hla (by rw [hrec]), ?_⟩
    obtain ⟨Wb, hWb⟩ : ∃ Wb, Wa.putObj (w.heap.size + 1) (.loop { rec .ready none with state := .busy }) = Wb := ⟨_, rfl⟩
    rw [hWb]
    have hlt : w.heap.size + 1 < Wa.heap.size := (Array.getElem?_eq_some_iff.1 hla).1
    have hszb : Wb.heap.size = Wa.heap.size := by rw [← hWb]; simp
    have hlb : Wb.heap[w.heap.size + 1]? = some (.loop { rec .ready none with state := .busy }) := by rw [← hWb]; exact World.putObj_heap_same hlt
    have hdb : Wb.heap[w.heap.size]? = some (.deferred (some [])) := by rw [← hWb]; exact (World.putObj_heap_other (by omega)).trans hda
    have hfb : Fa w.heap.size Wa Wb := by rw [← hWb]; exact frPut _ (by omega) hla rfl
    have hra' : Fr S w Wa := hr.trans' hra (fun b hb e => e.elim id (fun e => by have := hC _ e; omega))
    have hrb : Fr S w Wb := Fa.old hfb hra' (Nat.le_refl _)
    have hrW : Fr (fun b => (S b ∨ b = w.heap.size + 1) ∨ C b) W Wb := by
      rw [← hWb]; exact (hra.mono (fun b _ h => h.elim (fun h => .inl (.inl h)) .inr)).putObj (fun _ => .inl (.inr rfl)) _
    have hszW : W.heap.size ≤ Wb.heap.size := by rw [hszb]; exact hra.size
    refine wpIn_mono (hbody Wb (hI k C _ _ hia hfb) hrb hfb hszW hr.size (fun b e => by have := hC b e; omega) ⟨_, hlb⟩) ?_
    have fin : ∀ (jump : Option Code) (W3 : World), Fr (fun b => S b ∨ CC C W Wb b) Wb W3 →
        (Instr.endRound (w.heap.size + 1) jump).run Tryz.prog W3 = .ok (.bool jump.isNone) (W3.putObj (w.heap.size + 1) (.loop (rec (if jump.isNone then .ready else .done) jump))) ∧
        Fa w.heap.size W3 (W3.putObj (w.heap.size + 1) (.loop (rec (if jump.isNone then .ready else .done) jump))) ∧
        Fr S w (W3.putObj (w.heap.size + 1) (.loop (rec (if jump.isNone then .ready else .done) jump))) ∧
        Fr (fun b => (S b ∨ b = w.heap.size + 1) ∨ C b) W (W3.putObj (w.heap.size + 1) (.loop (rec (if jump.isNone then .ready else .done) jump))) ∧
        (∀ b, CC C W W3 b → w.heap.size + 2 ≤ b) ∧ CC C W (W3.putObj (w.heap.size + 1) (.loop (rec (if jump.isNone then .ready else .done) jump))) = CC C W W3 ∧
        (W3.putObj (w.heap.size + 1) (.loop (rec (if jump.isNone then .ready else .done) jump))).heap[w.heap.size + 1]? = some (.loop (rec (if jump.isNone then .ready else .done) jump)) ∧
        (W3.putObj (w.heap.size + 1) (.loop (rec (if jump.isNone then .ready else .done) jump))).heap[w.heap.size]? = some (.deferred (some [])) := fun jump W3 h3 => by
      have hn := nS W Wb (Nat.le_refl _)
      have hl3 := h3.at_ hlb hn.1
      have hd3 := h3.at_ hdb hn.2
      have he := run_endRound (P := Tryz.prog) jump hl3
      rw [hrec] at he ⊢
      refine ⟨he, frPut _ (by omega) hl3 rfl, ?_, ?_, ?_, ?_, World.putObj_heap_same (Array.getElem?_eq_some_iff.1 hl3).1, (World.putObj_heap_other (by omega)).trans hd3⟩
      · refine (hrb.trans' h3 ?_).putObj (fun h => by omega) _
        rintro b hb (e | e | e)
        · exact e
        · have := hC _ e; omega
        · omega
      · refine (hrW.trans' h3 ?_).putObj (fun _ => .inl (.inr rfl)) _
        rintro b hb (e | e | e)
        · exact .inl (.inl e)
        · exact .inr e
        · omega
      · rintro b (e | e)
        · exact hC _ e
        · omega
      · funext b; simp [CC]
    rintro e a3 W3 hp
    cases e with
    | normal =>
      obtain ⟨h3, hi3⟩ := hp
      obtain ⟨e1, e2, e3, e4, e7, e8, e5, e6⟩ := fin none W3 h3
      exact ⟨_, _, e1, .inl ⟨rfl, ⟨by rw [e8]; exact hI _ _ _ _ hi3 e2, e3, by rw [e8]; exact e7, e5, e6⟩, e4⟩⟩
    | ret =>
      obtain ⟨h3, hi3⟩ := hp
      obtain ⟨e1, e2, e3, e4, e7, e8, e5, e6⟩ := fin (some .ret) W3 h3
      exact ⟨_, _, e1, .inr ⟨rfl, ⟨.ret, by rw [e8]; exact hIx _ _ _ _ _ hi3 e2, e3, e5, e6⟩, e4⟩⟩
    | exit id =>
      obtain ⟨h3, hi3⟩ := hp
      obtain ⟨e1, e2, e3, e4, e7, e8, e5, e6⟩ := fin (some (.exit id)) W3 h3
      exact ⟨_, _, e1, .inr ⟨rfl, ⟨.exit id, by rw [e8]; exact hIx _ _ _ _ _ hi3 e2, e3, e5, e6⟩, e4⟩⟩
    | goto t =>
      obtain ⟨h3, hi3⟩ := hp
      obtain ⟨e1, e2, e3, e4, e7, e8, e5, e6⟩ := fin (some (.goto t)) W3 h3
      exact ⟨_, _, e1, .inr ⟨rfl, ⟨.goto t, by rw [e8]; exact hIx _ _ _ _ _ hi3 e2, e3, e5, e6⟩, e4⟩⟩
    | panic ch => exact hp.elim
    | outgrown => exact hp.elim
  · rintro k C A B ⟨c, hi, hr, hl, hd⟩ hf
    obtain ⟨hl', hd'⟩ := hDL hl hd hf
    exact ⟨c, hIx c k C _ _ hi (Fa.up hf hB), Fa.old hf hr hB, hl', hd'⟩
  · -- behind the iterator
    rintro e W2 ⟨⟨v, rfl⟩, (⟨C, hi, hr, _, hl, hd⟩ | ⟨k, C, hk, c, hi, hr, hl, hd⟩)⟩
    · have he := run_endLoop (P := Tryz.prog) hl (by rw [hrec]; simp)
      rw [hrec] at he
      exact ⟨none, _, he, hdone _ C _ (Nat.le_refl _) (hI _ _ _ _ hi (frPut _ (by omega) hl rfl)) (hr.putObj (fun h => by omega) _) ((World.putObj_heap_other (by omega)).trans hd)⟩
    · have he := run_endLoop (P := Tryz.prog) hl (by rw [hrec]; simp)
      rw [hrec] at he
      exact ⟨some c, _, he, hstop _ c k C _ (Nat.le_refl _) hk (hIx c k C _ _ hi (frPut _ (by omega) hl rfl)) (hr.putObj (fun h => by omega) _) ((World.putObj_heap_other (by omega)).trans hd)⟩
end Go.Proofs.YtogphlnakdnchaaGreat

namespace Go.Proofs.YtogphlnakdnchaaGreat
open Go.RowKit Go.Maps
/-- A hold that was copied, as an iterator gives it. -/
def RepH (W0 W : World) (vs : Array Value) (p : Int × HE) : Prop := ∃ y : HV, vs = #[y.enc] ∧ y.e = p.2 ∧ HOk W (fun b => W0.heap.size ≤ b ∧ b < W.heap.size) y
theorem hOrder (w : World) (m : Nat) (l : List (Int × HV)) (h : Mp Tryz.prog w 3 ktI HV.enc m l) (hl : l.length ≤ 1000) : Calls Tryz.prog 55 #[.map (some m)] w fun e w' => ∃ v, e = .returned v ∧ w'.ownsRow w.heap.size 3 1 v l.length (l.map fun p => .int .i64 p.1) ∧ Below w.heap.size w w' := by
  have hkS := keysSortedH w m HV.enc l h (by omega)
  have HK1 := Lib.hid (callsIn_wide.1 hkS.1); have HK2 := Lib.hid (callsIn_wide.1 hkS.2)
  obtain ⟨N, hN⟩ : ∃ N, l.length = N := ⟨_, rfl⟩
  rw [hN] at HK2 ⊢
  clear h hkS hl hN
  go_enter Tryz.func55, Tryz.ntmps55
  go_wp2_with (first
    | (go_at_call 94; refine HK1.out.mono ?_; rintro e w1 ⟨rfl, rfl⟩)
    | (go_at_call 93; refine HK2.out.mono ?_; rintro e w2 ⟨v, rfl, hown, hb⟩; obtain ⟨a, c, rfl⟩ := row_slice hown; have HO := Lib.hid hown; have HB := Lib.hid hb; clear hown hb))
  go_ret
  exact ⟨_, rfl, HO.out, HB.out⟩
set_option maxRecDepth 100000 in
set_option maxHeartbeats 8000000 in
theorem hOrders1 (S : Nat → Prop) (w : World) (Bt g gs m : Nat) (T0 TB : Nat → Prop) (A : Stk) (l : List (Int × HV)) (hBt : Boxed w Bt 23 (.pointer (some ⟨g, 0, none⟩))) (h : SB w g gs m T0 TB A l) (hk : ShOk A (mapE l)) (n1 : ¬ S Bt) (n2 : ∀ b, (b = g ∨ b = m ∨ T0 b ∨ TB b) → ¬ S b) :
    ItY 54 #[.pointer (some ⟨Bt, 0, none⟩)] RepH (mapE l) S w := by
  intro lp S' J Jx W hW hS' hJ hY hJx h0
  have hBW := boxed_below hBt hW hBt.lt
  have hl : l.length ≤ 1000 := by have := hk.len; rw [mapE_len] at this; omega
  have hSW := h.keep (Fr.below (S := fun _ => False) hW) (fun _ _ e => e)
  have hWsz := hW.size
  have hbl : ∀ b, (b = g ∨ b = m ∨ T0 b ∨ TB b) → ¬ S' b := fun b hb e => n2 b hb ((hS' b e).2 (h.lt b hb))
  have HBL := Lib.hid hbl; have HSW := Lib.hid hSW
  have HLT := Lib.hid h.lt
  have HBT := Lib.hid (⟨hBt.lt, fun e => n1 ((hS' Bt e).2 hBt.lt)⟩ : Bt < w.heap.size ∧ ¬ S' Bt)
  have hor := hOrder W m l hSW.mp hl
  have hnd : Hid ((l.map (·.1)).Nodup) := Lib.hid (by
    have h1 := hk.rise
    have h2 : (mapE l).map (·.1) = l.map (·.1) := by unfold mapE; rw [List.map_map]; rfl
    rw [← h2, List.Nodup, List.pairwise_map]
    exact h1.imp (fun {p q} e h => by omega))
  have hrow : Hid (∀ p ∈ l, okI p.1 ∧ p.2.he.length ≤ 1000 ∧ p.2.pi.length ≤ 1000 ∧ p.2.sh.length ≤ 1000) := Lib.hid (fun p hp => by
    have h1 := hk.row (p.1, p.2.e) (List.mem_map.2 ⟨p, hp, rfl⟩)
    have h2 : p.2.he.length ≤ 16 := (mayL_iff.1 h1.he).2
    have h3 : p.2.pi.length ≤ 16 := (mayL_iff.1 h1.pi).2
    have h4 : p.2.sh.length ≤ 16 := (mayL_iff.1 h1.sh).2
    have h5 := h1.may
    exact ⟨by unfold okI; simp only at h5; omega, by omega, by omega, by omega⟩)
  obtain ⟨N, hN⟩ : ∃ N, l.length = N := ⟨_, rfl⟩
  have HN := Lib.hid hN
  have HS := Lib.hid hS'
  have HX : Hid ((mapE l).length = N) := Lib.hid (by rw [mapE_len]; exact hN)
  rw [hN] at hor hl
  have HOR := Lib.hid hor
  have HWS := Lib.hid hWsz
  have hcB := hBW.cell
  have hmd := Lib.hid (hmade W g m hSW.cells.2)
  obtain ⟨q0, q1⟩ := hSW.cells
  have hfn : ∀ f, Fence.wide.fn f := fun _ => trivial
  have hdp : Fence.wide.depth.isSome = false := rfl
  clear h hk n1 n2 hS' hSW hW hN hor hbl hBt hWsz
  refine (callsIn_wide (n := 0)).1 ?_
  refine callsIn_of_wp Tryz.func54 rfl trivial ?_ rfl
  simp only [Tryz.ntmps54, List.size_toArray, List.length_cons, List.length_nil, Nat.reduceAdd, Nat.reduceSub, Array.replicate_succ, Array.replicate_zero, List.push_toArray, List.append_toArray, List.nil_append, List.cons_append]
  gi_wp2_with (first
    | (gi_at_call 39; refine (callsIn_wide.2 hmd.out).mono ?_; rintro e w1 ⟨rfl, rfl⟩)
    | (gi_at_call 55; refine (callsIn_wide.2 HOR.out).mono ?_; rintro e w1 ⟨v, rfl, hown, hb⟩; obtain ⟨a, c, rfl⟩ := row_slice hown))
  have hJ1 := hJ 0 _ _ _ h0 (Fr.below hb)
  have HW1 : Hid (W.heap.size ≤ w1.heap.size) := Lib.hid hb.size
  have HO := Lib.hid hown; have HJ1 := Lib.hid hJ1
  have HF1 : Hid (Fr (fun _ => False) W w1) := Lib.hid (Fr.below hb)
  have HBW := Lib.hid hBW
  clear h0 hcB hown hb hJ1 q0 q1 hBW
  gi_loopw [14] (fun i wr => ∃ (k : Nat) (C : Nat → Prop), k ≤ N ∧ i = .int .i64 k ∧ J k C wr ∧ (∀ b, C b → w1.heap.size ≤ b ∧ b < wr.heap.size) ∧ Fr (fun b => S' b ∨ C b) w1 wr) (fun i _ => N - (intOf i).toNat)
  case atStart => exact ⟨0, _, Nat.zero_le _, rfl, HJ1.out, fun _ h => False.elim h, Fr.refl _ _⟩
  case round =>
    obtain ⟨k, C, hk, rfl, hJr, hC, hkp⟩ := hrel
    by_cases hlt : k < N
    · obtain ⟨p, hp⟩ : ∃ p, l[k]? = some p := ⟨l[k]'(by rw [HN.out]; exact hlt), List.getElem?_eq_getElem _⟩
      obtain ⟨g', rfl, hg1, hg2⟩ := row_addr HO.out (by omega)
      have m5 : ¬ (S' g' ∨ C g') := fun e => e.elim (fun e => by have := (HS.out _ e).1; omega) (fun e => by have := hC _ e; omega)
      have hownr := hkp.row HO.out (fun b e => by obtain rfl : g' = b := (by simpa [Value.ownBlock] using e); exact m5)
      have hcx : wr.cell? ⟨g', k, none⟩ = some (.int .i64 p.1) := by
        have := hownr.cellAt (g := g') (j := k) (by omega)
        rw [this]; simp [hp]
      have hnS : ∀ b, b < W.heap.size → ¬ S' b → ¬ (S' b ∨ C b) := fun b hb hs e => e.elim hs (fun e => by have := hC _ e; have := HW1.out; omega)
      have hSr : SB wr g gs m T0 TB A l := (HSW.out.keep HF1.out (fun _ _ e => e)).keep hkp (fun b hb => hnS b (by have := HSW.out.lt b hb; exact this) (HBL.out b hb))
      have hbr := cell_obj (hkp.at_ (HF1.out.at_ HBW.out (fun e => e)) (hnS Bt (by have := HBT.out.1; have := HWS.out; omega) HBT.out.2)) 0 (.pointer (some ⟨g, 0, none⟩)) rfl
      obtain ⟨q0, q1⟩ := hSr.cells
      have hrw := hrow.out p (List.mem_of_getElem? hp)
      have hget := getK_of hnd.out (x := p.1) (v := p.2) (List.mem_of_getElem? hp)
      have hlk := hSr.mp.look (t := 61) kHI Tryz.underlying61 (z := .agg #[.int .i64 0, .slice none 0 0, .slice none 0 0, .slice none 0 0]) (by kernel_rfl) hrw.1
      rw [hget] at hlk
      have hxx : (mapE l)[k]? = some (p.1, p.2.e) := by unfold mapE; rw [List.getElem?_map, hp]; rfl
      have hcp := hcopied wr TB p.2 (hSr.rows p (List.mem_of_getElem? hp)).2 hrw.2
      obtain ⟨a1, d1, e1⟩ := (hSr.rows p (List.mem_of_getElem? hp)).2.lh.1.sl
      obtain ⟨a2, d2, e2⟩ := (hSr.rows p (List.mem_of_getElem? hp)).2.lp.1.sl
      obtain ⟨a3, d3, e3⟩ := (hSr.rows p (List.mem_of_getElem? hp)).2.ls.1.sl
      obtain ⟨x, ⟨xo, xh, xp, xs, he, pi, sh⟩⟩ := p
      dsimp only at e1 e2 e3 hlk hcp hcx hxx
      subst e1 e2 e3
      have hlk2 : (Instr.lookup 61 (.map (some m)) (.int .i64 x) false).run Tryz.prog wr = .ok (.agg #[.int .i64 xo, .slice a1 he.length d1, .slice a2 pi.length d2, .slice a3 sh.length d3]) wr := hlk
      dsimp only [HV.enc] at hcp
      have HCP := Lib.hid hcp
      have hlI : (k : Int) < N := by omega
      have HC := Lib.hid hC; have HK := Lib.hid hkp; have HJR := Lib.hid hJr; have HXX := Lib.hid hxx
      clear hC hkp hp hJr hownr hxx hSr hnS hrw hget hlk hcp
      gi_wp2_with (gi_at_call 40; refine (callsIn_wide.2 HCP.out).mono ?_; rintro e w2 ⟨⟨yo, yh, yp, ys, ye, yi, yj⟩, rfl, hy, hky, hf2⟩; obtain ⟨b1, c1, r1⟩ := hky.lh.1.sl; obtain ⟨b2, c2, r2⟩ := hky.lp.1.sl; obtain ⟨b3, c3, r3⟩ := hky.ls.1.sl; dsimp only at r1 r2 r3; subst r1 r2 r3; dsimp only [HV.enc]; have HY := Lib.hid hy; have HKY := Lib.hid hky; have HF2 := Lib.hid hf2; have hJ2 := hJ k C _ _ HJR.out (hf2.mono (fun _ _ e => e.elim)); obtain ⟨fn, tmps, assign, body, hyd, hR⟩ := hY k (x, ⟨xo, he, pi, sh⟩) C wr w2 #[.agg #[.int .i64 yo, .slice b1 ye.length c1, .slice b2 yi.length c2, .slice b3 yj.length c3]] HXX.out HJR.out hf2 ⟨⟨yo, .slice b1 ye.length c1, .slice b2 yi.length c2, .slice b3 yj.length c3, ye, yi, yj⟩, rfl, hy, hky⟩ hJ2; clear hy hky hf2 hJ2)
      refine hR.mono ?_
      rintro e W3 (⟨rfl, hJ3, hk3⟩ | ⟨rfl, hJx3, _⟩)
      · gi_wp2
        go_roundw
        case rel =>
          refine ⟨k + 1, _, by omega, by go_num, hJ3, ?_, ?_⟩
          · have hs3 := hk3.size; have hs2 := HF2.out.size
            rintro b (e | e)
            · have := HC.out b e; exact ⟨this.1, by omega⟩
            · have := HK.out.size; exact ⟨by omega, e.2⟩
          · exact ((HK.out.mono (fun b _ e => e.elim .inl (fun e => .inr (.inl e)))).trans' (HF2.out.mono (S' := fun _ => False) (fun _ _ e => e)) (fun _ _ e => e.elim)).trans' (hk3.mono (fun b _ e => e.elim .inl (fun e => .inr (.inl e)))) (fun _ _ e => e)
        case measure => simp [intOf]; omega
      · gi_wp2
        refine bodyPost_ret (results_none rfl _ _ _) rfl ?_
        refine ⟨⟨_, rfl⟩, .inr ⟨_, _, ?_, hJx3⟩⟩
        have := HX.out
        omega
    · obtain rfl : k = N := by omega
      have hlI : ¬ (k : Int) < k := by omega
      gi_wp2
      go_end0
      refine ⟨⟨_, rfl⟩, .inl ⟨C, ?_⟩⟩
      rw [HX.out]
      exact hJr
end Go.Proofs.YtogphlnakdnchaaGreat

namespace Go.Proofs.YtogphlnakdnchaaGreat
open Go.RowKit Go.Maps
attribute [local go_sem] Oper.semAt_some
/-- An order's cells. -/
def orderC (p : Int × HE) : List (List Int) := numB p.2.o :: (liC p.2.he ++ (liC p.2.pi ++ liC p.2.sh))
def packM0 (A : Stk) (n : Nat) : Mst := mkP (mkP ([], false) (textB (bS (packS A)))) (numB (n : Int))
def packM (A : Stk) (le : Hes) : Mst := mkAll (packM0 A le.length) (le.flatMap orderC)
/-- A shelf's code. -/
def packH (A : Stk) (le : Hes) : List Int := if (packM A le).2 = true then [] else (packM A le).1
theorem ordC_take {le : Hes} {k : Nat} {p : Int × HE} (h : le[k]? = some p) : (le.take (k + 1)).flatMap orderC = (le.take k).flatMap orderC ++ orderC p := by
  rw [List.take_add_one, h, List.flatMap_append]
  simp
def KI (w0 : World) (n0 mb gm : Nat) (TM0 : Nat → Prop) (s : Mst) (le : Hes) (k : Nat) (C : Nat → Prop) (W : World) : Prop :=
  ∃ TM, KF w0 W n0 mb gm TM (mkAll s ((le.take k).flatMap orderC)) ∧ ∀ b, TM b → TM0 b ∨ C b
section
variable {w0 W W' : World} {n0 mb gm B : Nat} {TM TM' : Nat → Prop} {s s' : Mst}
theorem KF.fa (h : KF w0 W n0 mb gm TM s) (hf : Fa B W W') (hB : w0.heap.size ≤ B) : KF w0 W' n0 mb gm TM s :=
  ⟨mk_fa h.mkr hf, Fa.cells hf h.box, h.nb, h.fr.trans' hf (fun b hb e => by have := e.1; omega), h.low, h.mb⟩
theorem KF.keep (h : KF w0 W n0 mb gm TM s) (hf : Fr (fun _ => False) W W') : KF w0 W' n0 mb gm TM s :=
  ⟨h.mkr.fr hf (fun _ _ e => e), hf.at_ h.box (fun e => e), h.nb, h.fr.trans' hf (fun _ _ e => e.elim), h.low, h.mb⟩
theorem KF.step (h : KF w0 W n0 mb gm TM s) (hm : MK W' gm TM' s'.1 s'.2) (hs : Stp TM W W' TM') (hz : n0 ≤ W.heap.size) : KF w0 W' n0 mb gm TM' s' :=
  have hl := (Array.getElem?_eq_some_iff.1 h.box).1
  ⟨hm, hs.1.at_ h.box h.nb, fun e => (hs.2 _ e).elim h.nb (fun e => by omega), h.fr.trans' hs.1 (fun b _ e => h.low b e), fun b e => (hs.2 b e).elim (h.low b) (fun e => Nat.le_trans hz e), h.mb⟩
theorem KF.num (h : KF w0 W n0 mb gm TM s) (hz : n0 ≤ W.heap.size) (n : Int) (hn : okI n) : Calls Tryz.prog 51 #[.pointer (some ⟨gm, 0, none⟩), .int .i64 n] W fun e w' => e = .returned (.pointer (some ⟨gm, 0, none⟩)) ∧ ∃ TM', KF w0 w' n0 mb gm TM' (mkP s (numB n)) ∧ Stp TM W w' TM' := by
  refine (cMNum W gm TM s.1 s.2 n h.mkr hn).mono ?_
  rintro e w' ⟨rfl, TM', h1, h2⟩
  exact ⟨rfl, TM', h.step h1 h2 hz, h2⟩
theorem KF.put (h : KF w0 W n0 mb gm TM s) (hz : n0 ≤ W.heap.size) (v : Value) (its : Its) (hi : Il W v its) (hT : its ≠ [] → ∀ b, v.ownBlock = some b → ¬ TM b) (hits : ∀ p ∈ its, p.1.length ≤ 16 ∧ okI p.2) :
    Calls Tryz.prog 52 #[.pointer (some ⟨gm, 0, none⟩), v] W fun e w' => (∃ v, e = .returned v) ∧ ∃ TM', KF w0 w' n0 mb gm TM' (mkAll s (liC its)) ∧ Stp TM W w' TM' := by
  refine (hPut W gm TM s v its h.mkr hi hT hits).mono ?_
  rintro e w' ⟨hv, TM', h1, h2⟩
  exact ⟨hv, TM', h.step h1 h2 hz, h2⟩
end
theorem il_fa {B : Nat} {w w' : World} {v : Value} {L : Its} (h : Il w v L) (hf : Fa B w w') : Il w' v L := by
  obtain ⟨h0, a, c, rfl, h1⟩ := h
  refine ⟨h0, a, c, rfl, fun i p hp => ?_⟩
  obtain ⟨b1, b2, ad, rfl, c0, c1⟩ := h1 i p hp
  exact ⟨b1, b2, ad, rfl, Fa.cell hf c0, Fa.cell hf c1⟩
theorem okI_len {n k : Nat} (h : n ≤ k) (hk : k ≤ 1000000 := by decide) : okI (n : Int) := ⟨by omega, by omega⟩
theorem byt_textB {s : Str} (h : okI (s.length : Int)) : Byt (textB s) := fun x hx => (List.mem_append.1 hx).elim (numB_mem h) (sB_byt s x)
theorem byt_mkP {s : Mst} {c : List Int} (hs : Byt s.1) (hc : Byt c) : Byt (mkP s c).1 := by
  unfold mkP putB
  dsimp only
  split
  · exact hs
  · exact fun x hx => (List.mem_append.1 hx).elim (hs x) (hc x)
theorem byt_mkAll : ∀ (cs : List (List Int)) (s : Mst), Byt s.1 → (∀ c ∈ cs, Byt c) → Byt (mkAll s cs).1
  | [], _, hs, _ => hs
  | c :: r, s, hs, h => byt_mkAll r (mkP s c) (byt_mkP hs (h c (by simp))) (fun d hd => h d (by simp [hd]))
theorem byt_liC {L : Its} (hl : L.length ≤ 16) (h : ∀ p ∈ L, p.1.length ≤ 16 ∧ okI p.2) : ∀ c ∈ liC L, Byt c := fun c hc => by
  unfold liC itC at hc
  rcases List.mem_cons.1 hc with h1 | hc
  · rw [h1]
    exact fun x hx => numB_mem (okI_len (k := 16) hl (Nat.le_of_ble_eq_true rfl)) hx
  · obtain ⟨p, hp, hc⟩ := List.mem_flatMap.1 hc
    obtain ⟨h1, h2⟩ := h p hp
    simp only [List.mem_cons, List.not_mem_nil, or_false] at hc
    rcases hc with hc | hc
    · rw [hc]; exact byt_textB (okI_len (k := 16) h1 (Nat.le_of_ble_eq_true rfl))
    · rw [hc]; exact fun x hx => numB_mem h2 hx
theorem may_its16 {L : Its} (h : mayL L = true) : ∀ p ∈ L, p.1.length ≤ 16 ∧ okI p.2 := fun p hp => by
  have h1 := (mayL_all h).row p hp
  have h2 := h1.1
  unfold goodB at h2
  simp only [Bool.and_eq_true, decide_eq_true_eq] at h2
  exact ⟨h2.2.2, by unfold okI; omega⟩
theorem byt_orderC {p : Int × HE} (h : HEok p.1 p.2) : ∀ c ∈ orderC p, Byt c := fun c hc => by
  unfold orderC at hc
  rcases List.mem_cons.1 hc with hc | hc
  · rw [hc]; exact fun x hx => numB_mem (n := p.2.o) (by have h1 := h.may; have h2 := h.eq; unfold okI; omega) hx
  · rcases List.mem_append.1 hc with hc | hc
    · exact byt_liC (mayL_iff.1 h.he).2 (may_its16 h.he) c hc
    · rcases List.mem_append.1 hc with hc | hc
      · exact byt_liC (mayL_iff.1 h.pi).2 (may_its16 h.pi) c hc
      · exact byt_liC (mayL_iff.1 h.sh).2 (may_its16 h.sh) c hc
theorem packM_byt {A : Stk} {le : Hes} (h : ShOk A le) : Byt (packM A le).1 := by
  unfold packM packM0
  refine byt_mkAll _ _ (byt_mkP (byt_mkP (fun x hx => by cases hx) (byt_textB ?_)) (fun x hx => numB_mem ?_ hx)) (fun c hc => ?_)
  · have := packS_len h.stk
    have h2 : (bS (packS A)).length = (packS A).length := by unfold bS; rw [List.length_map]
    rw [h2]; unfold okI; omega
  · have := h.len; unfold okI; omega
  · obtain ⟨p, hp, hc⟩ := List.mem_flatMap.1 hc
    exact byt_orderC (h.row p hp) c hc
theorem packH_byt {A : Stk} {le : Hes} (h : ShOk A le) : Byt (packH A le) := by
  unfold packH
  split
  · exact fun x hx => by cases hx
  · exact packM_byt h
set_option maxRecDepth 100000 in
set_option maxHeartbeats 16000000 in
theorem hPack (w : World) (g gs m : Nat) (T0 TB : Nat → Prop) (A : Stk) (l : List (Int × HV)) (h : SB w g gs m T0 TB A l) (hk : ShOk A (mapE l)) :
    Calls Tryz.prog 17 #[.pointer (some ⟨g, 0, none⟩)] w fun e w' => ∃ v, e = .returned v ∧ w'.ownsRow w.heap.size 5 1 v (packH A (mapE l)).length (u8s (packH A (mapE l))) ∧ Fr (fun _ => False) w w' := by
  obtain ⟨n0, hn0⟩ : ∃ n0, w.heap.size = n0 := ⟨_, rfl⟩
  have HS := Lib.hid hn0
  have HSB := Lib.hid h; have HK := Lib.hid hk
  have hkeep : Hid (∀ W, Fr (fun b => n0 ≤ b) w W → SB W g gs m T0 TB A l) := Lib.hid (fun W hf => HSB.out.keep hf (fun b hb e => by have := HSB.out.lt b hb; omega))
  obtain ⟨N, hN⟩ : ∃ N, l.length = N := ⟨_, rfl⟩
  have hNl : N ≤ 256 := by have := hk.len; rw [mapE_len] at this; omega
  have hgc : Hid (∀ W, Fr (fun b => n0 ≤ b) w W → W.cell? ⟨g, 0, none⟩ = some (.pointer (some ⟨gs, 0, none⟩)) ∧ W.cell? ⟨g, 1, none⟩ = some (.map (some m)) ∧ (Builtin.len_ #[61] 3 #[.map (some m)]).run Tryz.prog W = .ok (.int .i64 N) W) := Lib.hid (fun W hf => by
    have h1 := hkeep.out W hf
    have := h1.mp.len Tryz.underlying61 3
    rw [hN] at this
    exact ⟨h1.cells.1, h1.cells.2, this⟩)
  have hmd := Lib.hid (callsIn_wide (n := 0) |>.2 (hmade w g m h.cells.2))
  obtain ⟨PB, hPB⟩ : ∃ b, packS A = b := ⟨_, rfl⟩
  have HPBl : Hid (PB.length ≤ 7945) := Lib.hid (by rw [← hPB]; exact packS_len hk.stk)
  have hpk : Hid (∀ W, Fr (fun b => n0 ≤ b) w W → n0 ≤ W.heap.size → Calls Tryz.prog 50 #[.pointer (some ⟨gs, 0, none⟩)] W fun e w' => ∃ a c, e = .returned (.slice a PB.length c) ∧ Bs w' (.slice a PB.length c) PB ∧ Fr (fun _ => False) W w') := Lib.hid (fun W hf hz => by
    refine (sPack W gs T0 A (hkeep.out W hf).stk HK.out.stk).mono ?_
    rintro e w' ⟨v, rfl, h1, h2⟩
    rw [hPB] at h1
    obtain ⟨a, c, rfl⟩ := row_slice h1
    exact ⟨a, c, rfl, (Bs.own h1 (by rw [← hPB]; exact packS_byt HK.out.stk)).1, h2⟩)
  have okN : Hid (okI (N : Int)) := Lib.hid (by unfold okI; omega)
  have hpm : Hid (packM A (mapE l) = mkAll (mkP (mkP ([], false) (textB (bS PB))) (numB (N : Int))) ((mapE l).flatMap orderC)) := Lib.hid (by unfold packM packM0; rw [mapE_len, hN, hPB])
  clear h hk hPB hNl
  have HN := Lib.hid hN
  clear hN
  refine (callsIn_wide (n := 0)).1 ?_
  refine callsIn_of_wp_marks Tryz.func17 rfl trivial ?_ rfl
  simp only [Tryz.ntmps17, List.size_toArray, List.length_cons, List.length_nil, Nat.reduceAdd, Nat.reduceSub, Array.replicate_succ, Array.replicate_zero, List.push_toArray, List.append_toArray, List.nil_append, List.cons_append]
  have hfn : ∀ f, Fence.wide.fn f := fun _ => trivial
  have hdp : Fence.wide.depth.isSome = false := rfl
  gi_wp2_with (gi_at_call 39; refine hmd.out.mono ?_; rintro e w1 ⟨rfl, rfl⟩)
  have hK : Hid (K0 w w.drew n0 none) := Lib.hid ⟨(Fr.refl _ w).drew, by show n0 ≤ w.heap.size; omega, fun b e => by cases e⟩
  obtain ⟨f1, f2, f3⟩ := hgc.out _ hK.out.fr
  refine wpIn_wide.2 ?_
  refine Code.wp_mono (Q := fun e a' w' => e = .normal ∧ ∃ mb gm TM pv, KF w w' n0 mb gm TM (mkP (mkP ([], false) (textB (bS PB))) (numB (N : Int))) ∧ a' = { tmps := List.toArray ((.pointer (some ⟨g, 0, none⟩)) :: (undef) :: (.slice none 0 0) :: (.pointer (some ⟨mb, 0, none⟩)) :: (undef) :: (undef) :: (undef) :: (undef) :: (undef) :: (.pointer (some ⟨g, 0, none⟩)) :: (.bool true) :: (.bool false) :: (.pointer (some ⟨gm, 0, none⟩)) :: (.pointer (some ⟨g, 0, none⟩)) :: (.pointer (some ⟨g, 0, none⟩)) :: (.pointer (some ⟨g, 0, none⟩)) :: (.pointer (some ⟨gs, 0, none⟩)) :: (pv) :: (.string (strOfNums PB)) :: (.pointer (some ⟨gm, 0, none⟩)) :: (.pointer (some ⟨g, 0, none⟩)) :: (.pointer (some ⟨g, 0, none⟩)) :: (.pointer (some ⟨g, 1, none⟩)) :: (.map (some m)) :: (.int .i64 N) :: (.pointer (some ⟨gm, 0, none⟩)) :: (undef) :: (undef) :: (undef) :: (undef) :: (undef) :: (undef) :: (undef) :: (undef) :: (undef) :: (undef) :: (undef) :: (undef) :: (undef) :: (undef) :: (undef) :: (undef) :: (undef) :: (undef) :: (undef) :: (undef) :: (undef) :: (undef) :: (undef) :: (undef) :: (undef) :: (undef) :: (undef) :: (undef) :: (undef) :: []), defers := [] }) ?_ ?_
  · rintro e a' W5 ⟨rfl, mb, gm, TM, pv, hKF, rfl⟩
    have HKF := Lib.hid hKF
    have HZ5 : Hid (n0 ≤ W5.heap.size) := Lib.hid (by have := hKF.fr.size; omega)
    clear f1 f2 f3 hmd hKF hK
    gi_wp2_with (gi_at_call 19; refine (callsIn_wide.2 (hOrders (some ⟨g, 0, none⟩) _)).mono ?_; rintro e w6 ⟨rfl, rfl⟩)
    obtain ⟨W6, hW6⟩ : ∃ W6, W5.alloc (.cells #[.pointer (some ⟨g, 0, none⟩)] 23) = W6 := ⟨_, rfl⟩
    (try rw [hW6])
    have hF6 : Fr (fun _ => False) W5 W6 := by rw [← hW6]; exact (Fr.refl _ _).alloc _
    have hB6 : Boxed W6 W5.heap.size 23 (.pointer (some ⟨g, 0, none⟩)) := by rw [← hW6]; exact heap_at rfl _
    have hz6 : W6.heap.size = W5.heap.size + 1 := by rw [← hW6]; simp
    have hKF6 := HKF.out.keep hF6
    have hSB6 := hkeep.out W6 hKF6.fr
    have hTM6 : Hid (∀ b, TM b → b < W5.heap.size) := Lib.hid HKF.out.mkr.lt
    obtain ⟨s0, hs0⟩ : ∃ s0, mkP (mkP ([], false) (textB (bS PB))) (numB (N : Int)) = s0 := ⟨_, rfl⟩
    rw [hs0] at hKF6 hpm
    have HKF6 := Lib.hid hKF6
    have hgm : Hid (∀ b, (b = g ∨ b = m ∨ T0 b ∨ TB b) → b < n0) := Lib.hid (fun b hb => by have := HSB.out.lt b hb; have := HS.out; omega)
    clear hW6 hF6 hKF6 hs0 HKF
    refine rangeY (w0 := W6) (X := mapE l) (S := TM) rfl (enters_of Tryz.func54 (by kernel_rfl) rfl)
      (hOrders1 TM W6 W5.heap.size g gs m T0 TB A l hB6 hSB6 HK.out (fun e => by have := hTM6.out _ e; omega) (fun b hb e => by have := hgm.out b hb; have := HKF6.out.low b e; omega)) (Below.refl _ _) (fun b hb => by have := hTM6.out b hb; omega)
      (fun W0 W vs x hr => by obtain ⟨y, rfl, -⟩ := hr; rfl)
      (KI w n0 mb gm TM s0 (mapE l)) (fun _ _ _ _ => False)
      (fun k C W W' hs hf => hs.elim fun TM' h => ⟨TM', h.1.fa hf (by have := HS.out; have := HZ5.out; omega), h.2⟩) (fun c k C W W' hs hf => hs)
      ⟨TM, by simpa [mkAll] using HKF6.out, fun b hb => .inl hb⟩ ?round ?done ?stop
    case stop => intro D c k C W hD hk hX; exact hX.elim
    case round =>
      rintro lp j x C Wp W vs hx hip hfp hrep hlp hi hr
      obtain ⟨⟨yo, yh, yp, ys, ye, yi, yj⟩, rfl, hy, hky⟩ := hrep
      have hxm : HEok x.1 x.2 := HK.out.row x (List.mem_of_getElem? hx)
      have hy : (⟨yo, ye, yi, yj⟩ : HE) = x.2 := hy
      have HX := Lib.hid (ordC_take hx)
      obtain ⟨xk, xe⟩ := x
      dsimp only at hy hxm
      subst hy
      obtain ⟨TMp, hKp, hTCp⟩ := hip
      have hfresh : Hid (∀ b, TMp b → b < Wp.heap.size) := Lib.hid hKp.mkr.lt
      have okx : Hid (okI yo) := Lib.hid (by have h1 := hxm.may; have h2 := hxm.eq; dsimp only at h2; unfold okI; omega)
      have hm1 := Lib.hid (may_its16 hxm.he); have hm2 := Lib.hid (may_its16 hxm.pi); have hm3 := Lib.hid (may_its16 hxm.sh)
      obtain ⟨b1, d1, r1⟩ := hky.lh.1.sl
      obtain ⟨b2, d2, r2⟩ := hky.lp.1.sl
      obtain ⟨b3, d3, r3⟩ := hky.ls.1.sl
      dsimp only at r1 r2 r3 hm1 hm2 hm3
      subst r1 r2 r3
      obtain ⟨n1, hn1⟩ : ∃ n, ye.length = n := ⟨_, rfl⟩
      obtain ⟨n2, hn2⟩ : ∃ n, yi.length = n := ⟨_, rfl⟩
      obtain ⟨n3, hn3⟩ : ∃ n, yj.length = n := ⟨_, rfl⟩
      have HKY := Lib.hid hky
      rw [hn1, hn2, hn3] at HKY
      dsimp only [HV.enc]
      rw [hn1, hn2, hn3]
      have HKP := Lib.hid hKp
      clear hn1 hn2 hn3 hky hKp hx hxm
      gi_wp2
      obtain ⟨W7, hW7⟩ : ∃ W7, W.alloc (.cells #[.int .i64 yo, .slice b1 n1 d1, .slice b2 n2 d2, .slice b3 n3 d3] 37) = W7 := ⟨_, rfl⟩
      (try rw [hW7])
      have hF7 : Fr (fun _ => False) W W7 := by rw [← hW7]; exact (Fr.refl _ _).alloc _
      have hb7 : W7.heap[W.heap.size]? = some (.cells #[.int .i64 yo, .slice b1 n1 d1, .slice b2 n2 d2, .slice b3 n3 d3] 37) := by rw [← hW7]; exact heap_at rfl _
      have hK7 := (HKP.out.keep hfp).keep hF7
      have hzp := hfp.size
      have hz7 := hF7.size
      have HL7 : Hid (Il W7 (.slice b1 n1 d1) ye ∧ Il W7 (.slice b2 n2 d2) yi ∧ Il W7 (.slice b3 n3 d3) yj) := Lib.hid ⟨HKY.out.lh.1.keep hF7 (fun _ _ _ e => e), HKY.out.lp.1.keep hF7 (fun _ _ _ e => e), HKY.out.ls.1.keep hF7 (fun _ _ _ e => e)⟩
      have HOW : Hid ((ye ≠ [] → ∀ b, (Value.slice b1 n1 d1).ownBlock = some b → Wp.heap.size ≤ b ∧ b < W.heap.size) ∧ (yi ≠ [] → ∀ b, (Value.slice b2 n2 d2).ownBlock = some b → Wp.heap.size ≤ b ∧ b < W.heap.size) ∧ (yj ≠ [] → ∀ b, (Value.slice b3 n3 d3).ownBlock = some b → Wp.heap.size ≤ b ∧ b < W.heap.size)) := Lib.hid ⟨HKY.out.lh.2, HKY.out.lp.2, HKY.out.ls.2⟩
      have hbl7 := (Array.getElem?_eq_some_iff.1 hb7).1
      refine Took.mk (hF7.mono (fun _ _ e => e.elim)) ⟨TMp, hK7, hTCp⟩ ?_
      rintro Wb _ hrb hf hsz hsw hCC _
      have hKb := hK7.fa hf (by have := HS.out; have := HZ5.out; omega)
      have hbb := Fa.cells hf hb7
      have HLb : Hid (Il Wb (.slice b1 n1 d1) ye ∧ Il Wb (.slice b2 n2 d2) yi ∧ Il Wb (.slice b3 n3 d3) yj) := Lib.hid ⟨il_fa HL7.out.1 hf, il_fa HL7.out.2.1 hf, il_fa HL7.out.2.2 hf⟩
      have hzb : W7.heap.size ≤ Wb.heap.size := hf.size
      have HKB := Lib.hid hKb; have HBB := Lib.hid hbb
      have HSZ : Hid (n0 ≤ Wp.heap.size ∧ Wp.heap.size ≤ W.heap.size ∧ W.heap.size < W7.heap.size ∧ W7.heap.size ≤ Wb.heap.size ∧ W.heap.size ≤ Wb.heap.size) := Lib.hid ⟨by have := HKP.out.fr.size; have := HS.out; omega, hzp, hbl7, hzb, hsz⟩
      have HFP : Hid (Fr (fun _ => False) Wp W) := Lib.hid hfp
      have HTC := Lib.hid hTCp
      have hKeep : Hid (∀ (W' : World) (TM' : Nat → Prop), Stp TMp Wb W' TM' → W'.heap[W.heap.size]? = some (.cells #[.int .i64 yo, .slice b1 n1 d1, .slice b2 n2 d2, .slice b3 n3 d3] 37) ∧ ¬ TM' W.heap.size ∧ (Il W' (.slice b1 n1 d1) ye ∧ Il W' (.slice b2 n2 d2) yi ∧ Il W' (.slice b3 n3 d3) yj) ∧ (∀ b, Wp.heap.size ≤ b → b < W.heap.size → ¬ TM' b)) := Lib.hid (fun W' TM' hs => by
        have hz := HSZ.out
        have hn : ∀ b, Wp.heap.size ≤ b → ¬ TMp b := fun b hb e => by have := hfresh.out b e; omega
        have hn' : ∀ b, Wp.heap.size ≤ b → b < Wb.heap.size → ¬ TM' b := fun b hb hl e => (hs.2 b e).elim (hn b hb) (fun e => by omega)
        exact ⟨hs.1.at_ HBB.out (hn _ hz.2.1), hn' _ hz.2.1 (by omega), ⟨HLb.out.1.keep hs.1 (fun h b hb e => hn b (HOW.out.1 h b hb).1 e), HLb.out.2.1.keep hs.1 (fun h b hb e => hn b (HOW.out.2.1 h b hb).1 e), HLb.out.2.2.keep hs.1 (fun h b hb e => hn b (HOW.out.2.2 h b hb).1 e)⟩, fun b h1 h2 => hn' b h1 (by omega)⟩)
      have hKeep2 := Lib.hid (hKeep.out _ _ (Stp.refl (TS := TMp) (Fr.refl (fun _ => False) Wb)))
      have cm := cell_obj hKb.box 0 (.pointer (some ⟨gm, 0, none⟩)) rfl
      have ch := cell_obj hbb 0 (.int .i64 yo) rfl
      have hbsz : n0 ≤ Wb.heap.size := by have := HSZ.out; omega
      have HBSZ := Lib.hid hbsz
      clear hW7 hF7 hb7 hK7 hzp hz7 hbl7 hKb hbb hzb hf hrb hsz hsw hi hr hfp hTCp
      gi_wp2_with (gi_at_call 51; refine (callsIn_wide.2 (HKB.out.num HBSZ.out yo okx.out)).mono ?_; rintro e w8 ⟨rfl, TM8, hK8, hs8⟩; have HK8 := Lib.hid hK8; have HS8 := Lib.hid hs8; have hk8 := hKeep.out _ _ hs8; have c1 := cell_obj hk8.1 1 (.slice b1 n1 d1) rfl; have c2 := cell_obj hk8.1 2 (.slice b2 n2 d2) rfl; have c3 := cell_obj hk8.1 3 (.slice b3 n3 d3) rfl; clear hK8 hs8 hk8)
      obtain ⟨ab, hab⟩ : ∃ b, w8.heap.size = b := ⟨_, rfl⟩
      (try rw [hab])
      obtain ⟨W9, hW9⟩ : ∃ W9, w8.alloc (.cells #[.slice b1 n1 d1, .slice b2 n2 d2, .slice b3 n3 d3] 27) = W9 := ⟨_, rfl⟩
      (try rw [hW9])
      have hF9 : Fr (fun _ => False) w8 W9 := by rw [← hW9]; exact (Fr.refl _ _).alloc _
      have hA9 : W9.heap[ab]? = some (.cells #[.slice b1 n1 d1, .slice b2 n2 d2, .slice b3 n3 d3] 27) := by rw [← hW9]; exact heap_at hab.symm _
      have HK9 := Lib.hid (HK8.out.keep hF9)
      have HS9 := Lib.hid (HS8.out.trans (Stp.refl (TS := TM8) hF9))
      have HA9 := Lib.hid hA9
      have HN9 : Hid (¬ TM8 ab) := Lib.hid (fun e => by have := HK8.out.mkr.lt _ e; omega)
      have hz8 := HS8.out.1.size
      have HZ9 : Hid (n0 ≤ W9.heap.size) := Lib.hid (by have := hF9.size; have := HBSZ.out; omega)
      clear hW9 hF9 hA9 c1 c2 c3 cm ch hab hz8
      refine wpIn_loop_rounds 4 ?_
      rw [roundsIn_succ]
      have cm9 := cell_obj HK9.out.box 0 (.pointer (some ⟨gm, 0, none⟩)) rfl
      have ca9 := cell_obj HA9.out 0 (.slice b1 n1 d1) rfl
      gi_wp2_with (gi_at_call 52; refine (callsIn_wide.2 (HK9.out.put HZ9.out _ ye (hKeep.out _ _ HS9.out).2.2.1.1 (fun hn b hb => (hKeep.out _ _ HS9.out).2.2.2 b (HOW.out.1 hn b hb).1 (HOW.out.1 hn b hb).2) hm1.out)).mono ?_; rintro e w10 ⟨⟨_, rfl⟩, TM10, hK10, hs10⟩; have HK10 := Lib.hid hK10; have HA10 := Lib.hid (hs10.1.at_ HA9.out HN9.out); have HN10 : Hid (¬ TM10 ab) := Lib.hid (fun e => (hs10.2 _ e).elim HN9.out (fun e => by have := (Array.getElem?_eq_some_iff.1 HA9.out).1; omega)); have HS10 := Lib.hid (HS9.out.trans hs10); have HZ10 : Hid (n0 ≤ w10.heap.size) := Lib.hid (Nat.le_trans HZ9.out hs10.1.size); clear hK10 hs10 cm9 ca9)
      skip
      rw [roundsIn_succ]
      have cm10 := cell_obj HK10.out.box 0 (.pointer (some ⟨gm, 0, none⟩)) rfl
      have ca10 := cell_obj HA10.out 1 (.slice b2 n2 d2) rfl
      gi_wp2_with (gi_at_call 52; refine (callsIn_wide.2 (HK10.out.put HZ10.out _ yi (hKeep.out _ _ HS10.out).2.2.1.2.1 (fun hn b hb => (hKeep.out _ _ HS10.out).2.2.2 b (HOW.out.2.1 hn b hb).1 (HOW.out.2.1 hn b hb).2) hm2.out)).mono ?_; rintro e w11 ⟨⟨_, rfl⟩, TM11, hK11, hs11⟩; have HK11 := Lib.hid hK11; have HA11 := Lib.hid (hs11.1.at_ HA10.out HN10.out); have HN11 : Hid (¬ TM11 ab) := Lib.hid (fun e => (hs11.2 _ e).elim HN10.out (fun e => by have := (Array.getElem?_eq_some_iff.1 HA10.out).1; omega)); have HS11 := Lib.hid (HS10.out.trans hs11); have HZ11 : Hid (n0 ≤ w11.heap.size) := Lib.hid (Nat.le_trans HZ10.out hs11.1.size); clear hK11 hs11 cm10 ca10)
      skip
      rw [roundsIn_succ]
      have cm11 := cell_obj HK11.out.box 0 (.pointer (some ⟨gm, 0, none⟩)) rfl
      have ca11 := cell_obj HA11.out 2 (.slice b3 n3 d3) rfl
      gi_wp2_with (gi_at_call 52; refine (callsIn_wide.2 (HK11.out.put HZ11.out _ yj (hKeep.out _ _ HS11.out).2.2.1.2.2 (fun hn b hb => (hKeep.out _ _ HS11.out).2.2.2 b (HOW.out.2.2 hn b hb).1 (HOW.out.2.2 hn b hb).2) hm3.out)).mono ?_; rintro e w12 ⟨⟨_, rfl⟩, TM12, hK12, hs12⟩; have HK12 := Lib.hid hK12; have HA12 := Lib.hid (hs12.1.at_ HA11.out HN11.out); have HN12 : Hid (¬ TM12 ab) := Lib.hid (fun e => (hs12.2 _ e).elim HN11.out (fun e => by have := (Array.getElem?_eq_some_iff.1 HA11.out).1; omega)); have HS12 := Lib.hid (HS11.out.trans hs12); have HZ12 : Hid (n0 ≤ w12.heap.size) := Lib.hid (Nat.le_trans HZ11.out hs12.1.size); clear hK12 hs12 cm11 ca11)
      rw [roundsIn_succ]
      gi_wp2_with fail
      refine ⟨HS12.out.1.mono (fun b hb e => (HTC.out b e).elim .inl (fun e => .inr (.inl e))), TM12, ?_, ?_⟩
      · rw [HX.out, mkAll_app]
        have e : ∀ s : Mst, mkAll s (orderC (xk, ⟨yo, ye, yi, yj⟩)) = mkAll (mkAll (mkAll (mkP s (numB yo)) (liC ye)) (liC yi)) (liC yj) := fun s => by
          unfold orderC
          show mkAll (mkP s (numB yo)) (liC ye ++ (liC yi ++ liC yj)) = _
          rw [mkAll_app, mkAll_app]
        rw [e]
        exact HK12.out
      · intro b hb
        rcases HS12.out.2 b hb with e | e
        · exact (HTC.out b e).elim .inl (fun e => .inr (.inl e))
        · exact .inr (.inr ⟨by have := HSZ.out; omega, HK12.out.mkr.lt b hb⟩)
    case done =>
      rintro D C W hD ⟨TM', hKW, -⟩ hr hKm
      rw [List.take_length, ← hpm.out] at hKW
      have hcm := cell_obj hKW.box 0 (.pointer (some ⟨gm, 0, none⟩)) rfl
      have HKW := Lib.hid hKW; have HKM := Lib.hid hKm; have HD := Lib.hid hD
      have hby := Lib.hid (packM_byt HK.out)
      have hph : Hid (packH A (mapE l) = if (packM A (mapE l)).2 = true then [] else (packM A (mapE l)).1) := Lib.hid rfl
      clear hKW hKm hD hr
      gi_wp2_with (gi_at_call 53; refine (callsIn_wide.2 (cMDone _ gm TM' _ _ HKW.out.mkr hby.out)).mono ?_; rintro e w7 ⟨hb7, v7, rfl, ho7⟩; generalize (if (packM A (mapE l)).2 = true then (3 : Int) else 0) = ec; have HB7 := Lib.hid hb7; have HO7 := Lib.hid ho7; clear hb7 ho7)
      have hK7 := (Fr.below (S := fun _ => False) HB7.out).at_ HKM.out (fun e => e)
      refine ⟨by simp, .inl ⟨_, _, rfl, run_takeDeferred hK7, ?_⟩⟩
      have hsz := HKW.out.fr.size
      have hn := HS.out
      have hDD := HD.out
      have hz5 := HZ5.out
      refine ⟨_, results_tmp rfl _ _ _, v7, rfl, ?_, ?_⟩
      · rw [hph.out]
        exact ownsRow_putObj (ownsRow_base_a HO7.out (by omega)) _ hK7 rfl
      · have h1 : Fr (fun b => n0 ≤ b) w w7 := HKW.out.fr.trans' (Fr.below (S := fun _ => False) HB7.out) (fun b _ e => e.elim)
        exact (h1.putObj (l := D) (fun h => by omega) _).mono (fun b hb e => by omega)
  · clear hkeep HSB hmd
    have hgS : Hid (∀ W, Fr (fun b => n0 ≤ b) w W → W.cell? ⟨g, 0, none⟩ = some (.pointer (some ⟨gs, 0, none⟩)) ∧ W.cell? ⟨g, 1, none⟩ = some (.map (some m)) ∧ (Builtin.len_ #[61] 3 #[.map (some m)]).run Tryz.prog W = .ok (.int .i64 N) W ∧ (∀ (a : Option Addr) (c : Nat), Bs W (.slice a PB.length c) PB → (convert 48 9 (.slice a PB.length c)).run Tryz.prog W = .ok (.string (strOfNums PB)) W)) := Lib.hid (fun W hf => ⟨(hgc.out W hf).1, (hgc.out W hf).2.1, (hgc.out W hf).2.2, fun a c h => h.string⟩)
    refine wp_region_effB (fun c => n0 ≤ c) [0, 5, 6, 7, 13] 15 14 3 (.cells #[.pointer none] 79) (by kernel_rfl) rfl (by kernel_rfl) rfl (fun o ho a w => by cases ho; rfl) (by kernel_rfl) ?_
    apply Exists.intro
    refine ⟨?hh, ?ef⟩
    case hh =>
      intro X hX
      have z := fun Y : FrW X => hgc.out _ (hX.trans' Y.fr (fun _ _ e => e.elim))
      have z0 := fun Y : FrW X => (z Y).1; have z1 := fun Y : FrW X => (z Y).2.1; have z2 := fun Y : FrW X => (z Y).2.2
      clear z
      simp (config := { decide := true }) only [boxedF, ebIdx, List.cons_append, List.nil_append, List.append_nil, idleU, if_true, if_false, ite_true, ite_false]
      repeat (go_big_quiet_step (fail))
      exact wpQuiet_nil rfl
    case ef =>
      simp only [efO, List.filterMap_cons, List.filterMap_nil, List.getElem?_cons_succ, List.getElem?_cons_zero]
      have HK0 : Hid (K0 w w n0 none) := Lib.hid ⟨Fr.refl _ _, by have := HS.out; omega, fun b e => by cases e⟩
      clear f1 f2 f3 hK
      intro w1 hw1
      go_wp2_with (go_at_call 48; refine (K0.new (HK0.out.keep hw1)).mono ?_; rintro e w2 ⟨gm, TM, rfl, hq, hs⟩; have HQ := Lib.hid hq; have HS2 := Lib.hid hs; clear hq hs)
      refine ⟨(HS2.out.1.mono (fun _ _ e => e.elim)), TM, HS2.out, HQ.out.mkr.lt, ?_⟩
      clear hw1
      intro w3 hw3
      have HQ3 := Lib.hid (HQ.out.keep hw3)
      clear hw3
      go_wp2_with (go_at_call 50; refine (hpk.out _ HQ3.out.k.fr HQ3.out.k.sz).mono ?_; rintro e w4 ⟨pa, pc, rfl, hbs, hf⟩; have HBS := Lib.hid hbs; have HF4 := Lib.hid hf; clear hbs hf)
      refine ⟨HF4.out.mono (fun _ _ e => e.elim), TM, Stp.refl HF4.out, (HQ3.out.keep HF4.out).mkr.lt, ?_⟩
      intro w5 hw5
      have HQ5 := Lib.hid ((HQ3.out.keep HF4.out).keep hw5)
      have hcv := (HBS.out.fr hw5 (fun _ e => e.elim)).string
      clear hw5
      go_wp2_with fail
      refine ⟨Fr.refl _ _, TM, Stp.refl (Fr.refl _ _), HQ5.out.mkr.lt, ?_⟩
      clear hcv
      intro w6 hw6
      have HQ6 := Lib.hid (HQ5.out.keep hw6)
      clear hw6
      go_wp2_with (go_at_call 49; refine (HQ6.out.text (bS PB) (by have := HPBl.out; unfold bS; rw [List.length_map]; omega)).mono ?_; rintro e w7 ⟨rfl, TM7, hq, hs⟩; have HQ7 := Lib.hid hq; have HS7 := Lib.hid hs; clear hq hs)
      refine ⟨HS7.out.1.mono (fun b _ e => HQ6.out.low b e), TM7, HS7.out, HQ7.out.mkr.lt, ?_⟩
      intro w8 hw8
      have HQ8 := Lib.hid (HQ7.out.keep hw8)
      clear hw8
      go_wp2_with (go_at_call 51; refine (HQ8.out.num (N : Int) okN.out).mono ?_; rintro e w9 ⟨rfl, TM9, hq, hs⟩; have HQ9 := Lib.hid hq; have HS9 := Lib.hid hs; clear hq hs)
      refine ⟨HS9.out.1.mono (fun b _ e => HQ8.out.low b e), TM9, HS9.out, HQ9.out.mkr.lt, ?_⟩
      intro w10 b hw10 hb0 hbx hnb
      have HQb : Hid (K1 w w10 n0 (some b) gm TM9 (mkP (mkP ([], false) (textB (bS PB))) (numB (N : Int)))) := Lib.hid (by
        have h1 := HQ9.out.keep hw10
        exact ⟨⟨h1.k.fr, h1.k.sz, fun c e => by cases e; exact ⟨by have := HS.out; omega, hbx⟩⟩, h1.mkr, h1.low, fun c e => by cases e; exact hnb⟩)
      have hbc := cell_obj hbx 0 (.pointer none) rfl
      have hbf := obj_frozen hbx 0
      clear hw10 hb0 hbx hnb
      go_wp2_with fail
      exact ⟨_, HQb.out.fin2 HS.out⟩
end Go.Proofs.YtogphlnakdnchaaGreat

