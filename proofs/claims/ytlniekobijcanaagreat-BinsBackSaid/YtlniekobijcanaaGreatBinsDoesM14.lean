/- Texts of this claim, joined: As XEff, where the calls of the chain may turn what the other operations do not read; entrepotlaw27: do; A region that draws its order, whose operations only read and whose calls may lay blocks, within a round of a range over a function: one walk in the text's order serves (the library's theorem on quiet regions asks for no round); bins: Bins, as an iterator over a floor that owns its blocks. -/
import Derived.Test.YtlniekobijcanaaGreatBinsDoesM7
import Derived.Test.YtlniekobijcanaaGreatBinsDoesM13
import Derived.Deep.QuietTactic
import Derived.BigQuiet
import Derived.Test.YtlniekobijcanaaGreatBinsDoesM1
import Derived.Sort.QuietIn
import Derived.Test.YtlniekobijcanaaGreatBinsDoesM10
import Derived.Test.YtlniekobijcanaaGreatBinsDoesM3
namespace Go.Proofs.YtlniekobijcanaaGreat
open Go Go.RowKit
def wpEfS (S : Nat → Prop) (P : Program) (ops : Array Oper) (Q : Act → World → Prop) : List (Oper × Bool) → Act → World → Prop
  | [], a, w => ∀ w1, Fr (fun _ => False) w w1 → Q a w1
  | (o, cl) :: es, a, w => ∀ w1, Fr (fun _ => False) w w1 → wpList P ops (fun ex a2 w2 => ex = Exit.normal ∧ a2.defers = a.defers ∧ (cl = true → Fr S w1 w2) ∧ wpEfS S P ops Q es a2 w2) [o] a w1
section
variable {S : Nat → Prop} {P : Program} {l : List Oper} {E : Efs} {pu : List Nat} {w0 : World} {aF : Act} {Q : Exit → Act → World → Prop}
theorem all_putS {ops : Array Oper} {fuel : Nat} {listed : Array Bool} {a' : Act} {i : Nat} {o : Oper} (ho : ops[i]? = some o) (hr : i ∈ Region.ready .any ops listed)
    (hw : ∀ (j : Nat) (x : Oper) (t : Tmp), ops[j]? = some x → x.dst = some t → o.dst = some t → j = i) (hil : i < listed.size)
    (hH : ∀ wX, Fr S w0 wX → wpAnyQ P .any ops (fun w' => ∃ Y : FrW wX, w' = Y.val) (fun x => x = aF) (fuel + 1) listed a') (wX : World) (hX : Fr S w0 wX) :
    ∃ v, YieldsIn P ops (fun w' => ∃ Y : FrW wX, w' = Y.val) o v a' ∧ ∀ wY, Fr S w0 wY → wpAnyQ P .any ops (fun w' => ∃ Y : FrW wY, w' = Y.val) (fun x => x = aF) fuel (listed.setIfInBounds i true) (a'.put o.dst v) := by
  have hset : (listed.setIfInBounds i true).getD i true = true := getD_set_same hil
  have fin : ∀ wY, Fr S w0 wY → ∃ v, YieldsIn P ops (fun w' => ∃ Y : FrW wY, w' = Y.val) o v a' ∧ wpAnyQ P .any ops (fun w' => ∃ Y : FrW wY, w' = Y.val) (fun x => x = aF) fuel (listed.setIfInBounds i true) (a'.put o.dst v) ∧ ∀ t, o.dst = some t → (a'.put o.dst v).tmps[t]? = aF.tmps[t]? := fun wY hY => by
    obtain ⟨v, h1, h2⟩ := yieldsIn_of_qOp ho ((hH wY hY).2 i hr)
    refine ⟨v, h1, h2, fun t ht => fin_at fuel _ _ h2 t (fun j x hj hu hx => ?_)⟩
    have := hw j x t hj hx ht
    rw [this, hset] at hu
    cases hu
  obtain ⟨v, h1, h2, h3⟩ := fin wX hX
  refine ⟨v, h1, fun wY hY => ?_⟩
  obtain ⟨u, _, g2, g3⟩ := fin wY hY
  have e : a'.put o.dst v = a'.put o.dst u := by
    refine act_ext (by rw [put_dfr, put_dfr]) (fun t => ?_)
    by_cases ht : o.dst = some t
    · rw [h3 t ht, g3 t ht]
    · rw [put_out ht, put_out ht]
  rw [e]
  exact g2
structure EInvS (S : Nat → Prop) (P : Program) (l : List Oper) (E : Efs) (pu : List Nat) (w0 : World) (aF : Act) (Q : Act → World → Prop) (listed : Array Bool) (k : Nat) (a' a af : Act) (w : World) : Prop where
  lst : ∀ (p e : Nat), (efIdx E)[p]? = some e → (listed.getD e true = true ↔ p < k)
  kle : k ≤ E.length
  df : a.defers = a'.defers ∧ af.defers = aF.defers
  sz : a.tmps.size = a'.tmps.size ∧ af.tmps.size = aF.tmps.size ∧ a.tmps.size = af.tmps.size
  don : ∀ (p e t : Nat) (o : Oper), p < k → (efIdx E)[p]? = some e → l[e]? = some o → o.dst = some t → a.tmps[t]? = af.tmps[t]?
  out : ∀ t : Nat, (∀ (p e : Nat) (o : Oper), p < k → (efIdx E)[p]? = some e → l[e]? = some o → o.dst ≠ some t) → a.tmps[t]? = a'.tmps[t]? ∧ af.tmps[t]? = aF.tmps[t]?
  eff : ∃ wk, Fr (fun _ => False) wk w ∧ wpEfS S P l.toArray Q (efOps l (E.drop k)) af wk
  cls : (Fr S w0 w) ∨ (∀ i, i < l.length → i ∉ efIdx E → listed.getD i true = false → i ∈ pu)
  lsz : listed.size = l.length
  cld : ∀ (j : Nat) (x : Oper), l[j]? = some x → listed.getD j true = true → ∀ e ∈ x.after, Region.binds .any e = true → listed.getD e.on false = true
theorem eff_simS {dp : Nat} (ok : EfOk l E pu dp)
    (hpu : ∀ i ∈ pu, ∀ o, l[i]? = some o → ∃ v, ∀ w, (execOp aF.eval o).run P w = .ok (.value v) w) :
    ∀ (fuel : Nat) (listed : Array Bool) (k : Nat) (a' a af : Act) (w : World), EInvS S P l E pu w0 aF (fun x y => Q .normal x y) listed k a' a af w →
      (∀ wX, Fr S w0 wX → wpAnyQ P .any (boxedF (efIdx E) 0 l).toArray (fun w' => ∃ Y : FrW wX, w' = Y.val) (fun x => x = aF) fuel listed a') → wpAny P .any l.toArray Q fuel listed a w := by
  have hend : ∀ (fuel : Nat) (listed : Array Bool) (k : Nat) (a' a af : Act) (w : World), EInvS S P l E pu w0 aF (fun x y => Q .normal x y) listed k a' a af w →
      (∀ wX, Fr S w0 wX → wpAnyQ P .any (boxedF (efIdx E) 0 l).toArray (fun w' => ∃ Y : FrW wX, w' = Y.val) (fun x => x = aF) fuel listed a') → Region.ready .any l.toArray listed = [] → Q .normal a w := fun fuel listed k a' a af w inv hH hr => by
    have hall : ∀ j, j < l.length → listed.getD j true = true := fun j hj => by
      cases e : listed.getD j true with
      | true => rfl
      | false => exact absurd hr (ready_some ok.acy (by rw [inv.lsz]; simp) j j (by simpa using hj) (Nat.le_refl _) e)
    have ea : a' = aF := wpAnyQ_end (P := P) (C := fun w' => ∃ Y : FrW w0, w' = Y.val) (Q' := fun x => x = aF) (ops := (boxedF (efIdx E) 0 l).toArray) (by rw [bxd_ready]; exact hr) fuel (hH w0 (Fr.refl _ _))
    have hk : k = E.length := by
      rcases Nat.lt_or_ge k E.length with h | h
      · exfalso
        obtain ⟨o, ho, _⟩ := ok.eff E[k] (List.getElem_mem h)
        have h1 := hall E[k].1 (List.getElem?_eq_some_iff.1 ho).1
        have := (inv.lst k E[k].1 (efIdx_get (List.getElem?_eq_getElem h))).1 h1
        omega
      · have := inv.kle; omega
    obtain ⟨wk, hf, he⟩ := inv.eff
    rw [hk, List.drop_length] at he
    have h2 := he w hf
    have e : a = af := by
      refine act_ext (by rw [inv.df.1, inv.df.2, ea]) (fun t => ?_)
      by_cases ht : ∀ (p e : Nat) (o : Oper), p < k → (efIdx E)[p]? = some e → l[e]? = some o → o.dst ≠ some t
      · rw [(inv.out t ht).1, (inv.out t ht).2, ea]
      · have : ∃ (p e : Nat) (o : Oper), p < k ∧ (efIdx E)[p]? = some e ∧ l[e]? = some o ∧ o.dst = some t := Classical.byContradiction fun hn => ht fun p e o h1 h2 h3 h4 => hn ⟨p, e, o, h1, h2, h3, h4⟩
        obtain ⟨p, e, o, h1, h2, h3, h4⟩ := this
        exact inv.don p e t o h1 h2 h3 h4
    rw [e]
    exact h2
  intro fuel
  induction fuel with
  | zero =>
    intro listed k a' a af w inv hH
    have hr : Region.ready .any l.toArray listed = [] := by have := (hH w0 (Fr.refl _ _)).1; rwa [bxd_ready] at this
    exact ⟨hr, hend 0 listed k a' a af w inv hH hr⟩
  | succ fuel ih =>
    intro listed k a' a af w inv hH
    refine ⟨hend _ listed k a' a af w inv hH, fun i hi => ?_⟩
    obtain ⟨hun, o, ho, hdeps⟩ := mem_ready.1 hi
    have hol : l[i]? = some o := by simpa using ho
    have hil : i < l.length := (List.getElem?_eq_some_iff.1 hol).1
    have hlsz := inv.lsz
    have hi' : i ∈ Region.ready .any (boxedF (efIdx E) 0 l).toArray listed := by rw [bxd_ready]; exact hi
    have back : ∀ (j : Nat) (x : Oper) (t : Tmp), (boxedF (efIdx E) 0 l).toArray[j]? = some x → x.dst = some t → ∃ y, l[j]? = some y ∧ y.dst = some t := fun j x t hj hx => by
      rw [bxd_get] at hj
      cases hy : l.toArray[j]? with
      | none => rw [hy] at hj; cases hj
      | some y =>
        rw [hy] at hj
        refine ⟨y, by simpa using hy, ?_⟩
        simp only [Option.map_some, Option.some.injEq] at hj
        rw [← hj] at hx
        by_cases hc : (efIdx E).contains j = true
        · rw [if_pos hc] at hx; exact hx
        · rw [if_neg hc] at hx; exact hx
    have uniq : ∀ (j : Nat) (x : Oper) (t : Tmp), (boxedF (efIdx E) 0 l).toArray[j]? = some x → x.dst = some t → o.dst = some t → j = i := fun j x t hj hx ht => by
      obtain ⟨y, hy, hyd⟩ := back j x t hj hx
      exact ok.un j i y o t hy hol hyd ht
    -- a slot all of whose writers are listed is as at the end
    have fin : ∀ t : Nat, (∀ (j : Nat) (y : Oper), l[j]? = some y → y.dst = some t → listed.getD j true = true) → a'.tmps[t]? = aF.tmps[t]? := fun t ht =>
      fin_at (fuel + 1) listed a' (hH w0 (Fr.refl _ _)) t (fun j y hj hu hy => by
        obtain ⟨z, hz, hzd⟩ := back j y t hj hy
        rw [ht j z hz hzd] at hu
        cases hu)
    by_cases hE : i ∈ efIdx E
    · -- the chain's next
      obtain ⟨p, hp⟩ := List.getElem?_of_mem hE
      have hpk : ¬ p < k := fun h => by rw [(inv.lst p i hp).2 h] at hun; cases hun
      have hpk2 : p = k := by
        rcases Nat.lt_or_ge k p with h | h
        · exfalso
          obtain ⟨q, rfl⟩ : ∃ q, p = q + 1 := ⟨p - 1, by omega⟩
          have hq := (List.getElem?_eq_some_iff.1 hp).1
          have hqe : (efIdx E)[q]? = some (efIdx E)[q] := List.getElem?_eq_getElem (by omega)
          obtain ⟨o', ho', hw⟩ := ok.chn q _ i hqe hp
          rw [hol] at ho'
          obtain rfl : o = o' := by injection ho'
          obtain ⟨b, hb⟩ := efIdx_some hqe
          obtain ⟨x, hx, _⟩ := ok.eff _ (List.mem_of_getElem? hb)
          have h1 := listed_dep hdeps (by rw [hlsz]; exact (List.getElem?_eq_some_iff.1 hx).1) hw
          have := (inv.lst q _ hqe).1 h1
          omega
        · omega
      obtain rfl : k = p := hpk2.symm
      obtain ⟨cl, hcl⟩ := efIdx_some hp
      obtain ⟨o', ho', hog, hos, hlate⟩ := ok.eff _ (List.mem_of_getElem? hcl)
      dsimp only at ho' hlate
      rw [hol] at ho'
      obtain rfl : o = o' := by injection ho'
      have hob : (boxedF (efIdx E) 0 l).toArray[i]? = some (idleU o) := by rw [bxd_get, ho]; simp [hE]
      obtain ⟨u, _, hK⟩ := all_putS (w0 := w0) (fuel := fuel) (a' := a') hob hi' (fun j x t hj hx ht => uniq j x t hj hx ht) (by omega) hH w0 (Fr.refl _ _)
      have hK' : ∀ wY, Fr S w0 wY → wpAnyQ P .any (boxedF (efIdx E) 0 l).toArray (fun w' => ∃ Y : FrW wY, w' = Y.val) (fun x => x = aF) fuel (listed.setIfInBounds i true) (a'.put o.dst u) := hK
      have hlk : ∀ t ∈ o.looksAt l.toArray, a.tmps[t]? = af.tmps[t]? := fun t ht => by
        have hw : ∀ (j : Nat) (y : Oper), l[j]? = some y → y.dst = some t → listed.getD j true = true := fun j y hy hyd => listed_dep hdeps (by rw [hlsz]; exact (List.getElem?_eq_some_iff.1 hy).1) (sees_spec hos ht hy hyd)
        by_cases hex : ∀ (p e : Nat) (x : Oper), p < k → (efIdx E)[p]? = some e → l[e]? = some x → x.dst ≠ some t
        · rw [(inv.out t hex).1, (inv.out t hex).2]
          exact fin t hw
        · have : ∃ (p e : Nat) (x : Oper), p < k ∧ (efIdx E)[p]? = some e ∧ l[e]? = some x ∧ x.dst = some t := Classical.byContradiction fun hn => hex fun p e x h1 h2 h3 h4 => hn ⟨p, e, x, h1, h2, h3, h4⟩
          obtain ⟨p, e, x, h1, h2, h3, h4⟩ := this
          exact inv.don p e t x h1 h2 h3 h4
      have hsel := Region.noSelect_spec ok.sel
      obtain ⟨c1, _⟩ := look_congr (ops := l.toArray) (o := o) (a := a) (a' := af) (fun cs b => hsel i o cs b ho) hlk
      obtain ⟨wk, hf, he⟩ := inv.eff
      rw [efOps_drop hcl hol] at he
      have he1 := he w hf
      have hwp : o.wp P af w (fun a2 w2 => Exit.normal = Exit.normal ∧ a2.defers = af.defers ∧ (cl = true → Fr S w w2) ∧ wpEfS S P l.toArray (fun x y => Q .normal x y) (efOps l (E.drop (k + 1))) a2 w2) (fun ex a2 w2 => ex = Exit.normal ∧ a2.defers = af.defers ∧ (cl = true → Fr S w w2) ∧ wpEfS S P l.toArray (fun x y => Q .normal x y) (efOps l (E.drop (k + 1))) a2 w2) := by
        have h1 : (if Region.wanted o (yielded l.toArray af.tmps) then _ else _) := he1
        simp only [Region.wanted, hog, if_true] at h1
        rcases h1 with h1 | ⟨_, x, y, h2⟩
        · exact h1
        · cases h2.1
      have hset : ∀ j, (listed.setIfInBounds i true).getD j true = true ↔ (j = i ∨ listed.getD j true = true) := fun j => by
        by_cases e : i = j
        · subst e; simp [getD_set_same (show i < listed.size by omega)]
        · rw [getD_set_ne true e]
          exact ⟨.inr, fun h => h.elim (fun e2 => absurd e2.symm e) id⟩
      unfold wpOp
      rw [ho]
      simp only [Region.wanted, hog, if_true]
      left
      refine eff_conv c1 (fun v w2 h => ?_) (fun x w2 h => h.2.1) (fun ex x w2 h => h.1) hwp
      obtain ⟨_, hd2, hcl2, hrest⟩ := h
      refine ih _ (k + 1) (a'.put o.dst u) _ (af.put o.dst v) w2 ⟨fun p e hpe => ?_, ?_, ⟨by rw [put_dfr, put_dfr]; exact inv.df.1, by rw [put_dfr]; exact inv.df.2⟩, ⟨by rw [put_size, put_size]; exact inv.sz.1, by rw [put_size]; exact inv.sz.2.1, by rw [put_size, put_size]; exact inv.sz.2.2⟩, fun p e t x h1 h2 h3 h4 => ?_, fun t ht => ?_, ⟨w2, Fr.refl _ _, hrest⟩, ?_, by simp [hlsz], cld_set hol hdeps inv.cld⟩ hK'
      · rw [hset e]
        by_cases hpk : p = k
        · subst hpk
          rw [hp] at hpe
          cases hpe
          simp
        · have hne : e ≠ i := fun he => by
            subst he
            have h1 := (List.getElem?_eq_some_iff.1 hp)
            have h2 := (List.getElem?_eq_some_iff.1 hpe)
            exact hpk ((List.getElem_inj ok.nod).1 (h2.2.trans h1.2.symm))
          rw [show (e = i ∨ listed.getD e true = true) ↔ listed.getD e true = true from ⟨fun h => h.elim (fun h => absurd h hne) id, .inr⟩, inv.lst p e hpe]
          omega
      · have := (List.getElem?_eq_some_iff.1 hcl).1; omega
      · by_cases hto : o.dst = some t
        · by_cases hts : t < a.tmps.size
          · rw [hto, put_at hts, put_at (by rw [← inv.sz.2.2]; exact hts)]
          · rw [Array.getElem?_eq_none (by rw [put_size]; omega), Array.getElem?_eq_none (by rw [put_size, ← inv.sz.2.2]; omega)]
        · rw [put_out hto, put_out hto]
          by_cases hpk : p = k
          · subst hpk
            rw [hp] at h2
            cases h2
            rw [hol] at h3
            cases h3
            exact absurd h4 hto
          · exact inv.don p e t x (by omega) h2 h3 h4
      · have hto : o.dst ≠ some t := ht k i o (by omega) hp hol
        rw [put_out hto, put_out hto, put_out hto]
        exact inv.out t (fun p e x h1 h2 h3 => ht p e x (by omega) h2 h3)
      · cases cl with
        | true =>
          rcases inv.cls with h | h
          · exact .inl (h.trans (hcl2 rfl))
          · refine .inr (fun j hj hjn hjl => h j hj hjn ?_)
            cases e : listed.getD j true with
            | false => rfl
            | true => rw [(hset j).2 (.inr e)] at hjl; cases hjl
        | false =>
          refine .inr (fun j hj hjn hjl => Classical.byContradiction fun hjp => ?_)
          have h1 := listed_depT inv.cld hlsz dp hdeps (by rw [hlsz]; exact hj) (hlate rfl j hj hjn hjp)
          rw [(hset j).2 (.inr h1)] at hjl
          cases hjl
    · -- one that only reads
      have hob : (boxedF (efIdx E) 0 l).toArray[i]? = some o := by rw [bxd_get, ho]; simp [hE]
      have hsel := Region.noSelect_spec ok.sel
      have hapart : ∀ t, (t ∈ o.looksAt l.toArray ∨ o.dst = some t) → ∀ (p e : Nat) (x : Oper), p < k → (efIdx E)[p]? = some e → l[e]? = some x → x.dst ≠ some t := fun t ht p e x _ h2 h3 h4 => by
        have := ok.ap i o hol hE e (List.mem_of_getElem? h2) x t h3 h4
        rcases ht with h | h
        · exact this.1 h
        · exact this.2 h
      obtain ⟨c1, c2⟩ := look_congr (ops := l.toArray) (o := o) (a := a) (a' := a') (fun cs b => hsel i o cs b ho) (fun t ht => (inv.out t (hapart t (.inl ht))).1)
      have hset : ∀ j, j ∈ efIdx E → (listed.setIfInBounds i true).getD j true = listed.getD j true := fun j hj => getD_set_ne true (fun e => hE (e ▸ hj))
      have hset2 : ∀ j, (listed.setIfInBounds i true).getD j true = false → listed.getD j true = false := fun j hj => by
        by_cases e : i = j
        · subst e; exact hun
        · rwa [getD_set_ne true e] at hj
      have key : ∀ v w', Fr (fun _ => False) w w' → (∀ wY, Fr S w0 wY → wpAnyQ P .any (boxedF (efIdx E) 0 l).toArray (fun w' => ∃ Y : FrW wY, w' = Y.val) (fun x => x = aF) fuel (listed.setIfInBounds i true) (a'.put o.dst v)) → wpAny P .any l.toArray Q fuel (listed.setIfInBounds i true) (a.put o.dst v) w' := fun v w' hf hK => by
        refine ih _ k (a'.put o.dst v) _ af w' ⟨fun p e hpe => by rw [hset e (List.mem_of_getElem? hpe)]; exact inv.lst p e hpe, inv.kle, ⟨by rw [put_dfr, put_dfr]; exact inv.df.1, inv.df.2⟩, ⟨by rw [put_size, put_size]; exact inv.sz.1, inv.sz.2.1, by rw [put_size]; exact inv.sz.2.2⟩, fun p e t x h1 h2 h3 h4 => ?_, fun t ht => ?_, ?_, ?_, by simp [hlsz], cld_set hol hdeps inv.cld⟩ hK
        · have hto : o.dst ≠ some t := fun hd => hapart t (.inr hd) p e x h1 h2 h3 h4
          rw [put_out hto]
          exact inv.don p e t x h1 h2 h3 h4
        · exact ⟨put_same (inv.out t ht).1 inv.sz.1, (inv.out t ht).2⟩
        · obtain ⟨wk, h1, h2⟩ := inv.eff
          exact ⟨wk, h1.trans hf, h2⟩
        · exact inv.cls.imp (fun h => h.trans' hf (fun _ _ e => e.elim)) (fun h j hj hjn hjl => h j hj hjn (hset2 j hjl))
      unfold wpOp
      rw [ho]
      simp only []
      rw [c2]
      rcases inv.cls with hcls | hcls
      · obtain ⟨v, hY, hK⟩ := all_putS (w0 := w0) (fuel := fuel) (a' := a') hob hi' uniq (by omega) hH w hcls
        rcases hY with ⟨hw, hq⟩ | ⟨hw, rfl⟩
        · rw [bxd_yielded] at hw
          rw [if_pos hw]
          left
          refine Oper.wp_of_quiet (C := fun w' => ∃ Y : FrW w, w' = Y.val) (K := fun x => x = a.put o.dst v) ⟨⟨w, Fr.refl _ w⟩, rfl⟩ ?_ ⟨v, fun w1 h1 => ?_, rfl⟩
          · rintro x w' ⟨Y, rfl⟩ rfl
            exact key v _ Y.fr hK
          · have := hq w1 h1
            unfold Oper.quietAt at *
            rw [c1]
            exact this
        · rw [bxd_yielded] at hw
          rw [if_neg (by rw [hw]; simp)]
          exact key undef w (Fr.refl _ w) hK
      · have hip := hcls i hil hE hun
        obtain ⟨hog, hos⟩ := ok.pur i hip o hol
        obtain ⟨v, hv⟩ := hpu i hip o hol
        obtain ⟨v', hY, hK⟩ := all_putS (w0 := w0) (fuel := fuel) (a' := a') hob hi' uniq (by omega) hH w0 (Fr.refl _ _)
        have hfin : ∀ t ∈ o.looksAt l.toArray, a'.tmps[t]? = aF.tmps[t]? := fun t ht => fin t (fun j y hy hyd => listed_dep hdeps (by rw [hlsz]; exact (List.getElem?_eq_some_iff.1 hy).1) (sees_spec hos ht hy hyd))
        obtain ⟨d1, _⟩ := look_congr (ops := l.toArray) (o := o) (a := a') (a' := aF) (fun cs b => hsel i o cs b ho) hfin
        have hvv : v' = v := by
          rcases hY with ⟨_, hq⟩ | ⟨hw, _⟩
          · have h1 := hq w0 ⟨⟨w0, Fr.refl _ _⟩, rfl⟩
            unfold Oper.quietAt at h1
            rw [d1, hv w0] at h1
            exact h1.2.symm
          · simp [Region.wanted, hog] at hw
        subst hvv
        simp only [Region.wanted, hog, if_true]
        left
        unfold Oper.wp
        rw [c1, d1, hv w]
        exact key v' w (Fr.refl _ w) hK
theorem wp_region_effS {id : Nat} {a : Act} {w : World} (S : Nat → Prop) (E : Efs) (pu : List Nat) (dp : Nat) {l' : List Oper} (hm : P.follows .mixedOrders = true) (hl : boxedF (efIdx E) 0 l = l') (hB : efB l E pu dp = true) (hL : Region.lexB .any l'.toArray = true)
    (h : ∃ aF : Act, (∀ X : World, Fr S w X → wpQuiet P l'.toArray (fun w' => ∃ Y : FrW X, w' = Y.val) (fun a' => a' = aF) l' a) ∧
      (∀ i ∈ pu, ∀ o, l[i]? = some o → ∃ v, ∀ w, (execOp aF.eval o).run P w = .ok (.value v) w) ∧ wpEfS S P l.toArray (fun x y => Q .normal x y) (efOps l E) aF w) : (Code.region id l.toArray true).wp P Q a w := by
  have ok := efB_ok hB
  obtain ⟨aF, h, hpu, he⟩ := h
  subst hl
  simp only [Region.lexB, Bool.and_eq_true] at hL
  have hH : ∀ wX, Fr S w wX → wpAnyQ P .any (boxedF (efIdx E) 0 l).toArray (fun w' => ∃ Y : FrW wX, w' = Y.val) (fun x => x = aF) l.toArray.size (Array.replicate l.toArray.size false) a := fun wX hX => by
    have := wpAnyQ_lex (C := fun w' => ∃ Y : FrW wX, w' = Y.val) (md := .any) hL.1 (boxedF (efIdx E) 0 l) 0 (Array.replicate (boxedF (efIdx E) 0 l).toArray.size false) a (by simp) (by simpa using hL.2) (h wX hX)
    rw [bxd_size] at this
    simpa [bxd_len] using this
  obtain ⟨hs, hd⟩ := fin_sz _ _ _ (hH w (Fr.refl _ _))
  refine wp_region_any hm (eff_simS (S := S) (w0 := w) (aF := aF) ok hpu _ _ 0 a a aF _ ⟨fun p e hpe => ?_, Nat.zero_le _, ⟨rfl, rfl⟩, ⟨rfl, rfl, hs.symm⟩, fun p e t o hp => by omega, fun t _ => ⟨rfl, rfl⟩, ⟨w, (Fr.refl _ w).drew, by simpa using he⟩, .inl (Fr.refl _ w).drew, by simp, fun j x hx hj => ?_⟩ hH)
  rotate_left
  · have := (List.getElem?_eq_some_iff.1 hx).1
    simp [this] at hj
  obtain ⟨b, hb⟩ := efIdx_some hpe
  obtain ⟨o, ho, _⟩ := ok.eff _ (List.mem_of_getElem? hb)
  have hel := (List.getElem?_eq_some_iff.1 ho).1
  dsimp only at hel
  constructor
  · intro h1
    simp [hel] at h1
  · intro h1; omega
end
end Go.Proofs.YtlniekobijcanaaGreat

namespace Go.Proofs.YtlniekobijcanaaGreat
open Go.RowKit Go.Maps
theorem Inv.trans {A B C : List BE} (h : Inv A B) (h2 : Inv B C) : Inv A C := ⟨h2.1, h2.2.trans h.2⟩
def DoP (w W : World) (g gx : Nat) (M : List BE) (KF KX : Nat → Prop) (e : Ending) (W' : World) : Prop := ∃ M', e = .returned (.bool true) ∧ Inv M M' ∧ PQ w W' g gx M' M' KF KX ∧ Fr (fun b => ¬ (KF b ∧ KX b)) W W'
set_option maxRecDepth 100000 in
set_option maxHeartbeats 16000000 in
theorem lDo (w W : World) (g gx : Nat) (M : List BE) (KF KX : Nat → Prop) (o : BOp) (h : PQ w W g gx M M KF KX) (ho : okBop W o) : Calls Tryz.prog 26 #[.pointer (some ⟨g, 0, none⟩), .pointer (some ⟨gx, 0, none⟩), .agg (bopC o)] W fun e W' => DoP w W g gx M KF KX e W' := by
  obtain ⟨K, s, n, b, t⟩ := o
  obtain ⟨hK, hs, hn, hb, ht⟩ := ho
  dsimp only at hK hs hn hb ht
  dsimp only [bopC]
  obtain ⟨n0, hn0⟩ : ∃ n0, W.heap.size = n0 := ⟨_, rfl⟩
  obtain ⟨W1, hW1⟩ : ∃ W1, W.alloc (.cells #[.int .i64 K, vS s, .int .i64 n, .int .i64 b, .int .i64 t] 53) = W1 := ⟨_, rfl⟩
  have hz1 : W1.heap.size = n0 + 1 := by rw [← hW1, ← hn0]; simp
  have hfa : Fr (fun _ => False) W W1 := by rw [← hW1]; exact (Fr.refl _ W).alloc _
  have h1 : PQ w W1 g gx M M (fun c => KF c ∨ c = n0) (fun c => KX c ∨ c = n0) := h.more hfa (fun c e => e.imp id (fun e => by omega)) (fun c e => e.imp id (fun e => by omega))
  have HZ : Hid (∀ W', Fr (fun c => ¬ (KF c ∨ c = n0) ∨ ¬ (KX c ∨ c = n0)) W1 W' → W'.cell? ⟨n0, 0, none⟩ = some (.int .i64 K) ∧ W'.cell? ⟨n0, 1, none⟩ = some (vS s) ∧ W'.cell? ⟨n0, 2, none⟩ = some (.int .i64 n) ∧ W'.cell? ⟨n0, 3, none⟩ = some (.int .i64 b) ∧ W'.cell? ⟨n0, 4, none⟩ = some (.int .i64 t)) := Lib.hid (fun W' hf => by
    have h0 : W1.heap[n0]? = some (.cells #[.int .i64 K, vS s, .int .i64 n, .int .i64 b, .int .i64 t] 53) := by rw [← hW1]; exact heap_at hn0.symm _
    have h2 := hf.at_ h0 (fun e => e.elim (fun e => e (.inr rfl)) (fun e => e (.inr rfl)))
    exact ⟨cell_obj h2 0 _ rfl, cell_obj h2 1 _ rfl, cell_obj h2 2 _ rfl, cell_obj h2 3 _ rfl, cell_obj h2 4 _ rfl⟩)
  have HEND : Hid (∀ M' W', Inv M M' → PQ w W' g gx M' M' (fun c => KF c ∨ c = n0) (fun c => KX c ∨ c = n0) → Fr (fun c => ¬ (KF c ∨ c = n0) ∨ ¬ (KX c ∨ c = n0)) W1 W' → DoP w W g gx M KF KX (.returned (.bool true)) W') := Lib.hid (fun M' W' hi hq hf => ⟨M', rfl, hi, hq.less (fun c e => .inl e) (fun c e => .inl e), (hfa.mono (S' := fun c => ¬ (KF c ∧ KX c)) (fun _ _ e => e.elim)).trans' hf (fun c hc e => fun e2 => e.elim (fun e => e (.inl e2.1)) (fun e => e (.inl e2.2)))⟩)
  have hok := h.okM
  have hc1 := fun W' N (hq : PQ w W' g gx M N (fun c => KF c ∨ c = n0) (fun c => KX c ∨ c = n0)) => hq.fcount b s n hs hn
  have hc2 := fun W' N (hq : PQ w W' g gx N M (fun c => KF c ∨ c = n0) (fun c => KX c ∨ c = n0)) => hq.rcount b s n hs hn
  have hv1 := fun W' N (hq : PQ w W' g gx M N (fun c => KF c ∨ c = n0) (fun c => KX c ∨ c = n0)) => hq.fmove s b t n hs
  have hv2 := fun W' N (hq : PQ w W' g gx N M (fun c => KF c ∨ c = n0) (fun c => KX c ∨ c = n0)) => hq.rmove s b t n hs hn
  have hp1 := fun W' N (hq : PQ w W' g gx M N (fun c => KF c ∨ c = n0) (fun c => KX c ∨ c = n0)) => hq.fput s n hs
  have hp2 := fun W' N KX' (hq : PQ w W' g gx N M (fun c => KF c ∨ c = n0) KX') => hq.rput s n hs
  have ht1 := fun W' N (hq : PQ w W' g gx M N (fun c => KF c ∨ c = n0) (fun c => KX c ∨ c = n0)) => hq.ftake s n hs
  have ht2 := fun W' N KX' (hq : PQ w W' g gx N M (fun c => KF c ∨ c = n0) KX') => hq.rtake s n hs
  have ip := putA_inv (s := s) (n := n) hok
  have it := takeA_inv (s := s) (n := n) hok
  have ic := countE_inv (nu := b) (s := s) (n := n) hok
  have iv := moveE_inv (s := s) (fr := b) (tt := t) (n := n) hok
  obtain ⟨⟨PE, PO, PM⟩, hP⟩ : ∃ A, putA M s n = A := ⟨_, rfl⟩
  obtain ⟨⟨TE, TO, TM⟩, hT⟩ : ∃ A, takeA M s n = A := ⟨_, rfl⟩
  obtain ⟨⟨CR, CE, CM⟩, hC⟩ : ∃ A, countE M b s n = A := ⟨_, rfl⟩
  obtain ⟨⟨VE, VM⟩, hV⟩ : ∃ A, moveE M s b t n = A := ⟨_, rfl⟩
  rw [hP] at ip; rw [hT] at it; rw [hC] at ic; rw [hV] at iv
  rw [hP] at hp1 hp2; rw [hT] at ht1 ht2; rw [hC] at hc1 hc2; rw [hV] at hv1 hv2
  dsimp only at ip it ic iv hp1 hp2 ht1 ht2 hc1 hc2 hv1 hv2
  have HP1 := Lib.hid hp1; have HP2 := Lib.hid hp2; have HT1 := Lib.hid ht1; have HT2 := Lib.hid ht2; have HC1 := Lib.hid hc1; have HC2 := Lib.hid hc2; have HV1 := Lib.hid hv1; have HV2 := Lib.hid hv2
  have IP := Lib.hid ip; have IT := Lib.hid it; have IC := Lib.hid ic; have IV := Lib.hid iv
  have HQ1 := Lib.hid h1
  have HF0 : Hid (Fr (fun c => ¬ (KF c ∨ c = n0) ∨ ¬ (KX c ∨ c = n0)) W1 W1) := Lib.hid (Fr.refl _ _)
  obtain ⟨PP, hPP⟩ : ∃ PP, DoP w W g gx M KF KX = PP := ⟨_, rfl⟩
  have HPP := Lib.hid hPP
  rw [hPP]
  clear hP hT hC hV hp1 hp2 ht1 ht2 hc1 hc2 hv1 hv2 ip it ic iv hok hPP h h1 hfa
  subst hn0
  subst hW1
  go_enter Tryz.func26, Tryz.ntmps26
  by_cases k1 : K = 1
  · subst k1
    go_wp2_with (first
      | (go_at_call 19; refine (HP1.out _ _ HQ1.out).mono ?_; rintro e w2 ⟨v2, rfl, hpl, hq, hf⟩; obtain ⟨a2, c2, rfl⟩ := hpl.sl; have HL2 := Lib.hid hpl; have HQ2 := Lib.hid hq; have HF2 := Lib.hid (HF0.out.trans (hf.mono (fun _ _ e => .inl e))); clear hpl hq hf; obtain ⟨z0, z1, z2, z3, z4⟩ := HZ.out _ HF2.out)
      | (go_at_call 75; refine (HP2.out _ _ _ HQ2.out).mono ?_; rintro e w3 ⟨v3, rfl, hpl, hq, hf⟩; obtain ⟨a3, c3, rfl⟩ := hpl.sl; have HL3 := Lib.hid hpl; have HL2 := Lib.hid (Pl.keepO HL2.out hf (fun e1 c e2 e3 => e3 (.inr ⟨e1, e2⟩))); have HQ3 := Lib.hid (hq.less (KF' := fun c => KF c ∨ c = _) (KX' := fun c => KX c ∨ c = _) (fun _ e => e) (fun _ e => .inl e)); have HF3 := Lib.hid (HF2.out.trans (hf.mono (fun _ _ e => .inr (fun e2 => e (.inl e2))))); clear hpl hq hf; clear z0 z1 z2 z3 z4)
      | (go_at_call 14; refine (lSame _ _ _ _ _ HL2.out HL3.out).mono ?_; rintro e w4 ⟨r4, rfl, hr4, hf4⟩; obtain rfl : r4 = true := hr4.2 rfl; have HF4 := Lib.hid hf4; clear hr4 hf4))
    rw [← HPP.out]
    exact HEND.out _ _ IP.out (HQ3.out.keep HF4.out) (HF3.out.trans (HF4.out.mono (fun _ _ e => e.elim)))
  by_cases k2 : K = 2
  · subst k2
    go_wp2_with (first
      | (go_at_call 21; refine (HT1.out _ _ HQ1.out).mono ?_; rintro e w2 ⟨v2, rfl, hpl, hq, hf⟩; obtain ⟨a2, c2, rfl⟩ := hpl.sl; have HL2 := Lib.hid hpl; have HQ2 := Lib.hid hq; have HF2 := Lib.hid (HF0.out.trans (hf.mono (fun _ _ e => .inl e))); clear hpl hq hf; obtain ⟨z0, z1, z2, z3, z4⟩ := HZ.out _ HF2.out)
      | (go_at_call 76; refine (HT2.out _ _ _ HQ2.out).mono ?_; rintro e w3 ⟨v3, rfl, hpl, hq, hf⟩; obtain ⟨a3, c3, rfl⟩ := hpl.sl; have HL3 := Lib.hid hpl; have HL2 := Lib.hid (Pl.keepO HL2.out hf (fun e1 c e2 e3 => e3 (.inr ⟨e1, e2⟩))); have HQ3 := Lib.hid (hq.less (KF' := fun c => KF c ∨ c = _) (KX' := fun c => KX c ∨ c = _) (fun _ e => e) (fun _ e => .inl e)); have HF3 := Lib.hid (HF2.out.trans (hf.mono (fun _ _ e => .inr (fun e2 => e (.inl e2))))); clear hpl hq hf; clear z0 z1 z2 z3 z4)
      | (go_at_call 14; refine (lSame _ _ _ _ _ HL2.out HL3.out).mono ?_; rintro e w4 ⟨r4, rfl, hr4, hf4⟩; obtain rfl : r4 = true := hr4.2 rfl; have HF4 := Lib.hid hf4; clear hr4 hf4))
    rw [← HPP.out]
    exact HEND.out _ _ IT.out (HQ3.out.keep HF4.out) (HF3.out.trans (HF4.out.mono (fun _ _ e => e.elim)))
  have hd1 : (K == 1) = false := by simpa using k1
  have hd2 : (K == 2) = false := by simpa using k2
  by_cases k3 : K = 3
  · subst k3
    clear hd1 hd2 k1 k2
    go_wp2_with fail
    refine wp_region_effS (fun c => ¬ (KF c ∨ c = W.heap.size) ∨ ¬ (KX c ∨ c = W.heap.size)) [(9, true), (19, true), (20, true), (21, true)] [] 0 (by kernel_rfl) rfl (by kernel_rfl) (by kernel_rfl) ?_
    apply Exists.intro
    refine ⟨?hh, ?pu, ?ef⟩
    case hh =>
      intro X hX
      obtain ⟨z0, z1, z2, z3, z4⟩ := HZ.out X hX
      have z0 := FrW.cell z0; have z1 := FrW.cell z1; have z2 := FrW.cell z2; have z3 := FrW.cell z3; have z4 := FrW.cell z4
      simp (config := { decide := true }) only [boxedF, efIdx, List.map_cons, List.map_nil, idleU, if_true, if_false, ite_true, ite_false]
      repeat (go_big_quiet_step (fail))
      exact wpQuiet_nil rfl
    case pu =>
      intro i' hi' o ho
      cases hi'
    case ef =>
      simp only [efOps, List.filterMap_cons, List.filterMap_nil, List.getElem?_cons_succ, List.getElem?_cons_zero, Option.map_some]
      intro w5 hw5
      go_wp2_with (go_at_call 32; refine (HV1.out _ _ (HQ1.out.keep hw5)).mono ?_; rintro e w6 ⟨rfl, hq, hf⟩; have HQ6 := Lib.hid hq; have HF6 := Lib.hid hf; clear hq hf)
      refine ⟨HF6.out.mono (fun _ _ e => .inl ⟨fun q => e (.inl q), fun q => e (.inr q)⟩), ?_⟩
      intro w7 hw7
      go_wp2_with (go_at_call 77; refine (HV2.out _ _ (HQ6.out.keep hw7)).mono ?_; rintro e w8 ⟨rfl, hq, hf⟩; have HQ8 := Lib.hid hq; have HF8 := Lib.hid hf; clear hq hf)
      refine ⟨HF8.out.mono (fun _ _ e => .inr ⟨fun q => e (.inl q), fun q => e (.inr q)⟩), ?_⟩
      intro w9 hw9
      go_wp2_with fail
      refine ⟨Fr.refl _ _, ?_⟩
      intro w10 hw10
      go_wp2_with fail
      refine ⟨Fr.refl _ _, ?_⟩
      intro w11 hw11
      have HQ := Lib.hid (((HQ8.out.keep hw9).keep hw10).keep hw11)
      have HF : Hid (Fr (fun c => ¬ (KF c ∨ c = W.heap.size) ∨ ¬ (KX c ∨ c = W.heap.size)) _ w11) := Lib.hid ((((((HF0.out.trans (hw5.mono (fun _ _ e => e.elim))).trans (HF6.out.mono (fun _ _ e => .inl e))).trans (hw7.mono (fun _ _ e => e.elim))).trans (HF8.out.mono (fun _ _ e => .inr e))).trans (hw9.mono (fun _ _ e => e.elim))).trans ((hw10.trans hw11).mono (fun _ _ e => e.elim)))
      clear hw5 hw7 hw9 hw10 hw11
      go_wp2_with fail
      rw [← HPP.out]
      exact HEND.out _ _ IV.out HQ.out HF.out
  have hd3 : (K == 3) = false := by simpa using k3
  by_cases k4 : K = 4
  · subst k4
    clear hd1 hd2 hd3 k1 k2 k3
    go_wp2_with (first
      | (go_at_call 31; refine (HC1.out _ _ HQ1.out).mono ?_; rintro e w2 ⟨rfl, hq, hf⟩; have HQ2 := Lib.hid hq; have HF2 := Lib.hid (HF0.out.trans (hf.mono (fun _ _ e => .inl e))); clear hq hf; obtain ⟨z0, z1, z2, z3, z4⟩ := HZ.out _ HF2.out)
      | (go_at_call 78; refine (HC2.out _ _ HQ2.out).mono ?_; rintro e w3 ⟨rfl, hq, hf⟩; have HQ3 := Lib.hid hq; have HF3 := Lib.hid (HF2.out.trans (hf.mono (fun _ _ e => .inr e))); clear hq hf; clear z0 z1 z2 z3 z4))
    rw [← HPP.out]
    exact HEND.out _ _ IC.out HQ3.out HF3.out
  have hd4 : (K == 4) = false := by simpa using k4
  go_wp2_with fail
  rw [← HPP.out]
  exact HEND.out _ _ (Inv.refl HQ1.out.okM) HQ1.out HF0.out
end Go.Proofs.YtlniekobijcanaaGreat

namespace Go.Proofs.YtlniekobijcanaaGreat
open Go.RowKit
section
variable {F : Fence} {n : Nat} {P : Program} {ops : Array Oper} {Q : Exit → Act → World → Prop} {md : Region.Mode}
/-- The operation is no 'defer'. -/
def notDefer (o : Oper) : Bool := match o.op with | .defer _ => false | _ => true
theorem notDefer_spec {o : Oper} (h : notDefer o = true) : ∀ c, o.op ≠ .defer c := fun c e => by
  unfold notDefer at h
  rw [e] at h
  cases h
theorem uponIn_inRound (l : Nat) {o : Oper} {a : Act} {next : Act → World → Prop} {r : Result Next} (h : o.uponIn F n P a next Q r) : o.uponIn (F.inRound l) n P a next Q r := h
theorem wpOpIn_inRound (l : Nat) (hro : F.round = none) (hnd : ∀ o ∈ ops, notDefer o = true) {i : Nat} {K : Act → World → Prop} {a : Act} {w : World} (hh : wpOpIn F n P ops Q i K a w) : wpOpIn (F.inRound l) n P ops Q i K a w := by
  unfold wpOpIn at *
  split
  · rename_i ho; simp only [ho] at hh; exact hh
  · rename_i o ho
    simp only [ho] at hh
    split
    · rename_i hw
      simp only [hw, if_true] at hh
      have hd := notDefer_spec (hnd o (Array.mem_of_getElem? ho))
      refine ⟨hh.1, ?_⟩
      have h2 := hh.2
      rw [hro, Oper.semAt_eq _ _ _ hd] at h2
      rw [Oper.semAt_eq _ _ _ hd]
      exact uponIn_inRound l h2
    · rename_i hw; simp only [hw] at hh; exact hh
theorem wpAnyIn_inRound (l : Nat) (hro : F.round = none) (hnd : ∀ o ∈ ops, notDefer o = true) : ∀ (fuel : Nat) (listed : Array Bool) (a : Act) (w : World), wpAnyIn F n P md ops Q fuel listed a w → wpAnyIn (F.inRound l) n P md ops Q fuel listed a w
  | 0, _, _, _, h => h
  | fuel + 1, _, _, _, h => ⟨h.1, fun i hi => wpOpIn_inRound l hro hnd (wpOpIn_mono (fun a w => wpAnyIn_inRound l hro hnd fuel _ a w) (h.2 i hi))⟩
theorem wpIn_region_quiet_round {C : World → Prop} {id l : Nat} {a : Act} {w : World} (hro : F.round = none) (hm : P.follows .mixedOrders = true) (hB : Region.lexB .any ops = true) (hnd : ops.all notDefer = true) (hC : C { w with drawn := w.drawn + 1 })
    (h : wpQuietIn F n P ops C (fun a' => ∀ w', C w' → Q .normal a' w') ops.toList a) : (Code.region id ops true).wpIn (F.inRound l) n P Q a w := by
  have hnd' : ∀ o ∈ ops, notDefer o = true := fun o ho => Array.all_eq_true_iff_forall_mem.1 hnd o ho
  simp only [Region.lexB, Bool.and_eq_true] at hB
  refine wpIn_region_any hm (wpAnyIn_inRound l hro hnd' _ _ _ _ (wpAnyIn_of_quiet (Q := fun a' => ∀ w', C w' → Q .normal a' w') hro (fun _ w' hw' h => h w' hw') _ _ _ _ hC ?_))
  have := wpAnyQIn_lex (F := F) (n := n) (C := C) (md := .any) hB.1 ops.toList 0 (Array.replicate ops.size false) a (by simp) (by simpa using hB.2) h
  simpa using this
theorem wpIn_region_fr_round {id l : Nat} {a : Act} {w : World} {L : List Oper} (hm : P.follows .mixedOrders = true) (hB : Region.lexB .any L.toArray = true) (hnd : L.toArray.all notDefer = true)
    (h : wpQuietIn Fence.wide n P L.toArray (fun w' => ∃ X : FrW w, w' = X.val) (fun a' => ∀ w', (∃ X : FrW w, w' = X.val) → Q .normal a' w') L a) : (Code.region id L.toArray true).wpIn (Fence.wide.inRound l) n P Q a w :=
  wpIn_region_quiet_round (F := Fence.wide) (C := fun w' => ∃ X : FrW w, w' = X.val) rfl hm hB hnd ⟨⟨_, (Fr.refl _ w).drew⟩, rfl⟩ (by simpa using h)
end
end Go.Proofs.YtlniekobijcanaaGreat

namespace Go.Proofs.YtlniekobijcanaaGreat
open Go.RowKit Go.Maps
set_option maxRecDepth 100000 in
set_option maxHeartbeats 4000000 in
theorem bBins2 (S : Nat → Prop) (w : World) (Bt g : Nat) (TS : Nat → Prop) (L : List BV) (hBt : Boxed w Bt 25 (.pointer (some ⟨g, 0, none⟩))) (hA : FA w g TS L) (hL : 0 < L.length) (n1 : ∀ b, TS b → ¬ S b) :
    ItX 83 #[.pointer (some ⟨Bt, 0, none⟩)] encB L S w := by
  intro lp S' J Jx W hW hS' hJ hY hJx h0
  have hBW := boxed_below hBt hW hBt.lt
  have s2 : ∀ b, TS b → ¬ S' b := fun b hb e => n1 b hb ((hS' b e).2 (hA.lt b hb))
  have h := hA.fl
  have hcB := hBW.cell
  have hFW := h.fr (Fr.below (S := fun _ => False) hW) (fun _ e => e.elim)
  have hm := Lib.hid (bMade W g L hFW hL)
  obtain ⟨a, c, q1, q2⟩ := h
  have hNb := q2.len
  obtain ⟨N, hN⟩ : ∃ N, L.length = N := ⟨_, rfl⟩
  rw [hN] at q1 q2 hNb
  have c0 := cell_obj ((Fr.below (S := fun _ => False) hW).at_ q1 (fun e => e)) 0 (.slice a N c) rfl
  have HN := Lib.hid hN; have HW := Lib.hid hW; have HY := Lib.hid hY
  have hfn : ∀ f, Fence.wide.fn f := fun _ => trivial
  have hdp : Fence.wide.depth.isSome = false := rfl
  have hlow : Hid (∀ W', Fr (fun b => S' b ∨ w.heap.size ≤ b) w W' → Bl W' (.slice a N c) L) := Lib.hid (fun W' hf => by
    obtain ⟨a', c', k1, k2⟩ := (hA.fr hf (fun b hb e => e.elim (s2 b hb) (fun e => by have := hA.lt b hb; omega))).fl
    have k3 := hf.at_ q1 (fun e => e.elim (s2 g hA.own) (fun e => by have := hA.lt g hA.own; omega))
    rw [k1] at k3
    injection k3 with k3
    injection k3 with k3 _
    injection k3 with k3
    injection k3 with k3 _
    rw [hN] at k3 k2
    rw [k3] at k2
    exact k2)
  clear hBt n1 hS' hBW s2 hN q1 q2 hL hW hFW hY hA
  refine (callsIn_wide (n := 0)).1 ?_
  refine callsIn_of_wp Tryz.func83 rfl trivial ?_ rfl
  simp only [Tryz.ntmps83, List.size_toArray, List.length_cons, List.length_nil, Nat.reduceAdd, Nat.reduceSub, Array.replicate_succ, Array.replicate_zero, List.push_toArray, List.append_toArray, List.nil_append, List.cons_append]
  gi_wp2_with (gi_at_call 57; refine (callsIn_wide.2 hm.out).mono ?_; rintro e w1 ⟨rfl, rfl⟩)
  gi_loopw [13] (fun i wr => ∃ (k : Nat) (C : Nat → Prop), k ≤ N ∧ i = .int .i64 k ∧ J k C wr ∧ (∀ b, C b → W.heap.size ≤ b ∧ b < wr.heap.size) ∧ Fr (fun b => S' b ∨ C b) W wr) (fun i _ => N - (intOf i).toNat)
  case atStart => exact ⟨0, _, Nat.zero_le _, rfl, h0, fun _ h => False.elim h, Fr.refl _ _⟩
  case round =>
    obtain ⟨k, C, hk, rfl, hJr, hC, hkp⟩ := hrel
    by_cases hlt : k < N
    · obtain ⟨x, hx⟩ : ∃ x, L[k]? = some x := ⟨L[k]'(by rw [HN.out]; exact hlt), List.getElem?_eq_getElem _⟩
      have hfr : Fr (fun b => S' b ∨ w.heap.size ≤ b) w wr := (Fr.below (S := fun b => S' b ∨ w.heap.size ≤ b) HW.out).trans' hkp (fun b hb e => e.elim .inl (fun e => .inr (by have := (hC b e).1; have := HW.out.size; omega)))
      obtain ⟨ad, rfl, hok, z0, zs⟩ := (hlow.out wr hfr).at_ hx
      obtain ⟨la, lc, hl⟩ := hok.l.sl
      have x0 := z0 (.int .i64 x.nu) rfl
      have x1 := zs 0 (.int .i64 x.zo) rfl
      have x2 := zs 1 (.int .i64 x.ro) rfl
      have x3 := zs 2 x.l rfl
      dsimp only [Nat.zero_add, Nat.reduceAdd] at x0 x1 x2 x3
      rw [hl] at x3
      have hlI : (k : Int) < N := by omega
      obtain ⟨W2, hW2⟩ : ∃ W2, wr.alloc (.cells #[.int .i64 x.nu, .int .i64 x.zo, .int .i64 x.ro, .slice la x.its.length lc] 76) = W2 := ⟨_, rfl⟩
      have hJ2 := hJ _ C _ _ hJr (frAlloc (B := W.heap.size) (.cells #[.int .i64 x.nu, .int .i64 x.zo, .int .i64 x.ro, .slice la x.its.length lc] 76))
      obtain ⟨fn, tmps, assign, body, hy, hR⟩ := HY.out _ x C _ hx hJ2
      dsimp only [encB] at hy
      have HR := Lib.hid hR; have HC := Lib.hid hC; have HK := Lib.hid hkp; have HX := Lib.hid hx; have HJR := Lib.hid hJr
      clear hfr hok z0 zs hl hJ2 hR hC hkp hx hJr hW2
      gi_wp2
      refine HR.out.mono ?_
      rintro e W3 (⟨rfl, hJ3, hk3⟩ | ⟨rfl, hJx3, _⟩)
      · have HJ3 := Lib.hid hJ3; have HK3 := Lib.hid hk3
        clear hJ3 hk3
        gi_wp2
        go_roundw
        case rel =>
          refine ⟨k + 1, _, by omega, by go_num, HJ3.out, ?_, ?_⟩
          · have hs3 := HK3.out.size
            simp at hs3
            rintro b (e | e)
            · have := HC.out b e; exact ⟨this.1, by omega⟩
            · have := HK.out.size
              have e1 := e.1
              simp at e1
              exact ⟨by omega, e.2⟩
          · exact ((HK.out.alloc _).mono (fun b _ e => e.elim .inl (fun e => .inr (.inl e)))).trans (HK3.out.mono (fun b _ e => e.elim .inl (fun e => .inr (.inl e))))
        case measure => simp [intOf]; omega
      · gi_wp2
        refine bodyPost_ret (results_none rfl _ _ _) rfl ?_
        refine ⟨⟨_, rfl⟩, .inr ⟨_, _, ?_, hJx3⟩⟩
        have := (List.getElem?_eq_some_iff.1 HX.out).1
        omega
    · have : k = N := by omega
      subst this
      gi_wp2
      go_end0
      exact ⟨⟨_, rfl⟩, .inl ⟨C, by rw [HN.out]; exact hJr⟩⟩
end Go.Proofs.YtlniekobijcanaaGreat

