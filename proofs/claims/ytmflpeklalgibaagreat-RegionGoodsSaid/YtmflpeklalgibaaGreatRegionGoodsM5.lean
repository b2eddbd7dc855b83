/- Texts of this claim, joined: A region that draws its order: operations that only read, and a chain of others (calls, then stores), each of which waits for the one ahead: one walk in the text's order serves; hold: copied, Hold; hold: Hold; hold: a shelf as a thing of its own (written by wip/tools/shelf08.py); cells.Maker, as long as it is not too long; stock: Pack: what it packs, plainly; stock: Pack, walked; Slices of bytes as strings; their first bytes; Bytes as a string, plainly; As XEff, where the calls of the chain may turn what the other operations do not read; A region that draws its order: operations that only read, a chain of calls (each waits for the one ahead), a box that may be laid at any time, and the store into it behind all others: one walk in the text's order serves. O: the blocks that the chain's calls own (they are made within the region); the box is none of them; hold: Pack: the region ahead of its loop; hold: no shelf; The keys of map[int]api.Hold, in order; Ranges over functions whose iterator gives values of its own making (Rep: what is given reads as); hold: Orders, the iterator; hold: Pack (written by wip/tools/pack08.py); hold: all holds together: plainly; hold: Sound; hold: a shelf's Pack and Sound, as one thing. -/
import Derived.Test.YtmflpeklalgibaaGreatRegionGoodsM4
import Derived.Test.YtmflpeklalgibaaGreatRegionGoodsM3
import Derived.Test.YtmflpeklalgibaaGreatRegionGoodsM1
import Derived.Deep.QuietTactic
import Derived.BigQuiet
import Derived.Test.YtmflpeklalgibaaGreatRegionGoodsM2
import Derived.Stop.RegionWithIn
import Derived.Shelf.Abstract
import Derived.Test.YtmflpeklalgibaaGreatShelfH
import Derived.Says
import Derived.Sort.MapsRangeIn
namespace Go.Proofs.YtmflpeklalgibaaGreat
open Go Go.RowKit
/-- The chain's operations: which ones, and whether what was there stays as it was. -/
abbrev Efs := List (Nat × Bool)
def efIdx (E : Efs) : List Nat := E.map (·.1)
/-- One operation of the chain behind the other, whatever was laid between. -/
def wpEf (P : Program) (ops : Array Oper) (Q : Act → World → Prop) : List (Oper × Bool) → Act → World → Prop
  | [], a, w => ∀ w1, Fr (fun _ => False) w w1 → Q a w1
  | (o, cl) :: es, a, w => ∀ w1, Fr (fun _ => False) w w1 → wpList P ops (fun ex a2 w2 => ex = Exit.normal ∧ a2.defers = a.defers ∧ (cl = true → Fr (fun _ => False) w1 w2) ∧ wpEf P ops Q es a2 w2) [o] a w1
def efOps (l : List Oper) (E : Efs) : List (Oper × Bool) := E.filterMap fun e => (l[e.1]?).map fun o => (o, e.2)
def waits (o : Oper) (j : Nat) : Bool := o.after.any fun e => Region.binds .any e && e.on == j
/-- It waits for it, or for one that waits for it .. (n steps). -/
def waitsT (l : List Oper) : Nat → Oper → Nat → Bool
  | 0, o, j => waits o j
  | n + 1, o, j => waits o j || o.after.any fun e => Region.binds .any e && (match l[e.on]? with | some x => waitsT l n x j | none => false)
/-- All that the slots it looks at are written by is waited for. -/
def seesB (l : List Oper) (o : Oper) : Bool := (o.looksAt l.toArray).all fun t => (List.range l.length).all fun j => match l[j]? with | some x => x.dst != some t || waits o j | none => true
def chainB2 (l : List Oper) : List Nat → Bool
  | a :: b :: r => (match l[b]? with | some o => waits o a | none => false) && chainB2 l (b :: r)
  | _ => true
def efB (l : List Oper) (E : Efs) (pu : List Nat) (dp : Nat) : Bool :=
  Region.noSelect l.toArray && acyB .any l.toArray && decide (efIdx E).Nodup && chainB2 l (efIdx E) &&
  E.all (fun e => match l[e.1]? with | some o => o.guard.isNone && seesB l o && (e.2 || (List.range l.length).all fun i => (efIdx E).contains i || pu.contains i || waitsT l dp o i) | none => false) &&
  pu.all (fun i => match l[i]? with | some o => o.guard.isNone && seesB l o | none => true) &&
  (List.range l.length).all (fun i => (efIdx E).contains i || (match l[i]? with | some o => (efIdx E).all (fun e => match (l[e]?).bind (·.dst) with | some d => !(o.looksAt l.toArray).contains d && o.dst != some d | none => true) | none => true)) &&
  (List.range l.length).all (fun i => (List.range l.length).all fun j => i == j || (match l[i]?, l[j]? with | some x, some y => x.dst.isNone || x.dst != y.dst | _, _ => true))
theorem waits_spec {o : Oper} {j : Nat} (h : waits o j = true) : ∃ e ∈ o.after, Region.binds .any e = true ∧ e.on = j := by
  unfold waits at h
  simp only [Array.any_eq_true, Bool.and_eq_true, beq_iff_eq] at h
  obtain ⟨i, hi, h1, h2⟩ := h
  exact ⟨_, Array.getElem_mem hi, h1, h2⟩
theorem chain_spec {l : List Oper} : ∀ {xs : List Nat}, chainB2 l xs = true → ∀ (p a b : Nat), xs[p]? = some a → xs[p + 1]? = some b → ∃ o, l[b]? = some o ∧ waits o a = true
  | [], _, _, _, _, h, _ => by simp at h
  | [_], _, p, _, _, _, h => by cases p <;> simp at h
  | x :: y :: r, hc, p, a, b, ha, hb => by
    have hc' : ((match l[y]? with | some o => waits o x | none => false) && chainB2 l (y :: r)) = true := hc
    simp only [Bool.and_eq_true] at hc'
    cases p with
    | zero =>
      simp at ha hb
      subst ha hb
      cases ho : l[y]? with
      | none => rw [ho] at hc'; cases hc'.1
      | some o => rw [ho] at hc'; exact ⟨o, rfl, hc'.1⟩
    | succ p => exact chain_spec hc'.2 p a b (by simpa using ha) (by simpa using hb)
structure EfOk (l : List Oper) (E : Efs) (pu : List Nat) (dp : Nat) : Prop where
  sel : Region.noSelect l.toArray = true
  acy : acyB .any l.toArray = true
  nod : (efIdx E).Nodup
  chn : ∀ (p a b : Nat), (efIdx E)[p]? = some a → (efIdx E)[p + 1]? = some b → ∃ o, l[b]? = some o ∧ waits o a = true
  eff : ∀ e ∈ E, ∃ o, l[e.1]? = some o ∧ o.guard = none ∧ seesB l o = true ∧ (e.2 = false → ∀ i, i < l.length → i ∉ efIdx E → i ∉ pu → waitsT l dp o i = true)
  pur : ∀ i ∈ pu, ∀ o, l[i]? = some o → o.guard = none ∧ seesB l o = true
  ap : ∀ (i : Nat) (o : Oper), l[i]? = some o → i ∉ efIdx E → ∀ e ∈ efIdx E, ∀ x d, l[e]? = some x → x.dst = some d → d ∉ o.looksAt l.toArray ∧ o.dst ≠ some d
  un : ∀ (i j : Nat) (x y : Oper) (t : Tmp), l[i]? = some x → l[j]? = some y → x.dst = some t → y.dst = some t → i = j
theorem efB_ok {l : List Oper} {E : Efs} {pu : List Nat} {dp : Nat} (h : efB l E pu dp = true) : EfOk l E pu dp := by
  unfold efB at h
  simp only [Bool.and_eq_true, List.all_eq_true, decide_eq_true_eq] at h
  obtain ⟨⟨⟨⟨⟨⟨⟨h1, h2⟩, h3⟩, h4⟩, h5⟩, h6⟩, h7⟩, h8⟩ := h
  refine ⟨h1, h2, h3, chain_spec h4, fun e he => ?_, fun i hi o ho => ?_, fun i o hi hn e he x d hx hd => ?_, fun i j x y t hi hj hx hy => ?_⟩
  · have := h5 e he
    cases ho : l[e.1]? with
    | none => rw [ho] at this; cases this
    | some o =>
      rw [ho] at this
      simp only [Bool.and_eq_true, Bool.or_eq_true, Option.isNone_iff_eq_none, List.all_eq_true] at this
      obtain ⟨⟨g1, g2⟩, g3⟩ := this
      refine ⟨o, rfl, g1, g2, fun hf i hi hn hp => ?_⟩
      rcases g3 with g3 | g3
      · rw [hf] at g3; cases g3
      · rcases g3 i (List.mem_range.2 hi) with (g | g) | g
        · exact absurd (by simpa using g) hn
        · exact absurd (by simpa using g) hp
        · exact g
  · have := h6 i hi
    rw [ho] at this
    simp only [Bool.and_eq_true, Option.isNone_iff_eq_none] at this
    exact this
  · have hil := (List.getElem?_eq_some_iff.1 hi).1
    have := h7 i (List.mem_range.2 hil)
    rw [hi] at this
    simp only [Bool.or_eq_true, List.all_eq_true] at this
    rcases this with h | h
    · exact absurd (by simpa using h) hn
    · have := h e he
      rw [hx] at this
      simp only [Option.bind_some, hd] at this
      simp at this
      exact ⟨this.1, this.2⟩
  · have hil := (List.getElem?_eq_some_iff.1 hi).1
    have hjl := (List.getElem?_eq_some_iff.1 hj).1
    have := h8 i (List.mem_range.2 hil) j (List.mem_range.2 hjl)
    rw [hi, hj] at this
    simp only [Bool.or_eq_true, beq_iff_eq] at this
    rcases this with h | h
    · exact h
    · rw [hx, hy] at h; simp at h
theorem sees_spec {l : List Oper} {o : Oper} (h : seesB l o = true) {t j : Nat} {x : Oper} (ht : t ∈ o.looksAt l.toArray) (hx : l[j]? = some x) (hd : x.dst = some t) : waits o j = true := by
  unfold seesB at h
  simp only [List.all_eq_true] at h
  have := h t ht j (List.mem_range.2 (List.getElem?_eq_some_iff.1 hx).1)
  rw [hx] at this
  simp only [Bool.or_eq_true] at this
  rcases this with h | h
  · rw [hd] at h; simp at h
  · exact h
/-- From one act to another that it cannot tell from it. -/
theorem eff_conv {P : Program} {o : Oper} {a ar : Act} {w : World} {K : Act → World → Prop} {K' : Act → World → Prop} {Q1 Q : Exit → Act → World → Prop} (he : execOp ar.eval o = execOp a.eval o) (hK : ∀ v w2, K (a.put o.dst v) w2 → K' (ar.put o.dst v) w2)
    (hKd : ∀ x w2, K x w2 → x.defers = a.defers) (hQ : ∀ ex x w2, Q1 ex x w2 → ex = Exit.normal) (h : o.wp P a w K Q1) : o.wp P ar w K' Q := by
  unfold Oper.wp at *
  rw [he]
  generalize (execOp a.eval o).run P w = r at *
  have hnl : ¬ LetsOut Q1 := fun ⟨x, y, hq⟩ => by have := hQ _ _ _ hq; cases this
  cases r with
  | ok n w' =>
    cases n with
    | value v => exact hK _ _ h
    | skip => exact hK _ _ h
    | defer d =>
      have := hKd _ _ h
      rw [put_dfr] at this
      have h2 : (d :: a.defers).length = a.defers.length := congrArg List.length this
      simp at h2
    | enter f args => exact Calls.mono h (fun e w'' he => by
        cases e with
        | returned v => exact hK _ _ he
        | panicked c => have := hQ _ _ _ he; cases this
        | outgrown => exact absurd he hnl)
    | row r args => exact Rows.mono h (fun v w'' he => hK _ _ he)
    | _ => exact h
  | halt x w' =>
    cases x with
    | panic v => have := hQ _ _ _ h; cases this
    | _ => exact h
/-- How far the chain is: k of its operations are done; af: the act as at the end, with what they gave. -/
structure EInv (P : Program) (l : List Oper) (E : Efs) (pu : List Nat) (w0 : World) (aF : Act) (Q : Act → World → Prop) (listed : Array Bool) (k : Nat) (a' a af : Act) (w : World) : Prop where
  lst : ∀ (p e : Nat), (efIdx E)[p]? = some e → (listed.getD e true = true ↔ p < k)
  kle : k ≤ E.length
  df : a.defers = a'.defers ∧ af.defers = aF.defers
  sz : a.tmps.size = a'.tmps.size ∧ af.tmps.size = aF.tmps.size ∧ a.tmps.size = af.tmps.size
  don : ∀ (p e t : Nat) (o : Oper), p < k → (efIdx E)[p]? = some e → l[e]? = some o → o.dst = some t → a.tmps[t]? = af.tmps[t]?
  out : ∀ t : Nat, (∀ (p e : Nat) (o : Oper), p < k → (efIdx E)[p]? = some e → l[e]? = some o → o.dst ≠ some t) → a.tmps[t]? = a'.tmps[t]? ∧ af.tmps[t]? = aF.tmps[t]?
  eff : ∃ wk, Fr (fun _ => False) wk w ∧ wpEf P l.toArray Q (efOps l (E.drop k)) af wk
  cls : (Fr (fun _ => False) w0 w) ∨ (∀ i, i < l.length → i ∉ efIdx E → listed.getD i true = false → i ∈ pu)
  lsz : listed.size = l.length
  cld : ∀ (j : Nat) (x : Oper), l[j]? = some x → listed.getD j true = true → ∀ e ∈ x.after, Region.binds .any e = true → listed.getD e.on false = true
theorem efIdx_get {E : Efs} {p : Nat} {e : Nat × Bool} (h : E[p]? = some e) : (efIdx E)[p]? = some e.1 := by unfold efIdx; rw [List.getElem?_map, h]; rfl
theorem efIdx_some {E : Efs} {p i : Nat} (h : (efIdx E)[p]? = some i) : ∃ b, E[p]? = some (i, b) := by
  unfold efIdx at h
  rw [List.getElem?_map] at h
  cases he : E[p]? with
  | none => rw [he] at h; cases h
  | some e => rw [he] at h; obtain ⟨x, b⟩ := e; exact ⟨b, by simp at h; rw [h]⟩
theorem efOps_drop {l : List Oper} {E : Efs} {k : Nat} {e : Nat × Bool} {o : Oper} (h : E[k]? = some e) (ho : l[e.1]? = some o) : efOps l (E.drop k) = (o, e.2) :: efOps l (E.drop (k + 1)) := by
  have hk := (List.getElem?_eq_some_iff.1 h).1
  have he := (List.getElem?_eq_some_iff.1 h).2
  rw [List.drop_eq_getElem_cons hk, he]
  unfold efOps
  rw [List.filterMap_cons, ho]
  rfl
section
variable {P : Program} {l : List Oper} {E : Efs} {pu : List Nat} {w0 : World} {aF : Act} {Q : Exit → Act → World → Prop}
theorem listed_dep {listed : Array Bool} {o : Oper} {j : Nat} (hdeps : ∀ e ∈ o.after, Region.binds .any e = true → listed.getD e.on false = true) (hj : j < listed.size) (hw : waits o j = true) : listed.getD j true = true := by
  obtain ⟨e, he, hb, rfl⟩ := waits_spec hw
  have := hdeps e he hb
  simp only [Array.getD_eq_getD_getElem?] at this ⊢
  rw [Array.getElem?_eq_getElem hj] at this ⊢
  exact this
theorem listed_depT {listed : Array Bool} (hc : ∀ (j : Nat) (x : Oper), l[j]? = some x → listed.getD j true = true → ∀ e ∈ x.after, Region.binds .any e = true → listed.getD e.on false = true) (hs : listed.size = l.length) : ∀ (n : Nat) {o : Oper} {j : Nat}, (∀ e ∈ o.after, Region.binds .any e = true → listed.getD e.on false = true) → j < listed.size → waitsT l n o j = true → listed.getD j true = true
  | 0, _, _, hd, hj, hw => listed_dep hd hj hw
  | n + 1, o, j, hd, hj, hw => by
    have hw' : (waits o j || o.after.any fun e => Region.binds .any e && (match l[e.on]? with | some x => waitsT l n x j | none => false)) = true := hw
    simp only [Bool.or_eq_true, Array.any_eq_true, Bool.and_eq_true] at hw'
    rcases hw' with h | ⟨i, hi, hb, hx⟩
    · exact listed_dep hd hj h
    · cases hx2 : l[(o.after[i]).on]? with
      | none => rw [hx2] at hx; cases hx
      | some x =>
        rw [hx2] at hx
        have hlt := (List.getElem?_eq_some_iff.1 hx2).1
        have h1 := hd _ (Array.getElem_mem hi) hb
        have h2 : listed.getD (o.after[i]).on true = true := by
          simp only [Array.getD_eq_getD_getElem?] at h1 ⊢
          rw [Array.getElem?_eq_getElem (by omega)] at h1 ⊢
          exact h1
        exact listed_depT hc hs n (hc _ x hx2 h2) hj hx
theorem cld_set {listed : Array Bool} {i : Nat} {o : Oper} (hol : l[i]? = some o) (hd : ∀ e ∈ o.after, Region.binds .any e = true → listed.getD e.on false = true)
    (hc : ∀ (j : Nat) (x : Oper), l[j]? = some x → listed.getD j true = true → ∀ e ∈ x.after, Region.binds .any e = true → listed.getD e.on false = true) :
    ∀ (j : Nat) (x : Oper), l[j]? = some x → (listed.setIfInBounds i true).getD j true = true → ∀ e ∈ x.after, Region.binds .any e = true → (listed.setIfInBounds i true).getD e.on false = true := by
  intro j x hx hj e he hb
  have h1 : listed.getD e.on false = true := by
    by_cases h : i = j
    · subst h
      rw [hol] at hx
      cases hx
      exact hd e he hb
    · rw [getD_set_ne true h] at hj
      exact hc j x hx hj e he hb
  by_cases h : i = e.on
  · subst h
    simp only [Array.getD_eq_getD_getElem?] at h1 ⊢
    rcases Nat.lt_or_ge e.on listed.size with h2 | h2
    · simp [h2]
    · rw [Array.getElem?_eq_none h2] at h1; cases h1
  · simp only [Array.getD_eq_getD_getElem?] at h1 ⊢
    rw [Array.getElem?_setIfInBounds_ne h]
    exact h1
theorem eff_sim {dp : Nat} (ok : EfOk l E pu dp)
    (hpu : ∀ i ∈ pu, ∀ o, l[i]? = some o → ∃ v, ∀ w, (execOp aF.eval o).run P w = .ok (.value v) w) :
    ∀ (fuel : Nat) (listed : Array Bool) (k : Nat) (a' a af : Act) (w : World), EInv P l E pu w0 aF (fun x y => Q .normal x y) listed k a' a af w →
      (∀ wX, Fr (fun _ => False) w0 wX → wpAnyQ P .any (boxedF (efIdx E) 0 l).toArray (fun w' => ∃ Y : FrW wX, w' = Y.val) (fun x => x = aF) fuel listed a') → wpAny P .any l.toArray Q fuel listed a w := by
  have hend : ∀ (fuel : Nat) (listed : Array Bool) (k : Nat) (a' a af : Act) (w : World), EInv P l E pu w0 aF (fun x y => Q .normal x y) listed k a' a af w →
      (∀ wX, Fr (fun _ => False) w0 wX → wpAnyQ P .any (boxedF (efIdx E) 0 l).toArray (fun w' => ∃ Y : FrW wX, w' = Y.val) (fun x => x = aF) fuel listed a') → Region.ready .any l.toArray listed = [] → Q .normal a w := fun fuel listed k a' a af w inv hH hr => by
    have hall : ∀ j, j < l.length → listed.getD j true = true := fun j hj => by
      cases e : listed.getD j true with
      | true => rfl
      | false => exact absurd hr (ready_some ok.acy (by rw [inv.lsz]; simp) j j (by simpa using hj) (Nat.le_refl _) e)
    have ea : a' = aF := wpAnyQ_end (P := P) (C := fun w' => ∃ Y : FrW w0, w' = Y.val) (Q' := fun x => x = aF) (ops := (boxedF (efIdx E) 0 l).toArray) (by rw [bxd_ready]; exact hr) fuel (hH w0 (Fr.refl _ _))
    have hk : k = E.length := by
      rcases Nat.lt_or_ge k E.length with h | h
      · exfalso
        obtain ⟨o, ho, _⟩ := ok.eff E[k] (List.getElem_mem h)
        have h1 := hall E[k].1 (List.getElem?_eq_some_iff.1 ho).1
        have := (inv.lst k E[k].1 (efIdx_get (List.getElem?_eq_getElem h))).1 h1
        omega
      · have := inv.kle; omega
    obtain ⟨wk, hf, he⟩ := inv.eff
    rw [hk, List.drop_length] at he
    have h2 := he w hf
    have e : a = af := by
      refine act_ext (by rw [inv.df.1, inv.df.2, ea]) (fun t => ?_)
      by_cases ht : ∀ (p e : Nat) (o : Oper), p < k → (efIdx E)[p]? = some e → l[e]? = some o → o.dst ≠ some t
      · rw [(inv.out t ht).1, (inv.out t ht).2, ea]
      · have : ∃ (p e : Nat) (o : Oper), p < k ∧ (efIdx E)[p]? = some e ∧ l[e]? = some o ∧ o.dst = some t := Classical.byContradiction fun hn => ht fun p e o h1 h2 h3 h4 => hn ⟨p, e, o, h1, h2, h3, h4⟩
        obtain ⟨p, e, o, h1, h2, h3, h4⟩ := this
        exact inv.don p e t o h1 h2 h3 h4
    rw [e]
    exact h2
  intro fuel
  induction fuel with
  | zero =>
    intro listed k a' a af w inv hH
    have hr : Region.ready .any l.toArray listed = [] := by have := (hH w0 (Fr.refl _ _)).1; rwa [bxd_ready] at this
    exact ⟨hr, hend 0 listed k a' a af w inv hH hr⟩
  | succ fuel ih =>
    intro listed k a' a af w inv hH
    refine ⟨hend _ listed k a' a af w inv hH, fun i hi => ?_⟩
    obtain ⟨hun, o, ho, hdeps⟩ := mem_ready.1 hi
    have hol : l[i]? = some o := by simpa using ho
    have hil : i < l.length := (List.getElem?_eq_some_iff.1 hol).1
    have hlsz := inv.lsz
    have hi' : i ∈ Region.ready .any (boxedF (efIdx E) 0 l).toArray listed := by rw [bxd_ready]; exact hi
    have back : ∀ (j : Nat) (x : Oper) (t : Tmp), (boxedF (efIdx E) 0 l).toArray[j]? = some x → x.dst = some t → ∃ y, l[j]? = some y ∧ y.dst = some t := fun j x t hj hx => by
      rw [bxd_get] at hj
      cases hy : l.toArray[j]? with
      | none => rw [hy] at hj; cases hj
      | some y =>
        rw [hy] at hj
        refine ⟨y, by simpa using hy, ?_⟩
        simp only [Option.map_some, Option.some.injEq] at hj
        rw [← hj] at hx
        by_cases hc : (efIdx E).contains j = true
        · rw [if_pos hc] at hx; exact hx
        · rw [if_neg hc] at hx; exact hx
    have uniq : ∀ (j : Nat) (x : Oper) (t : Tmp), (boxedF (efIdx E) 0 l).toArray[j]? = some x → x.dst = some t → o.dst = some t → j = i := fun j x t hj hx ht => by
      obtain ⟨y, hy, hyd⟩ := back j x t hj hx
      exact ok.un j i y o t hy hol hyd ht
    -- a slot all of whose writers are listed is as at the end
    have fin : ∀ t : Nat, (∀ (j : Nat) (y : Oper), l[j]? = some y → y.dst = some t → listed.getD j true = true) → a'.tmps[t]? = aF.tmps[t]? := fun t ht =>
      fin_at (fuel + 1) listed a' (hH w0 (Fr.refl _ _)) t (fun j y hj hu hy => by
        obtain ⟨z, hz, hzd⟩ := back j y t hj hy
        rw [ht j z hz hzd] at hu
        cases hu)
    by_cases hE : i ∈ efIdx E
    · -- the chain's next
      obtain ⟨p, hp⟩ := List.getElem?_of_mem hE
      have hpk : ¬ p < k := fun h => by rw [(inv.lst p i hp).2 h] at hun; cases hun
      have hpk2 : p = k := by
        rcases Nat.lt_or_ge k p with h | h
        · exfalso
          obtain ⟨q, rfl⟩ : ∃ q, p = q + 1 := ⟨p - 1, by omega⟩
          have hq := (List.getElem?_eq_some_iff.1 hp).1
          have hqe : (efIdx E)[q]? = some (efIdx E)[q] := List.getElem?_eq_getElem (by omega)
          obtain ⟨o', ho', hw⟩ := ok.chn q _ i hqe hp
          rw [hol] at ho'
          obtain rfl : o = o' := by injection ho'
          obtain ⟨b, hb⟩ := efIdx_some hqe
          obtain ⟨x, hx, _⟩ := ok.eff _ (List.mem_of_getElem? hb)
          have h1 := listed_dep hdeps (by rw [hlsz]; exact (List.getElem?_eq_some_iff.1 hx).1) hw
          have := (inv.lst q _ hqe).1 h1
          omega
        · omega
      obtain rfl : k = p := hpk2.symm
      obtain ⟨cl, hcl⟩ := efIdx_some hp
      obtain ⟨o', ho', hog, hos, hlate⟩ := ok.eff _ (List.mem_of_getElem? hcl)
      dsimp only at ho' hlate
      rw [hol] at ho'
      obtain rfl : o = o' := by injection ho'
      have hob : (boxedF (efIdx E) 0 l).toArray[i]? = some (idleU o) := by rw [bxd_get, ho]; simp [hE]
      obtain ⟨u, _, hK⟩ := all_put (w0 := w0) (fuel := fuel) (a' := a') hob hi' (fun j x t hj hx ht => uniq j x t hj hx ht) (by omega) hH w0 (Fr.refl _ _)
      have hK' : ∀ wY, Fr (fun _ => False) w0 wY → wpAnyQ P .any (boxedF (efIdx E) 0 l).toArray (fun w' => ∃ Y : FrW wY, w' = Y.val) (fun x => x = aF) fuel (listed.setIfInBounds i true) (a'.put o.dst u) := hK
      have hlk : ∀ t ∈ o.looksAt l.toArray, a.tmps[t]? = af.tmps[t]? := fun t ht => by
        have hw : ∀ (j : Nat) (y : Oper), l[j]? = some y → y.dst = some t → listed.getD j true = true := fun j y hy hyd => listed_dep hdeps (by rw [hlsz]; exact (List.getElem?_eq_some_iff.1 hy).1) (sees_spec hos ht hy hyd)
        by_cases hex : ∀ (p e : Nat) (x : Oper), p < k → (efIdx E)[p]? = some e → l[e]? = some x → x.dst ≠ some t
        · rw [(inv.out t hex).1, (inv.out t hex).2]
          exact fin t hw
        · have : ∃ (p e : Nat) (x : Oper), p < k ∧ (efIdx E)[p]? = some e ∧ l[e]? = some x ∧ x.dst = some t := Classical.byContradiction fun hn => hex fun p e x h1 h2 h3 h4 => hn ⟨p, e, x, h1, h2, h3, h4⟩
          obtain ⟨p, e, x, h1, h2, h3, h4⟩ := this
          exact inv.don p e t x h1 h2 h3 h4
      have hsel := Region.noSelect_spec ok.sel
      obtain ⟨c1, _⟩ := look_congr (ops := l.toArray) (o := o) (a := a) (a' := af) (fun cs b => hsel i o cs b ho) hlk
      obtain ⟨wk, hf, he⟩ := inv.eff
      rw [efOps_drop hcl hol] at he
      have he1 := he w hf
      have hwp : o.wp P af w (fun a2 w2 => Exit.normal = Exit.normal ∧ a2.defers = af.defers ∧ (cl = true → Fr (fun _ => False) w w2) ∧ wpEf P l.toArray (fun x y => Q .normal x y) (efOps l (E.drop (k + 1))) a2 w2) (fun ex a2 w2 => ex = Exit.normal ∧ a2.defers = af.defers ∧ (cl = true → Fr (fun _ => False) w w2) ∧ wpEf P l.toArray (fun x y => Q .normal x y) (efOps l (E.drop (k + 1))) a2 w2) := by
        have h1 : (if Region.wanted o (yielded l.toArray af.tmps) then _ else _) := he1
        simp only [Region.wanted, hog, if_true] at h1
        rcases h1 with h1 | ⟨_, x, y, h2⟩
        · exact h1
        · cases h2.1
      have hset : ∀ j, (listed.setIfInBounds i true).getD j true = true ↔ (j = i ∨ listed.getD j true = true) := fun j => by
        by_cases e : i = j
        · subst e; simp [getD_set_same (show i < listed.size by omega)]
        · rw [getD_set_ne true e]
          exact ⟨.inr, fun h => h.elim (fun e2 => absurd e2.symm e) id⟩
      unfold wpOp
      rw [ho]
      simp only [Region.wanted, hog, if_true]
      left
      refine eff_conv c1 (fun v w2 h => ?_) (fun x w2 h => h.2.1) (fun ex x w2 h => h.1) hwp
      obtain ⟨_, hd2, hcl2, hrest⟩ := h
      refine ih _ (k + 1) (a'.put o.dst u) _ (af.put o.dst v) w2 ⟨fun p e hpe => ?_, ?_, ⟨by rw [put_dfr, put_dfr]; exact inv.df.1, by rw [put_dfr]; exact inv.df.2⟩, ⟨by rw [put_size, put_size]; exact inv.sz.1, by rw [put_size]; exact inv.sz.2.1, by rw [put_size, put_size]; exact inv.sz.2.2⟩, fun p e t x h1 h2 h3 h4 => ?_, fun t ht => ?_, ⟨w2, Fr.refl _ _, hrest⟩, ?_, by simp [hlsz], cld_set hol hdeps inv.cld⟩ hK'
      · rw [hset e]
        by_cases hpk : p = k
        · subst hpk
          rw [hp] at hpe
          cases hpe
          simp
        · have hne : e ≠ i := fun he => by
            subst he
            have h1 := (List.getElem?_eq_some_iff.1 hp)
            have h2 := (List.getElem?_eq_some_iff.1 hpe)
            exact hpk ((List.getElem_inj ok.nod).1 (h2.2.trans h1.2.symm))
          rw [show (e = i ∨ listed.getD e true = true) ↔ listed.getD e true = true from ⟨fun h => h.elim (fun h => absurd h hne) id, .inr⟩, inv.lst p e hpe]
          omega
      · have := (List.getElem?_eq_some_iff.1 hcl).1; omega
      · by_cases hto : o.dst = some t
        · by_cases hts : t < a.tmps.size
          · rw [hto, put_at hts, put_at (by rw [← inv.sz.2.2]; exact hts)]
          · rw [Array.getElem?_eq_none (by rw [put_size]; omega), Array.getElem?_eq_none (by rw [put_size, ← inv.sz.2.2]; omega)]
        · rw [put_out hto, put_out hto]
          by_cases hpk : p = k
          · subst hpk
            rw [hp] at h2
            cases h2
            rw [hol] at h3
            cases h3
            exact absurd h4 hto
          · exact inv.don p e t x (by omega) h2 h3 h4
      · have hto : o.dst ≠ some t := ht k i o (by omega) hp hol
        rw [put_out hto, put_out hto, put_out hto]
        exact inv.out t (fun p e x h1 h2 h3 => ht p e x (by omega) h2 h3)
      · cases cl with
        | true =>
          rcases inv.cls with h | h
          · exact .inl (h.trans (hcl2 rfl))
          · refine .inr (fun j hj hjn hjl => h j hj hjn ?_)
            cases e : listed.getD j true with
            | false => rfl
            | true => rw [(hset j).2 (.inr e)] at hjl; cases hjl
        | false =>
          refine .inr (fun j hj hjn hjl => Classical.byContradiction fun hjp => ?_)
          have h1 := listed_depT inv.cld hlsz dp hdeps (by rw [hlsz]; exact hj) (hlate rfl j hj hjn hjp)
          rw [(hset j).2 (.inr h1)] at hjl
          cases hjl
    · -- one that only reads
      have hob : (boxedF (efIdx E) 0 l).toArray[i]? = some o := by rw [bxd_get, ho]; simp [hE]
      have hsel := Region.noSelect_spec ok.sel
      have hapart : ∀ t, (t ∈ o.looksAt l.toArray ∨ o.dst = some t) → ∀ (p e : Nat) (x : Oper), p < k → (efIdx E)[p]? = some e → l[e]? = some x → x.dst ≠ some t := fun t ht p e x _ h2 h3 h4 => by
        have := ok.ap i o hol hE e (List.mem_of_getElem? h2) x t h3 h4
        rcases ht with h | h
        · exact this.1 h
        · exact this.2 h
      obtain ⟨c1, c2⟩ := look_congr (ops := l.toArray) (o := o) (a := a) (a' := a') (fun cs b => hsel i o cs b ho) (fun t ht => (inv.out t (hapart t (.inl ht))).1)
      have hset : ∀ j, j ∈ efIdx E → (listed.setIfInBounds i true).getD j true = listed.getD j true := fun j hj => getD_set_ne true (fun e => hE (e ▸ hj))
      have hset2 : ∀ j, (listed.setIfInBounds i true).getD j true = false → listed.getD j true = false := fun j hj => by
        by_cases e : i = j
        · subst e; exact hun
        · rwa [getD_set_ne true e] at hj
      have key : ∀ v w', Fr (fun _ => False) w w' → (∀ wY, Fr (fun _ => False) w0 wY → wpAnyQ P .any (boxedF (efIdx E) 0 l).toArray (fun w' => ∃ Y : FrW wY, w' = Y.val) (fun x => x = aF) fuel (listed.setIfInBounds i true) (a'.put o.dst v)) → wpAny P .any l.toArray Q fuel (listed.setIfInBounds i true) (a.put o.dst v) w' := fun v w' hf hK => by
        refine ih _ k (a'.put o.dst v) _ af w' ⟨fun p e hpe => by rw [hset e (List.mem_of_getElem? hpe)]; exact inv.lst p e hpe, inv.kle, ⟨by rw [put_dfr, put_dfr]; exact inv.df.1, inv.df.2⟩, ⟨by rw [put_size, put_size]; exact inv.sz.1, inv.sz.2.1, by rw [put_size]; exact inv.sz.2.2⟩, fun p e t x h1 h2 h3 h4 => ?_, fun t ht => ?_, ?_, ?_, by simp [hlsz], cld_set hol hdeps inv.cld⟩ hK
        · have hto : o.dst ≠ some t := fun hd => hapart t (.inr hd) p e x h1 h2 h3 h4
          rw [put_out hto]
          exact inv.don p e t x h1 h2 h3 h4
        · exact ⟨put_same (inv.out t ht).1 inv.sz.1, (inv.out t ht).2⟩
        · obtain ⟨wk, h1, h2⟩ := inv.eff
          exact ⟨wk, h1.trans hf, h2⟩
        · exact inv.cls.imp (fun h => h.trans hf) (fun h j hj hjn hjl => h j hj hjn (hset2 j hjl))
      unfold wpOp
      rw [ho]
      simp only []
      rw [c2]
      rcases inv.cls with hcls | hcls
      · obtain ⟨v, hY, hK⟩ := all_put (w0 := w0) (fuel := fuel) (a' := a') hob hi' uniq (by omega) hH w hcls
        rcases hY with ⟨hw, hq⟩ | ⟨hw, rfl⟩
        · rw [bxd_yielded] at hw
          rw [if_pos hw]
          left
          refine Oper.wp_of_quiet (C := fun w' => ∃ Y : FrW w, w' = Y.val) (K := fun x => x = a.put o.dst v) ⟨⟨w, Fr.refl _ w⟩, rfl⟩ ?_ ⟨v, fun w1 h1 => ?_, rfl⟩
          · rintro x w' ⟨Y, rfl⟩ rfl
            exact key v _ Y.fr hK
          · have := hq w1 h1
            unfold Oper.quietAt at *
            rw [c1]
            exact this
        · rw [bxd_yielded] at hw
          rw [if_neg (by rw [hw]; simp)]
          exact key undef w (Fr.refl _ w) hK
      · have hip := hcls i hil hE hun
        obtain ⟨hog, hos⟩ := ok.pur i hip o hol
        obtain ⟨v, hv⟩ := hpu i hip o hol
        obtain ⟨v', hY, hK⟩ := all_put (w0 := w0) (fuel := fuel) (a' := a') hob hi' uniq (by omega) hH w0 (Fr.refl _ _)
        have hfin : ∀ t ∈ o.looksAt l.toArray, a'.tmps[t]? = aF.tmps[t]? := fun t ht => fin t (fun j y hy hyd => listed_dep hdeps (by rw [hlsz]; exact (List.getElem?_eq_some_iff.1 hy).1) (sees_spec hos ht hy hyd))
        obtain ⟨d1, _⟩ := look_congr (ops := l.toArray) (o := o) (a := a') (a' := aF) (fun cs b => hsel i o cs b ho) hfin
        have hvv : v' = v := by
          rcases hY with ⟨_, hq⟩ | ⟨hw, _⟩
          · have h1 := hq w0 ⟨⟨w0, Fr.refl _ _⟩, rfl⟩
            unfold Oper.quietAt at h1
            rw [d1, hv w0] at h1
            exact h1.2.symm
          · simp [Region.wanted, hog] at hw
        subst hvv
        simp only [Region.wanted, hog, if_true]
        left
        unfold Oper.wp
        rw [c1, d1, hv w]
        exact key v' w (Fr.refl _ w) hK
theorem fin_sz {md : Region.Mode} {ops : Array Oper} {C : World → Prop} : ∀ (fuel : Nat) (listed : Array Bool) (a : Act), wpAnyQ P md ops C (fun x => x = aF) fuel listed a → aF.tmps.size = a.tmps.size ∧ aF.defers = a.defers
  | 0, _, a, h => by have h2 : a = aF := h.2; rw [h2]; exact ⟨rfl, rfl⟩
  | fuel + 1, listed, a, h => by
    cases hr : Region.ready md ops listed with
    | nil => have h2 : a = aF := h.1 hr; rw [h2]; exact ⟨rfl, rfl⟩
    | cons i r =>
      have hi : i ∈ Region.ready md ops listed := by rw [hr]; exact List.mem_cons_self
      obtain ⟨_, o, ho, _⟩ := mem_ready.1 hi
      obtain ⟨v, _, hK⟩ := yieldsIn_of_qOp ho (h.2 i hi)
      have h3 := fin_sz fuel _ _ hK
      rw [put_size, put_dfr] at h3
      exact h3
theorem wp_region_eff {id : Nat} {a : Act} {w : World} (E : Efs) (pu : List Nat) (dp : Nat) {l' : List Oper} (hm : P.follows .mixedOrders = true) (hl : boxedF (efIdx E) 0 l = l') (hB : efB l E pu dp = true) (hL : Region.lexB .any l'.toArray = true)
    (h : ∃ aF : Act, (∀ X : FrW w, wpQuiet P l'.toArray (fun w' => ∃ Y : FrW X.val, w' = Y.val) (fun a' => a' = aF) l' a) ∧
      (∀ i ∈ pu, ∀ o, l[i]? = some o → ∃ v, ∀ w, (execOp aF.eval o).run P w = .ok (.value v) w) ∧ wpEf P l.toArray (fun x y => Q .normal x y) (efOps l E) aF w) : (Code.region id l.toArray true).wp P Q a w := by
  have ok := efB_ok hB
  obtain ⟨aF, h, hpu, he⟩ := h
  subst hl
  simp only [Region.lexB, Bool.and_eq_true] at hL
  have hH : ∀ wX, Fr (fun _ => False) w wX → wpAnyQ P .any (boxedF (efIdx E) 0 l).toArray (fun w' => ∃ Y : FrW wX, w' = Y.val) (fun x => x = aF) l.toArray.size (Array.replicate l.toArray.size false) a := fun wX hX => by
    have := wpAnyQ_lex (C := fun w' => ∃ Y : FrW wX, w' = Y.val) (md := .any) hL.1 (boxedF (efIdx E) 0 l) 0 (Array.replicate (boxedF (efIdx E) 0 l).toArray.size false) a (by simp) (by simpa using hL.2) (h ⟨wX, hX⟩)
    rw [bxd_size] at this
    simpa [bxd_len] using this
  obtain ⟨hs, hd⟩ := fin_sz _ _ _ (hH w (Fr.refl _ _))
  refine wp_region_any hm (eff_sim (w0 := w) (aF := aF) ok hpu _ _ 0 a a aF _ ⟨fun p e hpe => ?_, Nat.zero_le _, ⟨rfl, rfl⟩, ⟨rfl, rfl, hs.symm⟩, fun p e t o hp => by omega, fun t _ => ⟨rfl, rfl⟩, ⟨w, (Fr.refl _ w).drew, by simpa using he⟩, .inl (Fr.refl _ w).drew, by simp, fun j x hx hj => ?_⟩ hH)
  rotate_left
  · have := (List.getElem?_eq_some_iff.1 hx).1
    simp [this] at hj
  obtain ⟨b, hb⟩ := efIdx_some hpe
  obtain ⟨o, ho, _⟩ := ok.eff _ (List.mem_of_getElem? hb)
  have hel := (List.getElem?_eq_some_iff.1 ho).1
  dsimp only at hel
  constructor
  · intro h1
    simp [hel] at h1
  · intro h1; omega
end
end Go.Proofs.YtmflpeklalgibaaGreat

namespace Go.Proofs.YtmflpeklalgibaaGreat
open Go.RowKit Go.Maps
theorem hd_end {w4 : World} {n : Nat} {T : TypeId} (o : Int) (v1 v2 v3 : Value) (h2 : w4.heap[n]? = some (.cells #[.int .i64 0, .slice none 0 0, .slice none 0 0, .slice none 0 0] T)) :
    ∃ W, W = ((((w4.setCell ⟨n, 0, none⟩ (.int .i64 o)).setCell ⟨n, 1, none⟩ v1).setCell ⟨n, 2, none⟩ v2).setCell ⟨n, 3, none⟩ v3) ∧
      W.heap[n]? = some (.cells #[.int .i64 o, v1, v2, v3] T) ∧ Fr (fun c => c = n) w4 W := by
  refine ⟨_, rfl, obj_set (obj_set (obj_set (obj_set h2 0 _) 1 _) 2 _) 3 _, ?_⟩
  exact ((((Fr.refl (fun c => c = n) w4).setCell (p := ⟨n, 0, none⟩) (fun _ => rfl) _).setCell (p := ⟨n, 1, none⟩) (fun _ => rfl) _).setCell (p := ⟨n, 2, none⟩) (fun _ => rfl) _).setCell (p := ⟨n, 3, none⟩) (fun _ => rfl) _
theorem il_okm {w : World} {v : Value} {L : Its} (h : Il w v L) {p : Str × Int} (hp : p ∈ L) : okS p.1 ∧ okI p.2 := by
  obtain ⟨i, hi⟩ := List.getElem?_of_mem hp
  obtain ⟨_, _, _, _, hx⟩ := h
  exact ⟨(hx i p hi).1, (hx i p hi).2.1⟩
set_option maxRecDepth 100000 in
set_option maxHeartbeats 8000000 in
theorem hcopied (w : World) (TB : Nat → Prop) (x : HV) (hk : HOk w TB x) (hx : x.he.length ≤ 1000 ∧ x.pi.length ≤ 1000 ∧ x.sh.length ≤ 1000) :
    Calls Tryz.prog 68 #[x.enc] w fun e w' => ∃ y : HV, e = .returned y.enc ∧ y.e = x.e ∧ HOk w' (fun b => w.heap.size ≤ b ∧ b < w'.heap.size) y ∧ Fr (fun _ => False) w w' := by
  obtain ⟨a1, c1, e1⟩ := hk.lh.1.sl
  obtain ⟨a2, c2, e2⟩ := hk.lp.1.sl
  obtain ⟨a3, c3, e3⟩ := hk.ls.1.sl
  have ho := hk.o
  obtain ⟨o, xh, xp, xs, he, pi, sh⟩ := x
  dsimp only at e1 e2 e3 hx ho
  subst e1; subst e2; subst e3
  have hcl : ∀ (v : Value) (L : Its), Il w v L → (L.length : Int) ≤ 1000 → ∀ W, Fr (fun _ => False) w W → Calls Tryz.prog 54 #[v] W fun e w' => ∃ v', e = .returned v' ∧ w'.ownsRow W.heap.size 45 2 v' L.length (itCs L) ∧ Fr (fun _ => False) W w' := fun v L hv hl W hf => itClone W v L (hv.keep hf (fun _ _ _ e => e)) hl
  have hC1 := Lib.hid (hcl _ _ hk.lh.1 (by dsimp only; omega)); have hC2 := Lib.hid (hcl _ _ hk.lp.1 (by dsimp only; omega)); have hC3 := Lib.hid (hcl _ _ hk.ls.1 (by dsimp only; omega))
  have HK := Lib.hid hk
  dsimp only at hC1 hC2 hC3
  have HO1 : Hid (∀ p ∈ he, okS p.1 ∧ okI p.2) := Lib.hid (fun p hp => il_okm hk.lh.1 hp)
  have HO2 : Hid (∀ p ∈ pi, okS p.1 ∧ okI p.2) := Lib.hid (fun p hp => il_okm hk.lp.1 hp)
  have HO3 : Hid (∀ p ∈ sh, okS p.1 ∧ okI p.2) := Lib.hid (fun p hp => il_okm hk.ls.1 hp)
  dsimp only [HV.enc]
  clear hk hcl hx
  obtain ⟨n0, hn0⟩ : ∃ n0, w.heap.size = n0 := ⟨_, rfl⟩
  obtain ⟨W1, hW1⟩ : ∃ W1, (w.alloc (.cells #[.int .i64 o, .slice a1 he.length c1, .slice a2 pi.length c2, .slice a3 sh.length c3] 54)).alloc (.cells #[.int .i64 0, .slice none 0 0, .slice none 0 0, .slice none 0 0] 54) = W1 := ⟨_, rfl⟩
  have hf1 : Fr (fun _ => False) w W1 := by rw [← hW1]; exact ((Fr.refl _ w).alloc _).alloc _
  have hb0 : W1.heap[n0]? = some (.cells #[.int .i64 o, .slice a1 he.length c1, .slice a2 pi.length c2, .slice a3 sh.length c3] 54) := by rw [← hW1]; exact heap_keep (heap_at hn0.symm _) _
  have hb1 : W1.heap[n0 + 1]? = some (.cells #[.int .i64 0, .slice none 0 0, .slice none 0 0, .slice none 0 0] 54) := by rw [← hW1]; exact heap_at (by simp; omega) _
  have HF1 := Lib.hid hf1; have HB0 := Lib.hid hb0; have HB1 := Lib.hid hb1
  have x0 := cell_obj hb0 0 (.int .i64 o) rfl
  have x1 := cell_obj hb0 1 (.slice a1 he.length c1) rfl
  have x2 := cell_obj hb0 2 (.slice a2 pi.length c2) rfl
  have x3 := cell_obj hb0 3 (.slice a3 sh.length c3) rfl
  clear hf1 hb0 hb1
  have HN0 := Lib.hid hn0
  subst hn0
  go_enter Tryz.func68, Tryz.ntmps68
  go_wp2_with fail
  (try rw [hW1])
  clear hW1
  refine wp_region_eff [(4, true), (7, true), (10, true), (11, true), (12, false)] [] 12 (by kernel_rfl) rfl (by kernel_rfl) (by kernel_rfl) ?_
  apply Exists.intro
  refine ⟨?hh, ?pu, ?ef⟩
  case hh =>
    intro X
    have x0 := FrW.cell (X.fr.cell x0 (fun e => e)); have x1 := FrW.cell (X.fr.cell x1 (fun e => e)); have x2 := FrW.cell (X.fr.cell x2 (fun e => e)); have x3 := FrW.cell (X.fr.cell x3 (fun e => e))
    simp (config := { decide := true }) only [boxedF, efIdx, List.map_cons, List.map_nil, idleU, if_true, if_false, ite_true, ite_false]
    repeat (go_big_quiet_step (fail))
    exact wpQuiet_nil rfl
  case pu =>
    intro i' hi' o ho
    cases hi'
  case ef =>
    simp only [efOps, List.filterMap_cons, List.filterMap_nil, List.getElem?_cons_succ, List.getElem?_cons_zero, Option.map_some]
    clear x0 x1 x2 x3
    intro w2 hw2
    go_wp2_with (go_at_call 54; refine (hC1.out _ (HF1.out.trans hw2)).mono ?_; rintro e w3 ⟨v3, rfl, ho3, hf3⟩; have hi3 := Il.own ho3 HO1.out; obtain ⟨b3, d3, rfl⟩ := hi3.1.sl; have HI3 := Lib.hid hi3; have HF3 := Lib.hid hf3; clear ho3 hf3 hi3)
    refine ⟨HF3.out, ?_⟩
    intro w4 hw4
    have HF4 : Hid (Fr (fun _ => False) w w4) := Lib.hid (HF1.out.trans (hw2.trans (HF3.out.trans hw4)))
    go_wp2_with (go_at_call 54; refine (hC2.out _ HF4.out).mono ?_; rintro e w5 ⟨v5, rfl, ho5, hf5⟩; have hi5 := Il.own ho5 HO2.out; obtain ⟨b5, d5, rfl⟩ := hi5.1.sl; have HI5 := Lib.hid hi5; have HF5 := Lib.hid hf5; clear ho5 hf5 hi5)
    refine ⟨HF5.out, ?_⟩
    intro w6 hw6
    have HF6 : Hid (Fr (fun _ => False) w w6) := Lib.hid (HF4.out.trans (HF5.out.trans hw6))
    go_wp2_with (go_at_call 54; refine (hC3.out _ HF6.out).mono ?_; rintro e w7 ⟨v7, rfl, ho7, hf7⟩; have hi7 := Il.own ho7 HO3.out; obtain ⟨b7, d7, rfl⟩ := hi7.1.sl; have HI7 := Lib.hid hi7; have HF7 := Lib.hid hf7; clear ho7 hf7 hi7)
    refine ⟨HF7.out, ?_⟩
    intro w8 hw8
    go_wp2_with fail
    refine ⟨Fr.refl _ _, ?_⟩
    intro w9 hw9
    have HF9 : Hid (Fr (fun _ => False) w w9) := Lib.hid (HF6.out.trans (HF7.out.trans (hw8.trans hw9)))
    have hb9 : w9.heap[w.heap.size + 1]? = some (.cells #[.int .i64 0, .slice none 0 0, .slice none 0 0, .slice none 0 0] 54) := (hw2.trans (HF3.out.trans (hw4.trans (HF5.out.trans (hw6.trans (HF7.out.trans (hw8.trans hw9))))))).at_ HB1.out (fun e => e)
    have g1 : Fr (fun _ => False) w3 w9 := hw4.trans (HF5.out.trans (hw6.trans (HF7.out.trans (hw8.trans hw9))))
    have g2 : Fr (fun _ => False) w5 w9 := hw6.trans (HF7.out.trans (hw8.trans hw9))
    have g3 : Fr (fun _ => False) w7 w9 := hw8.trans hw9
    have z1 := (Array.getElem?_eq_some_iff.1 HB1.out).1
    have z2 := hw2.size
    have z4 := (HF3.out.trans hw4).size
    have z6 := (HF5.out.trans hw6).size
    have HZ : Hid (w.heap.size + 1 < w2.heap.size ∧ w2.heap.size ≤ w4.heap.size ∧ w4.heap.size ≤ w6.heap.size) := Lib.hid ⟨by omega, by omega, by omega⟩
    have HG1 := Lib.hid g1; have HG2 := Lib.hid g2; have HG3 := Lib.hid g3
    have f0 := obj_frozen hb9 0; have f1 := obj_frozen hb9 1; have f2 := obj_frozen hb9 2; have f3 := obj_frozen hb9 3
    have c0 := cell_obj hb9 0 (.int .i64 0) rfl; have c1 := cell_obj hb9 1 (.slice none 0 0) rfl; have c2 := cell_obj hb9 2 (.slice none 0 0) rfl; have c3 := cell_obj hb9 3 (.slice none 0 0) rfl
    obtain ⟨W, hW, hWh, hWf⟩ := hd_end o (.slice b3 he.length d3) (.slice b5 pi.length d5) (.slice b7 sh.length d7) hb9
    have HWH := Lib.hid hWh; have HWF := Lib.hid hWf
    clear g1 g2 g3 z1 z2 z4 z6 hw2 hw4 hw6 hw8 hw9 hb9 hWh hWf
    go_wp2_with fail
    rw [← hW]
    clear hW f0 f1 f2 f3 c0 c1 c2 c3
    intro w10 hw10
    have hb10 := hw10.at_ HWH.out (fun e => e)
    have q0 := cell_obj hb10 0 (.int .i64 o) rfl; have q1 := cell_obj hb10 1 (.slice b3 he.length d3) rfl; have q2 := cell_obj hb10 2 (.slice b5 pi.length d5) rfl; have q3 := cell_obj hb10 3 (.slice b7 sh.length d7) rfl
    have hfin : Fr (fun b => b = w.heap.size + 1) w9 w10 := HWF.out.trans (hw10.mono (fun _ _ e => e.elim))
    have HFIN := Lib.hid hfin
    clear hb10 hw10 hfin
    go_wp2_with fail
    refine bodyPost_ret (v := .agg #[.int .i64 o, .slice b3 he.length d3, .slice b5 pi.length d5, .slice b7 sh.length d7]) (by simp [results, Tryz.results68, go_sem, q0, q1, q2, q3]) rfl ?_
    have hz := HZ.out
    have key : ∀ {wa wb : World} {v : Value} {L : Its}, Il wb v L → (∀ b, v.ownBlock = some b → wa.heap.size ≤ b ∧ b < wb.heap.size) → w2.heap.size ≤ wa.heap.size → Fr (fun _ => False) wb w9 → Lb w10 (fun b => w.heap.size ≤ b ∧ b < w10.heap.size) v L := fun {wa wb v L} hi hb hs hf => by
      have h9 := hi.keep hf (fun _ _ _ e => e)
      have s1 := hf.size; have s2 := HFIN.out.size
      exact ⟨h9.keep HFIN.out (fun _ b hb' e => by have := (hb b hb').1; have e : b = w.heap.size + 1 := e; omega), fun _ b hb' => ⟨by have := (hb b hb').1; omega, by have := (hb b hb').2; omega⟩⟩
    exact ⟨⟨o, .slice b3 he.length d3, .slice b5 pi.length d5, .slice b7 sh.length d7, he, pi, sh⟩, rfl, rfl, ⟨ho, key HI3.out.1 HI3.out.2 (Nat.le_refl _) HG1.out, key HI5.out.1 HI5.out.2 (by omega) HG2.out, key HI7.out.1 HI7.out.2 (by omega) HG3.out⟩, HF9.out.trans' HFIN.out (fun b hb e => by have e : b = w.heap.size + 1 := e; omega)⟩
end Go.Proofs.YtmflpeklalgibaaGreat

namespace Go.Proofs.YtmflpeklalgibaaGreat
open Go.RowKit Go.Maps
set_option maxRecDepth 100000 in
set_option maxHeartbeats 8000000 in
theorem hHold (w : World) (g gs m : Nat) (T0 TB : Nat → Prop) (A : Stk) (l : List (Int × HV)) (o : Int) (h : SB w g gs m T0 TB A l) (ho : okI o) (hx : (holdOf l o).he.length ≤ 1000 ∧ (holdOf l o).pi.length ≤ 1000 ∧ (holdOf l o).sh.length ≤ 1000) :
    Calls Tryz.prog 37 #[.pointer (some ⟨g, 0, none⟩), .int .i64 o] w fun e w' => ∃ y : HV, e = .returned y.enc ∧ y.e = (holdOf l o).e ∧ HOk w' (fun b => w.heap.size ≤ b ∧ b < w'.heap.size) y ∧ Fr (fun _ => False) w w' := by
  have hk := (h.hold ho).1
  obtain ⟨n0, hn0⟩ : ∃ n0, w.heap.size = n0 := ⟨_, rfl⟩
  obtain ⟨W1, hW1⟩ : ∃ W1, w.alloc (.cells #[.int .i64 0, .slice none 0 0, .slice none 0 0, .slice none 0 0] 54) = W1 := ⟨_, rfl⟩
  have hf1 : Fr (fun _ => False) w W1 := by rw [← hW1]; exact (Fr.refl _ w).alloc _
  have hb1 : W1.heap[n0]? = some (.cells #[.int .i64 0, .slice none 0 0, .slice none 0 0, .slice none 0 0] 54) := by rw [← hW1]; exact heap_at hn0.symm _
  have hS := h.keep hf1 (fun _ _ e => e)
  have hh := Lib.hid (hhold W1 g gs m T0 TB A l o hS ho)
  have hm := Lib.hid (hmade W1 g m hS.cells.2)
  obtain ⟨X, hX⟩ : ∃ X, holdOf l o = X := ⟨_, rfl⟩
  rw [hX] at hk hx hh ⊢
  have hcp := Lib.hid (fun W (hf : Fr (fun _ => False) w W) => hcopied W TB X (hk.keep hf (fun _ _ e => e)) hx)
  have HF1 := Lib.hid hf1; have HB1 := Lib.hid hb1; have HN0 := Lib.hid hn0
  clear h hk hS hf1 hb1 hX
  subst hn0
  go_enter Tryz.func37, Tryz.ntmps37
  go_wp2_with (first
    | (go_at_call 64; refine hm.out.mono ?_; rintro e w' ⟨rfl, rfl⟩)
    | (go_at_call 49; refine hh.out.mono ?_; rintro e w2 ⟨rfl, hf2⟩; have HF2 := Lib.hid hf2; clear hf2)
    | (go_at_call 68; refine (hcp.out _ (HF1.out.trans HF2.out)).mono ?_; rintro e w3 ⟨⟨yo, yh, yp, ys, ye, yi, yj⟩, rfl, hy, hky, hf3⟩; obtain ⟨a1, c1, e1⟩ := hky.lh.1.sl; obtain ⟨a2, c2, e2⟩ := hky.lp.1.sl; obtain ⟨a3, c3, e3⟩ := hky.ls.1.sl; dsimp only at e1 e2 e3; subst e1; subst e2; subst e3; dsimp only [HV.enc]; have HY := Lib.hid hy; have HKY := Lib.hid hky; have HF3 := Lib.hid hf3; have hb3 := (HF2.out.trans hf3).at_ HB1.out (fun e => e); have HB3 := Lib.hid hb3; have f0 := obj_frozen hb3 0; have f1 := obj_frozen hb3 1; have f2 := obj_frozen hb3 2; have f3 := obj_frozen hb3 3; have c0' := cell_obj hb3 0 (.int .i64 0) rfl; have c1' := cell_obj hb3 1 (.slice none 0 0) rfl; have c2' := cell_obj hb3 2 (.slice none 0 0) rfl; have c3' := cell_obj hb3 3 (.slice none 0 0) rfl; clear hy hky hf3 hb3))
  obtain ⟨W, hW, hWh, hWf⟩ := hd_end yo (.slice a1 ye.length c1) (.slice a2 yi.length c2) (.slice a3 yj.length c3) HB3.out
  rw [← hW]
  have q0 := cell_obj hWh 0 (.int .i64 yo) rfl; have q1 := cell_obj hWh 1 (.slice a1 ye.length c1) rfl; have q2 := cell_obj hWh 2 (.slice a2 yi.length c2) rfl; have q3 := cell_obj hWh 3 (.slice a3 yj.length c3) rfl
  refine bodyPost_ret (v := .agg #[.int .i64 yo, .slice a1 ye.length c1, .slice a2 yi.length c2, .slice a3 yj.length c3]) (by simp [results, Tryz.results37, go_sem, q0, q1, q2, q3]) rfl ?_
  have z1 := (Array.getElem?_eq_some_iff.1 HB1.out).1
  have z2 := HF2.out.size
  have z3 := HF1.out.size
  have z4 := hWf.size
  refine ⟨⟨yo, .slice a1 ye.length c1, .slice a2 yi.length c2, .slice a3 yj.length c3, ye, yi, yj⟩, rfl, HY.out, (HKY.out.keep hWf (fun b hb e => by have e : b = w.heap.size := e; omega)).mono (fun b hb => ⟨by omega, by omega⟩), (HF1.out.trans (HF2.out.trans HF3.out)).trans' hWf (fun b hb e => by have e : b = w.heap.size := e; omega)⟩
end Go.Proofs.YtmflpeklalgibaaGreat

namespace Go.Proofs.YtmflpeklalgibaaGreat
open Go.RowKit Go.Maps
/-- Object g is a shelf: a stock that says A, and holds that say le; it owns the blocks of TS. -/
def SHE (w : World) (g : Nat) (TS : Nat → Prop) (A : Stk) (le : Hes) : Prop := ∃ l, SH w g TS A l ∧ mapE l = le
theorem SHE.lt {w : World} {g : Nat} {TS : Nat → Prop} {A : Stk} {le : Hes} (h : SHE w g TS A le) : ∀ b, TS b → b < w.heap.size := fun b hb => by
  obtain ⟨l, h1, -⟩ := h
  exact h1.lt b hb
theorem SHE.keep {S TS : Nat → Prop} {w w' : World} {g : Nat} {A : Stk} {le : Hes} (h : SHE w g TS A le) (hf : Fr S w w') (hS : ∀ b, TS b → ¬ S b) : SHE w' g TS A le := by
  obtain ⟨l, h1, h2⟩ := h
  exact ⟨l, h1.keep hf hS, h2⟩
theorem SB.she {w w' : World} {g gs m : Nat} {T0 TB T0' TB' TS : Nat → Prop} {A : Stk} {l : List (Int × HV)} {le : Hes} (h : SB w' g gs m T0' TB' A l) (hl : mapE l = le) (hT : ∀ b, TS b ↔ (b = g ∨ b = m ∨ T0 b ∨ TB b)) (hs : Shs w w' m T0 TB T0' TB') :
    SHE w' g (fun b => b = g ∨ b = m ∨ T0' b ∨ TB' b) A le ∧ Stp TS w w' (fun b => b = g ∨ b = m ∨ T0' b ∨ TB' b) := by
  obtain ⟨h1, h2, h3⟩ := hs
  refine ⟨⟨l, ⟨gs, m, T0', TB', h, fun b => Iff.rfl⟩, hl⟩, h1.mono (fun b _ e => (hT b).2 (e.elim (fun e => .inr (.inr (.inl e))) (fun e => .inr (.inl e)))), fun b hb => ?_⟩
  rcases hb with e | e | e | e
  · exact .inl ((hT b).2 (.inl e))
  · exact .inl ((hT b).2 (.inr (.inl e)))
  · exact (h2 b e).imp (fun e => (hT b).2 (.inr (.inr (.inl e)))) id
  · exact (h3 b e).imp (fun e => (hT b).2 (.inr (.inr (.inr e)))) id
/-- What a call that answers a list and an error leaves. -/
def Ans (w : World) (g : Nat) (TS : Nat → Prop) (R : (Its × Int) × Stk × Hes) (e : Ending) (w' : World) : Prop :=
  ∃ v' TS', e = .returned (.tuple #[v', .int .i64 R.1.2]) ∧ SHE w' g TS' R.2.1 R.2.2 ∧ Il w' v' R.1.1 ∧ (∀ b, v'.ownBlock = some b → w.heap.size ≤ b ∧ b < w'.heap.size ∧ ¬ TS' b) ∧ Stp TS w w' TS'
theorem ans_of {w w' : World} {g gs m : Nat} {T0 TB T0' TB' TS : Nat → Prop} {A : Stk} {l : List (Int × HV)} {R : (Its × Int) × Stk × Hes} {v' : Value} (h : SB w' g gs m T0' TB' R.2.1 l) (hlt : g < w.heap.size ∧ m < w.heap.size) (hl : mapE l = R.2.2) (hT : ∀ b, TS b ↔ (b = g ∨ b = m ∨ T0 b ∨ TB b)) (hs : Shs w w' m T0 TB T0' TB')
    (hi : Il w' v' R.1.1) (ho : ∀ b, v'.ownBlock = some b → w.heap.size ≤ b ∧ b < w'.heap.size ∧ ¬ T0' b ∧ ¬ TB' b) : Ans w g TS R (.returned (.tuple #[v', .int .i64 R.1.2])) w' := by
  obtain ⟨h1, h2⟩ := h.she hl hT hs
  refine ⟨v', _, rfl, h1, hi, fun b hb => ⟨(ho b hb).1, (ho b hb).2.1, fun e => ?_⟩, h2⟩
  have := ho b hb
  rcases e with e | e | e | e
  · omega
  · omega
  · exact this.2.2.1 e
  · exact this.2.2.2 e
section
variable {w : World} {g : Nat} {TS : Nat → Prop} {A : Stk} {le : Hes}
set_option maxRecDepth 100000 in
set_option maxHeartbeats 1000000 in
theorem eTake (o : Int) (v : Value) (L : Its) (h : SHE w g TS A le) (hk : ShOk A le) (ho : okI o) (hv : Il w v L) : Calls Tryz.prog 25 #[.pointer (some ⟨g, 0, none⟩), .int .i64 o, v] w (Ans w g TS (takeE A le o L)) := by
  obtain ⟨l, ⟨gs, m, T0, TB, h1, h2⟩, rfl⟩ := h
  refine (hTake w g gs m T0 TB A l o v L h1 hk.stk ho hv (by have := hk.len; rw [mapE_len] at this; omega) hk.row).mono ?_
  rintro e w' ⟨v', T0', TB', l', rfl, q1, q2, q3, q4, q5⟩
  exact ans_of (A := A) q1 ⟨h1.lt g (.inl rfl), h1.lt m (.inr (.inl rfl))⟩ q2 h2 q5 q3 q4
set_option maxHeartbeats 1000000 in
theorem ePick (o : Int) (h : SHE w g TS A le) (hk : ShOk A le) (ho : okI o) : Calls Tryz.prog 27 #[.pointer (some ⟨g, 0, none⟩), .int .i64 o] w (Ans w g TS (pickE A le o)) := by
  obtain ⟨l, ⟨gs, m, T0, TB, h1, h2⟩, rfl⟩ := h
  have hc : Calls Tryz.prog 55 _ w (Ans w g TS (pickE A (mapE l) o)) := (hmvP w g gs m T0 TB A l o h1 hk.stk ho (by have := hk.len; rw [mapE_len] at this; omega) hk.row).mono (by
    rintro e w' ⟨v', T0', TB', l', rfl, q1, q2, q3, q4, q5⟩
    exact ans_of (A := A) (R := pickE A (mapE l) o) q1 ⟨h1.lt g (.inl rfl), h1.lt m (.inr (.inl rfl))⟩ q2 h2 q5 q3 q4)
  obtain ⟨R, hR⟩ : ∃ R, pickE A (mapE l) o = R := ⟨_, rfl⟩
  rw [hR] at hc ⊢
  have HC := Lib.hid hc
  clear h1 h2 hk hc hR
  go_enter Tryz.func27, Tryz.ntmps27
  go_wp2_with (go_at_call 55; refine HC.out.mono ?_; rintro e w' ⟨v', TS', rfl, q1, q2, q3, q4⟩; have HA := Lib.hid (show Ans w g TS R (.returned (.tuple #[v', .int .i64 R.1.2])) w' from ⟨v', TS', rfl, q1, q2, q3, q4⟩); obtain ⟨xa, xc, rfl⟩ := q2.sl; clear q1 q2 q3 q4)
  go_ret2
  exact HA.out
set_option maxHeartbeats 1000000 in
theorem eShip (o : Int) (h : SHE w g TS A le) (hk : ShOk A le) (ho : okI o) : Calls Tryz.prog 28 #[.pointer (some ⟨g, 0, none⟩), .int .i64 o] w (Ans w g TS (shipE A le o)) := by
  obtain ⟨l, ⟨gs, m, T0, TB, h1, h2⟩, rfl⟩ := h
  have hc : Calls Tryz.prog 55 _ w (Ans w g TS (shipE A (mapE l) o)) := (hmvS w g gs m T0 TB A l o h1 hk.stk ho (by have := hk.len; rw [mapE_len] at this; omega) hk.row).mono (by
    rintro e w' ⟨v', T0', TB', l', rfl, q1, q2, q3, q4, q5⟩
    exact ans_of (A := A) (R := shipE A (mapE l) o) q1 ⟨h1.lt g (.inl rfl), h1.lt m (.inr (.inl rfl))⟩ q2 h2 q5 q3 q4)
  obtain ⟨R, hR⟩ : ∃ R, shipE A (mapE l) o = R := ⟨_, rfl⟩
  rw [hR] at hc ⊢
  have HC := Lib.hid hc
  clear h1 h2 hk hc hR
  go_enter Tryz.func28, Tryz.ntmps28
  go_wp2_with (go_at_call 55; refine HC.out.mono ?_; rintro e w' ⟨v', TS', rfl, q1, q2, q3, q4⟩; have HA := Lib.hid (show Ans w g TS R (.returned (.tuple #[v', .int .i64 R.1.2])) w' from ⟨v', TS', rfl, q1, q2, q3, q4⟩); obtain ⟨xa, xc, rfl⟩ := q2.sl; clear q1 q2 q3 q4)
  go_ret2
  exact HA.out
set_option maxHeartbeats 2000000 in
theorem eFree (o : Int) (h : SHE w g TS A le) (hk : ShOk A le) (ho : okI o) : Calls Tryz.prog 26 #[.pointer (some ⟨g, 0, none⟩), .int .i64 o] w (Ans w g TS (freeE A le o)) := by
  have hh := h
  obtain ⟨l, ⟨gs, m, T0, TB, h1, h2⟩, rfl⟩ := h
  obtain ⟨R, hR⟩ : ∃ R, freeE A (mapE l) o = R := ⟨_, rfl⟩
  have hRd : R = freeE A (mapE l) o := hR.symm
  rw [hR]
  unfold freeE at hRd
  obtain ⟨c0, c1⟩ := h1.cells
  have hm := Lib.hid (hmay w g m o c1)
  have hho := hhold w g gs m T0 TB A l o h1 ho
  have hhd := h1.hold ho
  rw [heOf_map] at hRd
  have hlen := heOf_len hk.row o
  rw [heOf_map] at hlen
  have hnoth : ∀ w', Fr (fun _ => False) w w' → ∀ c, Ans w g TS (([], c), A, mapE l) (.returned (.tuple #[.slice none 0 0, .int .i64 c])) w' := fun w' hf c =>
    ⟨_, TS, rfl, hh.keep hf (fun _ _ e => e), il_nil _, fun b hb => (by cases hb), Stp.refl hf⟩
  have HNO := Lib.hid hnoth
  have hmv0 : ∀ W, Fr (fun _ => False) w W → Calls Tryz.prog 55 #[.pointer (some ⟨g, 0, none⟩), .int .i64 o, .int .i64 3, .func (.func 56) #[] #[]] W (Ans w g TS (moveS A (mapE l) o 3 0 none)) := fun W hf => by
    refine (hmvF W g gs m T0 TB A l o (h1.keep hf (fun _ _ e => e)) hk.stk ho (by have := hk.len; rw [mapE_len] at this; omega) hk.row).mono ?_
    rintro e w' ⟨v', T0', TB', l', rfl, q1, q2, q3, q4, q5⟩
    have hg := h1.lt g (.inl rfl); have hm := h1.lt m (.inr (.inl rfl))
    have hz := hf.size
    obtain ⟨v'', TS', r1, r2, r3, r4, r5⟩ := ans_of (w := W) (A := A) (R := moveS A (mapE l) o 3 0 none) q1 ⟨by omega, by omega⟩ q2 h2 q5 q3 q4
    exact ⟨v'', TS', r1, r2, r3, fun b hb => ⟨Nat.le_trans hz (r4 b hb).1, (r4 b hb).2⟩, (hf.mono (fun _ _ e => e.elim)).trans' r5.1 (fun _ _ e => e), fun b hb => (r5.2 b hb).imp id (fun e => Nat.le_trans hz e)⟩
  obtain ⟨RM, hRM⟩ : ∃ R, moveS A (mapE l) o 3 0 none = R := ⟨_, rfl⟩
  rw [hRM] at hmv0 hRd
  have HMV := Lib.hid hmv0
  obtain ⟨⟨xo, xh, xp, xs, he, pi, sh⟩, hX⟩ : ∃ X, holdOf l o = X := ⟨_, rfl⟩
  rw [hX] at hho hRd hhd hlen
  obtain ⟨a1, d1, e1⟩ := hhd.1.lh.1.sl
  obtain ⟨a2, d2, e2⟩ := hhd.1.lp.1.sl
  obtain ⟨a3, d3, e3⟩ := hhd.1.ls.1.sl
  dsimp only at e1 e2 e3
  subst e1 e2 e3
  simp only [HV.enc, HV.e] at hho hRd hlen
  obtain ⟨n2, hn2⟩ : ∃ n, pi.length = n := ⟨_, rfl⟩
  obtain ⟨n1, hn1⟩ : ∃ n, he.length = n := ⟨_, rfl⟩
  obtain ⟨n3, hn3⟩ : ∃ n, sh.length = n := ⟨_, rfl⟩
  rw [hn1, hn2, hn3] at hho
  simp only [hn2] at hRd
  have HHO := Lib.hid hho
  have hfd : ∀ w : World, (Instr.field 54 (.agg #[.int .i64 xo, .slice a1 n1 d1, .slice a2 n2 d2, .slice a3 n3 d3]) 2).run Tryz.prog w = .ok (.slice a2 n2 d2) w := fun _ => by kernel_rfl
  clear h1 h2 hk hh hR c0 c1 hho hhd hnoth hmv0 hRM hX hn1 hn2 hn3 hlen
  by_cases hq1 : mayO o = 0
  case neg =>
    rw [if_pos hq1] at hRd
    have HR := Lib.hid hRd
    have q1 : (mayO o != 0) = true := by simpa using hq1
    clear hRd
    go_enter Tryz.func26, Tryz.ntmps26
    go_wp2_with (go_at_call 48; refine hm.out.mono ?_; rintro e w0 ⟨rfl, rfl⟩)
    go_ret2
    rw [HR.out]
    exact HNO.out _ (Fr.refl _ _) _
  rw [if_neg (by simpa using hq1)] at hRd
  rw [hq1] at hm
  clear hq1
  by_cases hq2 : 0 < n2
  case pos =>
    rw [if_pos hq2] at hRd
    have HR := Lib.hid hRd
    have hI : (0 : Int) < n2 := by omega
    clear hRd hq2
    go_enter Tryz.func26, Tryz.ntmps26
    go_wp2_with (first
      | (go_at_call 48; refine hm.out.mono ?_; rintro e w0 ⟨rfl, rfl⟩)
      | (go_at_call 49; refine HHO.out.mono ?_; rintro e w1 ⟨rfl, hf1⟩; have HF1 := Lib.hid hf1; clear hf1))
    go_ret2
    rw [HR.out]
    exact HNO.out _ HF1.out _
  rw [if_neg hq2] at hRd
  have HR := Lib.hid hRd
  have hI : ¬ (0 : Int) < n2 := by omega
  clear hRd hq2
  go_enter Tryz.func26, Tryz.ntmps26
  go_wp2_with (first
    | (go_at_call 48; refine hm.out.mono ?_; rintro e w0 ⟨rfl, rfl⟩)
    | (go_at_call 49; refine HHO.out.mono ?_; rintro e w1 ⟨rfl, hf1⟩; have HF1 := Lib.hid hf1; clear hf1)
    | (go_at_call 55; refine (HMV.out _ HF1.out).mono ?_; rintro e w' ⟨v', TS', rfl, q1, q2, q3, q4⟩; have HA := Lib.hid (show Ans w g TS RM (.returned (.tuple #[v', .int .i64 RM.1.2])) w' from ⟨v', TS', rfl, q1, q2, q3, q4⟩); obtain ⟨xa, xc, rfl⟩ := q2.sl; clear q1 q2 q3 q4))
  go_ret2
  rw [HR.out]
  exact HA.out
theorem eDo (k : Int) (v : Value) (L : Its) (h : SHE w g TS A le) (hk : ShOk A le) (hv : Il w v L) : Calls Tryz.prog 61 #[.pointer (some ⟨g, 0, none⟩), .int .i64 k, v] w fun e w' => ∃ TS', e = .returned (.int .i64 (doH A k L).1) ∧ SHE w' g TS' (doH A k L).2 le ∧ Stp TS w w' TS' := by
  obtain ⟨l, ⟨gs, m, T0, TB, h1, h2⟩, rfl⟩ := h
  refine (hDo k v L h1 hk.stk hv).mono ?_
  rintro e w' ⟨rfl, T0', q1, q2⟩
  obtain ⟨r1, r2⟩ := q1.she rfl h2 (w := w) (T0 := T0) ⟨q2.1.mono (fun _ _ e => .inl e), q2.2, fun b hb => .inl hb⟩
  exact ⟨_, rfl, r1, r2⟩
theorem eCount (s : Str) (n : Int) (h : SHE w g TS A le) (hk : ShOk A le) (hs : okS s) : Calls Tryz.prog 62 #[.pointer (some ⟨g, 0, none⟩), vS s, .int .i64 n] w fun e w' => ∃ TS', e = .returned (.tuple #[.int .i64 (countS A s n).1, .int .i64 (countS A s n).2.1]) ∧ SHE w' g TS' (countS A s n).2.2 le ∧ Stp TS w w' TS' := by
  obtain ⟨l, ⟨gs, m, T0, TB, h1, h2⟩, rfl⟩ := h
  refine (hCount s n h1 hs hk.stk).mono ?_
  rintro e w' ⟨rfl, q1, q2⟩
  obtain ⟨r1, r2⟩ := q1.she rfl h2 (w := w) (T0 := T0) ⟨q2.mono (fun _ _ e => .inl e), fun b hb => .inl hb, fun b hb => .inl hb⟩
  exact ⟨_, rfl, r1, r2⟩
/-- A hold that was copied. -/
def Hd (w' : World) (B : Nat) (v : Value) (x : HE) : Prop := ∃ y : HV, v = y.enc ∧ y.e = x ∧ HOk w' (fun b => B ≤ b ∧ b < w'.heap.size) y
theorem eHold (o : Int) (h : SHE w g TS A le) (hk : ShOk A le) (ho : okI o) : Calls Tryz.prog 37 #[.pointer (some ⟨g, 0, none⟩), .int .i64 o] w fun e w' => ∃ v, e = .returned v ∧ Hd w' w.heap.size v (heOf le o) ∧ Fr (fun _ => False) w w' := by
  obtain ⟨l, ⟨gs, m, T0, TB, h1, h2⟩, rfl⟩ := h
  have hlen := heOf_len hk.row o
  rw [heOf_map] at hlen ⊢
  refine (hHold w g gs m T0 TB A l o h1 ho (by have h3 : (holdOf l o).e.he.length ≤ 16 ∧ (holdOf l o).e.pi.length ≤ 16 ∧ (holdOf l o).e.sh.length ≤ 16 := hlen; unfold HV.e at h3; simp only at h3; omega)).mono ?_
  rintro e w' ⟨y, rfl, q1, q2, q3⟩
  exact ⟨_, rfl, ⟨y, rfl, q1, q2⟩, q3⟩
theorem eStock (h : SHE w g TS A le) : Calls Tryz.prog 33 #[.pointer (some ⟨g, 0, none⟩)] w fun e w' => ∃ g' TS', e = .returned (.pointer (some ⟨g', 0, none⟩)) ∧ SA w' g' TS' A ∧ Fr (fun _ => False) w w' ∧ ∀ b, TS' b → w.heap.size ≤ b := by
  obtain ⟨l, ⟨gs, m, T0, TB, h1, h2⟩, rfl⟩ := h
  exact hStock h1
theorem eNew (w : World) : Calls Tryz.prog 17 #[] w fun e w' => ∃ g TS, e = .returned (.pointer (some ⟨g, 0, none⟩)) ∧ SHE w' g TS [] [] ∧ (∀ b, TS b → w.heap.size ≤ b) ∧ Fr (fun _ => False) w w' := by
  refine (hNew w).mono ?_
  rintro e w' ⟨g, TS, rfl, h1, h2, h3⟩
  exact ⟨g, TS, rfl, ⟨[], h1, rfl⟩, h2, h3⟩
end
end Go.Proofs.YtmflpeklalgibaaGreat

namespace Go.Proofs.YtmflpeklalgibaaGreat
open Go.RowKit Go.Maps
theorem MK.fa {B : Nat} {w w' : World} {g : Nat} {TS : Nat → Prop} {bs : List Int} {long : Bool} (h : MK w g TS bs long) (hf : Fa B w w') : MK w' g TS bs long := by
  obtain ⟨⟨v, h1, h2, h3⟩, h4, h5, h6⟩ := h
  exact ⟨⟨v, Fa.cells hf h1, Fa.row hf h2, h3⟩, h4, fun b hb => Nat.lt_of_lt_of_le (h5 b hb) hf.size, h6⟩
end Go.Proofs.YtmflpeklalgibaaGreat

namespace Go.Proofs.YtmflpeklalgibaaGreat
open Go.RowKit Go.Maps
theorem SRok.get {r : SR} (h : SRok r) (j : Nat) : okI (r.get j) := by
  have hc := h.counted
  obtain ⟨⟨a0, a1, a2, a3, b0, b1, b2, b3, b4, b5⟩, -, -⟩ := h
  unfold okI SR.get
  split <;> omega
end Go.Proofs.YtmflpeklalgibaaGreat

namespace Go.Proofs.YtmflpeklalgibaaGreat
open Go.RowKit Go.Maps
attribute [local go_sem] Oper.semAt_some
theorem Fr.setNew {S : Nat → Prop} {w w' : World} {b : Nat} (h : Fr S w w') (hb : w.heap.size ≤ b) (u : Value) : Fr S w (w'.setCell ⟨b, 0, none⟩ u) := h.setCell (p := ⟨b, 0, none⟩) (fun e => by have e : b < w.heap.size := e; omega) u
/-- The maker, in a box of its own. -/
structure PkS (W0 : World) (n0 : Nat) (W : World) (mb gm : Nat) (TM : Nat → Prop) (bs : List Int) : Prop where
  mkr : MK W gm TM bs false
  box : W.heap[mb]? = some (.cells #[.pointer (some ⟨gm, 0, none⟩)] 125)
  nb : ¬ TM mb
  fr : Fr (fun b => n0 + 1 ≤ b) W0 W
  low : ∀ b, TM b → n0 + 1 ≤ b
  mb : n0 + 1 ≤ mb
theorem PkS.a {W0 w2 : World} {n0 gm : Nat} {TM : Nat → Prop} {bs : List Int} (h : MK w2 gm TM bs false) (hl : ∀ b, TM b → n0 + 1 ≤ b) (hf : Fr (fun b => n0 + 1 ≤ b) W0 w2) (hs : W0.heap.size = n0 + 1) :
    PkS W0 n0 (w2.alloc (.cells #[.pointer (some ⟨gm, 0, none⟩)] 125)) w2.heap.size gm TM bs :=
  ⟨h.fr ((Fr.refl (fun _ => False) _).alloc _) (fun _ _ e => e), heap_new _ _, fun e => by have := h.lt _ e; omega, hf.alloc _, hl, by have := hf.size; omega⟩
theorem PkS.b {W0 w2 : World} {n0 gm mb : Nat} {TM : Nat → Prop} {bs : List Int} (h : MK w2 gm TM bs false) (hl : ∀ b, TM b → n0 + 1 ≤ b) (hf : Fr (fun b => n0 + 1 ≤ b) W0 w2) (hs : W0.heap.size = n0 + 1) (hm : W0.heap.size ≤ mb)
    (hb : w2.heap[mb]? = some (.cells #[.pointer none] 125)) (hn : ¬ TM mb) : PkS W0 n0 (w2.setCell ⟨mb, 0, none⟩ (.pointer (some ⟨gm, 0, none⟩))) mb gm TM bs :=
  ⟨h.fr ((Fr.refl (fun b => b = mb) _).setCell (p := ⟨mb, 0, none⟩) (fun _ => rfl) _) (fun b hb e => hn (e ▸ hb)), obj_set hb 0 _, hn, Fr.setNew hf hm _, hl, by omega⟩
theorem PkS.fa {B : Nat} {W0 W W' : World} {n0 mb gm : Nat} {TM : Nat → Prop} {bs : List Int} (h : PkS W0 n0 W mb gm TM bs) (hf : Fa B W W') (hB : W0.heap.size ≤ B) : PkS W0 n0 W' mb gm TM bs :=
  ⟨h.mkr.fa hf, Fa.cells hf h.box, h.nb, Fa.old hf h.fr hB, h.low, h.mb⟩
theorem PkS.step {W0 W W' : World} {n0 mb gm : Nat} {TM TM' : Nat → Prop} {bs bs' : List Int} (h : PkS W0 n0 W mb gm TM bs) (hm : MK W' gm TM' bs' false) (hs : Stp TM W W' TM') (hsz : n0 + 1 ≤ W.heap.size) : PkS W0 n0 W' mb gm TM' bs' :=
  have hl := (Array.getElem?_eq_some_iff.1 h.box).1
  ⟨hm, hs.1.at_ h.box h.nb, fun e => (hs.2 _ e).elim h.nb (fun e => by omega), hs.fr h.fr h.low, hs.low h.low hsz, h.mb⟩
end Go.Proofs.YtmflpeklalgibaaGreat

namespace Go.Proofs.YtmflpeklalgibaaGreat
open Go.RowKit Go.Maps
set_option maxRecDepth 100000 in
theorem Bs.string {w : World} {v : Value} {bs : List Int} (h : Bs w v bs) : (convert 56 9 v).run Tryz.prog w = .ok (.string (strOfNums bs)) w := by
  rcases Nat.eq_zero_or_pos bs.length with h0 | h0
  · have : bs = [] := List.eq_nil_of_length_eq_zero h0
    subst this
    obtain ⟨_, a, c, rfl, _⟩ := h
    cases a with
    | none => exact run_convert_bytes_nil w 56 5 Tryz.underlying56 Tryz.underlying5 _ _ _ Tryz.underlying9
    | some ad =>
      rw [run_convert_bytes_string w 56 9 5 _ _ _ Tryz.underlying56 Tryz.underlying5 Tryz.underlying9]
      have := run_loadCells_list (P := Tryz.prog) w ad [] (fun j v hj => by simp at hj)
      rw [List.length_nil, run_bytesToString w ad 0 c [] (by simpa using this)]
      rfl
  · obtain ⟨ad, c, rfl⟩ := h.at0 h0
    obtain ⟨_, a, c', e, hx⟩ := h
    injection e with e1 _ _
    subst e1
    rw [run_convert_bytes_string w 56 9 5 _ _ _ Tryz.underlying56 Tryz.underlying5 Tryz.underlying9]
    have := run_loadCells_list (P := Tryz.prog) w ad (bs.map (Value.int .u8)) (fun j v hj => by
      rw [List.getElem?_map] at hj
      obtain ⟨x, hx2, rfl⟩ := Option.map_eq_some_iff.1 hj
      obtain ⟨_, _, ad', e, hc⟩ := hx j x hx2
      cases e; exact hc)
    rw [run_bytesToString w ad bs.length c bs (by simpa using this), foldl_push_bytes]
    simp [strOfNums, ByteArray.empty, ByteArray.emptyWithCapacity]
    rfl
theorem Bs.take {w : World} {a : Option Addr} {n c k : Nat} {bs : List Int} (h : Bs w (.slice a n c) bs) (hk : k ≤ n) : Bs w (.slice a k c) (bs.take k) := by
  obtain ⟨h0, a', c', e, hx⟩ := h
  injection e with e1 e2 e3
  subst e1 e3
  have hl : (bs.take k).length = k := by rw [List.length_take]; omega
  refine ⟨by omega, a, c, by rw [hl], fun i x hi => ?_⟩
  rw [List.getElem?_take] at hi
  split at hi
  · exact hx i x hi
  · cases hi
end Go.Proofs.YtmflpeklalgibaaGreat

namespace Go.Proofs.YtmflpeklalgibaaGreat
open Go.RowKit Go.Maps
end Go.Proofs.YtmflpeklalgibaaGreat

namespace Go.Proofs.YtmflpeklalgibaaGreat
open Go Go.RowKit
def wpEfS (S : Nat → Prop) (P : Program) (ops : Array Oper) (Q : Act → World → Prop) : List (Oper × Bool) → Act → World → Prop
  | [], a, w => ∀ w1, Fr (fun _ => False) w w1 → Q a w1
  | (o, cl) :: es, a, w => ∀ w1, Fr (fun _ => False) w w1 → wpList P ops (fun ex a2 w2 => ex = Exit.normal ∧ a2.defers = a.defers ∧ (cl = true → Fr S w1 w2) ∧ wpEfS S P ops Q es a2 w2) [o] a w1
section
variable {S : Nat → Prop} {P : Program} {l : List Oper} {E : Efs} {pu : List Nat} {w0 : World} {aF : Act} {Q : Exit → Act → World → Prop}
structure EInvS (S : Nat → Prop) (P : Program) (l : List Oper) (E : Efs) (pu : List Nat) (w0 : World) (aF : Act) (Q : Act → World → Prop) (listed : Array Bool) (k : Nat) (a' a af : Act) (w : World) : Prop where
  lst : ∀ (p e : Nat), (efIdx E)[p]? = some e → (listed.getD e true = true ↔ p < k)
  kle : k ≤ E.length
  df : a.defers = a'.defers ∧ af.defers = aF.defers
  sz : a.tmps.size = a'.tmps.size ∧ af.tmps.size = aF.tmps.size ∧ a.tmps.size = af.tmps.size
  don : ∀ (p e t : Nat) (o : Oper), p < k → (efIdx E)[p]? = some e → l[e]? = some o → o.dst = some t → a.tmps[t]? = af.tmps[t]?
  out : ∀ t : Nat, (∀ (p e : Nat) (o : Oper), p < k → (efIdx E)[p]? = some e → l[e]? = some o → o.dst ≠ some t) → a.tmps[t]? = a'.tmps[t]? ∧ af.tmps[t]? = aF.tmps[t]?
  eff : ∃ wk, Fr (fun _ => False) wk w ∧ wpEfS S P l.toArray Q (efOps l (E.drop k)) af wk
  cls : (Fr S w0 w) ∨ (∀ i, i < l.length → i ∉ efIdx E → listed.getD i true = false → i ∈ pu)
  lsz : listed.size = l.length
  cld : ∀ (j : Nat) (x : Oper), l[j]? = some x → listed.getD j true = true → ∀ e ∈ x.after, Region.binds .any e = true → listed.getD e.on false = true
end
end Go.Proofs.YtmflpeklalgibaaGreat

namespace Go.Proofs.YtmflpeklalgibaaGreat
open Go Go.RowKit
abbrev boxV (b : Nat) : Value := .pointer (some ⟨b, 0, none⟩)
def wpEfB (S : Nat → Prop) (P : Program) (ops : Array Oper) (Q : Act → World → Prop) (sto : Oper) (t : Tmp) (zo : Obj) (n0 : Nat) : List Oper → (Nat → Prop) → Act → World → Prop
  | [], O, a, w => ∀ w1 b, Fr (fun _ => False) w w1 → n0 ≤ b → w1.heap[b]? = some zo → ¬ O b → wpList P ops (fun ex a2 w2 => ex = Exit.normal ∧ a2.defers = a.defers ∧ Q a2 w2) [sto] (a.put (some t) (boxV b)) w1
  | o :: es, O, a, w => ∀ w1, Fr (fun _ => False) w w1 → wpList P ops (fun ex a2 w2 => ex = Exit.normal ∧ a2.defers = a.defers ∧ Fr S w1 w2 ∧ ∃ O' : Nat → Prop, Stp O w1 w2 O' ∧ (∀ b, O' b → b < w2.heap.size) ∧ wpEfB S P ops Q sto t zo n0 es O' a2 w2) [o] a w1
def efO (l : List Oper) (E : List Nat) : List Oper := E.filterMap fun e => l[e]?
def ebIdx (E : List Nat) (st q : Nat) : List Nat := E ++ [st, q]
structure EbOk (l : List Oper) (E : List Nat) (st q : Nat) (t : Tmp) : Prop where
  sel : Region.noSelect l.toArray = true
  acy : acyB .any l.toArray = true
  nod : (ebIdx E st q).Nodup
  chn : ∀ (p a b : Nat), E[p]? = some a → E[p + 1]? = some b → ∃ o, l[b]? = some o ∧ waits o a = true
  eff : ∀ e ∈ E, ∃ o, l[e]? = some o ∧ o.guard = none ∧ seesB l o = true ∧ t ∉ o.looksAt l.toArray ∧ o.dst ≠ some t
  sto : ∃ o, l[st]? = some o ∧ o.guard = none ∧ seesB l o = true ∧ o.dst = none ∧ ∀ i, i < l.length → i ≠ st → waits o i = true
  box : ∃ o, l[q]? = some o ∧ o.guard = none ∧ o.dst = some t
  ap : ∀ (i : Nat) (o : Oper), l[i]? = some o → i ∉ ebIdx E st q → ∀ e ∈ ebIdx E st q, ∀ x d, l[e]? = some x → x.dst = some d → d ∉ o.looksAt l.toArray ∧ o.dst ≠ some d
  un : ∀ (i j : Nat) (x y : Oper) (t : Tmp), l[i]? = some x → l[j]? = some y → x.dst = some t → y.dst = some t → i = j
section
variable {S : Nat → Prop} {P : Program} {l : List Oper} {E : List Nat} {st q : Nat} {t : Tmp} {zo : Obj} {n0 : Nat} {sto : Oper} {w0 : World} {aF : Act} {Q : Exit → Act → World → Prop}
structure EInvB (S : Nat → Prop) (P : Program) (l : List Oper) (E : List Nat) (st q : Nat) (t : Tmp) (zo : Obj) (n0 : Nat) (sto : Oper) (w0 : World) (aF : Act) (Q : Act → World → Prop) (listed : Array Bool) (k : Nat) (bo : Option Nat) (O : Nat → Prop) (a' a af : Act) (w : World) : Prop where
  lst : ∀ (p e : Nat), E[p]? = some e → (listed.getD e true = true ↔ p < k)
  kle : k ≤ E.length
  stl : listed.getD st true = false
  ql : listed.getD q true = true ↔ bo.isSome = true
  df : a.defers = a'.defers ∧ af.defers = aF.defers
  sz : a.tmps.size = a'.tmps.size ∧ af.tmps.size = aF.tmps.size ∧ a.tmps.size = af.tmps.size
  don : ∀ (p e u : Nat) (o : Oper), p < k → E[p]? = some e → l[e]? = some o → o.dst = some u → a.tmps[u]? = af.tmps[u]?
  out : ∀ u : Nat, u ≠ t → (∀ (p e : Nat) (o : Oper), p < k → E[p]? = some e → l[e]? = some o → o.dst ≠ some u) → a.tmps[u]? = a'.tmps[u]? ∧ af.tmps[u]? = aF.tmps[u]?
  bx : ∀ b, bo = some b → n0 ≤ b ∧ w.heap[b]? = some zo ∧ ¬ O b ∧ (t < a.tmps.size → a.tmps[t]? = some (boxV b))
  eff : ∃ wk, Fr (fun _ => False) wk w ∧ wpEfB S P l.toArray Q sto t zo n0 (efO l (E.drop k)) O af wk
  olt : ∀ b, O b → b < w.heap.size
  nw : n0 ≤ w.heap.size
  cls : Fr S w0 w
  lsz : listed.size = l.length
end
end Go.Proofs.YtmflpeklalgibaaGreat

namespace Go.Proofs.YtmflpeklalgibaaGreat
open Go.RowKit Go.Maps
abbrev mbox : Obj := .cells #[.pointer none] 125
/-- Within the region that makes the maker: what was there is as it was; the box, if it is laid. -/
structure K0 (w0 W : World) (n0 : Nat) (bo : Option Nat) : Prop where
  fr : Fr (fun b => n0 ≤ b) w0 W
  sz : n0 ≤ W.heap.size
  bx : ∀ b, bo = some b → n0 ≤ b ∧ W.heap[b]? = some mbox
structure K1 (w0 W : World) (n0 : Nat) (bo : Option Nat) (gm : Nat) (TM : Nat → Prop) (s : Mst) : Prop where
  k : K0 w0 W n0 bo
  mkr : MK W gm TM s.1 s.2
  low : ∀ b, TM b → n0 ≤ b
  nb : ∀ b, bo = some b → ¬ TM b
/-- The maker, in a box of its own. -/
structure KF (w0 W : World) (n0 mb gm : Nat) (TM : Nat → Prop) (s : Mst) : Prop where
  mkr : MK W gm TM s.1 s.2
  box : W.heap[mb]? = some (.cells #[.pointer (some ⟨gm, 0, none⟩)] 125)
  nb : ¬ TM mb
  fr : Fr (fun b => n0 ≤ b) w0 W
  low : ∀ b, TM b → n0 ≤ b
  mb : n0 ≤ mb
section
variable {w0 W W' : World} {n0 gm b : Nat} {bo : Option Nat} {TM TM' : Nat → Prop} {s s' : Mst}
theorem K0.box (h : K0 w0 W n0 none) : K0 w0 (W.alloc mbox) n0 (some W.heap.size) :=
  ⟨h.fr.alloc _, by have := h.sz; simp; omega, fun b e => by cases e; exact ⟨h.sz, heap_at rfl _⟩⟩
theorem K0.keep (h : K0 w0 W n0 bo) (hf : Fr (fun _ => False) W W') : K0 w0 W' n0 bo :=
  ⟨h.fr.trans' hf (fun _ _ e => e.elim), Nat.le_trans h.sz hf.size, fun b e => ⟨(h.bx b e).1, hf.at_ (h.bx b e).2 (fun e => e)⟩⟩
theorem K1.box (h : K1 w0 W n0 none gm TM s) : K1 w0 (W.alloc mbox) n0 (some W.heap.size) gm TM s :=
  ⟨h.k.box, h.mkr.fr ((Fr.refl (fun _ => False) _).alloc _) (fun _ _ e => e), h.low, fun b e h2 => by cases e; have := h.mkr.lt _ h2; omega⟩
theorem K1.keep (h : K1 w0 W n0 bo gm TM s) (hf : Fr (fun _ => False) W W') : K1 w0 W' n0 bo gm TM s := ⟨h.k.keep hf, h.mkr.fr hf (fun _ _ e => e), h.low, h.nb⟩
theorem K1.step (h : K1 w0 W n0 bo gm TM s) (hm : MK W' gm TM' s'.1 s'.2) (hs : Stp TM W W' TM') : K1 w0 W' n0 bo gm TM' s' :=
  ⟨⟨h.k.fr.trans' hs.1 (fun b _ e => h.low b e), Nat.le_trans h.k.sz hs.1.size, fun b e => ⟨(h.k.bx b e).1, hs.1.at_ (h.k.bx b e).2 (h.nb b e)⟩⟩, hm, fun b e => (hs.2 b e).elim (h.low b) (fun e => Nat.le_trans h.k.sz e), fun b e h2 => (hs.2 b h2).elim (h.nb b e) (fun e2 => by have := (Array.getElem?_eq_some_iff.1 (h.k.bx b e).2).1; omega)⟩
theorem K0.new (h : K0 w0 W n0 bo) : Calls Tryz.prog 70 #[] W fun e w' => ∃ gm TM, e = .returned (.pointer (some ⟨gm, 0, none⟩)) ∧ K1 w0 w' n0 bo gm TM ([], false) ∧ Stp (fun _ => False) W w' TM := by
  refine (cMNew W).mono ?_
  rintro e w' ⟨rfl, h1, h2⟩
  exact ⟨_, _, rfl, ⟨h.keep h2, h1, fun b e => by have := h.sz; omega, fun b e h3 => by have := (Array.getElem?_eq_some_iff.1 (h.bx b e).2).1; omega⟩, h2, fun b e => .inr (by omega)⟩
theorem K1.num (h : K1 w0 W n0 bo gm TM s) (n : Int) (hn : okI n) : Calls Tryz.prog 73 #[.pointer (some ⟨gm, 0, none⟩), .int .i64 n] W fun e w' => e = .returned (.pointer (some ⟨gm, 0, none⟩)) ∧ ∃ TM', K1 w0 w' n0 bo gm TM' (mkP s (numB n)) ∧ Stp TM W w' TM' := by
  refine (cMNum W gm TM s.1 s.2 n h.mkr hn).mono ?_
  rintro e w' ⟨rfl, TM', h1, h2⟩
  exact ⟨rfl, TM', h.step h1 h2, h2⟩
theorem K1.text (h : K1 w0 W n0 bo gm TM s) (t : Str) (ht : t.length ≤ 65536) : Calls Tryz.prog 71 #[.pointer (some ⟨gm, 0, none⟩), vS t] W fun e w' => e = .returned (.pointer (some ⟨gm, 0, none⟩)) ∧ ∃ TM', K1 w0 w' n0 bo gm TM' (mkP s (textB t)) ∧ Stp TM W w' TM' := by
  refine (cMText W gm TM s.1 s.2 t h.mkr ht).mono ?_
  rintro e w' ⟨rfl, TM', h1, h2⟩
  exact ⟨rfl, TM', h.step h1 h2, h2⟩
theorem K1.fin (h : K1 w0 W n0 none gm TM s) : KF w0 (W.alloc (.cells #[.pointer (some ⟨gm, 0, none⟩)] 125)) n0 W.heap.size gm TM s :=
  ⟨h.mkr.fr ((Fr.refl (fun _ => False) _).alloc _) (fun _ _ e => e), heap_at rfl _, fun e => by have := h.mkr.lt _ e; omega, h.k.fr.alloc _, h.low, h.k.sz⟩
end
end Go.Proofs.YtmflpeklalgibaaGreat

namespace Go.Proofs.YtmflpeklalgibaaGreat
open Go.RowKit Go.Maps
end Go.Proofs.YtmflpeklalgibaaGreat

namespace Go.Proofs.YtmflpeklalgibaaGreat
open Go.RowKit Go.Maps Go.Sort Go.Shelf Go.Proofs
end Go.Proofs.YtmflpeklalgibaaGreat

namespace Go.Proofs.YtmflpeklalgibaaGreat
open Go.RowKit
variable {α : Type}
end Go.Proofs.YtmflpeklalgibaaGreat

namespace Go.Proofs.YtmflpeklalgibaaGreat
open Go.RowKit Go.Maps
end Go.Proofs.YtmflpeklalgibaaGreat

namespace Go.Proofs.YtmflpeklalgibaaGreat
open Go.RowKit Go.Maps
attribute [local go_sem] Oper.semAt_some
section
variable {w0 W W' : World} {n0 mb gm B : Nat} {TM TM' : Nat → Prop} {s s' : Mst}
theorem KF.fa (h : KF w0 W n0 mb gm TM s) (hf : Fa B W W') (hB : w0.heap.size ≤ B) : KF w0 W' n0 mb gm TM s :=
  ⟨mk_fa h.mkr hf, Fa.cells hf h.box, h.nb, h.fr.trans' hf (fun b hb e => by have := e.1; omega), h.low, h.mb⟩
theorem KF.keep (h : KF w0 W n0 mb gm TM s) (hf : Fr (fun _ => False) W W') : KF w0 W' n0 mb gm TM s :=
  ⟨h.mkr.fr hf (fun _ _ e => e), hf.at_ h.box (fun e => e), h.nb, h.fr.trans' hf (fun _ _ e => e.elim), h.low, h.mb⟩
theorem KF.step (h : KF w0 W n0 mb gm TM s) (hm : MK W' gm TM' s'.1 s'.2) (hs : Stp TM W W' TM') (hz : n0 ≤ W.heap.size) : KF w0 W' n0 mb gm TM' s' :=
  have hl := (Array.getElem?_eq_some_iff.1 h.box).1
  ⟨hm, hs.1.at_ h.box h.nb, fun e => (hs.2 _ e).elim h.nb (fun e => by omega), h.fr.trans' hs.1 (fun b _ e => h.low b e), fun b e => (hs.2 b e).elim (h.low b) (fun e => Nat.le_trans hz e), h.mb⟩
theorem KF.num (h : KF w0 W n0 mb gm TM s) (hz : n0 ≤ W.heap.size) (n : Int) (hn : okI n) : Calls Tryz.prog 73 #[.pointer (some ⟨gm, 0, none⟩), .int .i64 n] W fun e w' => e = .returned (.pointer (some ⟨gm, 0, none⟩)) ∧ ∃ TM', KF w0 w' n0 mb gm TM' (mkP s (numB n)) ∧ Stp TM W w' TM' := by
  refine (cMNum W gm TM s.1 s.2 n h.mkr hn).mono ?_
  rintro e w' ⟨rfl, TM', h1, h2⟩
  exact ⟨rfl, TM', h.step h1 h2 hz, h2⟩
theorem KF.put (h : KF w0 W n0 mb gm TM s) (hz : n0 ≤ W.heap.size) (v : Value) (its : Its) (hi : Il W v its) (hT : its ≠ [] → ∀ b, v.ownBlock = some b → ¬ TM b) (hits : ∀ p ∈ its, p.1.length ≤ 16 ∧ okI p.2) :
    Calls Tryz.prog 74 #[.pointer (some ⟨gm, 0, none⟩), v] W fun e w' => (∃ v, e = .returned v) ∧ ∃ TM', KF w0 w' n0 mb gm TM' (mkAll s (liC its)) ∧ Stp TM W w' TM' := by
  refine (hPut W gm TM s v its h.mkr hi hT hits).mono ?_
  rintro e w' ⟨hv, TM', h1, h2⟩
  exact ⟨hv, TM', h.step h1 h2 hz, h2⟩
end
end Go.Proofs.YtmflpeklalgibaaGreat

namespace Go.Proofs.YtmflpeklalgibaaGreat
open Go.RowKit Go.Maps
/-- A list's counts are added to a map. -/
def addAt (H : Its) (p : Str × Int) : Its := putS ktS.lt H p.1 ((getS H p.1).getD 0 + p.2)
def addAll (H L : Its) : Its := L.foldl addAt H
theorem addAll_take {H L : Its} {k : Nat} {p : Str × Int} (h : L[k]? = some p) : addAll H (L.take (k + 1)) = addAt (addAll H (L.take k)) p := by
  unfold addAll
  rw [List.take_add_one, h, List.foldl_append]
  rfl
structure AddOk (H' H L : Its) : Prop where
  rise : RiseS H'
  get : ∀ s, getI H' s = getI H s + getI L s
  key : ∀ s, (getS H' s).isSome = true ↔ ((getS H s).isSome = true ∨ ∃ p ∈ L, p.1 = s)
theorem AddOk.refl {H : Its} (h : RiseS H) : AddOk H H [] := ⟨h, fun s => by rw [getI_nil]; omega, fun s => ⟨.inl, fun e => e.elim id (fun ⟨p, hp, _⟩ => by cases hp)⟩⟩
theorem AddOk.step {H' H L : Its} {p : Str × Int} (h : AddOk H' H L) : AddOk (addAt H' p) H (L ++ [p]) := by
  refine ⟨riseS_put h.rise, fun s => ?_, fun s => ?_⟩
  · unfold addAt
    rw [getI_rise s (riseS_put h.rise), getK_put (riseS_nd h.rise), getI_app, getI_cons, getI_nil]
    have h1 := h.get s
    rw [getI_rise s h.rise] at h1
    by_cases e : p.1 = s
    · subst e
      rw [if_pos rfl, if_pos rfl]
      simp only [Option.getD_some]
      omega
    · rw [if_neg e, if_neg e]; omega
  · unfold addAt
    rw [getK_put (riseS_nd h.rise)]
    by_cases e : p.1 = s
    · rw [if_pos e]
      exact ⟨fun _ => .inr ⟨p, by simp, e⟩, fun _ => rfl⟩
    · rw [if_neg e, h.key s]
      constructor
      · rintro (h1 | ⟨q, hq, e1⟩)
        · exact .inl h1
        · exact .inr ⟨q, by simp [hq], e1⟩
      · rintro (h1 | ⟨q, hq, e1⟩)
        · exact .inl h1
        · rcases List.mem_append.1 hq with hq | hq
          · exact .inr ⟨q, hq, e1⟩
          · simp only [List.mem_cons, List.not_mem_nil, or_false] at hq
            subst hq
            exact absurd e1 e
theorem addAll_ok' : ∀ (B A H' H : Its), AddOk H' H A → AddOk (addAll H' B) H (A ++ B)
  | [], A, H', H, h => by rw [List.append_nil]; exact h
  | p :: r, A, H', H, h => by
    have := addAll_ok' r (A ++ [p]) (addAt H' p) H h.step
    rw [List.append_assoc] at this
    exact this
theorem addAll_ok {H : Its} (L : Its) (h : RiseS H) : AddOk (addAll H L) H L := by
  have := addAll_ok' L [] H H (AddOk.refl h)
  simpa using this
theorem addAll_len (H L : Its) : (addAll H L).length ≤ H.length + L.length := by
  induction L generalizing H with
  | nil => exact Nat.le_refl _
  | cons p r ih =>
    have h1 := ih (addAt H p)
    have h2 := putK_len ktS.lt H p.1 ((getS H p.1).getD 0 + p.2)
    rw [List.length_cons]
    unfold addAll at h1 ⊢
    rw [List.foldl_cons]
    unfold addAt at h1 ⊢
    omega
/-- What the entries that are left no more say together. -/
def sumOf {ν : Type} (left : Lit → Bool) (l : List (Int × ν)) (f : ν → Int) : Int := ((l.filter fun p => !left (ktI.lit p.1)).map fun p => f p.2).sum
section
variable {ν : Type}
theorem litI_same (x y : Int) : (ktI.lit x).sameKey (ktI.lit y) = decide (x = y) := by simp [ktI, Lit.sameKey]
theorem sumOf_cons (left : Lit → Bool) (p : Int × ν) (r : List (Int × ν)) (f : ν → Int) : sumOf left (p :: r) f = (if left (ktI.lit p.1) = true then 0 else f p.2) + sumOf left r f := by
  unfold sumOf
  rw [List.filter_cons]
  cases left (ktI.lit p.1) <;> simp
theorem sumOf_rest {left : Lit → Bool} {f : ν → Int} {x : Int} : ∀ {l : List (Int × ν)}, x ∉ l.map (·.1) → sumOf (fun z => left z && !z.sameKey (ktI.lit x)) l f = sumOf left l f
  | [], _ => rfl
  | p :: r, h => by
    rw [List.map_cons, List.mem_cons, not_or] at h
    rw [sumOf_cons, sumOf_cons, sumOf_rest h.2, litI_same]
    have : decide (p.1 = x) = false := by simpa using fun e => h.1 e.symm
    rw [this]
    simp
theorem sumOf_step {left : Lit → Bool} {f : ν → Int} {x : Int} {v : ν} (hl : left (ktI.lit x) = true) : ∀ {l : List (Int × ν)}, (l.map (·.1)).Nodup → getS l x = some v →
    sumOf (fun z => left z && !z.sameKey (ktI.lit x)) l f = sumOf left l f + f v
  | [], _, h => by cases h
  | p :: r, hn, h => by
    rw [List.map_cons, List.nodup_cons] at hn
    rw [sumOf_cons, sumOf_cons, litI_same]
    by_cases e : p.1 = x
    · subst e
      simp only [getS, if_pos] at h
      cases h
      rw [sumOf_rest hn.1]
      simp [hl]
      omega
    · simp only [getS, if_neg e] at h
      rw [sumOf_step hl hn.2 h]
      simp [e]
      omega
theorem sumOf_none {left : Lit → Bool} (h : ∀ k, left k = false) (l : List (Int × ν)) (f : ν → Int) : sumOf left l f = (l.map fun p => f p.2).sum := by
  unfold sumOf
  congr 2
  exact List.filter_eq_self.2 (fun p _ => by simp [h])
theorem sumOf_all {left : Lit → Bool} {l : List (Int × ν)} (h : ∀ p ∈ l, left (ktI.lit p.1) = true) (f : ν → Int) : sumOf left l f = 0 := by
  unfold sumOf
  have : l.filter (fun p => !left (ktI.lit p.1)) = [] := List.filter_eq_nil_iff.2 (fun p hp => by simp [h p hp])
  rw [this]; rfl
theorem sumOf_le {left : Lit → Bool} {f : ν → Int} {B : Int} (hB : 0 ≤ B) : ∀ {l : List (Int × ν)}, (∀ p ∈ l, 0 ≤ f p.2 ∧ f p.2 ≤ B) → 0 ≤ sumOf left l f ∧ sumOf left l f ≤ (l.length : Int) * B
  | [], _ => ⟨Int.le_refl _, by simp [sumOf]⟩
  | p :: r, h => by
    have ih := sumOf_le (left := left) hB (l := r) (fun q hq => h q (by simp [hq]))
    have h1 := h p (by simp)
    rw [sumOf_cons, List.length_cons, Int.natCast_add, Int.add_mul]
    constructor
    · split <;> omega
    · split <;> omega
end
/-- A map that holds what the entries that are left no more say together. -/
structure SdW {ν : Type} (H : Its) (left : Lit → Bool) (l : List (Int × ν)) (f : ν → Its) : Prop where
  rise : RiseS H
  get : ∀ s, getI H s = sumOf left l (fun h => getI (f h) s)
  key : ∀ s, (getS H s).isSome = true ↔ ∃ p ∈ l, left (ktI.lit p.1) = false ∧ ∃ q ∈ f p.2, q.1 = s
  len : (H.length : Int) ≤ 16 * sumOf left l (fun _ => 1)
theorem SdW.start {ν : Type} {left : Lit → Bool} {l : List (Int × ν)} {f : ν → Its} (h : ∀ p ∈ l, left (ktI.lit p.1) = true) : SdW [] left l f :=
  ⟨List.Pairwise.nil, fun s => by rw [sumOf_all h]; rfl, fun s => ⟨fun e => (by cases e), fun ⟨p, hp, e, _⟩ => (by rw [h p hp] at e; cases e)⟩, by rw [sumOf_all h]; simp⟩
theorem SdW.step {ν : Type} {H : Its} {left : Lit → Bool} {l : List (Int × ν)} {f : ν → Its} {x : Int} {v : ν} (h : SdW H left l f) (hl : left (ktI.lit x) = true) (hn : (l.map (·.1)).Nodup) (hx : getS l x = some v) (h16 : (f v).length ≤ 16) :
    SdW (addAll H (f v)) (fun z => left z && !z.sameKey (ktI.lit x)) l f := by
  have ha := addAll_ok (f v) h.rise
  refine ⟨ha.rise, fun s => ?_, fun s => ?_, ?_⟩
  · rw [ha.get, h.get, sumOf_step hl hn hx]
  · rw [ha.key, h.key]
    constructor
    · rintro (⟨p, hp, e, q, hq, e2⟩ | ⟨q, hq, e2⟩)
      · exact ⟨p, hp, by simp [e], q, hq, e2⟩
      · exact ⟨(x, v), getK_mem hx, by simp [litI_same], q, hq, e2⟩
    · rintro ⟨p, hp, e, q, hq, e2⟩
      by_cases e3 : p.1 = x
      · have : p.2 = v := by
          have h1 := getK_of hn (x := p.1) (v := p.2) hp
          rw [e3, hx] at h1
          exact (Option.some.inj h1).symm
        exact .inr ⟨q, by rw [← this]; exact hq, e2⟩
      · rw [litI_same] at e
        simp [e3] at e
        exact .inl ⟨p, hp, e, q, hq, e2⟩
  · rw [sumOf_step hl hn hx]
    have h1 := addAll_len H (f v)
    have h2 := h.len
    omega
theorem SdW.bound {ν : Type} {H : Its} {left : Lit → Bool} {l : List (Int × ν)} {f : ν → Its} (h : SdW H left l f) (hl : l.length ≤ 256) : H.length ≤ 4096 := by
  have h1 := h.len
  have h2 := sumOf_le (left := left) (f := fun _ : ν => (1 : Int)) (B := 1) (by omega) (l := l) (fun p _ => ⟨by omega, by omega⟩)
  omega
theorem SdW.done {ν : Type} {H : Its} {left : Lit → Bool} {l : List (Int × ν)} {f : ν → Its} (h : SdW H left l f) (hl : ∀ k, left k = false) (s : Str) : (getS H s).getD 0 = (l.map fun p => getI (f p.2) s).sum ∧ ((getS H s).isSome = true ↔ ∃ p ∈ l, ∃ q ∈ f p.2, q.1 = s) := by
  constructor
  · rw [← getI_rise s h.rise, h.get, sumOf_none hl]
  · rw [h.key]
    exact ⟨fun ⟨p, hp, _, q, hq, e⟩ => ⟨p, hp, q, hq, e⟩, fun ⟨p, hp, q, hq, e⟩ => ⟨p, hp, hl _, q, hq, e⟩⟩
theorem getI_may {L : Its} (h : mayL L = true) (s : Str) : 0 ≤ getI L s ∧ getI L s ≤ 1099511627776 := by
  have hk := mayL_all h
  rw [getI_rise s hk.rise]
  cases e : getS L s with
  | none => exact ⟨Int.le_refl _, by simp⟩
  | some v => have := (hk.row _ (getK_mem e)).2; simp only [Option.getD_some]; simp only at this; omega
theorem snd_bound {ν : Type} {H : Its} {left : Lit → Bool} {l : List (Int × ν)} {f : ν → Its} {L : Its} {k : Nat} {p : Str × Int} (h : SdW H left l f) (hm : ∀ p ∈ l, mayL (f p.2) = true) (hl : l.length ≤ 256) (hL : mayL L = true) (hp : L[k]? = some p) :
    0 ≤ (getS (addAll H (L.take k)) p.1).getD 0 + p.2 ∧ (getS (addAll H (L.take k)) p.1).getD 0 + p.2 ≤ 1125899906842624 := by
  have ha := addAll_ok (L.take k) h.rise
  rw [← getI_rise p.1 ha.rise, ha.get, h.get]
  have h1 := sumOf_le (left := left) (f := fun h => getI (f h) p.1) (B := 1099511627776) (by omega) (l := l) (fun q hq => getI_may (hm q hq) p.1)
  have hpos : ∀ q ∈ L, 0 ≤ q.2 := fun q hq => by have := (mayL_all hL).row q hq; omega
  have h2 : getI L p.1 = getI (L.take (k + 1)) p.1 + getI (L.drop (k + 1)) p.1 := by rw [← getI_app, List.take_append_drop]
  have h3 : getI (L.take (k + 1)) p.1 = getI (L.take k) p.1 + p.2 := by
    rw [List.take_add_one, hp, getI_app]
    simp only [Option.toList_some]
    rw [getI_cons, if_pos rfl, getI_nil]; omega
  have h4 : 0 ≤ getI (L.drop (k + 1)) p.1 := getI_nn p.1 (fun q hq => hpos q (List.mem_of_mem_drop hq))
  have h5 : 0 ≤ getI (L.take k) p.1 := getI_nn p.1 (fun q hq => hpos q (List.mem_of_mem_take hq))
  have h6 := getI_may hL p.1
  have h7 := hpos p (List.mem_of_getElem? hp)
  have h8 : (l.length : Int) * 1099511627776 ≤ 256 * 1099511627776 := by omega
  omega
/-- How many of a good all holds together say. -/
def allE (f : HE → Its) (le : Hes) (s : Str) : Int := (le.map fun p => getI (f p.2) s).sum
/-- Are all holds together the stock's? -/
def soundE (A : Stk) (le : Hes) : Bool :=
  (A.all fun r => decide (r.2.held = allE HE.he le r.1) && decide (r.2.picked = allE HE.pi le r.1)) &&
  (le.all fun p => ((p.2.he ++ p.2.pi).all fun q => (getS A q.1).isSome))
theorem getS_del {κ ν : Type} [DecidableEq κ] (x y : κ) : ∀ l : List (κ × ν), getS (delS l x) y = if x = y then none else getS l y
  | [] => by simp [delS, getS]
  | p :: r => by
    have ih := getS_del x y r
    simp only [delS] at ih ⊢
    by_cases e : p.1 = x
    · simp only [List.filter_cons, e, decide_true, Bool.not_true, Bool.false_eq_true, if_false, getS, ih]
      by_cases e2 : x = y <;> simp [e2]
    · simp only [List.filter_cons, e, decide_false, Bool.not_false, if_true, getS, ih]
      by_cases e2 : p.1 = y
      · have : x ≠ y := fun h => e (e2.trans h.symm)
        simp [e2, this]
      · simp [e2]
/-- A map without some keys. -/
def delAll (H : Its) (ks : List Str) : Its := ks.foldl delS H
theorem delAll_take {H : Its} {ks : List Str} {k : Nat} {s : Str} (h : ks[k]? = some s) : delAll H (ks.take (k + 1)) = delS (delAll H (ks.take k)) s := by
  unfold delAll
  rw [List.take_add_one, h, List.foldl_append]
  rfl
theorem getS_delAll (s : Str) : ∀ (ks : List Str) (H : Its), getS (delAll H ks) s = if s ∈ ks then none else getS H s
  | [], H => by simp [delAll]
  | k :: r, H => by
    have ih := getS_delAll s r (delS H k)
    unfold delAll at ih ⊢
    rw [List.foldl_cons, ih, getS_del]
    by_cases h1 : s ∈ r
    · simp [h1]
    · by_cases h2 : k = s
      · subst h2; simp
      · have h3 : ¬ s = k := fun e => h2 e.symm
        simp [h1, h2, h3]
theorem delAll_nil {H : Its} {ks : List Str} : (delAll H ks).length = 0 ↔ ∀ p ∈ H, p.1 ∈ ks := by
  rw [List.length_eq_zero_iff]
  constructor
  · intro h p hp
    have h1 := getS_delAll p.1 ks H
    rw [h] at h1
    by_cases e : p.1 ∈ ks
    · exact e
    · rw [if_neg e] at h1
      exact absurd rfl (getK_none.1 h1.symm p hp)
  · intro h
    cases e : delAll H ks with
    | nil => rfl
    | cons q r =>
      have h1 := getS_delAll q.1 ks H
      rw [e] at h1
      simp only [getS, if_pos] at h1
      split at h1
      · cases h1
      · rename_i hn
        cases e2 : getS H q.1 with
        | none => rw [e2] at h1; cases h1
        | some v => exact absurd (h _ (getK_mem e2)) hn
theorem delAll_len : ∀ (ks : List Str) (H : Its), (delAll H ks).length ≤ H.length
  | [], H => Nat.le_refl _
  | k :: r, H => by
    have h1 := delAll_len r (delS H k)
    have h2 : (delS H k).length ≤ H.length := List.length_filter_le _ _
    unfold delAll at h1 ⊢
    rw [List.foldl_cons]
    omega
theorem isSome_mem {A : Stk} {s : Str} : (getS A s).isSome = true ↔ s ∈ A.map (·.1) := by
  constructor
  · intro h
    cases e : getS A s with
    | none => rw [e] at h; cases h
    | some v => exact List.mem_map.2 ⟨_, getK_mem e, rfl⟩
  · intro h
    obtain ⟨p, hp, rfl⟩ := List.mem_map.1 h
    cases e : getS A p.1 with
    | some v => rfl
    | none => exact absurd rfl (getK_none.1 e p hp)
theorem hmap_sum (f : HE → Its) (g : HV → Its) (hfg : ∀ x : HV, f x.e = g x) (l : List (Int × HV)) (s : Str) : allE f (mapE l) s = (l.map fun p => getI (g p.2) s).sum := by
  unfold allE mapE
  rw [List.map_map]
  congr 1
  exact List.map_congr_left (fun p _ => by simp [hfg])
/-- The whole test, by what the two maps hold. -/
theorem sound_of {A : Stk} {l : List (Int × HV)} {H P : Its} {left : Lit → Bool} (hw : SdW H left l HV.he) (pw : SdW P left l HV.pi) (hl : ∀ k, left k = false) :
    soundE A (mapE l) = true ↔ ((∀ r ∈ A, r.2.held = (getS H r.1).getD 0 ∧ r.2.picked = (getS P r.1).getD 0) ∧ (delAll H (A.map (·.1))).length = 0 ∧ (delAll P (A.map (·.1))).length = 0) := by
  unfold soundE
  rw [Bool.and_eq_true, List.all_eq_true, List.all_eq_true, delAll_nil, delAll_nil]
  have e1 : ∀ s, allE HE.he (mapE l) s = (getS H s).getD 0 := fun s => by rw [(hw.done hl s).1]; exact hmap_sum HE.he HV.he (fun _ => rfl) l s
  have e2 : ∀ s, allE HE.pi (mapE l) s = (getS P s).getD 0 := fun s => by rw [(pw.done hl s).1]; exact hmap_sum HE.pi HV.pi (fun _ => rfl) l s
  have k1 : ∀ s, (∃ p ∈ H, p.1 = s) ↔ ∃ p ∈ l, ∃ q ∈ p.2.he, q.1 = s := fun s => by
    rw [← (hw.done hl s).2]
    exact ⟨fun ⟨p, hp, e⟩ => by rw [← e, getK_of (riseS_nd hw.rise) (x := p.1) (v := p.2) hp]; rfl, fun h => by
      cases e : getS H s with
      | none => rw [e] at h; cases h
      | some v => exact ⟨_, getK_mem e, rfl⟩⟩
  have k2 : ∀ s, (∃ p ∈ P, p.1 = s) ↔ ∃ p ∈ l, ∃ q ∈ p.2.pi, q.1 = s := fun s => by
    rw [← (pw.done hl s).2]
    exact ⟨fun ⟨p, hp, e⟩ => by rw [← e, getK_of (riseS_nd pw.rise) (x := p.1) (v := p.2) hp]; rfl, fun h => by
      cases e : getS P s with
      | none => rw [e] at h; cases h
      | some v => exact ⟨_, getK_mem e, rfl⟩⟩
  refine and_congr ⟨fun h r hr => ?_, fun h r hr => ?_⟩ ⟨fun h => ⟨fun p hp => ?_, fun p hp => ?_⟩, fun h x hx => ?_⟩
  · have := h r hr
    rw [Bool.and_eq_true, decide_eq_true_eq, decide_eq_true_eq, e1, e2] at this
    exact this
  · rw [Bool.and_eq_true, decide_eq_true_eq, decide_eq_true_eq, e1, e2]
    exact h r hr
  · obtain ⟨y, hy, q, hq, e⟩ := (k1 p.1).1 ⟨p, hp, rfl⟩
    have := h (y.1, y.2.e) (List.mem_map.2 ⟨y, hy, rfl⟩)
    rw [List.all_eq_true] at this
    have := this q (List.mem_append_left _ hq)
    rw [isSome_mem, e] at this
    exact this
  · obtain ⟨y, hy, q, hq, e⟩ := (k2 p.1).1 ⟨p, hp, rfl⟩
    have := h (y.1, y.2.e) (List.mem_map.2 ⟨y, hy, rfl⟩)
    rw [List.all_eq_true] at this
    have := this q (List.mem_append_right _ hq)
    rw [isSome_mem, e] at this
    exact this
  · obtain ⟨y, hy, rfl⟩ := List.mem_map.1 hx
    rw [List.all_eq_true]
    intro q hq
    rw [isSome_mem]
    rcases List.mem_append.1 hq with hq | hq
    · obtain ⟨p, hp, e⟩ := (k1 q.1).2 ⟨y, hy, q, hq, rfl⟩
      rw [← e]; exact h.1 p hp
    · obtain ⟨p, hp, e⟩ := (k2 q.1).2 ⟨y, hy, q, hq, rfl⟩
      rw [← e]; exact h.2 p hp
end Go.Proofs.YtmflpeklalgibaaGreat

namespace Go.Proofs.YtmflpeklalgibaaGreat
open Go.RowKit Go.Maps
attribute [local go_sem] Oper.semAt_some
theorem ranges_fr {P : Program} {k : TypeId} {R : Value → Option (DataW Value × List MemPlace)} {b r n cnt : Nat} {D : DataW Value} {left : Lit → Bool} {S : Nat → Prop} {w w' : World} (h : w.ranges P k R b r n D left cnt) (hf : Fr S w w') (hb' : ¬ S b) (hr' : ¬ S r) : w'.ranges P k R b r n D left cnt := by
  have h1 := h.owns.lt
  have h2 := h.lt
  obtain ⟨es, clock, since, seen, c0, hb, F, hs, hD, hr, rest⟩ := h
  exact ⟨es, clock, since, seen, c0, (hf.same b h1 hb').trans hb, F, hs, hD, (hf.same r h2 hr').trans hr, rest⟩
abbrev mkD (D : Nat) : Deferred := { target := .collected D, args := #[] }
/-- A function's end behind any number of marks. -/
theorem leaves_marks {F : Fence} {n : Nat} {P : Program} {fn : Func} {tmps : Array Value} {R : Ending → World → Prop} : ∀ (Ds : List Nat) (W : World), Ds.Nodup → (∀ D ∈ Ds, W.heap[D]? = some (.deferred (some []))) →
    (∀ W', Fr (fun b => b ∈ Ds) W W' → W'.heap.size = W.heap.size → LeavesInM F n P fn tmps R [] .returning W') → LeavesInM F n P fn tmps R (Ds.map mkD) .returning W
  | [], W, _, _, h => h W (Fr.refl _ _) rfl
  | D :: r, W, hn, hd, h => by
    obtain ⟨h1, h2⟩ := List.nodup_cons.1 hn
    refine ⟨by simp, .inl ⟨D, _, rfl, run_takeDeferred (hd D (by simp)), ?_⟩⟩
    refine leaves_marks r _ h2 (fun D' hD' => ?_) (fun W' hf hz => h W' ?_ (by rw [hz]; simp))
    · rw [World.putObj_heap_other (fun e => by subst e; exact h1 hD')]
      exact hd D' (by simp [hD'])
    · exact ((Fr.refl (fun b => b ∈ D :: r) W).putObj (l := D) (fun _ => by simp) _).trans (hf.mono (fun b _ e => by simp [e]))
/-- The call's own blocks. -/
structure SdI (w0 W : World) (n0 g : Nat) (H P : Its) : Prop where
  bs : W.heap[n0]? = some (.cells #[.pointer (some ⟨g, 0, none⟩)] 59)
  rs : W.heap[n0 + 1]? = some (.cells #[.bool false] 4)
  vh : W.heap[n0 + 4]? = some (.cells #[.map (some (n0 + 2))] 76)
  vp : W.heap[n0 + 5]? = some (.cells #[.map (some (n0 + 3))] 76)
  mh : Mp Tryz.prog W 9 ktS encN (n0 + 2) H
  mp : Mp Tryz.prog W 9 ktS encN (n0 + 3) P
  fr : Fr (fun b => n0 ≤ b) w0 W
section
variable {w0 W W' : World} {n0 g : Nat} {H P : Its}
theorem SdI.keep (h : SdI w0 W n0 g H P) (hf : Fr (fun _ => False) W W') : SdI w0 W' n0 g H P :=
  ⟨hf.at_ h.bs (fun e => e), hf.at_ h.rs (fun e => e), hf.at_ h.vh (fun e => e), hf.at_ h.vp (fun e => e), hf.mp h.mh (fun e => e), hf.mp h.mp (fun e => e), h.fr.trans' hf (fun _ _ e => e.elim)⟩
theorem SdI.fr' {S : Nat → Prop} (h : SdI w0 W n0 g H P) (hf : Fr S W W') (hS : ∀ b, S b → n0 + 6 ≤ b) : SdI w0 W' n0 g H P :=
  ⟨hf.at_ h.bs (fun e => by have := hS _ e; omega), hf.at_ h.rs (fun e => by have := hS _ e; omega), hf.at_ h.vh (fun e => by have := hS _ e; omega), hf.at_ h.vp (fun e => by have := hS _ e; omega), hf.mp h.mh (fun e => by have := hS _ e; omega), hf.mp h.mp (fun e => by have := hS _ e; omega), h.fr.trans' hf (fun b _ e => by have := hS b e; omega)⟩
theorem SdI.putH {H' : Its} (h : SdI w0 W n0 g H P) (hf : Fr (fun b => b = n0 + 2) W W') (hm : Mp Tryz.prog W' 9 ktS encN (n0 + 2) H') : SdI w0 W' n0 g H' P :=
  ⟨hf.at_ h.bs (by omega), hf.at_ h.rs (by omega), hf.at_ h.vh (by omega), hf.at_ h.vp (by omega), hm, hf.mp h.mp (by omega), h.fr.trans' hf (fun b _ e => by omega)⟩
theorem SdI.putP {P' : Its} (h : SdI w0 W n0 g H P) (hf : Fr (fun b => b = n0 + 3) W W') (hm : Mp Tryz.prog W' 9 ktS encN (n0 + 3) P') : SdI w0 W' n0 g H P' :=
  ⟨hf.at_ h.bs (by omega), hf.at_ h.rs (by omega), hf.at_ h.vh (by omega), hf.at_ h.vp (by omega), hf.mp h.mh (by omega), hm, h.fr.trans' hf (fun b _ e => by omega)⟩
end
/-- The loop over the holds: what has been added so far; Ds: the marks of the ranges over functions. -/
structure SdL (w0 W : World) (n0 g m nn : Nat) (l : List (Int × HV)) (Ds : List Nat) (left : Lit → Bool) (cnt : Nat) (H P : Its) : Prop where
  sd : SdI w0 W n0 g H P
  rg : W.ranges Tryz.prog 3 heldR m (n0 + 6) nn (ktI.dat HV.enc l) left cnt
  hw : SdW H left l HV.he
  pw : SdW P left l HV.pi
  nd : Ds.Nodup
  ds : ∀ D ∈ Ds, n0 + 7 ≤ D ∧ W.heap[D]? = some (.deferred (some []))
  sz : n0 + 7 ≤ W.heap.size
set_option maxRecDepth 100000 in
set_option maxHeartbeats 16000000 in
theorem hSound (w : World) (g gs m : Nat) (T0 TB : Nat → Prop) (A : Stk) (l : List (Int × HV)) (h : SB w g gs m T0 TB A l) (hk : ShOk A (mapE l)) :
    Calls Tryz.prog 38 #[.pointer (some ⟨g, 0, none⟩)] w fun e w' => e = .returned (.bool (soundE A (mapE l))) ∧ Fr (fun _ => False) w w' := by
  obtain ⟨n0, hn0⟩ : ∃ n0, w.heap.size = n0 := ⟨_, rfl⟩
  have HS := Lib.hid hn0
  have HSB := Lib.hid h; have HK := Lib.hid hk
  have hgc : Hid (∀ W, Fr (fun b => n0 ≤ b) w W → W.cell? ⟨g, 0, none⟩ = some (.pointer (some ⟨gs, 0, none⟩)) ∧ W.cell? ⟨g, 1, none⟩ = some (.map (some m))) := Lib.hid (fun W hf => (HSB.out.keep hf (fun b hb e => by have := HSB.out.lt b hb; omega)).cells)
  have hmd : Hid (∀ W, Fr (fun b => n0 ≤ b) w W → Calls Tryz.prog 64 #[.pointer (some ⟨g, 0, none⟩)] W fun e w' => e = .returned (.bool true) ∧ W = w') := Lib.hid (fun W hf => hmade W g m (hgc.out W hf).2)
  obtain ⟨R, hR⟩ : ∃ R, soundE A (mapE l) = R := ⟨_, rfl⟩
  have HR := Lib.hid hR
  rw [hR]
  clear h hk hR
  refine (callsIn_wide (n := 0)).1 ?_
  refine callsIn_of_wp_marks Tryz.func38 rfl trivial ?_ rfl
  simp only [Tryz.ntmps38, List.size_toArray, List.length_cons, List.length_nil, Nat.reduceAdd, Nat.reduceSub, Array.replicate_succ, Array.replicate_zero, List.push_toArray, List.append_toArray, List.nil_append, List.cons_append]
  have hfn : ∀ f, Fence.wide.fn f := fun _ => trivial
  have hmm := @run_makeMap Tryz.prog
  have hdp : Fence.wide.depth.isSome = false := rfl
  obtain ⟨g0, g1⟩ := hgc.out _ ((((((((Fr.refl (fun b => n0 ≤ b) w).alloc (.cells #[.pointer (some ⟨g, 0, none⟩)] 59)).alloc (.cells #[.bool false] 4))).alloc (.map #[] 0)).alloc (.map #[] 0)).alloc (.cells #[.map (some (n0 + 2))] 76)).alloc (.cells #[.map (some (n0 + 3))] 76))
  have hmp := HSB.out.mp
  obtain ⟨nn, hown0⟩ := hmp
  have hown := hown0
  have HOWN : Hid (∀ W, Fr (fun b => n0 ≤ b) w W → W.ownsMap Tryz.prog 3 heldR m nn (ktI.dat HV.enc l)) := Lib.hid (fun W hf => by
    have hm := HSB.out.lt m (.inr (.inl rfl))
    obtain ⟨es, clock, hb, F, hs, hD⟩ := hown0
    exact ⟨es, clock, (hf.same m hm (by omega)).trans hb, F, hs, hD⟩)
  clear hown hown0
  obtain ⟨W1, hW1⟩ : ∃ W1, ((((((w.alloc (.cells #[.pointer (some ⟨g, 0, none⟩)] 59)).alloc (.cells #[.bool false] 4))).alloc (.map #[] 0)).alloc (.map #[] 0)).alloc (.cells #[.map (some (n0 + 2))] 76)).alloc (.cells #[.map (some (n0 + 3))] 76) = W1 := ⟨_, rfl⟩
  have hI0 : SdI w W1 n0 g [] [] := by
    have hm1 := Mp.made (κ := Str) (ν := Int) Tryz.prog (((w.alloc (.cells #[.pointer (some ⟨g, 0, none⟩)] 59)).alloc (.cells #[.bool false] 4))) 9 ktS encN
    have hm2 := Mp.made (κ := Str) (ν := Int) Tryz.prog (((w.alloc (.cells #[.pointer (some ⟨g, 0, none⟩)] 59)).alloc (.cells #[.bool false] 4)).alloc (.map #[] 0)) 9 ktS encN
    rw [show (((w.alloc (.cells #[.pointer (some ⟨g, 0, none⟩)] 59)).alloc (.cells #[.bool false] 4))).heap.size = n0 + 2 by simp; omega] at hm1
    rw [show (((w.alloc (.cells #[.pointer (some ⟨g, 0, none⟩)] 59)).alloc (.cells #[.bool false] 4)).alloc (.map #[] 0)).heap.size = n0 + 3 by simp; omega] at hm2
    rw [← hW1]
    exact ⟨heap_keep (heap_keep (heap_keep (heap_keep (heap_keep (heap_at hn0.symm _) _) _) _) _) _, heap_keep (heap_keep (heap_keep (heap_keep (heap_at (by simp; omega) _) _) _) _) _, heap_keep (heap_at (by simp; omega) _) _, heap_at (by simp; omega) _, ((hm1.alloc _).alloc _).alloc _, (hm2.alloc _).alloc _, ((((((Fr.refl _ w).alloc _).alloc _).alloc _).alloc _).alloc _).alloc _⟩
  have hs1 : W1.heap.size = n0 + 6 := by rw [← hW1]; simp; omega
  have HI0 := Lib.hid hI0; have HS1 := Lib.hid hs1
  have hown1 := HOWN.out W1 hI0.fr
  have b0 := cell_obj hI0.bs 0 (.pointer (some ⟨g, 0, none⟩)) rfl
  obtain ⟨g2, g3⟩ := hgc.out W1 hI0.fr
  clear hI0 hs1
  gi_wp2_with (first
    | (gi_at_call 64; refine (callsIn_wide.2 (hmd.out _ (((Fr.refl _ _).alloc _).alloc _))).mono ?_; rintro e w1 ⟨rfl, rfl⟩)
    | (gi_at_range; refine wpListIn_range_own _ rfl _ 88 rfl 3 54 kHI.keyed Tryz.underlying88 heldR m nn _ rfl hown1 ?_; intro w3 hrg3 hg3 hs3))
  rw [show n0 + 1 + 1 + 1 + 1 + 1 = n0 + 5 from rfl, show n0 + 1 + 1 + 1 + 1 = n0 + 4 from rfl, show n0 + 1 + 1 + 1 = n0 + 3 from rfl, show n0 + 1 + 1 = n0 + 2 from rfl]
  rw [HS1.out] at hrg3 ⊢
  have hf3 : Fr (fun _ => False) W1 w3 := Fr.grown hg3 (fun r e _ => by cases e)
  have hI3 := HI0.out.keep hf3
  have hs3' : w3.heap.size = n0 + 7 := by rw [hs3, HS1.out]
  have hnd : Hid ((l.map (·.1)).Nodup) := Lib.hid (by
    have h1 := HK.out.rise
    have h2 : (mapE l).map (·.1) = l.map (·.1) := by unfold mapE; rw [List.map_map]; rfl
    rw [← h2, List.Nodup, List.pairwise_map]
    exact h1.imp (fun {p q} e h => by omega))
  have hL3 : SdL w w3 n0 g m nn l [] (Maps.has (ktI.dat HV.enc l)) (Maps.size (ktI.dat HV.enc l)) [] [] := by
    have hall : ∀ p ∈ l, Maps.has (ktI.dat HV.enc l) (ktI.lit p.1) = true := fun p hp => by
      rw [dat_has kHI, getK_of hnd.out (x := p.1) (v := p.2) hp]; rfl
    exact ⟨hI3, hrg3, SdW.start hall, SdW.start hall, List.nodup_nil, fun D hD => (by cases hD), by omega⟩
  have HL3 := Lib.hid hL3
  have hmn : Hid (m < n0) := Lib.hid (by have := HSB.out.lt m (.inr (.inl rfl)); omega)
  clear hmm hrg3 hg3 hs3 hf3 hI3 hs3' hL3 g0 g1 g2 g3 b0 hown1 hW1
  refine wpIn_loop (fun a' w' => ∃ (u6 u7 u8 u9 u10 u23 u24 u25 u26 u27 u28 u29 u30 u31 u32 u33 u34 u35 u36 u37 u38 u39 u40 u41 u42 u43 u44 u45 u46 : Value) (Ds : List Nat) (left : Lit → Bool) (cnt : Nat) (H P : Its), a' = { tmps := List.toArray ((.pointer (some ⟨g, 0, none⟩)) :: (.pointer (some ⟨n0, 0, none⟩)) :: (.pointer (some ⟨n0 + 1, 0, none⟩)) :: (.pointer (some ⟨n0 + 4, 0, none⟩)) :: (.pointer (some ⟨n0 + 5, 0, none⟩)) :: (undef) :: u6 :: u7 :: u8 :: u9 :: u10 :: (undef) :: (undef) :: (.pointer (some ⟨g, 0, none⟩)) :: (.bool true) :: (.bool false) :: (.map (some (n0 + 2))) :: (.map (some (n0 + 3))) :: (.pointer (some ⟨g, 0, none⟩)) :: (.pointer (some ⟨g, 0, none⟩)) :: (.pointer (some ⟨g, 1, none⟩)) :: (.map (some m)) :: (.pointer (some ⟨n0 + 6, 0, none⟩)) :: u23 :: u24 :: u25 :: u26 :: u27 :: u28 :: u29 :: u30 :: u31 :: u32 :: u33 :: u34 :: u35 :: u36 :: u37 :: u38 :: u39 :: u40 :: u41 :: u42 :: u43 :: u44 :: u45 :: u46 :: (undef) :: (undef) :: (undef) :: (undef) :: (undef) :: (undef) :: (undef) :: (undef) :: (undef) :: (undef) :: (undef) :: (undef) :: (undef) :: (undef) :: (undef) :: (undef) :: (undef) :: (undef) :: (undef) :: (undef) :: (undef) :: (undef) :: (undef) :: (undef) :: (undef) :: (undef) :: (undef) :: (undef) :: (undef) :: (undef) :: (undef) :: (undef) :: (undef) :: (undef) :: (undef) :: (undef) :: []), defers := Ds.map mkD } ∧ SdL w w' n0 g m nn l Ds left cnt H P) (fun _ w' => w'.rangeLeft m (n0 + 6)) ⟨_, _, _, _, _, _, _, _, _, _, _, _, _, _, _, _, _, _, _, _, _, _, _, _, _, _, _, _, _, [], _, _, [], [], rfl, HL3.out⟩ ?_
  rintro _ wr ⟨u6, u7, u8, u9, u10, u23, u24, u25, u26, u27, u28, u29, u30, u31, u32, u33, u34, u35, u36, u37, u38, u39, u40, u41, u42, u43, u44, u45, u46, Ds, left, cnt, H, P, rfl, hL⟩
  have HL := Lib.hid hL
  have hrg := hL.rg
  clear hL HL3
  obtain ⟨wo, rfl⟩ : ∃ wo : World, wo = wr := ⟨_, rfl⟩
  gi_wp2_with (gi_at_next; refine wpListIn_next_ranges _ rfl _ rfl 3 kHI.keyed heldR (Value.int .i64) (id : Value → Value) (fun key kl hk => by obtain ⟨x, _, e, _⟩ := kHI.back hk; exact ⟨x, e⟩) (fun v _ _ => ⟨v, rfl⟩) m (n0 + 6) nn _ _ _ rfl hrg ?_ ?_)
  · intro _ hl0
    have hsnd := sound_of (A := A) HL.out.hw HL.out.pw hl0
    rw [HR.out] at hsnd
    have HSND := Lib.hid hsnd
    have hsd := HL.out.sd
    have hDS : Hid (Ds.Nodup ∧ ∀ D ∈ Ds, n0 + 7 ≤ D ∧ D < wo.heap.size ∧ wo.heap[D]? = some (.deferred (some []))) := Lib.hid ⟨HL.out.nd, fun D hD => by
      obtain ⟨h1, h2⟩ := HL.out.ds D hD
      exact ⟨h1, (Array.getElem?_eq_some_iff.1 h2).1, h2⟩⟩
    have hszo := HL.out.sz
    have HSD := Lib.hid hsd
    have b0 := cell_obj hsd.bs 0 (.pointer (some ⟨g, 0, none⟩)) rfl
    obtain ⟨g2, g3⟩ := hgc.out _ hsd.fr
    have hstk := fun W (hf : Fr (fun b => n0 ≤ b) w W) => (HSB.out.keep hf (fun b hb e => by have := HSB.out.lt b hb; omega)).stk
    have HSTK := Lib.hid hstk
    have hA1000 : A.length ≤ 1000 := by have := HK.out.stk.len; omega
    have hokA : Hid (∀ r ∈ A, okS r.1) := Lib.hid (fun r hr => by
      have h2 := HK.out.stk.good r hr
      unfold goodB at h2
      simp only [Bool.and_eq_true, decide_eq_true_eq] at h2
      unfold okS maxLen; omega)
    have hndA : Hid ((A.map (·.1)).Nodup) := Lib.hid (riseS_nd HK.out.stk.rise)
    have HHL : Hid (H.length ≤ 4096 ∧ P.length ≤ 4096) := Lib.hid (by
      have hlen := HK.out.len
      rw [mapE_len] at hlen
      exact ⟨HL.out.hw.bound hlen, HL.out.pw.bound hlen⟩)
    clear hl0 hsnd hrg hsd hstk HL
    gi_wp2_with (gi_at_call 59; refine (callsIn_wide.2 (sGoods (some ⟨gs, 0, none⟩) _)).mono ?_; rintro e w5 ⟨rfl, rfl⟩)
    obtain ⟨W5, hW5⟩ : ∃ W5, wo.alloc (.cells #[.pointer (some ⟨gs, 0, none⟩)] 41) = W5 := ⟨_, rfl⟩
    (try rw [hW5])
    have hF5 : Fr (fun _ => False) wo W5 := by rw [← hW5]; exact (Fr.refl _ _).alloc _
    have hB1 : Boxed W5 wo.heap.size 41 (.pointer (some ⟨gs, 0, none⟩)) := by rw [← hW5]; exact heap_at rfl _
    have hz5 : W5.heap.size = wo.heap.size + 1 := by rw [← hW5]; simp
    have hsd5 := HSD.out.keep hF5
    have hSA5 := HSTK.out W5 hsd5.fr
    have HSD5 := Lib.hid hsd5
    have HDS5 : Hid (∀ D ∈ Ds, n0 + 7 ≤ D ∧ D < wo.heap.size ∧ W5.heap[D]? = some (.deferred (some []))) := Lib.hid (fun D hD => ⟨(hDS.out.2 D hD).1, (hDS.out.2 D hD).2.1, hF5.at_ (hDS.out.2 D hD).2.2 (fun e => e)⟩)
    have hT0 : ∀ b, T0 b → b < n0 := fun b hb => by have := HSB.out.lt b (.inr (.inr (.inl hb))); omega
    clear hW5 hF5 hsd5 b0 g2 g3
    obtain ⟨ks, hks⟩ : ∃ ks, A.map (·.1) = ks := ⟨_, rfl⟩
    have hG1 := sGoods1 (fun b => b = n0 + 1 ∨ b = n0 + 2 ∨ b = n0 + 3) W5 wo.heap.size gs T0 A hB1 hSA5 hA1000 (by omega) (fun b hb e => by have := hT0 b hb; omega)
    rw [hks] at hG1
    have HKS := Lib.hid hks
    clear hB1 hSA5 hA1000 hT0 hks
    refine rangeX (w0 := W5) (X := ks) (S := fun b => b = n0 + 1 ∨ b = n0 + 2 ∨ b = n0 + 3) rfl (enters_of Tryz.func92 (by kernel_rfl) rfl)
      hG1 (Below.refl _ _) (fun b hb => by omega) (fun _ => rfl)
      (fun k _ W => SdI w W n0 g (delAll H (ks.take k)) (delAll P (ks.take k)) ∧ ∀ i r, i < k → A[i]? = some r → r.2.held = (getS H r.1).getD 0 ∧ r.2.picked = (getS P r.1).getD 0) (fun c _ _ W => c = .ret ∧ R = false ∧ W.heap[n0 + 1]? = some (.cells #[.bool false] 4))
      (fun k C W W' hs hf => ⟨⟨Fa.cells hf hs.1.bs, Fa.cells hf hs.1.rs, Fa.cells hf hs.1.vh, Fa.cells hf hs.1.vp, Fa.mp hf hs.1.mh, Fa.mp hf hs.1.mp, hs.1.fr.trans' hf (fun b hb e => by have := e.1; omega)⟩, hs.2⟩) (fun c k C W W' hs hf => ⟨hs.1, hs.2.1, Fa.cells hf hs.2.2⟩)
      ⟨by simpa [delAll] using HSD5.out, fun i r hi => by omega⟩ ?roundG ?doneG ?stopG
    case stopG =>
      rintro D c k C W hD hk ⟨rfl, hRf, hc1⟩ hr hK
      have HDW : Hid (∀ D' ∈ D :: Ds, n0 + 7 ≤ D' ∧ W.heap[D']? = some (.deferred (some []))) := Lib.hid (fun D' hD' => by
        rcases List.mem_cons.1 hD' with rfl | hD'
        · exact ⟨by omega, hK⟩
        · have h1 := HDS5.out D' hD'
          exact ⟨h1.1, hr.at_ h1.2.2 (by omega)⟩)
      have HNDW : Hid ((D :: Ds).Nodup) := Lib.hid (List.nodup_cons.2 ⟨fun e => by have := (HDS5.out D e).2.1; omega, hDS.out.1⟩)
      have HC1 := Lib.hid hc1; have HRF := Lib.hid hRf
      have HFW : Hid (Fr (fun b => n0 ≤ b) w W) := Lib.hid (HSD5.out.fr.trans' hr (fun b _ e => by omega))
      clear hr hK hc1 hRf hG1
      gi_wp2_with fail
      refine leaves_marks (D :: Ds) W HNDW.out (fun D' hD' => (HDW.out D' hD').2) (fun W' hf hz => ?_)
      have hc := cell_obj (hf.at_ HC1.out (fun e => by have := (HDW.out _ e).1; omega)) 0 (.bool false) rfl
      refine ⟨.bool false, by simp [results, Tryz.results38, go_sem, hc], by rw [HRF.out], ?_⟩
      exact (HFW.out.trans' hf (fun b hb e => by have := (HDW.out _ e).1; omega)).mono (fun b hb e => by have := HS.out; omega)
    case roundG =>
      rintro lp k s C W hx hlp hi hr
      dsimp only [encS]
      gi_wp2
      refine Took.mk (Fr.refl _ _) hi ?_
      rintro Wb ⟨hQ, hkn⟩ hrb hf hsz hsw hCC _
      obtain ⟨r, hrA, hrs⟩ : ∃ r, A[k]? = some r ∧ r.1 = s := by
        rw [← HKS.out, List.getElem?_map] at hx
        obtain ⟨r, h1, h2⟩ := Option.map_eq_some_iff.1 hx
        exact ⟨r, h1, h2⟩
      have hsk := hokA.out r (List.mem_of_getElem? hrA)
      rw [hrs] at hsk
      have hnot : s ∉ ks.take k := fun e => by
        obtain ⟨i, hi, hie⟩ := List.getElem_of_mem e
        rw [List.length_take] at hi
        rw [List.getElem_take] at hie
        have hkl := (List.getElem?_eq_some_iff.1 hx).1
        have hxe : ks[k] = s := (List.getElem?_eq_some_iff.1 hx).2
        have hnd := hndA.out
        rw [HKS.out] at hnd
        exact List.pairwise_iff_getElem.1 hnd i k (by omega) hkl (by omega) (hie.trans hxe.symm)
      have hg1 : getS (delAll H (ks.take k)) s = getS H s := by rw [getS_delAll, if_neg hnot]
      have hg2 : getS (delAll P (ks.take k)) s = getS P s := by rw [getS_delAll, if_neg hnot]
      have hrow : rowAt A s = r.2 := by
        unfold rowAt
        have := getK_of hndA.out (x := r.1) (v := r.2) (List.mem_of_getElem? hrA)
        rw [← hrs, this]; rfl
      have hbad : Hid (¬ (r.2.held = (getS H s).getD 0 ∧ r.2.picked = (getS P s).getD 0) → R = false) := Lib.hid (fun hn => by
        cases hRb : R with
        | false => rfl
        | true =>
          have := (HSND.out.1 hRb).1 r (List.mem_of_getElem? hrA)
          rw [hrs] at this
          exact absurd this hn)
      have hgood : Hid (r.2.held = (getS H s).getD 0 ∧ r.2.picked = (getS P s).getD 0 → ∀ i r', i < k + 1 → A[i]? = some r' → r'.2.held = (getS H r'.1).getD 0 ∧ r'.2.picked = (getS P r'.1).getD 0) := Lib.hid (fun hn i r' hi h1 => by
        by_cases e : i = k
        · subst e
          rw [hrA] at h1
          cases h1
          rw [hrs]; exact hn
        · exact hkn i r' (by omega) h1)
      have hLv := sLevel Wb gs T0 A s (HSTK.out Wb hQ.fr) hsk
      have hLV2 := fun W (hf : Fr (fun _ => False) Wb W) => sLevel W gs T0 A s (HSTK.out W (hQ.fr.trans' hf (fun _ _ e => e.elim))) hsk
      rw [hrow] at hLv
      obtain ⟨rr, hrr⟩ : ∃ x, r.2 = x := ⟨_, rfl⟩
      rw [hrr] at hLv hbad hgood
      clear hrr
      obtain ⟨f0, f1, f2, f3, f4, f5, f6, f7, f8, f9, f10⟩ := rr
      dsimp only [SR.lev] at hLv hbad hgood
      obtain ⟨uh, huh⟩ : ∃ u, (getS H s).getD 0 = u := ⟨_, rfl⟩
      obtain ⟨up, hup⟩ : ∃ u, (getS P s).getD 0 = u := ⟨_, rfl⟩
      rw [huh, hup] at hbad hgood
      have hlkH : Hid (∀ W, Fr (fun _ => False) Wb W → (Instr.lookup 76 (.map (some (n0 + 2))) (vS s) false).run Tryz.prog W = .ok (.int .i64 uh) W) := Lib.hid (fun W hf => by
        have := lookN (hf.mp hQ.mh (fun e => e)) hsk
        rw [hg1, huh] at this
        exact this)
      have hlkP : Hid (∀ W, Fr (fun _ => False) Wb W → (Instr.lookup 76 (.map (some (n0 + 3))) (vS s) false).run Tryz.prog W = .ok (.int .i64 up) W) := Lib.hid (fun W hf => by
        have := lookN (hf.mp hQ.mp (fun e => e)) hsk
        rw [hg2, hup] at this
        exact this)
      have HQ := Lib.hid hQ; have HLV := Lib.hid hLv; have HSK := Lib.hid hsk
      have hT1 := Lib.hid (delAll_take (H := H) hx); have hT2 := Lib.hid (delAll_take (H := P) hx)
      have b0 := cell_obj hQ.bs 0 (.pointer (some ⟨g, 0, none⟩)) rfl
      obtain ⟨g2, g3⟩ := hgc.out _ hQ.fr
      clear hi hr hrb hf hx hQ hkn hCC hLv hLV2 hg1 hg2 hrow hnot hrA hrs huh hup hsk
      by_cases hc1 : f1 = uh
      · by_cases hc2 : f2 = up
        · have hgd := Lib.hid (hgood.out ⟨hc1, hc2⟩)
          subst hc1 hc2
          gi_wp2_with (gi_at_call 12; refine (callsIn_wide.2 HLV.out).mono ?_; rintro e w4 ⟨rfl, hf4⟩; obtain ⟨W5b, hW5b⟩ : ∃ W5b, w4.alloc (.cells #[.int .i64 f0, .int .i64 f1, .int .i64 f2, .int .i64 f3] 47) = W5b := ⟨_, rfl⟩; have HF5 : Hid (Fr (fun _ => False) Wb W5b) := Lib.hid (by rw [← hW5b]; exact hf4.alloc _); have hb5 : W5b.heap[w4.heap.size]? = some (.cells #[.int .i64 f0, .int .i64 f1, .int .i64 f2, .int .i64 f3] 47) := (by rw [← hW5b]; exact heap_at rfl _); have z1 := cell_obj hb5 1 (.int .i64 f1) rfl; have z2 := cell_obj hb5 2 (.int .i64 f2) rfl; have vh5 := HF5.out.cell (cell_obj HQ.out.vh 0 (.map (some (n0 + 2))) rfl) (fun e => e); have vp5 := HF5.out.cell (cell_obj HQ.out.vp 0 (.map (some (n0 + 3))) rfl) (fun e => e); have r5 := HF5.out.cell (cell_obj HQ.out.rs 0 (.bool false) rfl) (fun e => e); have fr5 := obj_frozen (HF5.out.at_ HQ.out.rs (fun e => e)) 0; have lk5 := hlkH.out _ HF5.out; have lk6 := hlkP.out _ HF5.out; obtain ⟨w6, hd6, hm6, ht6⟩ := (HQ.out.keep HF5.out).mh.drop kSN Tryz.underlying76 HSK.out 0; have hd6' : (Builtin.delete_ #[76, 9] 0 #[.map (some (n0 + 2)), vS s]).run Tryz.prog W5b = .ok (.tuple #[]) w6 := hd6; have hQ6 := (HQ.out.keep HF5.out).putH (Fr.turned (S := fun b => b = n0 + 2) ht6 rfl) hm6; have vp6 := cell_obj hQ6.vp 0 (.map (some (n0 + 3))) rfl; obtain ⟨w7, hd7, hm7, ht7⟩ := hQ6.mp.drop kSN Tryz.underlying76 HSK.out 0; have hd7' : (Builtin.delete_ #[76, 9] 0 #[.map (some (n0 + 3)), vS s]).run Tryz.prog w6 = .ok (.tuple #[]) w7 := hd7; have HQ7 := Lib.hid (hQ6.putP (Fr.turned (S := fun b => b = n0 + 3) ht7 rfl) hm7); have HT67 : Hid (Fr (fun b => b = n0 + 1 ∨ b = n0 + 2 ∨ b = n0 + 3) W5b w7) := Lib.hid ((Fr.turned ht6 (.inr (.inl rfl))).trans (Fr.turned ht7 (.inr (.inr rfl)))); clear hf4 hb5 hQ6 hd6 hd7 hm6 hm7 ht6 ht7)
          refine ⟨((HF5.out.mono (fun _ _ e => e.elim)).trans HT67.out).mono (fun b _ e => .inl e), ?_, hgd.out⟩
          rw [hT1.out, hT2.out]
          exact HQ7.out
        · have hRf := Lib.hid (hbad.out (fun h => hc2 h.2))
          have q2 : (f2 != up) = true := by simpa using hc2
          subst hc1
          gi_wp2_with (gi_at_call 12; refine (callsIn_wide.2 HLV.out).mono ?_; rintro e w4 ⟨rfl, hf4⟩; obtain ⟨W5b, hW5b⟩ : ∃ W5b, w4.alloc (.cells #[.int .i64 f0, .int .i64 f1, .int .i64 f2, .int .i64 f3] 47) = W5b := ⟨_, rfl⟩; have HF5 : Hid (Fr (fun _ => False) Wb W5b) := Lib.hid (by rw [← hW5b]; exact hf4.alloc _); have hb5 : W5b.heap[w4.heap.size]? = some (.cells #[.int .i64 f0, .int .i64 f1, .int .i64 f2, .int .i64 f3] 47) := (by rw [← hW5b]; exact heap_at rfl _); have z1 := cell_obj hb5 1 (.int .i64 f1) rfl; have z2 := cell_obj hb5 2 (.int .i64 f2) rfl; have vh5 := HF5.out.cell (cell_obj HQ.out.vh 0 (.map (some (n0 + 2))) rfl) (fun e => e); have vp5 := HF5.out.cell (cell_obj HQ.out.vp 0 (.map (some (n0 + 3))) rfl) (fun e => e); have r5 := HF5.out.cell (cell_obj HQ.out.rs 0 (.bool false) rfl) (fun e => e); have fr5 := obj_frozen (HF5.out.at_ HQ.out.rs (fun e => e)) 0; have lk5 := hlkH.out _ HF5.out; have lk6 := hlkP.out _ HF5.out; clear hf4 hb5)
          have hF6 : Fr (fun b => b = n0 + 1) Wb (W5b.setCell ⟨n0 + 1, 0, none⟩ (.bool false)) := Fr.setCell (S := fun b => b = n0 + 1) (HF5.out.mono (fun _ _ e => e.elim)) (p := ⟨n0 + 1, 0, none⟩) (fun _ => rfl) _
          exact ⟨hF6.mono (fun b _ e => .inl (.inl e)), rfl, hRf.out, obj_set (HF5.out.at_ HQ.out.rs (fun e => e)) 0 _⟩
      · have hRf := Lib.hid (hbad.out (fun h => hc1 h.1))
        have q1 : (f1 != uh) = true := by simpa using hc1
        gi_wp2_with (gi_at_call 12; refine (callsIn_wide.2 HLV.out).mono ?_; rintro e w4 ⟨rfl, hf4⟩; obtain ⟨W5b, hW5b⟩ : ∃ W5b, w4.alloc (.cells #[.int .i64 f0, .int .i64 f1, .int .i64 f2, .int .i64 f3] 47) = W5b := ⟨_, rfl⟩; have HF5 : Hid (Fr (fun _ => False) Wb W5b) := Lib.hid (by rw [← hW5b]; exact hf4.alloc _); have hb5 : W5b.heap[w4.heap.size]? = some (.cells #[.int .i64 f0, .int .i64 f1, .int .i64 f2, .int .i64 f3] 47) := (by rw [← hW5b]; exact heap_at rfl _); have z1 := cell_obj hb5 1 (.int .i64 f1) rfl; have z2 := cell_obj hb5 2 (.int .i64 f2) rfl; have vh5 := HF5.out.cell (cell_obj HQ.out.vh 0 (.map (some (n0 + 2))) rfl) (fun e => e); have vp5 := HF5.out.cell (cell_obj HQ.out.vp 0 (.map (some (n0 + 3))) rfl) (fun e => e); have r5 := HF5.out.cell (cell_obj HQ.out.rs 0 (.bool false) rfl) (fun e => e); have fr5 := obj_frozen (HF5.out.at_ HQ.out.rs (fun e => e)) 0; have lk5 := hlkH.out _ HF5.out; have lk6 := hlkP.out _ HF5.out; clear hf4 hb5)
        have hF6 : Fr (fun b => b = n0 + 1) Wb (W5b.setCell ⟨n0 + 1, 0, none⟩ (.bool false)) := Fr.setCell (S := fun b => b = n0 + 1) (HF5.out.mono (fun _ _ e => e.elim)) (p := ⟨n0 + 1, 0, none⟩) (fun _ => rfl) _
        exact ⟨hF6.mono (fun b _ e => .inl (.inl e)), rfl, hRf.out, obj_set (HF5.out.at_ HQ.out.rs (fun e => e)) 0 _⟩
    case doneG =>
      rintro D C W hD ⟨hQ, hkn⟩ hr hK
      rw [List.take_length] at hQ
      have HDW : Hid (∀ D' ∈ D :: Ds, n0 + 7 ≤ D' ∧ W.heap[D']? = some (.deferred (some []))) := Lib.hid (fun D' hD' => by
        rcases List.mem_cons.1 hD' with rfl | hD'
        · exact ⟨by omega, hK⟩
        · have h1 := HDS5.out D' hD'
          exact ⟨h1.1, hr.at_ h1.2.2 (by omega)⟩)
      have HNDW : Hid ((D :: Ds).Nodup) := Lib.hid (List.nodup_cons.2 ⟨fun e => by have := (HDS5.out D e).2.1; omega, hDS.out.1⟩)
      have hres : Hid (R = decide ((delAll H ks).length + (delAll P ks).length = 0)) := Lib.hid (by
        have h1 := HSND.out
        rw [HKS.out] at h1
        have h2 : ∀ r ∈ A, r.2.held = (getS H r.1).getD 0 ∧ r.2.picked = (getS P r.1).getD 0 := fun r hr => by
          obtain ⟨i, hi, rfl⟩ := List.getElem_of_mem hr
          have hkl : ks.length = A.length := by rw [← HKS.out, List.length_map]
          exact hkn i _ (by omega) (List.getElem?_eq_getElem hi)
        rw [Bool.eq_iff_iff, h1, decide_eq_true_eq]
        constructor
        · rintro ⟨-, h3, h4⟩; omega
        · intro h3; exact ⟨h2, by omega, by omega⟩)
      have hlnH := fun ty => hQ.mh.len Tryz.underlying76 ty
      have hlnP := fun ty => hQ.mp.len Tryz.underlying76 ty
      have v0 := cell_obj hQ.vh 0 (.map (some (n0 + 2))) rfl
      have v1 := cell_obj hQ.vp 0 (.map (some (n0 + 3))) rfl
      have r0 := cell_obj hQ.rs 0 (.bool false) rfl
      have q0 := obj_frozen hQ.rs 0
      obtain ⟨lh, hlh⟩ : ∃ n, (delAll H ks).length = n := ⟨_, rfl⟩
      obtain ⟨lp, hlp⟩ : ∃ n, (delAll P ks).length = n := ⟨_, rfl⟩
      rw [hlh] at hlnH
      rw [hlp] at hlnP
      rw [hlh, hlp] at hres
      have hb1 : lh ≤ 4096 := by rw [← hlh]; exact Nat.le_trans (delAll_len ks H) HHL.out.1
      have hb2 : lp ≤ 4096 := by rw [← hlp]; exact Nat.le_trans (delAll_len ks P) HHL.out.2
      have hw : IntKind.i64.wrap ((lh : Int) + lp) = (lh : Int) + lp := IntWalk.i64_in _ ⟨by omega, by omega⟩
      have HQ := Lib.hid hQ
      have hdec : Hid (((lh : Int) + lp == 0) = R) := Lib.hid (by
        rw [hres.out, Bool.eq_iff_iff]
        simp
        omega)
      have HFW : Hid (Fr (fun b => n0 ≤ b) w W) := Lib.hid hQ.fr
      clear hr hK hQ hkn hG1 hlh hlp hb1 hb2 hD
      gi_wp2_with fail
      rw [hdec.out]
      have hF6 : Fr (fun b => b = n0 + 1) W (W.setCell ⟨n0 + 1, 0, none⟩ (.bool R)) := (Fr.refl (fun b => b = n0 + 1) W).setCell (p := ⟨n0 + 1, 0, none⟩) (fun _ => rfl) _
      have hc1 : (W.setCell ⟨n0 + 1, 0, none⟩ (.bool R)).heap[n0 + 1]? = some (.cells #[.bool R] 4) := obj_set HQ.out.rs 0 _
      refine leaves_marks (D :: Ds) _ HNDW.out (fun D' hD' => hF6.at_ (HDW.out D' hD').2 (by have := (HDW.out D' hD').1; omega)) (fun W' hf hz => ?_)
      have hc := cell_obj (hf.at_ hc1 (fun e => by have := (HDW.out _ e).1; omega)) 0 (.bool R) rfl
      refine ⟨.bool R, by simp [results, Tryz.results38, go_sem, hc], rfl, ?_⟩
      exact ((HFW.out.trans' hF6 (fun b _ e => by omega)).trans' hf (fun b hb e => by have := (HDW.out _ e).1; omega)).mono (fun b hb e => by have := HS.out; omega)
  · intro x c kl y1 y2 w4 cnt4 hkey hleft hRc hat hrg4 hlt4 hg4 hs4 hen
    have hkl : kl = ktI.lit x ∧ okI x := by
      obtain ⟨x', h1, h2, h3⟩ := kHI.back hkey
      have h2 : Value.int .i64 x = .int .i64 x' := h2
      injection h2 with _ h2
      subst h2
      exact ⟨h3, h1⟩
    obtain ⟨rfl, hxok⟩ := hkl
    have hgx : ∃ v, getS l x = some v ∧ c = HV.enc v := by
      have hy2 : y1 = .held c := (Prod.ext_iff.1 (Option.some.inj hRc)).1.symm
      have h1 := hat (.held (.bool true))
      have h2 := hat (.held (.bool false))
      rw [dat_at kHI, hy2] at h1 h2
      cases e : getS l x with
      | some u => rw [e] at h1; injection h1 with h1; exact ⟨u, rfl, h1.symm⟩
      | none =>
        rw [e] at h1 h2
        injection h1 with h1
        injection h2 with h2
        rw [← h1] at h2
        cases h2
    obtain ⟨v, hgv, rfl⟩ := hgx
    have hvm := getS_mem hgv
    obtain ⟨hvo, hvk⟩ := HSB.out.rows _ hvm
    have hve : HEok x v.e := HK.out.row (x, v.e) (List.mem_map.2 ⟨_, hvm, rfl⟩)
    have hrbne : ¬ (n0 + 6 = m) := by have := hmn.out; omega
    have hsd := HL.out.sd
    have hF4 : Fr (fun b => b = n0 + 6) wo w4 := Fr.grown hg4 (fun r e _ => by cases e; rfl)
    have hsd4 := hsd.fr' hF4 (fun b e => by omega)
    have hlen := HK.out.len
    rw [mapE_len] at hlen
    have hHb : Hid (∀ k p, v.he[k]? = some p → 0 ≤ (getS (addAll H (v.he.take k)) p.1).getD 0 + p.2 ∧ (getS (addAll H (v.he.take k)) p.1).getD 0 + p.2 ≤ 1125899906842624) := Lib.hid (fun k p hp => snd_bound HL.out.hw (fun q hq => (HK.out.row (q.1, q.2.e) (List.mem_map.2 ⟨q, hq, rfl⟩)).he) hlen hve.he hp)
    have hPb : Hid (∀ k p, v.pi[k]? = some p → 0 ≤ (getS (addAll P (v.pi.take k)) p.1).getD 0 + p.2 ∧ (getS (addAll P (v.pi.take k)) p.1).getD 0 + p.2 ≤ 1125899906842624) := Lib.hid (fun k p hp => snd_bound HL.out.pw (fun q hq => (HK.out.row (q.1, q.2.e) (List.mem_map.2 ⟨q, hq, rfl⟩)).pi) hlen hve.pi hp)
    have HBD1 := hHb; have HBD2 := hPb
    have HOKP1 : Hid (∀ p ∈ v.he, okS p.1 ∧ okI p.2) := Lib.hid (fun p hp => il_okm' hvk.lh.1 hp)
    have HOKP2 : Hid (∀ p ∈ v.pi, okS p.1 ∧ okI p.2) := Lib.hid (fun p hp => il_okm' hvk.lp.1 hp)
    have hl16 : v.he.length ≤ 16 ∧ v.pi.length ≤ 16 := ⟨(mayL_iff.1 hve.he).2, (mayL_iff.1 hve.pi).2⟩
    have HOW1 : Hid (v.he ≠ [] → ∀ b, v.vh.ownBlock = some b → b < n0) := Lib.hid (fun hn b hb => by have := HSB.out.ltb b (hvk.lh.2 hn b hb); omega)
    have HOW2 : Hid (v.pi ≠ [] → ∀ b, v.vp.ownBlock = some b → b < n0) := Lib.hid (fun hn b hb => by have := HSB.out.ltb b (hvk.lp.2 hn b hb); omega)
    have HIl1 : Hid (∀ W, Fr (fun b => n0 ≤ b) w W → Il W v.vh v.he) := Lib.hid (fun W hf => hvk.lh.1.keep hf (fun hn b hb e => by have := HOW1.out hn b hb; omega))
    have HIl2 : Hid (∀ W, Fr (fun b => n0 ≤ b) w W → Il W v.vp v.pi) := Lib.hid (fun W hf => hvk.lp.1.keep hf (fun hn b hb e => by have := HOW2.out hn b hb; omega))
    have HHW := Lib.hid (HL.out.hw.step hleft hnd.out hgv hl16.1); have HPW := Lib.hid (HL.out.pw.step hleft hnd.out hgv hl16.2)
    have hsz4 : n0 + 7 ≤ w4.heap.size := by rw [hs4]; exact HL.out.sz
    have HLT4 : Hid (w4.rangeLeft m (n0 + 6) < wo.rangeLeft m (n0 + 6)) := Lib.hid (by rw [hrg4.left_eq, HL.out.rg.left_eq]; exact hlt4)
    have HLH1 : Hid (H.length + v.he.length < 9223372036854775807) := Lib.hid (by have := HL.out.hw.bound hlen; omega)
    have HLH2 : Hid (P.length + v.pi.length < 9223372036854775807) := Lib.hid (by have := HL.out.pw.bound hlen; omega)
    have HDS : Hid (Ds.Nodup ∧ ∀ D ∈ Ds, n0 + 7 ≤ D ∧ D < w4.heap.size ∧ w4.heap[D]? = some (.deferred (some []))) := Lib.hid ⟨HL.out.nd, fun D hD => by
      obtain ⟨h1, h2⟩ := HL.out.ds D hD
      have h3 := (Array.getElem?_eq_some_iff.1 h2).1
      exact ⟨h1, by omega, hF4.at_ h2 (by omega)⟩⟩
    have HRG4 := Lib.hid hrg4
    obtain ⟨a1, d1, e1⟩ := hvk.lh.1.sl
    obtain ⟨a2, d2, e2⟩ := hvk.lp.1.sl
    obtain ⟨a3, d3, e3⟩ := hvk.ls.1.sl
    obtain ⟨xo, vh, vp, vs, he, pi, sh⟩ := v
    dsimp only at e1 e2 e3 hl16 HHW HPW HIl1 HIl2 HOW1 HOW2 HOKP1 HOKP2 HBD1 HBD2 HLH1 HLH2
    subst e1 e2 e3
    obtain ⟨n1, hn1⟩ : ∃ n, he.length = n := ⟨_, rfl⟩
    obtain ⟨n2, hn2⟩ : ∃ n, pi.length = n := ⟨_, rfl⟩
    obtain ⟨n3, hn3⟩ : ∃ n, sh.length = n := ⟨_, rfl⟩
    have HN1 := Lib.hid hn1; have HN2 := Lib.hid hn2
    rw [hn1] at HIl1 HOW1
    rw [hn2] at HIl2 HOW2
    have hen' : (Instr.entry (.pointer (some ⟨n0 + 6, 0, none⟩))).run Tryz.prog w4 = .ok (.tuple #[.int .i64 x, .agg #[.int .i64 xo, .slice a1 n1 d1, .slice a2 n2 d2, .slice a3 n3 d3]]) w4 := by
      rw [← hn1, ← hn2, ← hn3]; exact hen
    have HSD4 := Lib.hid hsd4
    clear hen hn1 hn2 hn3 hvm hvo hvk hve hgv hHb hPb hl16 hsd hF4 hg4 hrg4 hrg hkey hat hRc hleft hlt4 hsd4 hlen hxok hs4
    obtain ⟨hb, hhb⟩ : ∃ b, w4.heap.size = b := ⟨_, rfl⟩
    gi_wp2_with (gi_at_call 69; refine (callsIn_wide.2 (iAll _ _ _ _)).mono ?_; rintro e w5 ⟨rfl, rfl⟩)
    (try rw [World.size_alloc])
    obtain ⟨W5, hW5⟩ : ∃ W5, (w4.alloc (.cells #[.int .i64 xo, .slice a1 n1 d1, .slice a2 n2 d2, .slice a3 n3 d3] 54)).alloc (.cells #[.slice a1 n1 d1] 23) = W5 := ⟨_, rfl⟩
    (try rw [hhb])
    rw [hW5]
    have hF5 : Fr (fun _ => False) w4 W5 := by rw [← hW5]; exact ((Fr.refl _ _).alloc _).alloc _
    have hbx5 : W5.heap[hb]? = some (.cells #[.int .i64 xo, .slice a1 n1 d1, .slice a2 n2 d2, .slice a3 n3 d3] 54) := by rw [← hW5]; exact heap_keep (heap_at hhb.symm _) _
    have hB1 : Boxed W5 (hb + 1) 23 (.slice a1 n1 d1) := by rw [← hW5]; exact heap_at (by simp; omega) _
    have hz5 : W5.heap.size = hb + 2 := by rw [← hW5]; simp; omega
    have hsd5 := HSD4.out.keep hF5
    have hLi1 := HIl1.out W5 hsd5.fr
    have HSZ1 : Hid (n0 + 7 ≤ hb ∧ W5.heap.size = hb + 2) := Lib.hid ⟨by omega, hz5⟩
    have HF5 := Lib.hid hF5; have HBX5 := Lib.hid hbx5; have HSD5 := Lib.hid hsd5; have HHB := Lib.hid hhb
    clear hW5 hF5 hbx5 hz5 hsd5 hhb hsz4
    refine rangeX (w0 := W5) (X := he) (S := fun b => b = n0 + 2) rfl (enters_of Tryz.func101 (by kernel_rfl) rfl)
      (iAll1 _ W5 _ _ he hB1 hLi1 (by have := HSZ1.out; omega) (fun hl b hb e => by have := HOW1.out hl b e; omega)) (Below.refl _ _) (fun b hb => by have := HSZ1.out; omega) (fun _ => rfl)
      (fun k _ W => Mp Tryz.prog W 9 ktS encN (n0 + 2) (addAll H (he.take k))) (fun _ _ _ _ => False)
      (fun k C W W' hs hf => Fa.mp hf hs) (fun c k C W W' hs hf => hs)
      (by simpa [addAll] using HSD5.out.mh) ?round1 ?done1 ?stop1
    case stop1 => intro D c k C W hD hk hX; exact hX.elim
    case round1 =>
      rintro lp k p C W hx hlp hi hr
      dsimp only [encIt]
      gi_wp2
      refine Took.mk (Fr.refl _ _) hi ?_
      rintro Wb hM hrb hf hsz hsw hCC _
      have hkp := HOKP1.out p (List.mem_of_getElem? hx)
      have hbd := HBD1.out k p hx
      have hlk := lookN hM hkp.1
      have hT := Lib.hid (addAll_take (H := H) hx)
      have hlenH : (addAll H (he.take k)).length < 9223372036854775807 := by
        have h1 := addAll_len H (he.take k)
        have h2 := HLH1.out
        rw [List.length_take] at h1
        omega
      have hvb := cell_obj (hrb.at_ HSD5.out.vh (by omega)) 0 (.map (some (n0 + 2))) rfl
      obtain ⟨gd, n⟩ := p
      dsimp only at hkp hbd hlk hT ⊢
      unfold addAt at hT
      dsimp only at hT
      obtain ⟨u, hu⟩ : ∃ u, (getS (addAll H (he.take k)) gd).getD 0 = u := ⟨_, rfl⟩
      rw [hu] at hlk hbd hT
      obtain ⟨w5, hst5, hm5, ht5⟩ := hM.store kSN Tryz.underlying76 hlenH hkp.1 (u + n)
      have hst5' : (Instr.mapUpdate 76 (.map (some (n0 + 2))) (vS gd) (.int .i64 (u + n))).run Tryz.prog Wb = .ok () w5 := hst5
      have hw : IntKind.i64.wrap (u + n) = u + n := IntWalk.i64_in _ ⟨by omega, by omega⟩
      have HM5 := Lib.hid hm5; have HT5 := Lib.hid ht5
      clear hi hr hrb hf hx hM hm5 ht5 hst5 hu hkp hbd hlenH hCC
      gi_wp2_with fail
      refine ⟨(Fr.turned (S := fun b => b = n0 + 2) HT5.out rfl).mono (fun _ _ e => .inl e), ?_⟩
      dsimp only
      rw [hT.out]
      exact HM5.out
    case done1 =>
    rintro D1 C1 W1 hD1 hM1 hr1 hK1
    rw [List.take_length] at hM1
    have hsd6 := HSD5.out.putH hr1 hM1
    have hbx6 := hr1.at_ HBX5.out (by have := HSZ1.out; omega)
    have y2 := cell_obj hbx6 2 (.slice a2 n2 d2) rfl
    have HSD6 := Lib.hid hsd6; have HR1 := Lib.hid hr1; have HK1 := Lib.hid hK1; have HD1 := Lib.hid hD1
    have hD1l := (Array.getElem?_eq_some_iff.1 hK1).1
    clear hM1 hsd6 hbx6 hr1 hK1 hD1 hB1 hLi1
    gi_wp2_with (gi_at_call 69; refine (callsIn_wide.2 (iAll _ _ _ _)).mono ?_; rintro e w7 ⟨rfl, rfl⟩)
    obtain ⟨W7, hW7⟩ : ∃ W7, W1.alloc (.cells #[.slice a2 n2 d2] 23) = W7 := ⟨_, rfl⟩
    (try rw [hW7])
    have hF7 : Fr (fun _ => False) W1 W7 := by rw [← hW7]; exact (Fr.refl _ _).alloc _
    have hB2 : Boxed W7 W1.heap.size 23 (.slice a2 n2 d2) := by rw [← hW7]; exact heap_at rfl _
    have hz7 : W7.heap.size = W1.heap.size + 1 := by rw [← hW7]; simp
    have hsd7 := HSD6.out.keep hF7
    have hLi2 := HIl2.out W7 hsd7.fr
    have hz1 := HR1.out.size
    have HSZ2 : Hid (n0 + 9 ≤ W1.heap.size ∧ W7.heap.size = W1.heap.size + 1) := Lib.hid ⟨by have := HSZ1.out; omega, hz7⟩
    have HF7 := Lib.hid hF7; have HSD7 := Lib.hid hsd7; have HD1L := Lib.hid hD1l
    clear hW7 hF7 hz7 hsd7 hz1 hD1l
    refine rangeX (w0 := W7) (X := pi) (S := fun b => b = n0 + 3) rfl (enters_of Tryz.func101 (by kernel_rfl) rfl)
      (iAll1 _ W7 _ _ pi hB2 hLi2 (by have := HSZ2.out; omega) (fun hl b hb e => by have := HOW2.out hl b e; omega)) (Below.refl _ _) (fun b hb => by have := HSZ2.out; omega) (fun _ => rfl)
      (fun k _ W => Mp Tryz.prog W 9 ktS encN (n0 + 3) (addAll P (pi.take k))) (fun _ _ _ _ => False)
      (fun k C W W' hs hf => Fa.mp hf hs) (fun c k C W W' hs hf => hs)
      (by simpa [addAll] using HSD7.out.mp) ?round2 ?done2 ?stop2
    case stop2 => intro D c k C W hD hk hX; exact hX.elim
    case round2 =>
      rintro lp k p C W hx hlp hi hr
      dsimp only [encIt]
      gi_wp2
      refine Took.mk (Fr.refl _ _) hi ?_
      rintro Wb hM hrb hf hsz hsw hCC _
      have hkp := HOKP2.out p (List.mem_of_getElem? hx)
      have hbd := HBD2.out k p hx
      have hlk := lookN hM hkp.1
      have hT := Lib.hid (addAll_take (H := P) hx)
      have hlenH : (addAll P (pi.take k)).length < 9223372036854775807 := by
        have h1 := addAll_len P (pi.take k)
        have h2 := HLH2.out
        rw [List.length_take] at h1
        omega
      have hvb := cell_obj (hrb.at_ HSD7.out.vp (by omega)) 0 (.map (some (n0 + 3))) rfl
      obtain ⟨gd, n⟩ := p
      dsimp only at hkp hbd hlk hT ⊢
      unfold addAt at hT
      dsimp only at hT
      obtain ⟨u, hu⟩ : ∃ u, (getS (addAll P (pi.take k)) gd).getD 0 = u := ⟨_, rfl⟩
      rw [hu] at hlk hbd hT
      obtain ⟨w5, hst5, hm5, ht5⟩ := hM.store kSN Tryz.underlying76 hlenH hkp.1 (u + n)
      have hst5' : (Instr.mapUpdate 76 (.map (some (n0 + 3))) (vS gd) (.int .i64 (u + n))).run Tryz.prog Wb = .ok () w5 := hst5
      have hw : IntKind.i64.wrap (u + n) = u + n := IntWalk.i64_in _ ⟨by omega, by omega⟩
      have HM5 := Lib.hid hm5; have HT5 := Lib.hid ht5
      clear hi hr hrb hf hx hM hm5 ht5 hst5 hu hkp hbd hlenH hCC
      gi_wp2_with fail
      refine ⟨(Fr.turned (S := fun b => b = n0 + 3) HT5.out rfl).mono (fun _ _ e => .inl e), ?_⟩
      dsimp only
      rw [hT.out]
      exact HM5.out
    case done2 =>
    rintro D2 C2 W2 hD2 hM2 hr2 hK2
    rw [List.take_length] at hM2
    have hsd8 := HSD7.out.putP hr2 hM2
    have hall : Fr (fun b => b = n0 + 2 ∨ b = n0 + 3) w4 W2 := (((HF5.out.mono (fun _ _ e => e.elim)).trans' (HR1.out.mono (fun _ _ e => .inl e)) (fun _ _ e => e)).trans' (HF7.out.mono (S' := fun _ => False) (fun _ _ e => e)) (fun _ _ e => e.elim)).trans' (hr2.mono (fun _ _ e => .inr e)) (fun _ _ e => e)
    have hzz : w4.heap.size ≤ W2.heap.size := hall.size
    have hD2l := (Array.getElem?_eq_some_iff.1 hK2).1
    have hz72 := hr2.size
    have hK1' : W2.heap[D1]? = some (.deferred (some [])) := hr2.at_ (HF7.out.at_ HK1.out (fun e => e)) (by have := HD1.out; have := HSZ1.out; omega)
    have hnew : SdL w W2 n0 g m nn l (D2 :: D1 :: Ds) (fun z => left z && !z.sameKey (ktI.lit x)) cnt4 (addAll H he) (addAll P pi) := by
      have h1 := HSZ1.out; have h2 := HSZ2.out; have h3 := HD1.out; have h4 := HD1L.out; have h5 := HHB.out; have h6 := hmn.out
      refine ⟨hsd8, ranges_fr HRG4.out hall (by omega) (by omega), HHW.out, HPW.out, List.nodup_cons.2 ⟨fun e => ?_, List.nodup_cons.2 ⟨fun e => ?_, HDS.out.1⟩⟩, fun D hD => ?_, by omega⟩
      · rcases List.mem_cons.1 e with e | e
        · omega
        · have := (HDS.out.2 _ e).2.1; omega
      · have := (HDS.out.2 _ e).2.1; omega
      · rcases List.mem_cons.1 hD with rfl | hD
        · exact ⟨by omega, hK2⟩
        · rcases List.mem_cons.1 hD with rfl | hD
          · exact ⟨by omega, hK1'⟩
          · have := HDS.out.2 D hD
            exact ⟨this.1, hall.at_ this.2.2 (by omega)⟩
    have HNEW := Lib.hid hnew
    have HLT : Hid (W2.rangeLeft m (n0 + 6) < wo.rangeLeft m (n0 + 6)) := Lib.hid (by rw [HNEW.out.rg.left_eq, ← HRG4.out.left_eq]; exact HLT4.out)
    clear hsd8 hall hzz hM2 hr2 hK2 hD2 hD2l hz72 hK1' hnew hB2 hLi2
    gi_wp2_with fail
    exact ⟨⟨_, _, _, _, _, _, _, _, _, _, _, _, _, _, _, _, _, _, _, _, _, _, _, _, _, _, _, _, _, D2 :: D1 :: Ds, _, _, _, _, rfl, HNEW.out⟩, HLT.out⟩
end Go.Proofs.YtmflpeklalgibaaGreat

namespace Go.Proofs.YtmflpeklalgibaaGreat
open Go.RowKit Go.Maps
section
variable {w W W' : World} {g : Nat} {TS : Nat → Prop} {A : Stk} {le : Hes}
theorem eSound (h : SHE w g TS A le) (hk : ShOk A le) : Calls Tryz.prog 38 #[.pointer (some ⟨g, 0, none⟩)] w fun e w' => e = .returned (.bool (soundE A le)) ∧ Fr (fun _ => False) w w' := by
  obtain ⟨l, ⟨gs, m, T0, TB, h1, h2⟩, rfl⟩ := h
  exact hSound w g gs m T0 TB A l h1 hk
end
end Go.Proofs.YtmflpeklalgibaaGreat

