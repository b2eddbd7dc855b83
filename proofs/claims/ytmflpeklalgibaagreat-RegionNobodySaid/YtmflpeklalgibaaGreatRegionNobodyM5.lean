/- Texts of this claim, joined: A region that draws its order: operations that only read, and a chain of others (calls, then stores), each of which waits for the one ahead: one walk in the text's order serves; hold: copied, Hold; hold: Hold; hold: a shelf as a thing of its own (written by wip/tools/shelf08.py); cells.Maker, as long as it is not too long; stock: Pack: what it packs, plainly; stock: Pack, walked; Slices of bytes as strings; their first bytes; Bytes as a string, plainly; As XEff, where the calls of the chain may turn what the other operations do not read; A region that draws its order: operations that only read, a chain of calls (each waits for the one ahead), a box that may be laid at any time, and the store into it behind all others: one walk in the text's order serves. O: the blocks that the chain's calls own (they are made within the region); the box is none of them; hold: Pack: the region ahead of its loop; hold: no shelf; The keys of map[int]api.Hold, in order; Ranges over functions whose iterator gives values of its own making (Rep: what is given reads as); hold: Orders, the iterator; hold: Pack (written by wip/tools/pack08.py); hold: all holds together: plainly. -/
import Derived.Test.YtmflpeklalgibaaGreatRegionNobodyM4
import Derived.Test.YtmflpeklalgibaaGreatRegionNobodyM3
import Derived.Test.YtmflpeklalgibaaGreatRegionNobodyM1
import Derived.Deep.QuietTactic
import Derived.BigQuiet
import Derived.Test.YtmflpeklalgibaaGreatRegionNobodyM2
import Derived.Stop.RegionWithIn
import Derived.Shelf.Abstract
import Derived.Test.YtmflpeklalgibaaGreatShelfH
namespace Go.Proofs.YtmflpeklalgibaaGreat
open Go Go.RowKit
/-- The chain's operations: which ones, and whether what was there stays as it was. -/
abbrev Efs := List (Nat × Bool)
def efIdx (E : Efs) : List Nat := E.map (·.1)
/-- One operation of the chain behind the other, whatever was laid between. -/
def wpEf (P : Program) (ops : Array Oper) (Q : Act → World → Prop) : List (Oper × Bool) → Act → World → Prop
  | [], a, w => ∀ w1, Fr (fun _ => False) w w1 → Q a w1
  | (o, cl) :: es, a, w => ∀ w1, Fr (fun _ => False) w w1 → wpList P ops (fun ex a2 w2 => ex = Exit.normal ∧ a2.defers = a.defers ∧ (cl = true → Fr (fun _ => False) w1 w2) ∧ wpEf P ops Q es a2 w2) [o] a w1
def efOps (l : List Oper) (E : Efs) : List (Oper × Bool) := E.filterMap fun e => (l[e.1]?).map fun o => (o, e.2)
def waits (o : Oper) (j : Nat) : Bool := o.after.any fun e => Region.binds .any e && e.on == j
/-- It waits for it, or for one that waits for it .. (n steps). -/
def waitsT (l : List Oper) : Nat → Oper → Nat → Bool
  | 0, o, j => waits o j
  | n + 1, o, j => waits o j || o.after.any fun e => Region.binds .any e && (match l[e.on]? with | some x => waitsT l n x j | none => false)
/-- All that the slots it looks at are written by is waited for. -/
def seesB (l : List Oper) (o : Oper) : Bool := (o.looksAt l.toArray).all fun t => (List.range l.length).all fun j => match l[j]? with | some x => x.dst != some t || waits o j | none => true
def chainB2 (l : List Oper) : List Nat → Bool
  | a :: b :: r => (match l[b]? with | some o => waits o a | none => false) && chainB2 l (b :: r)
  | _ => true
def efB (l : List Oper) (E : Efs) (pu : List Nat) (dp : Nat) : Bool :=
  Region.noSelect l.toArray && acyB .any l.toArray && decide (efIdx E).Nodup && chainB2 l (efIdx E) &&
  E.all (fun e => match l[e.1]? with | some o => o.guard.isNone && seesB l o && (e.2 || (List.range l.length).all fun i => (efIdx E).contains i || pu.contains i || waitsT l dp o i) | none => false) &&
  pu.all (fun i => match l[i]? with | some o => o.guard.isNone && seesB l o | none => true) &&
  (List.range l.length).all (fun i => (efIdx E).contains i || (match l[i]? with | some o => (efIdx E).all (fun e => match (l[e]?).bind (·.dst) with | some d => !(o.looksAt l.toArray).contains d && o.dst != some d | none => true) | none => true)) &&
  (List.range l.length).all (fun i => (List.range l.length).all fun j => i == j || (match l[i]?, l[j]? with | some x, some y => x.dst.isNone || x.dst != y.dst | _, _ => true))
theorem waits_spec {o : Oper} {j : Nat} (h : waits o j = true) : ∃ e ∈ o.after, Region.binds .any e = true ∧ e.on = j := by
  unfold waits at h
  simp only [Array.any_eq_true, Bool.and_eq_true, beq_iff_eq] at h
  obtain ⟨i, hi, h1, h2⟩ := h
  exact ⟨_, Array.getElem_mem hi, h1, h2⟩
theorem chain_spec {l : List Oper} : ∀ {xs : List Nat}, chainB2 l xs = true → ∀ (p a b : Nat), xs[p]? = some a → xs[p + 1]? = some b → ∃ o, l[b]? = some o ∧ waits o a = true
  | [], _, _, _, _, h, _ => by simp at h
  | [_], _, p, _, _, _, h => by cases p <;> simp at h
  | x :: y :: r, hc, p, a, b, ha, hb => by
    have hc' : ((match l[y]? with | some o => waits o x | none => false) && chainB2 l (y :: r)) = true := hc
    simp only [Bool.and_eq_true] at hc'
    cases p with
    | zero =>
      simp at ha hb
      subst ha hb
      cases ho : l[y]? with
      | none => rw [ho] at hc'; cases hc'.1
      | some o => rw [ho] at hc'; exact ⟨o, rfl, hc'.1⟩
    | succ p => exact chain_spec hc'.2 p a b (by simpa using ha) (by simpa using hb)
structure EfOk (l : List Oper) (E : Efs) (pu : List Nat) (dp : Nat) : Prop where
  sel : Region.noSelect l.toArray = true
  acy : acyB .any l.toArray = true
  nod : (efIdx E).Nodup
  chn : ∀ (p a b : Nat), (efIdx E)[p]? = some a → (efIdx E)[p + 1]? = some b → ∃ o, l[b]? = some o ∧ waits o a = true
  eff : ∀ e ∈ E, ∃ o, l[e.1]? = some o ∧ o.guard = none ∧ seesB l o = true ∧ (e.2 = false → ∀ i, i < l.length → i ∉ efIdx E → i ∉ pu → waitsT l dp o i = true)
  pur : ∀ i ∈ pu, ∀ o, l[i]? = some o → o.guard = none ∧ seesB l o = true
  ap : ∀ (i : Nat) (o : Oper), l[i]? = some o → i ∉ efIdx E → ∀ e ∈ efIdx E, ∀ x d, l[e]? = some x → x.dst = some d → d ∉ o.looksAt l.toArray ∧ o.dst ≠ some d
  un : ∀ (i j : Nat) (x y : Oper) (t : Tmp), l[i]? = some x → l[j]? = some y → x.dst = some t → y.dst = some t → i = j
theorem efB_ok {l : List Oper} {E : Efs} {pu : List Nat} {dp : Nat} (h : efB l E pu dp = true) : EfOk l E pu dp := by
  unfold efB at h
  simp only [Bool.and_eq_true, List.all_eq_true, decide_eq_true_eq] at h
  obtain ⟨⟨⟨⟨⟨⟨⟨h1, h2⟩, h3⟩, h4⟩, h5⟩, h6⟩, h7⟩, h8⟩ := h
  refine ⟨h1, h2, h3, chain_spec h4, fun e he => ?_, fun i hi o ho => ?_, fun i o hi hn e he x d hx hd => ?_, fun i j x y t hi hj hx hy => ?_⟩
  · have := h5 e he
    cases ho : l[e.1]? with
    | none => rw [ho] at this; cases this
    | some o =>
      rw [ho] at this
      simp only [Bool.and_eq_true, Bool.or_eq_true, Option.isNone_iff_eq_none, List.all_eq_true] at this
      obtain ⟨⟨g1, g2⟩, g3⟩ := this
      refine ⟨o, rfl, g1, g2, fun hf i hi hn hp => ?_⟩
      rcases g3 with g3 | g3
      · rw [hf] at g3; cases g3
      · rcases g3 i (List.mem_range.2 hi) with (g | g) | g
        · exact absurd (by simpa using g) hn
        · exact absurd (by simpa using g) hp
        · exact g
  · have := h6 i hi
    rw [ho] at this
    simp only [Bool.and_eq_true, Option.isNone_iff_eq_none] at this
    exact this
  · have hil := (List.getElem?_eq_some_iff.1 hi).1
    have := h7 i (List.mem_range.2 hil)
    rw [hi] at this
    simp only [Bool.or_eq_true, List.all_eq_true] at this
    rcases this with h | h
    · exact absurd (by simpa using h) hn
    · have := h e he
      rw [hx] at this
      simp only [Option.bind_some, hd] at this
      simp at this
      exact ⟨this.1, this.2⟩
  · have hil := (List.getElem?_eq_some_iff.1 hi).1
    have hjl := (List.getElem?_eq_some_iff.1 hj).1
    have := h8 i (List.mem_range.2 hil) j (List.mem_range.2 hjl)
    rw [hi, hj] at this
    simp only [Bool.or_eq_true, beq_iff_eq] at this
    rcases this with h | h
    · exact h
    · rw [hx, hy] at h; simp at h
theorem sees_spec {l : List Oper} {o : Oper} (h : seesB l o = true) {t j : Nat} {x : Oper} (ht : t ∈ o.looksAt l.toArray) (hx : l[j]? = some x) (hd : x.dst = some t) : waits o j = true := by
  unfold seesB at h
  simp only [List.all_eq_true] at h
  have := h t ht j (List.mem_range.2 (List.getElem?_eq_some_iff.1 hx).1)
  rw [hx] at this
  simp only [Bool.or_eq_true] at this
  rcases this with h | h
  · rw [hd] at h; simp at h
  · exact h
/-- From one act to another that it cannot tell from it. -/
theorem eff_conv {P : Program} {o : Oper} {a ar : Act} {w : World} {K : Act → World → Prop} {K' : Act → World → Prop} {Q1 Q : Exit → Act → World → Prop} (he : execOp ar.eval o = execOp a.eval o) (hK : ∀ v w2, K (a.put o.dst v) w2 → K' (ar.put o.dst v) w2)
    (hKd : ∀ x w2, K x w2 → x.defers = a.defers) (hQ : ∀ ex x w2, Q1 ex x w2 → ex = Exit.normal) (h : o.wp P a w K Q1) : o.wp P ar w K' Q := by
  unfold Oper.wp at *
  rw [he]
  generalize (execOp a.eval o).run P w = r at *
  have hnl : ¬ LetsOut Q1 := fun ⟨x, y, hq⟩ => by have := hQ _ _ _ hq; cases this
  cases r with
  | ok n w' =>
    cases n with
    | value v => exact hK _ _ h
    | skip => exact hK _ _ h
    | defer d =>
      have := hKd _ _ h
      rw [put_dfr] at this
      have h2 : (d :: a.defers).length = a.defers.length := congrArg List.length this
      simp at h2
    | enter f args => exact Calls.mono h (fun e w'' he => by
        cases e with
        | returned v => exact hK _ _ he
        | panicked c => have := hQ _ _ _ he; cases this
        | outgrown => exact absurd he hnl)
    | row r args => exact Rows.mono h (fun v w'' he => hK _ _ he)
    | _ => exact h
  | halt x w' =>
    cases x with
    | panic v => have := hQ _ _ _ h; cases this
    | _ => exact h
/-- How far the chain is: k of its operations are done; af: the act as at the end, with what they gave. -/
structure EInv (P : Program) (l : List Oper) (E : Efs) (pu : List Nat) (w0 : World) (aF : Act) (Q : Act → World → Prop) (listed : Array Bool) (k : Nat) (a' a af : Act) (w : World) : Prop where
  lst : ∀ (p e : Nat), (efIdx E)[p]? = some e → (listed.getD e true = true ↔ p < k)
  kle : k ≤ E.length
  df : a.defers = a'.defers ∧ af.defers = aF.defers
  sz : a.tmps.size = a'.tmps.size ∧ af.tmps.size = aF.tmps.size ∧ a.tmps.size = af.tmps.size
  don : ∀ (p e t : Nat) (o : Oper), p < k → (efIdx E)[p]? = some e → l[e]? = some o → o.dst = some t → a.tmps[t]? = af.tmps[t]?
  out : ∀ t : Nat, (∀ (p e : Nat) (o : Oper), p < k → (efIdx E)[p]? = some e → l[e]? = some o → o.dst ≠ some t) → a.tmps[t]? = a'.tmps[t]? ∧ af.tmps[t]? = aF.tmps[t]?
  eff : ∃ wk, Fr (fun _ => False) wk w ∧ wpEf P l.toArray Q (efOps l (E.drop k)) af wk
  cls : (Fr (fun _ => False) w0 w) ∨ (∀ i, i < l.length → i ∉ efIdx E → listed.getD i true = false → i ∈ pu)
  lsz : listed.size = l.length
  cld : ∀ (j : Nat) (x : Oper), l[j]? = some x → listed.getD j true = true → ∀ e ∈ x.after, Region.binds .any e = true → listed.getD e.on false = true
theorem efIdx_get {E : Efs} {p : Nat} {e : Nat × Bool} (h : E[p]? = some e) : (efIdx E)[p]? = some e.1 := by unfold efIdx; rw [List.getElem?_map, h]; rfl
theorem efIdx_some {E : Efs} {p i : Nat} (h : (efIdx E)[p]? = some i) : ∃ b, E[p]? = some (i, b) := by
  unfold efIdx at h
  rw [List.getElem?_map] at h
  cases he : E[p]? with
  | none => rw [he] at h; cases h
  | some e => rw [he] at h; obtain ⟨x, b⟩ := e; exact ⟨b, by simp at h; rw [h]⟩
theorem efOps_drop {l : List Oper} {E : Efs} {k : Nat} {e : Nat × Bool} {o : Oper} (h : E[k]? = some e) (ho : l[e.1]? = some o) : efOps l (E.drop k) = (o, e.2) :: efOps l (E.drop (k + 1)) := by
  have hk := (List.getElem?_eq_some_iff.1 h).1
  have he := (List.getElem?_eq_some_iff.1 h).2
  rw [List.drop_eq_getElem_cons hk, he]
  unfold efOps
  rw [List.filterMap_cons, ho]
  rfl
section
variable {P : Program} {l : List Oper} {E : Efs} {pu : List Nat} {w0 : World} {aF : Act} {Q : Exit → Act → World → Prop}
theorem listed_dep {listed : Array Bool} {o : Oper} {j : Nat} (hdeps : ∀ e ∈ o.after, Region.binds .any e = true → listed.getD e.on false = true) (hj : j < listed.size) (hw : waits o j = true) : listed.getD j true = true := by
  obtain ⟨e, he, hb, rfl⟩ := waits_spec hw
  have := hdeps e he hb
  simp only [Array.getD_eq_getD_getElem?] at this ⊢
  rw [Array.getElem?_eq_getElem hj] at this ⊢
  exact this
theorem listed_depT {listed : Array Bool} (hc : ∀ (j : Nat) (x : Oper), l[j]? = some x → listed.getD j true = true → ∀ e ∈ x.after, Region.binds .any e = true → listed.getD e.on false = true) (hs : listed.size = l.length) : ∀ (n : Nat) {o : Oper} {j : Nat}, (∀ e ∈ o.after, Region.binds .any e = true → listed.getD e.on false = true) → j < listed.size → waitsT l n o j = true → listed.getD j true = true
  | 0, _, _, hd, hj, hw => listed_dep hd hj hw
  | n + 1, o, j, hd, hj, hw => by
    have hw' : (waits o j || o.after.any fun e => Region.binds .any e && (match l[e.on]? with | some x => waitsT l n x j | none => false)) = true := hw
    simp only [Bool.or_eq_true, Array.any_eq_true, Bool.and_eq_true] at hw'
    rcases hw' with h | ⟨i, hi, hb, hx⟩
    · exact listed_dep hd hj h
    · cases hx2 : l[(o.after[i]).on]? with
      | none => rw [hx2] at hx; cases hx
      | some x =>
        rw [hx2] at hx
        have hlt := (List.getElem?_eq_some_iff.1 hx2).1
        have h1 := hd _ (Array.getElem_mem hi) hb
        have h2 : listed.getD (o.after[i]).on true = true := by
          simp only [Array.getD_eq_getD_getElem?] at h1 ⊢
          rw [Array.getElem?_eq_getElem (by omega)] at h1 ⊢
          exact h1
        exact listed_depT hc hs n (hc _ x hx2 h2) hj hx
theorem cld_set {listed : Array Bool} {i : Nat} {o : Oper} (hol : l[i]? = some o) (hd : ∀ e ∈ o.after, Region.binds .any e = true → listed.getD e.on false = true)
    (hc : ∀ (j : Nat) (x : Oper), l[j]? = some x → listed.getD j true = true → ∀ e ∈ x.after, Region.binds .any e = true → listed.getD e.on false = true) :
    ∀ (j : Nat) (x : Oper), l[j]? = some x → (listed.setIfInBounds i true).getD j true = true → ∀ e ∈ x.after, Region.binds .any e = true → (listed.setIfInBounds i true).getD e.on false = true := by
  intro j x hx hj e he hb
  have h1 : listed.getD e.on false = true := by
    by_cases h : i = j
    · subst h
      rw [hol] at hx
      cases hx
      exact hd e he hb
    · rw [getD_set_ne true h] at hj
      exact hc j x hx hj e he hb
  by_cases h : i = e.on
  · subst h
    simp only [Array.getD_eq_getD_getElem?] at h1 ⊢
    rcases Nat.lt_or_ge e.on listed.size with h2 | h2
    · simp [h2]
    · rw [Array.getElem?_eq_none h2] at h1; cases h1
  · simp only [Array.getD_eq_getD_getElem?] at h1 ⊢
    rw [Array.getElem?_setIfInBounds_ne h]
    exact h1
theorem eff_sim {dp : Nat} (ok : EfOk l E pu dp)
    (hpu : ∀ i ∈ pu, ∀ o, l[i]? = some o → ∃ v, ∀ w, (execOp aF.eval o).run P w = .ok (.value v) w) :
    ∀ (fuel : Nat) (listed : Array Bool) (k : Nat) (a' a af : Act) (w : World), EInv P l E pu w0 aF (fun x y => Q .normal x y) listed k a' a af w →
      (∀ wX, Fr (fun _ => False) w0 wX → wpAnyQ P .any (boxedF (efIdx E) 0 l).toArray (fun w' => ∃ Y : FrW wX, w' = Y.val) (fun x => x = aF) fuel listed a') → wpAny P .any l.toArray Q fuel listed a w := by
  have hend : ∀ (fuel : Nat) (listed : Array Bool) (k : Nat) (a' a af : Act) (w : World), EInv P l E pu w0 aF (fun x y => Q .normal x y) listed k a' a af w →
      (∀ wX, Fr (fun _ => False) w0 wX → wpAnyQ P .any (boxedF (efIdx E) 0 l).toArray (fun w' => ∃ Y : FrW wX, w' = Y.val) (fun x => x = aF) fuel listed a') → Region.ready .any l.toArray listed = [] → Q .normal a w := fun fuel listed k a' a af w inv hH hr => by
    have hall : ∀ j, j < l.length → listed.getD j true = true := fun j hj => by
      cases e : listed.getD j true with
      | true => rfl
      | false => exact absurd hr (ready_some ok.acy (by rw [inv.lsz]; simp) j j (by simpa using hj) (Nat.le_refl _) e)
    have ea : a' = aF := wpAnyQ_end (P := P) (C := fun w' => ∃ Y : FrW w0, w' = Y.val) (Q' := fun x => x = aF) (ops := (boxedF (efIdx E) 0 l).toArray) (by rw [bxd_ready]; exact hr) fuel (hH w0 (Fr.refl _ _))
    have hk : k = E.length := by
      rcases Nat.lt_or_ge k E.length with h | h
      · exfalso
        obtain ⟨o, ho, _⟩ := ok.eff E[k] (List.getElem_mem h)
        have h1 := hall E[k].1 (List.getElem?_eq_some_iff.1 ho).1
        have := (inv.lst k E[k].1 (efIdx_get (List.getElem?_eq_getElem h))).1 h1
        omega
      · have := inv.kle; omega
    obtain ⟨wk, hf, he⟩ := inv.eff
    rw [hk, List.drop_length] at he
    have h2 := he w hf
    have e : a = af := by
      refine act_ext (by rw [inv.df.1, inv.df.2, ea]) (fun t => ?_)
      by_cases ht : ∀ (p e : Nat) (o : Oper), p < k → (efIdx E)[p]? = some e → l[e]? = some o → o.dst ≠ some t
      · rw [(inv.out t ht).1, (inv.out t ht).2, ea]
      · have : ∃ (p e : Nat) (o : Oper), p < k ∧ (efIdx E)[p]? = some e ∧ l[e]? = some o ∧ o.dst = some t := Classical.byContradiction fun hn => ht fun p e o h1 h2 h3 h4 => hn ⟨p, e, o, h1, h2, h3, h4⟩
        obtain ⟨p, e, o, h1, h2, h3, h4⟩ := this
        exact inv.don p e t o h1 h2 h3 h4
    rw [e]
    exact h2
  intro fuel
  induction fuel with
  | zero =>
    intro listed k a' a af w inv hH
    have hr : Region.ready .any l.toArray listed = [] := by have := (hH w0 (Fr.refl _ _)).1; rwa [bxd_ready] at this
    exact ⟨hr, hend 0 listed k a' a af w inv hH hr⟩
  | succ fuel ih =>
    intro listed k a' a af w inv hH
    refine ⟨hend _ listed k a' a af w inv hH, fun i hi => ?_⟩
    obtain ⟨hun, o, ho, hdeps⟩ := mem_ready.1 hi
    have hol : l[i]? = some o := by simpa using ho
    have hil : i < l.length := (List.getElem?_eq_some_iff.1 hol).1
    have hlsz := inv.lsz
    have hi' : i ∈ Region.ready .any (boxedF (efIdx E) 0 l).toArray listed := by rw [bxd_ready]; exact hi
    have back : ∀ (j : Nat) (x : Oper) (t : Tmp), (boxedF (efIdx E) 0 l).toArray[j]? = some x → x.dst = some t → ∃ y, l[j]? = some y ∧ y.dst = some t := fun j x t hj hx => by
      rw [bxd_get] at hj
      cases hy : l.toArray[j]? with
      | none => rw [hy] at hj; cases hj
      | some y =>
        rw [hy] at hj
        refine ⟨y, by simpa using hy, ?_⟩
        simp only [Option.map_some, Option.some.injEq] at hj
        rw [← hj] at hx
        by_cases hc : (efIdx E).contains j = true
        · rw [if_pos hc] at hx; exact hx
        · rw [if_neg hc] at hx; exact hx
    have uniq : ∀ (j : Nat) (x : Oper) (t : Tmp), (boxedF (efIdx E) 0 l).toArray[j]? = some x → x.dst = some t → o.dst = some t → j = i := fun j x t hj hx ht => by
      obtain ⟨y, hy, hyd⟩ := back j x t hj hx
      exact ok.un j i y o t hy hol hyd ht
    -- a slot all of whose writers are listed is as at the end
    have fin : ∀ t : Nat, (∀ (j : Nat) (y : Oper), l[j]? = some y → y.dst = some t → listed.getD j true = true) → a'.tmps[t]? = aF.tmps[t]? := fun t ht =>
      fin_at (fuel + 1) listed a' (hH w0 (Fr.refl _ _)) t (fun j y hj hu hy => by
        obtain ⟨z, hz, hzd⟩ := back j y t hj hy
        rw [ht j z hz hzd] at hu
        cases hu)
    by_cases hE : i ∈ efIdx E
    · -- the chain's next
      obtain ⟨p, hp⟩ := List.getElem?_of_mem hE
      have hpk : ¬ p < k := fun h => by rw [(inv.lst p i hp).2 h] at hun; cases hun
      have hpk2 : p = k := by
        rcases Nat.lt_or_ge k p with h | h
        · exfalso
          obtain ⟨q, rfl⟩ : ∃ q, p = q + 1 := ⟨p - 1, by omega⟩
          have hq := (List.getElem?_eq_some_iff.1 hp).1
          have hqe : (efIdx E)[q]? = some (efIdx E)[q] := List.getElem?_eq_getElem (by omega)
          obtain ⟨o', ho', hw⟩ := ok.chn q _ i hqe hp
          rw [hol] at ho'
          obtain rfl : o = o' := by injection ho'
          obtain ⟨b, hb⟩ := efIdx_some hqe
          obtain ⟨x, hx, _⟩ := ok.eff _ (List.mem_of_getElem? hb)
          have h1 := listed_dep hdeps (by rw [hlsz]; exact (List.getElem?_eq_some_iff.1 hx).1) hw
          have := (inv.lst q _ hqe).1 h1
          omega
        · omega
      obtain rfl : k = p := hpk2.symm
      obtain ⟨cl, hcl⟩ := efIdx_some hp
      obtain ⟨o', ho', hog, hos, hlate⟩ := ok.eff _ (List.mem_of_getElem? hcl)
      dsimp only at ho' hlate
      rw [hol] at ho'
      obtain rfl : o = o' := by injection ho'
      have hob : (boxedF (efIdx E) 0 l).toArray[i]? = some (idleU o) := by rw [bxd_get, ho]; simp [hE]
      obtain ⟨u, _, hK⟩ := all_put (w0 := w0) (fuel := fuel) (a' := a') hob hi' (fun j x t hj hx ht => uniq j x t hj hx ht) (by omega) hH w0 (Fr.refl _ _)
      have hK' : ∀ wY, Fr (fun _ => False) w0 wY → wpAnyQ P .any (boxedF (efIdx E) 0 l).toArray (fun w' => ∃ Y : FrW wY, w' = Y.val) (fun x => x = aF) fuel (listed.setIfInBounds i true) (a'.put o.dst u) := hK
      have hlk : ∀ t ∈ o.looksAt l.toArray, a.tmps[t]? = af.tmps[t]? := fun t ht => by
        have hw : ∀ (j : Nat) (y : Oper), l[j]? = some y → y.dst = some t → listed.getD j true = true := fun j y hy hyd => listed_dep hdeps (by rw [hlsz]; exact (List.getElem?_eq_some_iff.1 hy).1) (sees_spec hos ht hy hyd)
        by_cases hex : ∀ (p e : Nat) (x : Oper), p < k → (efIdx E)[p]? = some e → l[e]? = some x → x.dst ≠ some t
        · rw [(inv.out t hex).1, (inv.out t hex).2]
          exact fin t hw
        · have : ∃ (p e : Nat) (x : Oper), p < k ∧ (efIdx E)[p]? = some e ∧ l[e]? = some x ∧ x.dst = some t := Classical.byContradiction fun hn => hex fun p e x h1 h2 h3 h4 => hn ⟨p, e, x, h1, h2, h3, h4⟩
          obtain ⟨p, e, x, h1, h2, h3, h4⟩ := this
          exact inv.don p e t x h1 h2 h3 h4
      have hsel := Region.noSelect_spec ok.sel
      obtain ⟨c1, _⟩ := look_congr (ops := l.toArray) (o := o) (a := a) (a' := af) (fun cs b => hsel i o cs b ho) hlk
      obtain ⟨wk, hf, he⟩ := inv.eff
      rw [efOps_drop hcl hol] at he
      have he1 := he w hf
      have hwp : o.wp P af w (fun a2 w2 => Exit.normal = Exit.normal ∧ a2.defers = af.defers ∧ (cl = true → Fr (fun _ => False) w w2) ∧ wpEf P l.toArray (fun x y => Q .normal x y) (efOps l (E.drop (k + 1))) a2 w2) (fun ex a2 w2 => ex = Exit.normal ∧ a2.defers = af.defers ∧ (cl = true → Fr (fun _ => False) w w2) ∧ wpEf P l.toArray (fun x y => Q .normal x y) (efOps l (E.drop (k + 1))) a2 w2) := by
        have h1 : (if Region.wanted o (yielded l.toArray af.tmps) then _ else _) := he1
        simp only [Region.wanted, hog, if_true] at h1
        rcases h1 with h1 | ⟨_, x, y, h2⟩
        · exact h1
        · cases h2.1
      have hset : ∀ j, (listed.setIfInBounds i true).getD j true = true ↔ (j = i ∨ listed.getD j true = true) := fun j => by
        by_cases e : i = j
        · subst e; simp [getD_set_same (show i < listed.size by omega)]
        · rw [getD_set_ne true e]
          exact ⟨.inr, fun h => h.elim (fun e2 => absurd e2.symm e) id⟩
      unfold wpOp
      rw [ho]
      simp only [Region.wanted, hog, if_true]
      left
      refine eff_conv c1 (fun v w2 h => ?_) (fun x w2 h => h.2.1) (fun ex x w2 h => h.1) hwp
      obtain ⟨_, hd2, hcl2, hrest⟩ := h
      refine ih _ (k + 1) (a'.put o.dst u) _ (af.put o.dst v) w2 ⟨fun p e hpe => ?_, ?_, ⟨by rw [put_dfr, put_dfr]; exact inv.df.1, by rw [put_dfr]; exact inv.df.2⟩, ⟨by rw [put_size, put_size]; exact inv.sz.1, by rw [put_size]; exact inv.sz.2.1, by rw [put_size, put_size]; exact inv.sz.2.2⟩, fun p e t x h1 h2 h3 h4 => ?_, fun t ht => ?_, ⟨w2, Fr.refl _ _, hrest⟩, ?_, by simp [hlsz], cld_set hol hdeps inv.cld⟩ hK'
      · rw [hset e]
        by_cases hpk : p = k
        · subst hpk
          rw [hp] at hpe
          cases hpe
          simp
        · have hne : e ≠ i := fun he => by
            subst he
            have h1 := (List.getElem?_eq_some_iff.1 hp)
            have h2 := (List.getElem?_eq_some_iff.1 hpe)
            exact hpk ((List.getElem_inj ok.nod).1 (h2.2.trans h1.2.symm))
          rw [show (e = i ∨ listed.getD e true = true) ↔ listed.getD e true = true from ⟨fun h => h.elim (fun h => absurd h hne) id, .inr⟩, inv.lst p e hpe]
          omega
      · have := (List.getElem?_eq_some_iff.1 hcl).1; omega
      · by_cases hto : o.dst = some t
        · by_cases hts : t < a.tmps.size
          · rw [hto, put_at hts, put_at (by rw [← inv.sz.2.2]; exact hts)]
          · rw [Array.getElem?_eq_none (by rw [put_size]; omega), Array.getElem?_eq_none (by rw [put_size, ← inv.sz.2.2]; omega)]
        · rw [put_out hto, put_out hto]
          by_cases hpk : p = k
          · subst hpk
            rw [hp] at h2
            cases h2
            rw [hol] at h3
            cases h3
            exact absurd h4 hto
          · exact inv.don p e t x (by omega) h2 h3 h4
      · have hto : o.dst ≠ some t := ht k i o (by omega) hp hol
        rw [put_out hto, put_out hto, put_out hto]
        exact inv.out t (fun p e x h1 h2 h3 => ht p e x (by omega) h2 h3)
      · cases cl with
        | true =>
          rcases inv.cls with h | h
          · exact .inl (h.trans (hcl2 rfl))
          · refine .inr (fun j hj hjn hjl => h j hj hjn ?_)
            cases e : listed.getD j true with
            | false => rfl
            | true => rw [(hset j).2 (.inr e)] at hjl; cases hjl
        | false =>
          refine .inr (fun j hj hjn hjl => Classical.byContradiction fun hjp => ?_)
          have h1 := listed_depT inv.cld hlsz dp hdeps (by rw [hlsz]; exact hj) (hlate rfl j hj hjn hjp)
          rw [(hset j).2 (.inr h1)] at hjl
          cases hjl
    · -- one that only reads
      have hob : (boxedF (efIdx E) 0 l).toArray[i]? = some o := by rw [bxd_get, ho]; simp [hE]
      have hsel := Region.noSelect_spec ok.sel
      have hapart : ∀ t, (t ∈ o.looksAt l.toArray ∨ o.dst = some t) → ∀ (p e : Nat) (x : Oper), p < k → (efIdx E)[p]? = some e → l[e]? = some x → x.dst ≠ some t := fun t ht p e x _ h2 h3 h4 => by
        have := ok.ap i o hol hE e (List.mem_of_getElem? h2) x t h3 h4
        rcases ht with h | h
        · exact this.1 h
        · exact this.2 h
      obtain ⟨c1, c2⟩ := look_congr (ops := l.toArray) (o := o) (a := a) (a' := a') (fun cs b => hsel i o cs b ho) (fun t ht => (inv.out t (hapart t (.inl ht))).1)
      have hset : ∀ j, j ∈ efIdx E → (listed.setIfInBounds i true).getD j true = listed.getD j true := fun j hj => getD_set_ne true (fun e => hE (e ▸ hj))
      have hset2 : ∀ j, (listed.setIfInBounds i true).getD j true = false → listed.getD j true = false := fun j hj => by
        by_cases e : i = j
        · subst e; exact hun
        · rwa [getD_set_ne true e] at hj
      have key : ∀ v w', Fr (fun _ => False) w w' → (∀ wY, Fr (fun _ => False) w0 wY → wpAnyQ P .any (boxedF (efIdx E) 0 l).toArray (fun w' => ∃ Y : FrW wY, w' = Y.val) (fun x => x = aF) fuel (listed.setIfInBounds i true) (a'.put o.dst v)) → wpAny P .any l.toArray Q fuel (listed.setIfInBounds i true) (a.put o.dst v) w' := fun v w' hf hK => by
        refine ih _ k (a'.put o.dst v) _ af w' ⟨fun p e hpe => by rw [hset e (List.mem_of_getElem? hpe)]; exact inv.lst p e hpe, inv.kle, ⟨by rw [put_dfr, put_dfr]; exact inv.df.1, inv.df.2⟩, ⟨by rw [put_size, put_size]; exact inv.sz.1, inv.sz.2.1, by rw [put_size]; exact inv.sz.2.2⟩, fun p e t x h1 h2 h3 h4 => ?_, fun t ht => ?_, ?_, ?_, by simp [hlsz], cld_set hol hdeps inv.cld⟩ hK
        · have hto : o.dst ≠ some t := fun hd => hapart t (.inr hd) p e x h1 h2 h3 h4
          rw [put_out hto]
          exact inv.don p e t x h1 h2 h3 h4
        · exact ⟨put_same (inv.out t ht).1 inv.sz.1, (inv.out t ht).2⟩
        · obtain ⟨wk, h1, h2⟩ := inv.eff
          exact ⟨wk, h1.trans hf, h2⟩
        · exact inv.cls.imp (fun h => h.trans hf) (fun h j hj hjn hjl => h j hj hjn (hset2 j hjl))
      unfold wpOp
      rw [ho]
      simp only []
      rw [c2]
      rcases inv.cls with hcls | hcls
      · obtain ⟨v, hY, hK⟩ := all_put (w0 := w0) (fuel := fuel) (a' := a') hob hi' uniq (by omega) hH w hcls
        rcases hY with ⟨hw, hq⟩ | ⟨hw, rfl⟩
        · rw [bxd_yielded] at hw
          rw [if_pos hw]
          left
          refine Oper.wp_of_quiet (C := fun w' => ∃ Y : FrW w, w' = Y.val) (K := fun x => x = a.put o.dst v) ⟨⟨w, Fr.refl _ w⟩, rfl⟩ ?_ ⟨v, fun w1 h1 => ?_, rfl⟩
          · rintro x w' ⟨Y, rfl⟩ rfl
            exact key v _ Y.fr hK
          · have := hq w1 h1
            unfold Oper.quietAt at *
            rw [c1]
            exact this
        · rw [bxd_yielded] at hw
          rw [if_neg (by rw [hw]; simp)]
          exact key undef w (Fr.refl _ w) hK
      · have hip := hcls i hil hE hun
        obtain ⟨hog, hos⟩ := ok.pur i hip o hol
        obtain ⟨v, hv⟩ := hpu i hip o hol
        obtain ⟨v', hY, hK⟩ := all_put (w0 := w0) (fuel := fuel) (a' := a') hob hi' uniq (by omega) hH w0 (Fr.refl _ _)
        have hfin : ∀ t ∈ o.looksAt l.toArray, a'.tmps[t]? = aF.tmps[t]? := fun t ht => fin t (fun j y hy hyd => listed_dep hdeps (by rw [hlsz]; exact (List.getElem?_eq_some_iff.1 hy).1) (sees_spec hos ht hy hyd))
        obtain ⟨d1, _⟩ := look_congr (ops := l.toArray) (o := o) (a := a') (a' := aF) (fun cs b => hsel i o cs b ho) hfin
        have hvv : v' = v := by
          rcases hY with ⟨_, hq⟩ | ⟨hw, _⟩
          · have h1 := hq w0 ⟨⟨w0, Fr.refl _ _⟩, rfl⟩
            unfold Oper.quietAt at h1
            rw [d1, hv w0] at h1
            exact h1.2.symm
          · simp [Region.wanted, hog] at hw
        subst hvv
        simp only [Region.wanted, hog, if_true]
        left
        unfold Oper.wp
        rw [c1, d1, hv w]
        exact key v' w (Fr.refl _ w) hK
theorem fin_sz {md : Region.Mode} {ops : Array Oper} {C : World → Prop} : ∀ (fuel : Nat) (listed : Array Bool) (a : Act), wpAnyQ P md ops C (fun x => x = aF) fuel listed a → aF.tmps.size = a.tmps.size ∧ aF.defers = a.defers
  | 0, _, a, h => by have h2 : a = aF := h.2; rw [h2]; exact ⟨rfl, rfl⟩
  | fuel + 1, listed, a, h => by
    cases hr : Region.ready md ops listed with
    | nil => have h2 : a = aF := h.1 hr; rw [h2]; exact ⟨rfl, rfl⟩
    | cons i r =>
      have hi : i ∈ Region.ready md ops listed := by rw [hr]; exact List.mem_cons_self
      obtain ⟨_, o, ho, _⟩ := mem_ready.1 hi
      obtain ⟨v, _, hK⟩ := yieldsIn_of_qOp ho (h.2 i hi)
      have h3 := fin_sz fuel _ _ hK
      rw [put_size, put_dfr] at h3
      exact h3
theorem wp_region_eff {id : Nat} {a : Act} {w : World} (E : Efs) (pu : List Nat) (dp : Nat) {l' : List Oper} (hm : P.follows .mixedOrders = true) (hl : boxedF (efIdx E) 0 l = l') (hB : efB l E pu dp = true) (hL : Region.lexB .any l'.toArray = true)
    (h : ∃ aF : Act, (∀ X : FrW w, wpQuiet P l'.toArray (fun w' => ∃ Y : FrW X.val, w' = Y.val) (fun a' => a' = aF) l' a) ∧
      (∀ i ∈ pu, ∀ o, l[i]? = some o → ∃ v, ∀ w, (execOp aF.eval o).run P w = .ok (.value v) w) ∧ wpEf P l.toArray (fun x y => Q .normal x y) (efOps l E) aF w) : (Code.region id l.toArray true).wp P Q a w := by
  have ok := efB_ok hB
  obtain ⟨aF, h, hpu, he⟩ := h
  subst hl
  simp only [Region.lexB, Bool.and_eq_true] at hL
  have hH : ∀ wX, Fr (fun _ => False) w wX → wpAnyQ P .any (boxedF (efIdx E) 0 l).toArray (fun w' => ∃ Y : FrW wX, w' = Y.val) (fun x => x = aF) l.toArray.size (Array.replicate l.toArray.size false) a := fun wX hX => by
    have := wpAnyQ_lex (C := fun w' => ∃ Y : FrW wX, w' = Y.val) (md := .any) hL.1 (boxedF (efIdx E) 0 l) 0 (Array.replicate (boxedF (efIdx E) 0 l).toArray.size false) a (by simp) (by simpa using hL.2) (h ⟨wX, hX⟩)
    rw [bxd_size] at this
    simpa [bxd_len] using this
  obtain ⟨hs, hd⟩ := fin_sz _ _ _ (hH w (Fr.refl _ _))
  refine wp_region_any hm (eff_sim (w0 := w) (aF := aF) ok hpu _ _ 0 a a aF _ ⟨fun p e hpe => ?_, Nat.zero_le _, ⟨rfl, rfl⟩, ⟨rfl, rfl, hs.symm⟩, fun p e t o hp => by omega, fun t _ => ⟨rfl, rfl⟩, ⟨w, (Fr.refl _ w).drew, by simpa using he⟩, .inl (Fr.refl _ w).drew, by simp, fun j x hx hj => ?_⟩ hH)
  rotate_left
  · have := (List.getElem?_eq_some_iff.1 hx).1
    simp [this] at hj
  obtain ⟨b, hb⟩ := efIdx_some hpe
  obtain ⟨o, ho, _⟩ := ok.eff _ (List.mem_of_getElem? hb)
  have hel := (List.getElem?_eq_some_iff.1 ho).1
  dsimp only at hel
  constructor
  · intro h1
    simp [hel] at h1
  · intro h1; omega
end
end Go.Proofs.YtmflpeklalgibaaGreat

namespace Go.Proofs.YtmflpeklalgibaaGreat
open Go.RowKit Go.Maps
theorem hd_end {w4 : World} {n : Nat} {T : TypeId} (o : Int) (v1 v2 v3 : Value) (h2 : w4.heap[n]? = some (.cells #[.int .i64 0, .slice none 0 0, .slice none 0 0, .slice none 0 0] T)) :
    ∃ W, W = ((((w4.setCell ⟨n, 0, none⟩ (.int .i64 o)).setCell ⟨n, 1, none⟩ v1).setCell ⟨n, 2, none⟩ v2).setCell ⟨n, 3, none⟩ v3) ∧
      W.heap[n]? = some (.cells #[.int .i64 o, v1, v2, v3] T) ∧ Fr (fun c => c = n) w4 W := by
  refine ⟨_, rfl, obj_set (obj_set (obj_set (obj_set h2 0 _) 1 _) 2 _) 3 _, ?_⟩
  exact ((((Fr.refl (fun c => c = n) w4).setCell (p := ⟨n, 0, none⟩) (fun _ => rfl) _).setCell (p := ⟨n, 1, none⟩) (fun _ => rfl) _).setCell (p := ⟨n, 2, none⟩) (fun _ => rfl) _).setCell (p := ⟨n, 3, none⟩) (fun _ => rfl) _
theorem il_okm {w : World} {v : Value} {L : Its} (h : Il w v L) {p : Str × Int} (hp : p ∈ L) : okS p.1 ∧ okI p.2 := by
  obtain ⟨i, hi⟩ := List.getElem?_of_mem hp
  obtain ⟨_, _, _, _, hx⟩ := h
  exact ⟨(hx i p hi).1, (hx i p hi).2.1⟩
set_option maxRecDepth 100000 in
set_option maxHeartbeats 8000000 in
theorem hcopied (w : World) (TB : Nat → Prop) (x : HV) (hk : HOk w TB x) (hx : x.he.length ≤ 1000 ∧ x.pi.length ≤ 1000 ∧ x.sh.length ≤ 1000) :
    Calls Tryz.prog 68 #[x.enc] w fun e w' => ∃ y : HV, e = .returned y.enc ∧ y.e = x.e ∧ HOk w' (fun b => w.heap.size ≤ b ∧ b < w'.heap.size) y ∧ Fr (fun _ => False) w w' := by
  obtain ⟨a1, c1, e1⟩ := hk.lh.1.sl
  obtain ⟨a2, c2, e2⟩ := hk.lp.1.sl
  obtain ⟨a3, c3, e3⟩ := hk.ls.1.sl
  have ho := hk.o
  obtain ⟨o, xh, xp, xs, he, pi, sh⟩ := x
  dsimp only at e1 e2 e3 hx ho
  subst e1; subst e2; subst e3
  have hcl : ∀ (v : Value) (L : Its), Il w v L → (L.length : Int) ≤ 1000 → ∀ W, Fr (fun _ => False) w W → Calls Tryz.prog 54 #[v] W fun e w' => ∃ v', e = .returned v' ∧ w'.ownsRow W.heap.size 45 2 v' L.length (itCs L) ∧ Fr (fun _ => False) W w' := fun v L hv hl W hf => itClone W v L (hv.keep hf (fun _ _ _ e => e)) hl
  have hC1 := Lib.hid (hcl _ _ hk.lh.1 (by dsimp only; omega)); have hC2 := Lib.hid (hcl _ _ hk.lp.1 (by dsimp only; omega)); have hC3 := Lib.hid (hcl _ _ hk.ls.1 (by dsimp only; omega))
  have HK := Lib.hid hk
  dsimp only at hC1 hC2 hC3
  have HO1 : Hid (∀ p ∈ he, okS p.1 ∧ okI p.2) := Lib.hid (fun p hp => il_okm hk.lh.1 hp)
  have HO2 : Hid (∀ p ∈ pi, okS p.1 ∧ okI p.2) := Lib.hid (fun p hp => il_okm hk.lp.1 hp)
  have HO3 : Hid (∀ p ∈ sh, okS p.1 ∧ okI p.2) := Lib.hid (fun p hp => il_okm hk.ls.1 hp)
  dsimp only [HV.enc]
  clear hk hcl hx
  obtain ⟨n0, hn0⟩ : ∃ n0, w.heap.size = n0 := ⟨_, rfl⟩
  obtain ⟨W1, hW1⟩ : ∃ W1, (w.alloc (.cells #[.int .i64 o, .slice a1 he.length c1, .slice a2 pi.length c2, .slice a3 sh.length c3] 54)).alloc (.cells #[.int .i64 0, .slice none 0 0, .slice none 0 0, .slice none 0 0] 54) = W1 := ⟨_, rfl⟩
  have hf1 : Fr (fun _ => False) w W1 := by rw [← hW1]; exact ((Fr.refl _ w).alloc _).alloc _
  have hb0 : W1.heap[n0]? = some (.cells #[.int .i64 o, .slice a1 he.length c1, .slice a2 pi.length c2, .slice a3 sh.length c3] 54) := by rw [← hW1]; exact heap_keep (heap_at hn0.symm _) _
  have hb1 : W1.heap[n0 + 1]? = some (.cells #[.int .i64 0, .slice none 0 0, .slice none 0 0, .slice none 0 0] 54) := by rw [← hW1]; exact heap_at (by simp; omega) _
  have HF1 := Lib.hid hf1; have HB0 := Lib.hid hb0; have HB1 := Lib.hid hb1
  have x0 := cell_obj hb0 0 (.int .i64 o) rfl
  have x1 := cell_obj hb0 1 (.slice a1 he.length c1) rfl
  have x2 := cell_obj hb0 2 (.slice a2 pi.length c2) rfl
  have x3 := cell_obj hb0 3 (.slice a3 sh.length c3) rfl
  clear hf1 hb0 hb1
  have HN0 := Lib.hid hn0
  subst hn0
  go_enter Tryz.func68, Tryz.ntmps68
  go_wp2_with fail
  (try rw [hW1])
  clear hW1
  refine wp_region_eff [(4, true), (7, true), (10, true), (11, true), (12, false)] [] 12 (by kernel_rfl) rfl (by kernel_rfl) (by kernel_rfl) ?_
  apply Exists.intro
  refine ⟨?hh, ?pu, ?ef⟩
  case hh =>
    intro X
    have x0 := FrW.cell (X.fr.cell x0 (fun e => e)); have x1 := FrW.cell (X.fr.cell x1 (fun e => e)); have x2 := FrW.cell (X.fr.cell x2 (fun e => e)); have x3 := FrW.cell (X.fr.cell x3 (fun e => e))
    simp (config := { decide := true }) only [boxedF, efIdx, List.map_cons, List.map_nil, idleU, if_true, if_false, ite_true, ite_false]
    repeat (go_big_quiet_step (fail))
    exact wpQuiet_nil rfl
  case pu =>
    intro i' hi' o ho
    cases hi'
  case ef =>
    simp only [efOps, List.filterMap_cons, List.filterMap_nil, List.getElem?_cons_succ, List.getElem?_cons_zero, Option.map_some]
    clear x0 x1 x2 x3
    intro w2 hw2
    go_wp2_with (go_at_call 54; refine (hC1.out _ (HF1.out.trans hw2)).mono ?_; rintro e w3 ⟨v3, rfl, ho3, hf3⟩; have hi3 := Il.own ho3 HO1.out; obtain ⟨b3, d3, rfl⟩ := hi3.1.sl; have HI3 := Lib.hid hi3; have HF3 := Lib.hid hf3; clear ho3 hf3 hi3)
    refine ⟨HF3.out, ?_⟩
    intro w4 hw4
    have HF4 : Hid (Fr (fun _ => False) w w4) := Lib.hid (HF1.out.trans (hw2.trans (HF3.out.trans hw4)))
    go_wp2_with (go_at_call 54; refine (hC2.out _ HF4.out).mono ?_; rintro e w5 ⟨v5, rfl, ho5, hf5⟩; have hi5 := Il.own ho5 HO2.out; obtain ⟨b5, d5, rfl⟩ := hi5.1.sl; have HI5 := Lib.hid hi5; have HF5 := Lib.hid hf5; clear ho5 hf5 hi5)
    refine ⟨HF5.out, ?_⟩
    intro w6 hw6
    have HF6 : Hid (Fr (fun _ => False) w w6) := Lib.hid (HF4.out.trans (HF5.out.trans hw6))
    go_wp2_with (go_at_call 54; refine (hC3.out _ HF6.out).mono ?_; rintro e w7 ⟨v7, rfl, ho7, hf7⟩; have hi7 := Il.own ho7 HO3.out; obtain ⟨b7, d7, rfl⟩ := hi7.1.sl; have HI7 := Lib.hid hi7; have HF7 := Lib.hid hf7; clear ho7 hf7 hi7)
    refine ⟨HF7.out, ?_⟩
    intro w8 hw8
    go_wp2_with fail
    refine ⟨Fr.refl _ _, ?_⟩
    intro w9 hw9
    have HF9 : Hid (Fr (fun _ => False) w w9) := Lib.hid (HF6.out.trans (HF7.out.trans (hw8.trans hw9)))
    have hb9 : w9.heap[w.heap.size + 1]? = some (.cells #[.int .i64 0, .slice none 0 0, .slice none 0 0, .slice none 0 0] 54) := (hw2.trans (HF3.out.trans (hw4.trans (HF5.out.trans (hw6.trans (HF7.out.trans (hw8.trans hw9))))))).at_ HB1.out (fun e => e)
    have g1 : Fr (fun _ => False) w3 w9 := hw4.trans (HF5.out.trans (hw6.trans (HF7.out.trans (hw8.trans hw9))))
    have g2 : Fr (fun _ => False) w5 w9 := hw6.trans (HF7.out.trans (hw8.trans hw9))
    have g3 : Fr (fun _ => False) w7 w9 := hw8.trans hw9
    have z1 := (Array.getElem?_eq_some_iff.1 HB1.out).1
    have z2 := hw2.size
    have z4 := (HF3.out.trans hw4).size
    have z6 := (HF5.out.trans hw6).size
    have HZ : Hid (w.heap.size + 1 < w2.heap.size ∧ w2.heap.size ≤ w4.heap.size ∧ w4.heap.size ≤ w6.heap.size) := Lib.hid ⟨by omega, by omega, by omega⟩
    have HG1 := Lib.hid g1; have HG2 := Lib.hid g2; have HG3 := Lib.hid g3
    have f0 := obj_frozen hb9 0; have f1 := obj_frozen hb9 1; have f2 := obj_frozen hb9 2; have f3 := obj_frozen hb9 3
    have c0 := cell_obj hb9 0 (.int .i64 0) rfl; have c1 := cell_obj hb9 1 (.slice none 0 0) rfl; have c2 := cell_obj hb9 2 (.slice none 0 0) rfl; have c3 := cell_obj hb9 3 (.slice none 0 0) rfl
    obtain ⟨W, hW, hWh, hWf⟩ := hd_end o (.slice b3 he.length d3) (.slice b5 pi.length d5) (.slice b7 sh.length d7) hb9
    have HWH := Lib.hid hWh; have HWF := Lib.hid hWf
    clear g1 g2 g3 z1 z2 z4 z6 hw2 hw4 hw6 hw8 hw9 hb9 hWh hWf
    go_wp2_with fail
    rw [← hW]
    clear hW f0 f1 f2 f3 c0 c1 c2 c3
    intro w10 hw10
    have hb10 := hw10.at_ HWH.out (fun e => e)
    have q0 := cell_obj hb10 0 (.int .i64 o) rfl; have q1 := cell_obj hb10 1 (.slice b3 he.length d3) rfl; have q2 := cell_obj hb10 2 (.slice b5 pi.length d5) rfl; have q3 := cell_obj hb10 3 (.slice b7 sh.length d7) rfl
    have hfin : Fr (fun b => b = w.heap.size + 1) w9 w10 := HWF.out.trans (hw10.mono (fun _ _ e => e.elim))
    have HFIN := Lib.hid hfin
    clear hb10 hw10 hfin
    go_wp2_with fail
    refine bodyPost_ret (v := .agg #[.int .i64 o, .slice b3 he.length d3, .slice b5 pi.length d5, .slice b7 sh.length d7]) (by simp [results, Tryz.results68, go_sem, q0, q1, q2, q3]) rfl ?_
    have hz := HZ.out
    have key : ∀ {wa wb : World} {v : Value} {L : Its}, Il wb v L → (∀ b, v.ownBlock = some b → wa.heap.size ≤ b ∧ b < wb.heap.size) → w2.heap.size ≤ wa.heap.size → Fr (fun _ => False) wb w9 → Lb w10 (fun b => w.heap.size ≤ b ∧ b < w10.heap.size) v L := fun {wa wb v L} hi hb hs hf => by
      have h9 := hi.keep hf (fun _ _ _ e => e)
      have s1 := hf.size; have s2 := HFIN.out.size
      exact ⟨h9.keep HFIN.out (fun _ b hb' e => by have := (hb b hb').1; have e : b = w.heap.size + 1 := e; omega), fun _ b hb' => ⟨by have := (hb b hb').1; omega, by have := (hb b hb').2; omega⟩⟩
    exact ⟨⟨o, .slice b3 he.length d3, .slice b5 pi.length d5, .slice b7 sh.length d7, he, pi, sh⟩, rfl, rfl, ⟨ho, key HI3.out.1 HI3.out.2 (Nat.le_refl _) HG1.out, key HI5.out.1 HI5.out.2 (by omega) HG2.out, key HI7.out.1 HI7.out.2 (by omega) HG3.out⟩, HF9.out.trans' HFIN.out (fun b hb e => by have e : b = w.heap.size + 1 := e; omega)⟩
end Go.Proofs.YtmflpeklalgibaaGreat

namespace Go.Proofs.YtmflpeklalgibaaGreat
open Go.RowKit Go.Maps
set_option maxRecDepth 100000 in
set_option maxHeartbeats 8000000 in
theorem hHold (w : World) (g gs m : Nat) (T0 TB : Nat → Prop) (A : Stk) (l : List (Int × HV)) (o : Int) (h : SB w g gs m T0 TB A l) (ho : okI o) (hx : (holdOf l o).he.length ≤ 1000 ∧ (holdOf l o).pi.length ≤ 1000 ∧ (holdOf l o).sh.length ≤ 1000) :
    Calls Tryz.prog 37 #[.pointer (some ⟨g, 0, none⟩), .int .i64 o] w fun e w' => ∃ y : HV, e = .returned y.enc ∧ y.e = (holdOf l o).e ∧ HOk w' (fun b => w.heap.size ≤ b ∧ b < w'.heap.size) y ∧ Fr (fun _ => False) w w' := by
  have hk := (h.hold ho).1
  obtain ⟨n0, hn0⟩ : ∃ n0, w.heap.size = n0 := ⟨_, rfl⟩
  obtain ⟨W1, hW1⟩ : ∃ W1, w.alloc (.cells #[.int .i64 0, .slice none 0 0, .slice none 0 0, .slice none 0 0] 54) = W1 := ⟨_, rfl⟩
  have hf1 : Fr (fun _ => False) w W1 := by rw [← hW1]; exact (Fr.refl _ w).alloc _
  have hb1 : W1.heap[n0]? = some (.cells #[.int .i64 0, .slice none 0 0, .slice none 0 0, .slice none 0 0] 54) := by rw [← hW1]; exact heap_at hn0.symm _
  have hS := h.keep hf1 (fun _ _ e => e)
  have hh := Lib.hid (hhold W1 g gs m T0 TB A l o hS ho)
  have hm := Lib.hid (hmade W1 g m hS.cells.2)
  obtain ⟨X, hX⟩ : ∃ X, holdOf l o = X := ⟨_, rfl⟩
  rw [hX] at hk hx hh ⊢
  have hcp := Lib.hid (fun W (hf : Fr (fun _ => False) w W) => hcopied W TB X (hk.keep hf (fun _ _ e => e)) hx)
  have HF1 := Lib.hid hf1; have HB1 := Lib.hid hb1; have HN0 := Lib.hid hn0
  clear h hk hS hf1 hb1 hX
  subst hn0
  go_enter Tryz.func37, Tryz.ntmps37
  go_wp2_with (first
    | (go_at_call 64; refine hm.out.mono ?_; rintro e w' ⟨rfl, rfl⟩)
    | (go_at_call 49; refine hh.out.mono ?_; rintro e w2 ⟨rfl, hf2⟩; have HF2 := Lib.hid hf2; clear hf2)
    | (go_at_call 68; refine (hcp.out _ (HF1.out.trans HF2.out)).mono ?_; rintro e w3 ⟨⟨yo, yh, yp, ys, ye, yi, yj⟩, rfl, hy, hky, hf3⟩; obtain ⟨a1, c1, e1⟩ := hky.lh.1.sl; obtain ⟨a2, c2, e2⟩ := hky.lp.1.sl; obtain ⟨a3, c3, e3⟩ := hky.ls.1.sl; dsimp only at e1 e2 e3; subst e1; subst e2; subst e3; dsimp only [HV.enc]; have HY := Lib.hid hy; have HKY := Lib.hid hky; have HF3 := Lib.hid hf3; have hb3 := (HF2.out.trans hf3).at_ HB1.out (fun e => e); have HB3 := Lib.hid hb3; have f0 := obj_frozen hb3 0; have f1 := obj_frozen hb3 1; have f2 := obj_frozen hb3 2; have f3 := obj_frozen hb3 3; have c0' := cell_obj hb3 0 (.int .i64 0) rfl; have c1' := cell_obj hb3 1 (.slice none 0 0) rfl; have c2' := cell_obj hb3 2 (.slice none 0 0) rfl; have c3' := cell_obj hb3 3 (.slice none 0 0) rfl; clear hy hky hf3 hb3))
  obtain ⟨W, hW, hWh, hWf⟩ := hd_end yo (.slice a1 ye.length c1) (.slice a2 yi.length c2) (.slice a3 yj.length c3) HB3.out
  rw [← hW]
  have q0 := cell_obj hWh 0 (.int .i64 yo) rfl; have q1 := cell_obj hWh 1 (.slice a1 ye.length c1) rfl; have q2 := cell_obj hWh 2 (.slice a2 yi.length c2) rfl; have q3 := cell_obj hWh 3 (.slice a3 yj.length c3) rfl
  refine bodyPost_ret (v := .agg #[.int .i64 yo, .slice a1 ye.length c1, .slice a2 yi.length c2, .slice a3 yj.length c3]) (by simp [results, Tryz.results37, go_sem, q0, q1, q2, q3]) rfl ?_
  have z1 := (Array.getElem?_eq_some_iff.1 HB1.out).1
  have z2 := HF2.out.size
  have z3 := HF1.out.size
  have z4 := hWf.size
  refine ⟨⟨yo, .slice a1 ye.length c1, .slice a2 yi.length c2, .slice a3 yj.length c3, ye, yi, yj⟩, rfl, HY.out, (HKY.out.keep hWf (fun b hb e => by have e : b = w.heap.size := e; omega)).mono (fun b hb => ⟨by omega, by omega⟩), (HF1.out.trans (HF2.out.trans HF3.out)).trans' hWf (fun b hb e => by have e : b = w.heap.size := e; omega)⟩
end Go.Proofs.YtmflpeklalgibaaGreat

namespace Go.Proofs.YtmflpeklalgibaaGreat
open Go.RowKit Go.Maps
/-- Object g is a shelf: a stock that says A, and holds that say le; it owns the blocks of TS. -/
def SHE (w : World) (g : Nat) (TS : Nat → Prop) (A : Stk) (le : Hes) : Prop := ∃ l, SH w g TS A l ∧ mapE l = le
theorem SHE.lt {w : World} {g : Nat} {TS : Nat → Prop} {A : Stk} {le : Hes} (h : SHE w g TS A le) : ∀ b, TS b → b < w.heap.size := fun b hb => by
  obtain ⟨l, h1, -⟩ := h
  exact h1.lt b hb
theorem SHE.keep {S TS : Nat → Prop} {w w' : World} {g : Nat} {A : Stk} {le : Hes} (h : SHE w g TS A le) (hf : Fr S w w') (hS : ∀ b, TS b → ¬ S b) : SHE w' g TS A le := by
  obtain ⟨l, h1, h2⟩ := h
  exact ⟨l, h1.keep hf hS, h2⟩
theorem SB.she {w w' : World} {g gs m : Nat} {T0 TB T0' TB' TS : Nat → Prop} {A : Stk} {l : List (Int × HV)} {le : Hes} (h : SB w' g gs m T0' TB' A l) (hl : mapE l = le) (hT : ∀ b, TS b ↔ (b = g ∨ b = m ∨ T0 b ∨ TB b)) (hs : Shs w w' m T0 TB T0' TB') :
    SHE w' g (fun b => b = g ∨ b = m ∨ T0' b ∨ TB' b) A le ∧ Stp TS w w' (fun b => b = g ∨ b = m ∨ T0' b ∨ TB' b) := by
  obtain ⟨h1, h2, h3⟩ := hs
  refine ⟨⟨l, ⟨gs, m, T0', TB', h, fun b => Iff.rfl⟩, hl⟩, h1.mono (fun b _ e => (hT b).2 (e.elim (fun e => .inr (.inr (.inl e))) (fun e => .inr (.inl e)))), fun b hb => ?_⟩
  rcases hb with e | e | e | e
  · exact .inl ((hT b).2 (.inl e))
  · exact .inl ((hT b).2 (.inr (.inl e)))
  · exact (h2 b e).imp (fun e => (hT b).2 (.inr (.inr (.inl e)))) id
  · exact (h3 b e).imp (fun e => (hT b).2 (.inr (.inr (.inr e)))) id
/-- What a call that answers a list and an error leaves. -/
def Ans (w : World) (g : Nat) (TS : Nat → Prop) (R : (Its × Int) × Stk × Hes) (e : Ending) (w' : World) : Prop :=
  ∃ v' TS', e = .returned (.tuple #[v', .int .i64 R.1.2]) ∧ SHE w' g TS' R.2.1 R.2.2 ∧ Il w' v' R.1.1 ∧ (∀ b, v'.ownBlock = some b → w.heap.size ≤ b ∧ b < w'.heap.size ∧ ¬ TS' b) ∧ Stp TS w w' TS'
theorem ans_of {w w' : World} {g gs m : Nat} {T0 TB T0' TB' TS : Nat → Prop} {A : Stk} {l : List (Int × HV)} {R : (Its × Int) × Stk × Hes} {v' : Value} (h : SB w' g gs m T0' TB' R.2.1 l) (hlt : g < w.heap.size ∧ m < w.heap.size) (hl : mapE l = R.2.2) (hT : ∀ b, TS b ↔ (b = g ∨ b = m ∨ T0 b ∨ TB b)) (hs : Shs w w' m T0 TB T0' TB')
    (hi : Il w' v' R.1.1) (ho : ∀ b, v'.ownBlock = some b → w.heap.size ≤ b ∧ b < w'.heap.size ∧ ¬ T0' b ∧ ¬ TB' b) : Ans w g TS R (.returned (.tuple #[v', .int .i64 R.1.2])) w' := by
  obtain ⟨h1, h2⟩ := h.she hl hT hs
  refine ⟨v', _, rfl, h1, hi, fun b hb => ⟨(ho b hb).1, (ho b hb).2.1, fun e => ?_⟩, h2⟩
  have := ho b hb
  rcases e with e | e | e | e
  · omega
  · omega
  · exact this.2.2.1 e
  · exact this.2.2.2 e
section
variable {w : World} {g : Nat} {TS : Nat → Prop} {A : Stk} {le : Hes}
set_option maxRecDepth 100000 in
set_option maxHeartbeats 1000000 in
theorem eTake (o : Int) (v : Value) (L : Its) (h : SHE w g TS A le) (hk : ShOk A le) (ho : okI o) (hv : Il w v L) : Calls Tryz.prog 25 #[.pointer (some ⟨g, 0, none⟩), .int .i64 o, v] w (Ans w g TS (takeE A le o L)) := by
  obtain ⟨l, ⟨gs, m, T0, TB, h1, h2⟩, rfl⟩ := h
  refine (hTake w g gs m T0 TB A l o v L h1 hk.stk ho hv (by have := hk.len; rw [mapE_len] at this; omega) hk.row).mono ?_
  rintro e w' ⟨v', T0', TB', l', rfl, q1, q2, q3, q4, q5⟩
  exact ans_of (A := A) q1 ⟨h1.lt g (.inl rfl), h1.lt m (.inr (.inl rfl))⟩ q2 h2 q5 q3 q4
set_option maxHeartbeats 1000000 in
theorem ePick (o : Int) (h : SHE w g TS A le) (hk : ShOk A le) (ho : okI o) : Calls Tryz.prog 27 #[.pointer (some ⟨g, 0, none⟩), .int .i64 o] w (Ans w g TS (pickE A le o)) := by
  obtain ⟨l, ⟨gs, m, T0, TB, h1, h2⟩, rfl⟩ := h
  have hc : Calls Tryz.prog 55 _ w (Ans w g TS (pickE A (mapE l) o)) := (hmvP w g gs m T0 TB A l o h1 hk.stk ho (by have := hk.len; rw [mapE_len] at this; omega) hk.row).mono (by
    rintro e w' ⟨v', T0', TB', l', rfl, q1, q2, q3, q4, q5⟩
    exact ans_of (A := A) (R := pickE A (mapE l) o) q1 ⟨h1.lt g (.inl rfl), h1.lt m (.inr (.inl rfl))⟩ q2 h2 q5 q3 q4)
  obtain ⟨R, hR⟩ : ∃ R, pickE A (mapE l) o = R := ⟨_, rfl⟩
  rw [hR] at hc ⊢
  have HC := Lib.hid hc
  clear h1 h2 hk hc hR
  go_enter Tryz.func27, Tryz.ntmps27
  go_wp2_with (go_at_call 55; refine HC.out.mono ?_; rintro e w' ⟨v', TS', rfl, q1, q2, q3, q4⟩; have HA := Lib.hid (show Ans w g TS R (.returned (.tuple #[v', .int .i64 R.1.2])) w' from ⟨v', TS', rfl, q1, q2, q3, q4⟩); obtain ⟨xa, xc, rfl⟩ := q2.sl; clear q1 q2 q3 q4)
  go_ret2
  exact HA.out
set_option maxHeartbeats 1000000 in
theorem eShip (o : Int) (h : SHE w g TS A le) (hk : ShOk A le) (ho : okI o) : Calls Tryz.prog 28 #[.pointer (some ⟨g, 0, none⟩), .int .i64 o] w (Ans w g TS (shipE A le o)) := by
  obtain ⟨l, ⟨gs, m, T0, TB, h1, h2⟩, rfl⟩ := h
  have hc : Calls Tryz.prog 55 _ w (Ans w g TS (shipE A (mapE l) o)) := (hmvS w g gs m T0 TB A l o h1 hk.stk ho (by have := hk.len; rw [mapE_len] at this; omega) hk.row).mono (by
    rintro e w' ⟨v', T0', TB', l', rfl, q1, q2, q3, q4, q5⟩
    exact ans_of (A := A) (R := shipE A (mapE l) o) q1 ⟨h1.lt g (.inl rfl), h1.lt m (.inr (.inl rfl))⟩ q2 h2 q5 q3 q4)
  obtain ⟨R, hR⟩ : ∃ R, shipE A (mapE l) o = R := ⟨_, rfl⟩
  rw [hR] at hc ⊢
  have HC := Lib.hid hc
  clear h1 h2 hk hc hR
  go_enter Tryz.func28, Tryz.ntmps28
  go_wp2_with (go_at_call 55; refine HC.out.mono ?_; rintro e w' ⟨v', TS', rfl, q1, q2, q3, q4⟩; have HA := Lib.hid (show Ans w g TS R (.returned (.tuple #[v', .int .i64 R.1.2])) w' from ⟨v', TS', rfl, q1, q2, q3, q4⟩); obtain ⟨xa, xc, rfl⟩ := q2.sl; clear q1 q2 q3 q4)
  go_ret2
  exact HA.out
set_option maxHeartbeats 2000000 in
theorem eFree (o : Int) (h : SHE w g TS A le) (hk : ShOk A le) (ho : okI o) : Calls Tryz.prog 26 #[.pointer (some ⟨g, 0, none⟩), .int .i64 o] w (Ans w g TS (freeE A le o)) := by
  have hh := h
  obtain ⟨l, ⟨gs, m, T0, TB, h1, h2⟩, rfl⟩ := h
  obtain ⟨R, hR⟩ : ∃ R, freeE A (mapE l) o = R := ⟨_, rfl⟩
  have hRd : R = freeE A (mapE l) o := hR.symm
  rw [hR]
  unfold freeE at hRd
  obtain ⟨c0, c1⟩ := h1.cells
  have hm := Lib.hid (hmay w g m o c1)
  have hho := hhold w g gs m T0 TB A l o h1 ho
  have hhd := h1.hold ho
  rw [heOf_map] at hRd
  have hlen := heOf_len hk.row o
  rw [heOf_map] at hlen
  have hnoth : ∀ w', Fr (fun _ => False) w w' → ∀ c, Ans w g TS (([], c), A, mapE l) (.returned (.tuple #[.slice none 0 0, .int .i64 c])) w' := fun w' hf c =>
    ⟨_, TS, rfl, hh.keep hf (fun _ _ e => e), il_nil _, fun b hb => (by cases hb), Stp.refl hf⟩
  have HNO := Lib.hid hnoth
  have hmv0 : ∀ W, Fr (fun _ => False) w W → Calls Tryz.prog 55 #[.pointer (some ⟨g, 0, none⟩), .int .i64 o, .int .i64 3, .func (.func 56) #[] #[]] W (Ans w g TS (moveS A (mapE l) o 3 0 none)) := fun W hf => by
    refine (hmvF W g gs m T0 TB A l o (h1.keep hf (fun _ _ e => e)) hk.stk ho (by have := hk.len; rw [mapE_len] at this; omega) hk.row).mono ?_
    rintro e w' ⟨v', T0', TB', l', rfl, q1, q2, q3, q4, q5⟩
    have hg := h1.lt g (.inl rfl); have hm := h1.lt m (.inr (.inl rfl))
    have hz := hf.size
    obtain ⟨v'', TS', r1, r2, r3, r4, r5⟩ := ans_of (w := W) (A := A) (R := moveS A (mapE l) o 3 0 none) q1 ⟨by omega, by omega⟩ q2 h2 q5 q3 q4
    exact ⟨v'', TS', r1, r2, r3, fun b hb => ⟨Nat.le_trans hz (r4 b hb).1, (r4 b hb).2⟩, (hf.mono (fun _ _ e => e.elim)).trans' r5.1 (fun _ _ e => e), fun b hb => (r5.2 b hb).imp id (fun e => Nat.le_trans hz e)⟩
  obtain ⟨RM, hRM⟩ : ∃ R, moveS A (mapE l) o 3 0 none = R := ⟨_, rfl⟩
  rw [hRM] at hmv0 hRd
  have HMV := Lib.hid hmv0
  obtain ⟨⟨xo, xh, xp, xs, he, pi, sh⟩, hX⟩ : ∃ X, holdOf l o = X := ⟨_, rfl⟩
  rw [hX] at hho hRd hhd hlen
  obtain ⟨a1, d1, e1⟩ := hhd.1.lh.1.sl
  obtain ⟨a2, d2, e2⟩ := hhd.1.lp.1.sl
  obtain ⟨a3, d3, e3⟩ := hhd.1.ls.1.sl
  dsimp only at e1 e2 e3
  subst e1 e2 e3
  simp only [HV.enc, HV.e] at hho hRd hlen
  obtain ⟨n2, hn2⟩ : ∃ n, pi.length = n := ⟨_, rfl⟩
  obtain ⟨n1, hn1⟩ : ∃ n, he.length = n := ⟨_, rfl⟩
  obtain ⟨n3, hn3⟩ : ∃ n, sh.length = n := ⟨_, rfl⟩
  rw [hn1, hn2, hn3] at hho
  simp only [hn2] at hRd
  have HHO := Lib.hid hho
  have hfd : ∀ w : World, (Instr.field 54 (.agg #[.int .i64 xo, .slice a1 n1 d1, .slice a2 n2 d2, .slice a3 n3 d3]) 2).run Tryz.prog w = .ok (.slice a2 n2 d2) w := fun _ => by kernel_rfl
  clear h1 h2 hk hh hR c0 c1 hho hhd hnoth hmv0 hRM hX hn1 hn2 hn3 hlen
  by_cases hq1 : mayO o = 0
  case neg =>
    rw [if_pos hq1] at hRd
    have HR := Lib.hid hRd
    have q1 : (mayO o != 0) = true := by simpa using hq1
    clear hRd
    go_enter Tryz.func26, Tryz.ntmps26
    go_wp2_with (go_at_call 48; refine hm.out.mono ?_; rintro e w0 ⟨rfl, rfl⟩)
    go_ret2
    rw [HR.out]
    exact HNO.out _ (Fr.refl _ _) _
  rw [if_neg (by simpa using hq1)] at hRd
  rw [hq1] at hm
  clear hq1
  by_cases hq2 : 0 < n2
  case pos =>
    rw [if_pos hq2] at hRd
    have HR := Lib.hid hRd
    have hI : (0 : Int) < n2 := by omega
    clear hRd hq2
    go_enter Tryz.func26, Tryz.ntmps26
    go_wp2_with (first
      | (go_at_call 48; refine hm.out.mono ?_; rintro e w0 ⟨rfl, rfl⟩)
      | (go_at_call 49; refine HHO.out.mono ?_; rintro e w1 ⟨rfl, hf1⟩; have HF1 := Lib.hid hf1; clear hf1))
    go_ret2
    rw [HR.out]
    exact HNO.out _ HF1.out _
  rw [if_neg hq2] at hRd
  have HR := Lib.hid hRd
  have hI : ¬ (0 : Int) < n2 := by omega
  clear hRd hq2
  go_enter Tryz.func26, Tryz.ntmps26
  go_wp2_with (first
    | (go_at_call 48; refine hm.out.mono ?_; rintro e w0 ⟨rfl, rfl⟩)
    | (go_at_call 49; refine HHO.out.mono ?_; rintro e w1 ⟨rfl, hf1⟩; have HF1 := Lib.hid hf1; clear hf1)
    | (go_at_call 55; refine (HMV.out _ HF1.out).mono ?_; rintro e w' ⟨v', TS', rfl, q1, q2, q3, q4⟩; have HA := Lib.hid (show Ans w g TS RM (.returned (.tuple #[v', .int .i64 RM.1.2])) w' from ⟨v', TS', rfl, q1, q2, q3, q4⟩); obtain ⟨xa, xc, rfl⟩ := q2.sl; clear q1 q2 q3 q4))
  go_ret2
  rw [HR.out]
  exact HA.out
theorem eDo (k : Int) (v : Value) (L : Its) (h : SHE w g TS A le) (hk : ShOk A le) (hv : Il w v L) : Calls Tryz.prog 61 #[.pointer (some ⟨g, 0, none⟩), .int .i64 k, v] w fun e w' => ∃ TS', e = .returned (.int .i64 (doH A k L).1) ∧ SHE w' g TS' (doH A k L).2 le ∧ Stp TS w w' TS' := by
  obtain ⟨l, ⟨gs, m, T0, TB, h1, h2⟩, rfl⟩ := h
  refine (hDo k v L h1 hk.stk hv).mono ?_
  rintro e w' ⟨rfl, T0', q1, q2⟩
  obtain ⟨r1, r2⟩ := q1.she rfl h2 (w := w) (T0 := T0) ⟨q2.1.mono (fun _ _ e => .inl e), q2.2, fun b hb => .inl hb⟩
  exact ⟨_, rfl, r1, r2⟩
theorem eCount (s : Str) (n : Int) (h : SHE w g TS A le) (hk : ShOk A le) (hs : okS s) : Calls Tryz.prog 62 #[.pointer (some ⟨g, 0, none⟩), vS s, .int .i64 n] w fun e w' => ∃ TS', e = .returned (.tuple #[.int .i64 (countS A s n).1, .int .i64 (countS A s n).2.1]) ∧ SHE w' g TS' (countS A s n).2.2 le ∧ Stp TS w w' TS' := by
  obtain ⟨l, ⟨gs, m, T0, TB, h1, h2⟩, rfl⟩ := h
  refine (hCount s n h1 hs hk.stk).mono ?_
  rintro e w' ⟨rfl, q1, q2⟩
  obtain ⟨r1, r2⟩ := q1.she rfl h2 (w := w) (T0 := T0) ⟨q2.mono (fun _ _ e => .inl e), fun b hb => .inl hb, fun b hb => .inl hb⟩
  exact ⟨_, rfl, r1, r2⟩
/-- A hold that was copied. -/
def Hd (w' : World) (B : Nat) (v : Value) (x : HE) : Prop := ∃ y : HV, v = y.enc ∧ y.e = x ∧ HOk w' (fun b => B ≤ b ∧ b < w'.heap.size) y
theorem eHold (o : Int) (h : SHE w g TS A le) (hk : ShOk A le) (ho : okI o) : Calls Tryz.prog 37 #[.pointer (some ⟨g, 0, none⟩), .int .i64 o] w fun e w' => ∃ v, e = .returned v ∧ Hd w' w.heap.size v (heOf le o) ∧ Fr (fun _ => False) w w' := by
  obtain ⟨l, ⟨gs, m, T0, TB, h1, h2⟩, rfl⟩ := h
  have hlen := heOf_len hk.row o
  rw [heOf_map] at hlen ⊢
  refine (hHold w g gs m T0 TB A l o h1 ho (by have h3 : (holdOf l o).e.he.length ≤ 16 ∧ (holdOf l o).e.pi.length ≤ 16 ∧ (holdOf l o).e.sh.length ≤ 16 := hlen; unfold HV.e at h3; simp only at h3; omega)).mono ?_
  rintro e w' ⟨y, rfl, q1, q2, q3⟩
  exact ⟨_, rfl, ⟨y, rfl, q1, q2⟩, q3⟩
theorem eStock (h : SHE w g TS A le) : Calls Tryz.prog 33 #[.pointer (some ⟨g, 0, none⟩)] w fun e w' => ∃ g' TS', e = .returned (.pointer (some ⟨g', 0, none⟩)) ∧ SA w' g' TS' A ∧ Fr (fun _ => False) w w' ∧ ∀ b, TS' b → w.heap.size ≤ b := by
  obtain ⟨l, ⟨gs, m, T0, TB, h1, h2⟩, rfl⟩ := h
  exact hStock h1
theorem eNew (w : World) : Calls Tryz.prog 17 #[] w fun e w' => ∃ g TS, e = .returned (.pointer (some ⟨g, 0, none⟩)) ∧ SHE w' g TS [] [] ∧ (∀ b, TS b → w.heap.size ≤ b) ∧ Fr (fun _ => False) w w' := by
  refine (hNew w).mono ?_
  rintro e w' ⟨g, TS, rfl, h1, h2, h3⟩
  exact ⟨g, TS, rfl, ⟨[], h1, rfl⟩, h2, h3⟩
end
end Go.Proofs.YtmflpeklalgibaaGreat

namespace Go.Proofs.YtmflpeklalgibaaGreat
open Go.RowKit Go.Maps
theorem MK.fa {B : Nat} {w w' : World} {g : Nat} {TS : Nat → Prop} {bs : List Int} {long : Bool} (h : MK w g TS bs long) (hf : Fa B w w') : MK w' g TS bs long := by
  obtain ⟨⟨v, h1, h2, h3⟩, h4, h5, h6⟩ := h
  exact ⟨⟨v, Fa.cells hf h1, Fa.row hf h2, h3⟩, h4, fun b hb => Nat.lt_of_lt_of_le (h5 b hb) hf.size, h6⟩
end Go.Proofs.YtmflpeklalgibaaGreat

namespace Go.Proofs.YtmflpeklalgibaaGreat
open Go.RowKit Go.Maps
theorem SRok.get {r : SR} (h : SRok r) (j : Nat) : okI (r.get j) := by
  have hc := h.counted
  obtain ⟨⟨a0, a1, a2, a3, b0, b1, b2, b3, b4, b5⟩, -, -⟩ := h
  unfold okI SR.get
  split <;> omega
end Go.Proofs.YtmflpeklalgibaaGreat

namespace Go.Proofs.YtmflpeklalgibaaGreat
open Go.RowKit Go.Maps
attribute [local go_sem] Oper.semAt_some
theorem Fr.setNew {S : Nat → Prop} {w w' : World} {b : Nat} (h : Fr S w w') (hb : w.heap.size ≤ b) (u : Value) : Fr S w (w'.setCell ⟨b, 0, none⟩ u) := h.setCell (p := ⟨b, 0, none⟩) (fun e => by have e : b < w.heap.size := e; omega) u
/-- The maker, in a box of its own. -/
structure PkS (W0 : World) (n0 : Nat) (W : World) (mb gm : Nat) (TM : Nat → Prop) (bs : List Int) : Prop where
  mkr : MK W gm TM bs false
  box : W.heap[mb]? = some (.cells #[.pointer (some ⟨gm, 0, none⟩)] 125)
  nb : ¬ TM mb
  fr : Fr (fun b => n0 + 1 ≤ b) W0 W
  low : ∀ b, TM b → n0 + 1 ≤ b
  mb : n0 + 1 ≤ mb
theorem PkS.a {W0 w2 : World} {n0 gm : Nat} {TM : Nat → Prop} {bs : List Int} (h : MK w2 gm TM bs false) (hl : ∀ b, TM b → n0 + 1 ≤ b) (hf : Fr (fun b => n0 + 1 ≤ b) W0 w2) (hs : W0.heap.size = n0 + 1) :
    PkS W0 n0 (w2.alloc (.cells #[.pointer (some ⟨gm, 0, none⟩)] 125)) w2.heap.size gm TM bs :=
  ⟨h.fr ((Fr.refl (fun _ => False) _).alloc _) (fun _ _ e => e), heap_new _ _, fun e => by have := h.lt _ e; omega, hf.alloc _, hl, by have := hf.size; omega⟩
theorem PkS.b {W0 w2 : World} {n0 gm mb : Nat} {TM : Nat → Prop} {bs : List Int} (h : MK w2 gm TM bs false) (hl : ∀ b, TM b → n0 + 1 ≤ b) (hf : Fr (fun b => n0 + 1 ≤ b) W0 w2) (hs : W0.heap.size = n0 + 1) (hm : W0.heap.size ≤ mb)
    (hb : w2.heap[mb]? = some (.cells #[.pointer none] 125)) (hn : ¬ TM mb) : PkS W0 n0 (w2.setCell ⟨mb, 0, none⟩ (.pointer (some ⟨gm, 0, none⟩))) mb gm TM bs :=
  ⟨h.fr ((Fr.refl (fun b => b = mb) _).setCell (p := ⟨mb, 0, none⟩) (fun _ => rfl) _) (fun b hb e => hn (e ▸ hb)), obj_set hb 0 _, hn, Fr.setNew hf hm _, hl, by omega⟩
theorem PkS.fa {B : Nat} {W0 W W' : World} {n0 mb gm : Nat} {TM : Nat → Prop} {bs : List Int} (h : PkS W0 n0 W mb gm TM bs) (hf : Fa B W W') (hB : W0.heap.size ≤ B) : PkS W0 n0 W' mb gm TM bs :=
  ⟨h.mkr.fa hf, Fa.cells hf h.box, h.nb, Fa.old hf h.fr hB, h.low, h.mb⟩
theorem PkS.step {W0 W W' : World} {n0 mb gm : Nat} {TM TM' : Nat → Prop} {bs bs' : List Int} (h : PkS W0 n0 W mb gm TM bs) (hm : MK W' gm TM' bs' false) (hs : Stp TM W W' TM') (hsz : n0 + 1 ≤ W.heap.size) : PkS W0 n0 W' mb gm TM' bs' :=
  have hl := (Array.getElem?_eq_some_iff.1 h.box).1
  ⟨hm, hs.1.at_ h.box h.nb, fun e => (hs.2 _ e).elim h.nb (fun e => by omega), hs.fr h.fr h.low, hs.low h.low hsz, h.mb⟩
end Go.Proofs.YtmflpeklalgibaaGreat

namespace Go.Proofs.YtmflpeklalgibaaGreat
open Go.RowKit Go.Maps
set_option maxRecDepth 100000 in
theorem Bs.string {w : World} {v : Value} {bs : List Int} (h : Bs w v bs) : (convert 56 9 v).run Tryz.prog w = .ok (.string (strOfNums bs)) w := by
  rcases Nat.eq_zero_or_pos bs.length with h0 | h0
  · have : bs = [] := List.eq_nil_of_length_eq_zero h0
    subst this
    obtain ⟨_, a, c, rfl, _⟩ := h
    cases a with
    | none => exact run_convert_bytes_nil w 56 5 Tryz.underlying56 Tryz.underlying5 _ _ _ Tryz.underlying9
    | some ad =>
      rw [run_convert_bytes_string w 56 9 5 _ _ _ Tryz.underlying56 Tryz.underlying5 Tryz.underlying9]
      have := run_loadCells_list (P := Tryz.prog) w ad [] (fun j v hj => by simp at hj)
      rw [List.length_nil, run_bytesToString w ad 0 c [] (by simpa using this)]
      rfl
  · obtain ⟨ad, c, rfl⟩ := h.at0 h0
    obtain ⟨_, a, c', e, hx⟩ := h
    injection e with e1 _ _
    subst e1
    rw [run_convert_bytes_string w 56 9 5 _ _ _ Tryz.underlying56 Tryz.underlying5 Tryz.underlying9]
    have := run_loadCells_list (P := Tryz.prog) w ad (bs.map (Value.int .u8)) (fun j v hj => by
      rw [List.getElem?_map] at hj
      obtain ⟨x, hx2, rfl⟩ := Option.map_eq_some_iff.1 hj
      obtain ⟨_, _, ad', e, hc⟩ := hx j x hx2
      cases e; exact hc)
    rw [run_bytesToString w ad bs.length c bs (by simpa using this), foldl_push_bytes]
    simp [strOfNums, ByteArray.empty, ByteArray.emptyWithCapacity]
    rfl
theorem Bs.take {w : World} {a : Option Addr} {n c k : Nat} {bs : List Int} (h : Bs w (.slice a n c) bs) (hk : k ≤ n) : Bs w (.slice a k c) (bs.take k) := by
  obtain ⟨h0, a', c', e, hx⟩ := h
  injection e with e1 e2 e3
  subst e1 e3
  have hl : (bs.take k).length = k := by rw [List.length_take]; omega
  refine ⟨by omega, a, c, by rw [hl], fun i x hi => ?_⟩
  rw [List.getElem?_take] at hi
  split at hi
  · exact hx i x hi
  · cases hi
end Go.Proofs.YtmflpeklalgibaaGreat

namespace Go.Proofs.YtmflpeklalgibaaGreat
open Go.RowKit Go.Maps
end Go.Proofs.YtmflpeklalgibaaGreat

namespace Go.Proofs.YtmflpeklalgibaaGreat
open Go Go.RowKit
def wpEfS (S : Nat → Prop) (P : Program) (ops : Array Oper) (Q : Act → World → Prop) : List (Oper × Bool) → Act → World → Prop
  | [], a, w => ∀ w1, Fr (fun _ => False) w w1 → Q a w1
  | (o, cl) :: es, a, w => ∀ w1, Fr (fun _ => False) w w1 → wpList P ops (fun ex a2 w2 => ex = Exit.normal ∧ a2.defers = a.defers ∧ (cl = true → Fr S w1 w2) ∧ wpEfS S P ops Q es a2 w2) [o] a w1
section
variable {S : Nat → Prop} {P : Program} {l : List Oper} {E : Efs} {pu : List Nat} {w0 : World} {aF : Act} {Q : Exit → Act → World → Prop}
structure EInvS (S : Nat → Prop) (P : Program) (l : List Oper) (E : Efs) (pu : List Nat) (w0 : World) (aF : Act) (Q : Act → World → Prop) (listed : Array Bool) (k : Nat) (a' a af : Act) (w : World) : Prop where
  lst : ∀ (p e : Nat), (efIdx E)[p]? = some e → (listed.getD e true = true ↔ p < k)
  kle : k ≤ E.length
  df : a.defers = a'.defers ∧ af.defers = aF.defers
  sz : a.tmps.size = a'.tmps.size ∧ af.tmps.size = aF.tmps.size ∧ a.tmps.size = af.tmps.size
  don : ∀ (p e t : Nat) (o : Oper), p < k → (efIdx E)[p]? = some e → l[e]? = some o → o.dst = some t → a.tmps[t]? = af.tmps[t]?
  out : ∀ t : Nat, (∀ (p e : Nat) (o : Oper), p < k → (efIdx E)[p]? = some e → l[e]? = some o → o.dst ≠ some t) → a.tmps[t]? = a'.tmps[t]? ∧ af.tmps[t]? = aF.tmps[t]?
  eff : ∃ wk, Fr (fun _ => False) wk w ∧ wpEfS S P l.toArray Q (efOps l (E.drop k)) af wk
  cls : (Fr S w0 w) ∨ (∀ i, i < l.length → i ∉ efIdx E → listed.getD i true = false → i ∈ pu)
  lsz : listed.size = l.length
  cld : ∀ (j : Nat) (x : Oper), l[j]? = some x → listed.getD j true = true → ∀ e ∈ x.after, Region.binds .any e = true → listed.getD e.on false = true
end
end Go.Proofs.YtmflpeklalgibaaGreat

namespace Go.Proofs.YtmflpeklalgibaaGreat
open Go Go.RowKit
abbrev boxV (b : Nat) : Value := .pointer (some ⟨b, 0, none⟩)
def wpEfB (S : Nat → Prop) (P : Program) (ops : Array Oper) (Q : Act → World → Prop) (sto : Oper) (t : Tmp) (zo : Obj) (n0 : Nat) : List Oper → (Nat → Prop) → Act → World → Prop
  | [], O, a, w => ∀ w1 b, Fr (fun _ => False) w w1 → n0 ≤ b → w1.heap[b]? = some zo → ¬ O b → wpList P ops (fun ex a2 w2 => ex = Exit.normal ∧ a2.defers = a.defers ∧ Q a2 w2) [sto] (a.put (some t) (boxV b)) w1
  | o :: es, O, a, w => ∀ w1, Fr (fun _ => False) w w1 → wpList P ops (fun ex a2 w2 => ex = Exit.normal ∧ a2.defers = a.defers ∧ Fr S w1 w2 ∧ ∃ O' : Nat → Prop, Stp O w1 w2 O' ∧ (∀ b, O' b → b < w2.heap.size) ∧ wpEfB S P ops Q sto t zo n0 es O' a2 w2) [o] a w1
def efO (l : List Oper) (E : List Nat) : List Oper := E.filterMap fun e => l[e]?
def ebIdx (E : List Nat) (st q : Nat) : List Nat := E ++ [st, q]
structure EbOk (l : List Oper) (E : List Nat) (st q : Nat) (t : Tmp) : Prop where
  sel : Region.noSelect l.toArray = true
  acy : acyB .any l.toArray = true
  nod : (ebIdx E st q).Nodup
  chn : ∀ (p a b : Nat), E[p]? = some a → E[p + 1]? = some b → ∃ o, l[b]? = some o ∧ waits o a = true
  eff : ∀ e ∈ E, ∃ o, l[e]? = some o ∧ o.guard = none ∧ seesB l o = true ∧ t ∉ o.looksAt l.toArray ∧ o.dst ≠ some t
  sto : ∃ o, l[st]? = some o ∧ o.guard = none ∧ seesB l o = true ∧ o.dst = none ∧ ∀ i, i < l.length → i ≠ st → waits o i = true
  box : ∃ o, l[q]? = some o ∧ o.guard = none ∧ o.dst = some t
  ap : ∀ (i : Nat) (o : Oper), l[i]? = some o → i ∉ ebIdx E st q → ∀ e ∈ ebIdx E st q, ∀ x d, l[e]? = some x → x.dst = some d → d ∉ o.looksAt l.toArray ∧ o.dst ≠ some d
  un : ∀ (i j : Nat) (x y : Oper) (t : Tmp), l[i]? = some x → l[j]? = some y → x.dst = some t → y.dst = some t → i = j
section
variable {S : Nat → Prop} {P : Program} {l : List Oper} {E : List Nat} {st q : Nat} {t : Tmp} {zo : Obj} {n0 : Nat} {sto : Oper} {w0 : World} {aF : Act} {Q : Exit → Act → World → Prop}
structure EInvB (S : Nat → Prop) (P : Program) (l : List Oper) (E : List Nat) (st q : Nat) (t : Tmp) (zo : Obj) (n0 : Nat) (sto : Oper) (w0 : World) (aF : Act) (Q : Act → World → Prop) (listed : Array Bool) (k : Nat) (bo : Option Nat) (O : Nat → Prop) (a' a af : Act) (w : World) : Prop where
  lst : ∀ (p e : Nat), E[p]? = some e → (listed.getD e true = true ↔ p < k)
  kle : k ≤ E.length
  stl : listed.getD st true = false
  ql : listed.getD q true = true ↔ bo.isSome = true
  df : a.defers = a'.defers ∧ af.defers = aF.defers
  sz : a.tmps.size = a'.tmps.size ∧ af.tmps.size = aF.tmps.size ∧ a.tmps.size = af.tmps.size
  don : ∀ (p e u : Nat) (o : Oper), p < k → E[p]? = some e → l[e]? = some o → o.dst = some u → a.tmps[u]? = af.tmps[u]?
  out : ∀ u : Nat, u ≠ t → (∀ (p e : Nat) (o : Oper), p < k → E[p]? = some e → l[e]? = some o → o.dst ≠ some u) → a.tmps[u]? = a'.tmps[u]? ∧ af.tmps[u]? = aF.tmps[u]?
  bx : ∀ b, bo = some b → n0 ≤ b ∧ w.heap[b]? = some zo ∧ ¬ O b ∧ (t < a.tmps.size → a.tmps[t]? = some (boxV b))
  eff : ∃ wk, Fr (fun _ => False) wk w ∧ wpEfB S P l.toArray Q sto t zo n0 (efO l (E.drop k)) O af wk
  olt : ∀ b, O b → b < w.heap.size
  nw : n0 ≤ w.heap.size
  cls : Fr S w0 w
  lsz : listed.size = l.length
end
end Go.Proofs.YtmflpeklalgibaaGreat

namespace Go.Proofs.YtmflpeklalgibaaGreat
open Go.RowKit Go.Maps
abbrev mbox : Obj := .cells #[.pointer none] 125
/-- Within the region that makes the maker: what was there is as it was; the box, if it is laid. -/
structure K0 (w0 W : World) (n0 : Nat) (bo : Option Nat) : Prop where
  fr : Fr (fun b => n0 ≤ b) w0 W
  sz : n0 ≤ W.heap.size
  bx : ∀ b, bo = some b → n0 ≤ b ∧ W.heap[b]? = some mbox
structure K1 (w0 W : World) (n0 : Nat) (bo : Option Nat) (gm : Nat) (TM : Nat → Prop) (s : Mst) : Prop where
  k : K0 w0 W n0 bo
  mkr : MK W gm TM s.1 s.2
  low : ∀ b, TM b → n0 ≤ b
  nb : ∀ b, bo = some b → ¬ TM b
/-- The maker, in a box of its own. -/
structure KF (w0 W : World) (n0 mb gm : Nat) (TM : Nat → Prop) (s : Mst) : Prop where
  mkr : MK W gm TM s.1 s.2
  box : W.heap[mb]? = some (.cells #[.pointer (some ⟨gm, 0, none⟩)] 125)
  nb : ¬ TM mb
  fr : Fr (fun b => n0 ≤ b) w0 W
  low : ∀ b, TM b → n0 ≤ b
  mb : n0 ≤ mb
section
variable {w0 W W' : World} {n0 gm b : Nat} {bo : Option Nat} {TM TM' : Nat → Prop} {s s' : Mst}
theorem K0.box (h : K0 w0 W n0 none) : K0 w0 (W.alloc mbox) n0 (some W.heap.size) :=
  ⟨h.fr.alloc _, by have := h.sz; simp; omega, fun b e => by cases e; exact ⟨h.sz, heap_at rfl _⟩⟩
theorem K0.keep (h : K0 w0 W n0 bo) (hf : Fr (fun _ => False) W W') : K0 w0 W' n0 bo :=
  ⟨h.fr.trans' hf (fun _ _ e => e.elim), Nat.le_trans h.sz hf.size, fun b e => ⟨(h.bx b e).1, hf.at_ (h.bx b e).2 (fun e => e)⟩⟩
theorem K1.box (h : K1 w0 W n0 none gm TM s) : K1 w0 (W.alloc mbox) n0 (some W.heap.size) gm TM s :=
  ⟨h.k.box, h.mkr.fr ((Fr.refl (fun _ => False) _).alloc _) (fun _ _ e => e), h.low, fun b e h2 => by cases e; have := h.mkr.lt _ h2; omega⟩
theorem K1.keep (h : K1 w0 W n0 bo gm TM s) (hf : Fr (fun _ => False) W W') : K1 w0 W' n0 bo gm TM s := ⟨h.k.keep hf, h.mkr.fr hf (fun _ _ e => e), h.low, h.nb⟩
theorem K1.step (h : K1 w0 W n0 bo gm TM s) (hm : MK W' gm TM' s'.1 s'.2) (hs : Stp TM W W' TM') : K1 w0 W' n0 bo gm TM' s' :=
  ⟨⟨h.k.fr.trans' hs.1 (fun b _ e => h.low b e), Nat.le_trans h.k.sz hs.1.size, fun b e => ⟨(h.k.bx b e).1, hs.1.at_ (h.k.bx b e).2 (h.nb b e)⟩⟩, hm, fun b e => (hs.2 b e).elim (h.low b) (fun e => Nat.le_trans h.k.sz e), fun b e h2 => (hs.2 b h2).elim (h.nb b e) (fun e2 => by have := (Array.getElem?_eq_some_iff.1 (h.k.bx b e).2).1; omega)⟩
theorem K0.new (h : K0 w0 W n0 bo) : Calls Tryz.prog 70 #[] W fun e w' => ∃ gm TM, e = .returned (.pointer (some ⟨gm, 0, none⟩)) ∧ K1 w0 w' n0 bo gm TM ([], false) ∧ Stp (fun _ => False) W w' TM := by
  refine (cMNew W).mono ?_
  rintro e w' ⟨rfl, h1, h2⟩
  exact ⟨_, _, rfl, ⟨h.keep h2, h1, fun b e => by have := h.sz; omega, fun b e h3 => by have := (Array.getElem?_eq_some_iff.1 (h.bx b e).2).1; omega⟩, h2, fun b e => .inr (by omega)⟩
theorem K1.num (h : K1 w0 W n0 bo gm TM s) (n : Int) (hn : okI n) : Calls Tryz.prog 73 #[.pointer (some ⟨gm, 0, none⟩), .int .i64 n] W fun e w' => e = .returned (.pointer (some ⟨gm, 0, none⟩)) ∧ ∃ TM', K1 w0 w' n0 bo gm TM' (mkP s (numB n)) ∧ Stp TM W w' TM' := by
  refine (cMNum W gm TM s.1 s.2 n h.mkr hn).mono ?_
  rintro e w' ⟨rfl, TM', h1, h2⟩
  exact ⟨rfl, TM', h.step h1 h2, h2⟩
theorem K1.text (h : K1 w0 W n0 bo gm TM s) (t : Str) (ht : t.length ≤ 65536) : Calls Tryz.prog 71 #[.pointer (some ⟨gm, 0, none⟩), vS t] W fun e w' => e = .returned (.pointer (some ⟨gm, 0, none⟩)) ∧ ∃ TM', K1 w0 w' n0 bo gm TM' (mkP s (textB t)) ∧ Stp TM W w' TM' := by
  refine (cMText W gm TM s.1 s.2 t h.mkr ht).mono ?_
  rintro e w' ⟨rfl, TM', h1, h2⟩
  exact ⟨rfl, TM', h.step h1 h2, h2⟩
theorem K1.fin (h : K1 w0 W n0 none gm TM s) : KF w0 (W.alloc (.cells #[.pointer (some ⟨gm, 0, none⟩)] 125)) n0 W.heap.size gm TM s :=
  ⟨h.mkr.fr ((Fr.refl (fun _ => False) _).alloc _) (fun _ _ e => e), heap_at rfl _, fun e => by have := h.mkr.lt _ e; omega, h.k.fr.alloc _, h.low, h.k.sz⟩
end
end Go.Proofs.YtmflpeklalgibaaGreat

namespace Go.Proofs.YtmflpeklalgibaaGreat
open Go.RowKit Go.Maps
end Go.Proofs.YtmflpeklalgibaaGreat

namespace Go.Proofs.YtmflpeklalgibaaGreat
open Go.RowKit Go.Maps Go.Sort Go.Shelf Go.Proofs
end Go.Proofs.YtmflpeklalgibaaGreat

namespace Go.Proofs.YtmflpeklalgibaaGreat
open Go.RowKit
variable {α : Type}
/-- THE ITERATOR gf GIVES X, one by one, each laid anew: what is given reads as Rep says, where it is given. -/
def ItY (gf : Nat) (lb : Array Value) (Rep : World → World → Array Value → α → Prop) (X : List α) (S : Nat → Prop) (w : World) : Prop :=
  ∀ (l : Nat) (S' : Nat → Prop) (J Jx : Nat → (Nat → Prop) → World → Prop) (W : World), Below w.heap.size w W → (∀ b, S' b → b < W.heap.size ∧ (b < w.heap.size → S b)) → (∀ k C, Ab W.heap.size (J k C)) →
    (∀ k x C W0 W1 vs, X[k]? = some x → J k C W0 → Fr (fun _ => False) W0 W1 → Rep W0 W1 vs x → J k C W1 → Yd l vs W1 fun e W' =>
      (e = .returned (.bool true) ∧ J (k + 1) (CC C W1 W') W' ∧ Fr (fun b => S' b ∨ C b) W1 W') ∨ (e = .returned (.bool false) ∧ Jx (k + 1) (CC C W1 W') W' ∧ Fr (fun b => S' b ∨ C b) W1 W')) →
    (∀ k C, Ab W.heap.size (Jx k C)) →
    J 0 (fun _ => False) W →
    Calls Tryz.prog gf (#[.func (.yield l) #[] #[]] ++ lb) W fun e W' => (∃ v, e = .returned v) ∧ ((∃ C, J X.length C W') ∨ ∃ k C, k ≤ X.length ∧ Jx k C W')
/-- **A range over an iterator that gives X**, at the outermost level of a function: the loop's variables may be boxed (W': behind the assignment; Wb: where the body begins). C: the blocks that the rounds have made. -/
theorem rangeY {g : Operand} {ps : Array Tmp} {assign body : Code} {Q : Exit → Act → World → Prop} {a : Act} {w w0 : World} {n : Nat}
    {gf : Nat} {lb : Array Value} (hg : a.eval g = .func (.func gf) #[] lb) (eg : ∀ args w, (callFunc gf args).run Tryz.prog w = .ok (.enter gf args) w)
    {Rep : World → World → Array Value → α → Prop} {X : List α} {S : Nat → Prop} (hseq : ItY gf lb Rep X S w0) (hb0 : Below w0.heap.size w0 w) (hS : ∀ b, S b → b < w.heap.size) (hps : ∀ W0 W vs x, Rep W0 W vs x → vs.size = ps.size)
    (I : Nat → (Nat → Prop) → World → Prop) (Ix : Code → Nat → (Nat → Prop) → World → Prop) (hI : ∀ k C, Ab w.heap.size (I k C)) (hIx : ∀ c k C, Ab w.heap.size (Ix c k C)) (h0 : I 0 (fun _ => False) w)
    (hround : ∀ (l k : Nat) (x : α) (C : Nat → Prop) (W0 W : World) (vs : Array Value), X[k]? = some x → I k C W0 → Fr (fun _ => False) W0 W → Rep W0 W vs x → w.heap.size ≤ l → I k C W → Fr S w W →
      assign.wpIn (Fence.wide.inRound l) 0 Tryz.prog (Exit.then (Took w S C I Ix k l W body) (fun _ _ _ => False)) { tmps := (ps.zip vs).foldl (fun t (p, v) => t.setIfInBounds p v) a.tmps, defers := [] } W)
    (hdone : ∀ (D : Nat) (C : Nat → Prop) (W : World), w.heap.size ≤ D → I X.length C W → Fr S w W → W.heap[D]? = some (.deferred (some [])) → Q .normal { a with defers := { target := .collected D, args := #[] } :: a.defers } W)
    (hstop : ∀ (D : Nat) (c : Code) (k : Nat) (C : Nat → Prop) (W : World), w.heap.size ≤ D → k ≤ X.length → Ix c k C W → Fr S w W → W.heap[D]? = some (.deferred (some [])) →
      c.wpIn Fence.wide n Tryz.prog Q { a with defers := { target := .collected D, args := #[] } :: a.defers } W) :
    (Code.rangeFunc g ps assign body).wpIn Fence.wide n Tryz.prog Q a w := by
  refine wpIn_rangeFunc ?_
  intro fn hfn
  obtain ⟨rec, hrec⟩ : ∃ rec : LoopState → Option Code → Loop, rec = fun st pe => { state := st, pending := pe, fn, tmps := a.tmps, params := ps, assign, body, defers := w.heap.size } := ⟨_, rfl⟩
  obtain ⟨W1, hW1⟩ : ∃ W1, (w.alloc (.deferred (some []))).alloc (.loop (rec .ready none)) = W1 := ⟨_, rfl⟩
  have hs1 : W1.heap.size = w.heap.size + 2 := by rw [← hW1]; simp
  have hL1 : W1.heap[w.heap.size + 1]? = some (.loop (rec .ready none)) := by
    rw [← hW1]; have := World.alloc_heap_new (w.alloc (.deferred (some []))) (.loop (rec .ready none)); rwa [World.size_alloc] at this
  have hD1 : W1.heap[w.heap.size]? = some (.deferred (some [])) := by
    rw [← hW1]; exact (Below.heap_alloc _ _ _ (by simp)).trans (World.alloc_heap_new w _)
  have hf1 : Fa w.heap.size w W1 := by rw [← hW1]; exact ((Fr.refl _ _).alloc _).alloc _
  have hr1 : Fr S w W1 := by rw [← hW1]; exact ((Fr.refl _ _).alloc _).alloc _
  have hb1 : Below w0.heap.size w0 W1 := by
    rw [← hW1]; exact hb0.trans ((((Below.refl _ w).alloc (Nat.le_refl _) _).alloc (by simp) _).mono hb0.size)
  refine ⟨w.heap.size + 1, [{ target := .collected w.heap.size, args := #[] }], W1, { target := .fn (.func gf) lb, args := #[.func (.yield (w.heap.size + 1)) #[] #[]] }, W1, gf,
    #[.func (.yield (w.heap.size + 1)) #[] #[]] ++ lb, W1, ?_, ?_, fun _ _ => trivial, ?_, (fun h => by cases h), ?_⟩
  · rw [← hW1, hrec]; exact run_enterLoop_outer _ _ _ _ _
  · simp only [resolve, hg]
    simp [go_sem]
  · simp [invoke, go_sem, eg]
  have hB : w.heap.size ≤ W1.heap.size := by omega
  have hDL : ∀ {st pe A B}, A.heap[w.heap.size + 1]? = some (.loop (rec st pe)) → A.heap[w.heap.size]? = some (.deferred (some [])) → Fa W1.heap.size A B →
      B.heap[w.heap.size + 1]? = some (.loop (rec st pe)) ∧ B.heap[w.heap.size]? = some (.deferred (some [])) := fun hl hd hf =>
    ⟨hf.at_ hl (fun hx => by have := hx.1; omega), hf.at_ hd (fun hx => by have := hx.1; omega)⟩
  refine callsIn_wide.2 ((hseq (w.heap.size + 1) (fun b => S b ∨ b = w.heap.size + 1)
    (fun k C W => I k C W ∧ Fr S w W ∧ (∀ b, C b → w.heap.size + 2 ≤ b) ∧ W.heap[w.heap.size + 1]? = some (.loop (rec .ready none)) ∧ W.heap[w.heap.size]? = some (.deferred (some [])))
    (fun k C W => ∃ c, Ix c k C W ∧ Fr S w W ∧ W.heap[w.heap.size + 1]? = some (.loop (rec .done (some c))) ∧ W.heap[w.heap.size]? = some (.deferred (some [])))
    W1 hb1 ?_ ?_ ?_ ?_ ⟨hI 0 _ _ _ h0 hf1, hr1, fun _ h => h.elim, hL1, hD1⟩).mono ?_)
  · rintro b (h | rfl)
    · have := hS b h
      exact ⟨by omega, fun _ => h⟩
    · exact ⟨by omega, fun h => by have := hb0.size; omega⟩
  · rintro k C A B ⟨hi, hr, hC, hl, hd⟩ hf
    obtain ⟨hl', hd'⟩ := hDL hl hd hf
    exact ⟨hI k C _ _ hi (Fa.up hf hB), Fa.old hf hr hB, hC, hl', hd'⟩
  · -- a round
    rintro k x C Wp W vs hx ⟨hip, -⟩ hfp hrep ⟨hi, hr, hC, hl, hd⟩
    have hy := run_yield (P := Tryz.prog) (args := vs) hl (by rw [hrec]; exact hps Wp W vs x hrep)
    rw [hrec] at hy
    have hltW : w.heap.size + 1 < W.heap.size := (Array.getElem?_eq_some_iff.1 hl).1
    have nS : ∀ (A B : World), W.heap.size ≤ A.heap.size → ¬ (S (w.heap.size + 1) ∨ CC C A B (w.heap.size + 1)) ∧ ¬ (S w.heap.size ∨ CC C A B w.heap.size) := fun A B hA => by
      constructor
      · rintro (e | e | e)
        · have := hS _ e; omega
        · have := hC _ e; omega
        · omega
      · rintro (e | e | e)
        · have := hS _ e; omega
        · have := hC _ e; omega
        · omega
    refine ⟨fn, _, assign, body, hy, roundIn_of_wpIn hfn (wpIn_mono (hround _ k x C Wp W vs hx hip hfp hrep (by omega) hi hr) ?_)⟩
    rintro e0 a' Wa h0
    cases e0 with
    | normal => ?_
    | _ => exact h0
    obtain ⟨hra, hia, hbody⟩ := h0
    have hla := hra.at_ hl (fun e => e.elim (fun e => by have := hS _ e; omega) (fun e => by have := hC _ e; omega))
    have hda := hra.at_ hd (fun e => e.elim (fun e => by have := hS _ e; omega) (fun e => by have := hC _ e; omega))
    refine ⟨_, run_beginRound hla (by rw [hrec]), ?_⟩
    obtain ⟨Wb, hWb⟩ : ∃ Wb, Wa.putObj (w.heap.size + 1) (.loop { rec .ready none with state := .busy }) = Wb := ⟨_, rfl⟩
    rw [hWb]
    have hlt : w.heap.size + 1 < Wa.heap.size := (Array.getElem?_eq_some_iff.1 hla).1
    have hszb : Wb.heap.size = Wa.heap.size := by rw [← hWb]; simp
    have hlb : Wb.heap[w.heap.size + 1]? = some (.loop { rec .ready none with state := .busy }) := by rw [← hWb]; exact World.putObj_heap_same hlt
    have hdb : Wb.heap[w.heap.size]? = some (.deferred (some [])) := by rw [← hWb]; exact (World.putObj_heap_other (by omega)).trans hda
    have hfb : Fa w.heap.size Wa Wb := by rw [← hWb]; exact frPut _ (by omega) hla rfl
    have hra' : Fr S w Wa := hr.trans' hra (fun b hb e => e.elim id (fun e => by have := hC _ e; omega))
    have hrb : Fr S w Wb := Fa.old hfb hra' (Nat.le_refl _)
    have hrW : Fr (fun b => (S b ∨ b = w.heap.size + 1) ∨ C b) W Wb := by
      rw [← hWb]; exact (hra.mono (fun b _ h => h.elim (fun h => .inl (.inl h)) .inr)).putObj (fun _ => .inl (.inr rfl)) _
    have hszW : W.heap.size ≤ Wb.heap.size := by rw [hszb]; exact hra.size
    refine wpIn_mono (hbody Wb (hI k C _ _ hia hfb) hrb hfb hszW hr.size (fun b e => by have := hC b e; omega) ⟨_, hlb⟩) ?_
    have fin : ∀ (jump : Option Code) (W3 : World), Fr (fun b => S b ∨ CC C W Wb b) Wb W3 →
        (Instr.endRound (w.heap.size + 1) jump).run Tryz.prog W3 = .ok (.bool jump.isNone) (W3.putObj (w.heap.size + 1) (.loop (rec (if jump.isNone then .ready else .done) jump))) ∧
        Fa w.heap.size W3 (W3.putObj (w.heap.size + 1) (.loop (rec (if jump.isNone then .ready else .done) jump))) ∧
        Fr S w (W3.putObj (w.heap.size + 1) (.loop (rec (if jump.isNone then .ready else .done) jump))) ∧
        Fr (fun b => (S b ∨ b = w.heap.size + 1) ∨ C b) W (W3.putObj (w.heap.size + 1) (.loop (rec (if jump.isNone then .ready else .done) jump))) ∧
        (∀ b, CC C W W3 b → w.heap.size + 2 ≤ b) ∧ CC C W (W3.putObj (w.heap.size + 1) (.loop (rec (if jump.isNone then .ready else .done) jump))) = CC C W W3 ∧
        (W3.putObj (w.heap.size + 1) (.loop (rec (if jump.isNone then .ready else .done) jump))).heap[w.heap.size + 1]? = some (.loop (rec (if jump.isNone then .ready else .done) jump)) ∧
        (W3.putObj (w.heap.size + 1) (.loop (rec (if jump.isNone then .ready else .done) jump))).heap[w.heap.size]? = some (.deferred (some [])) := fun jump W3 h3 => by
      have hn := nS W Wb (Nat.le_refl _)
      have hl3 := h3.at_ hlb hn.1
      have hd3 := h3.at_ hdb hn.2
      have he := run_endRound (P := Tryz.prog) jump hl3
      rw [hrec] at he ⊢
      refine ⟨he, frPut _ (by omega) hl3 rfl, ?_, ?_, ?_, ?_, World.putObj_heap_same (Array.getElem?_eq_some_iff.1 hl3).1, (World.putObj_heap_other (by omega)).trans hd3⟩
      · refine (hrb.trans' h3 ?_).putObj (fun h => by omega) _
        rintro b hb (e | e | e)
        · exact e
        · have := hC _ e; omega
        · omega
      · refine (hrW.trans' h3 ?_).putObj (fun _ => .inl (.inr rfl)) _
        rintro b hb (e | e | e)
        · exact .inl (.inl e)
        · exact .inr e
        · omega
      · rintro b (e | e)
        · exact hC _ e
        · omega
      · funext b; simp [CC]
    rintro e a3 W3 hp
    cases e with
    | normal =>
      obtain ⟨h3, hi3⟩ := hp
      obtain ⟨e1, e2, e3, e4, e7, e8, e5, e6⟩ := fin none W3 h3
      exact ⟨_, _, e1, .inl ⟨rfl, ⟨by rw [e8]; exact hI _ _ _ _ hi3 e2, e3, by rw [e8]; exact e7, e5, e6⟩, e4⟩⟩
    | ret =>
      obtain ⟨h3, hi3⟩ := hp
      obtain ⟨e1, e2, e3, e4, e7, e8, e5, e6⟩ := fin (some .ret) W3 h3
      exact ⟨_, _, e1, .inr ⟨rfl, ⟨.ret, by rw [e8]; exact hIx _ _ _ _ _ hi3 e2, e3, e5, e6⟩, e4⟩⟩
    | exit id =>
      obtain ⟨h3, hi3⟩ := hp
      obtain ⟨e1, e2, e3, e4, e7, e8, e5, e6⟩ := fin (some (.exit id)) W3 h3
      exact ⟨_, _, e1, .inr ⟨rfl, ⟨.exit id, by rw [e8]; exact hIx _ _ _ _ _ hi3 e2, e3, e5, e6⟩, e4⟩⟩
    | goto t =>
      obtain ⟨h3, hi3⟩ := hp
      obtain ⟨e1, e2, e3, e4, e7, e8, e5, e6⟩ := fin (some (.goto t)) W3 h3
      exact ⟨_, _, e1, .inr ⟨rfl, ⟨.goto t, by rw [e8]; exact hIx _ _ _ _ _ hi3 e2, e3, e5, e6⟩, e4⟩⟩
    | panic ch => exact hp.elim
    | outgrown => exact hp.elim
  · rintro k C A B ⟨c, hi, hr, hl, hd⟩ hf
    obtain ⟨hl', hd'⟩ := hDL hl hd hf
    exact ⟨c, hIx c k C _ _ hi (Fa.up hf hB), Fa.old hf hr hB, hl', hd'⟩
  · -- behind the iterator
    rintro e W2 ⟨⟨v, rfl⟩, (⟨C, hi, hr, _, hl, hd⟩ | ⟨k, C, hk, c, hi, hr, hl, hd⟩)⟩
    · have he := run_endLoop (P := Tryz.prog) hl (by rw [hrec]; simp)
      rw [hrec] at he
      exact ⟨none, _, he, hdone _ C _ (Nat.le_refl _) (hI _ _ _ _ hi (frPut _ (by omega) hl rfl)) (hr.putObj (fun h => by omega) _) ((World.putObj_heap_other (by omega)).trans hd)⟩
    · have he := run_endLoop (P := Tryz.prog) hl (by rw [hrec]; simp)
      rw [hrec] at he
      exact ⟨some c, _, he, hstop _ c k C _ (Nat.le_refl _) hk (hIx c k C _ _ hi (frPut _ (by omega) hl rfl)) (hr.putObj (fun h => by omega) _) ((World.putObj_heap_other (by omega)).trans hd)⟩
end Go.Proofs.YtmflpeklalgibaaGreat

namespace Go.Proofs.YtmflpeklalgibaaGreat
open Go.RowKit Go.Maps
/-- A hold that was copied, as an iterator gives it. -/
def RepH (W0 W : World) (vs : Array Value) (p : Int × HE) : Prop := ∃ y : HV, vs = #[y.enc] ∧ y.e = p.2 ∧ HOk W (fun b => W0.heap.size ≤ b ∧ b < W.heap.size) y
end Go.Proofs.YtmflpeklalgibaaGreat

namespace Go.Proofs.YtmflpeklalgibaaGreat
open Go.RowKit Go.Maps
attribute [local go_sem] Oper.semAt_some
section
variable {w0 W W' : World} {n0 mb gm B : Nat} {TM TM' : Nat → Prop} {s s' : Mst}
theorem KF.fa (h : KF w0 W n0 mb gm TM s) (hf : Fa B W W') (hB : w0.heap.size ≤ B) : KF w0 W' n0 mb gm TM s :=
  ⟨mk_fa h.mkr hf, Fa.cells hf h.box, h.nb, h.fr.trans' hf (fun b hb e => by have := e.1; omega), h.low, h.mb⟩
theorem KF.keep (h : KF w0 W n0 mb gm TM s) (hf : Fr (fun _ => False) W W') : KF w0 W' n0 mb gm TM s :=
  ⟨h.mkr.fr hf (fun _ _ e => e), hf.at_ h.box (fun e => e), h.nb, h.fr.trans' hf (fun _ _ e => e.elim), h.low, h.mb⟩
theorem KF.step (h : KF w0 W n0 mb gm TM s) (hm : MK W' gm TM' s'.1 s'.2) (hs : Stp TM W W' TM') (hz : n0 ≤ W.heap.size) : KF w0 W' n0 mb gm TM' s' :=
  have hl := (Array.getElem?_eq_some_iff.1 h.box).1
  ⟨hm, hs.1.at_ h.box h.nb, fun e => (hs.2 _ e).elim h.nb (fun e => by omega), h.fr.trans' hs.1 (fun b _ e => h.low b e), fun b e => (hs.2 b e).elim (h.low b) (fun e => Nat.le_trans hz e), h.mb⟩
theorem KF.num (h : KF w0 W n0 mb gm TM s) (hz : n0 ≤ W.heap.size) (n : Int) (hn : okI n) : Calls Tryz.prog 73 #[.pointer (some ⟨gm, 0, none⟩), .int .i64 n] W fun e w' => e = .returned (.pointer (some ⟨gm, 0, none⟩)) ∧ ∃ TM', KF w0 w' n0 mb gm TM' (mkP s (numB n)) ∧ Stp TM W w' TM' := by
  refine (cMNum W gm TM s.1 s.2 n h.mkr hn).mono ?_
  rintro e w' ⟨rfl, TM', h1, h2⟩
  exact ⟨rfl, TM', h.step h1 h2 hz, h2⟩
theorem KF.put (h : KF w0 W n0 mb gm TM s) (hz : n0 ≤ W.heap.size) (v : Value) (its : Its) (hi : Il W v its) (hT : its ≠ [] → ∀ b, v.ownBlock = some b → ¬ TM b) (hits : ∀ p ∈ its, p.1.length ≤ 16 ∧ okI p.2) :
    Calls Tryz.prog 74 #[.pointer (some ⟨gm, 0, none⟩), v] W fun e w' => (∃ v, e = .returned v) ∧ ∃ TM', KF w0 w' n0 mb gm TM' (mkAll s (liC its)) ∧ Stp TM W w' TM' := by
  refine (hPut W gm TM s v its h.mkr hi hT hits).mono ?_
  rintro e w' ⟨hv, TM', h1, h2⟩
  exact ⟨hv, TM', h.step h1 h2 hz, h2⟩
end
end Go.Proofs.YtmflpeklalgibaaGreat

namespace Go.Proofs.YtmflpeklalgibaaGreat
open Go.RowKit Go.Maps
/-- A list's counts are added to a map. -/
def addAt (H : Its) (p : Str × Int) : Its := putS ktS.lt H p.1 ((getS H p.1).getD 0 + p.2)
def addAll (H L : Its) : Its := L.foldl addAt H
theorem addAll_take {H L : Its} {k : Nat} {p : Str × Int} (h : L[k]? = some p) : addAll H (L.take (k + 1)) = addAt (addAll H (L.take k)) p := by
  unfold addAll
  rw [List.take_add_one, h, List.foldl_append]
  rfl
structure AddOk (H' H L : Its) : Prop where
  rise : RiseS H'
  get : ∀ s, getI H' s = getI H s + getI L s
  key : ∀ s, (getS H' s).isSome = true ↔ ((getS H s).isSome = true ∨ ∃ p ∈ L, p.1 = s)
theorem AddOk.refl {H : Its} (h : RiseS H) : AddOk H H [] := ⟨h, fun s => by rw [getI_nil]; omega, fun s => ⟨.inl, fun e => e.elim id (fun ⟨p, hp, _⟩ => by cases hp)⟩⟩
theorem AddOk.step {H' H L : Its} {p : Str × Int} (h : AddOk H' H L) : AddOk (addAt H' p) H (L ++ [p]) := by
  refine ⟨riseS_put h.rise, fun s => ?_, fun s => ?_⟩
  · unfold addAt
    rw [getI_rise s (riseS_put h.rise), getK_put (riseS_nd h.rise), getI_app, getI_cons, getI_nil]
    have h1 := h.get s
    rw [getI_rise s h.rise] at h1
    by_cases e : p.1 = s
    · subst e
      rw [if_pos rfl, if_pos rfl]
      simp only [Option.getD_some]
      omega
    · rw [if_neg e, if_neg e]; omega
  · unfold addAt
    rw [getK_put (riseS_nd h.rise)]
    by_cases e : p.1 = s
    · rw [if_pos e]
      exact ⟨fun _ => .inr ⟨p, by simp, e⟩, fun _ => rfl⟩
    · rw [if_neg e, h.key s]
      constructor
      · rintro (h1 | ⟨q, hq, e1⟩)
        · exact .inl h1
        · exact .inr ⟨q, by simp [hq], e1⟩
      · rintro (h1 | ⟨q, hq, e1⟩)
        · exact .inl h1
        · rcases List.mem_append.1 hq with hq | hq
          · exact .inr ⟨q, hq, e1⟩
          · simp only [List.mem_cons, List.not_mem_nil, or_false] at hq
            subst hq
            exact absurd e1 e
theorem addAll_ok' : ∀ (B A H' H : Its), AddOk H' H A → AddOk (addAll H' B) H (A ++ B)
  | [], A, H', H, h => by rw [List.append_nil]; exact h
  | p :: r, A, H', H, h => by
    have := addAll_ok' r (A ++ [p]) (addAt H' p) H h.step
    rw [List.append_assoc] at this
    exact this
theorem addAll_ok {H : Its} (L : Its) (h : RiseS H) : AddOk (addAll H L) H L := by
  have := addAll_ok' L [] H H (AddOk.refl h)
  simpa using this
theorem addAll_len (H L : Its) : (addAll H L).length ≤ H.length + L.length := by
  induction L generalizing H with
  | nil => exact Nat.le_refl _
  | cons p r ih =>
    have h1 := ih (addAt H p)
    have h2 := putK_len ktS.lt H p.1 ((getS H p.1).getD 0 + p.2)
    rw [List.length_cons]
    unfold addAll at h1 ⊢
    rw [List.foldl_cons]
    unfold addAt at h1 ⊢
    omega
/-- What the entries that are left no more say together. -/
def sumOf {ν : Type} (left : Lit → Bool) (l : List (Int × ν)) (f : ν → Int) : Int := ((l.filter fun p => !left (ktI.lit p.1)).map fun p => f p.2).sum
section
variable {ν : Type}
theorem litI_same (x y : Int) : (ktI.lit x).sameKey (ktI.lit y) = decide (x = y) := by simp [ktI, Lit.sameKey]
theorem sumOf_cons (left : Lit → Bool) (p : Int × ν) (r : List (Int × ν)) (f : ν → Int) : sumOf left (p :: r) f = (if left (ktI.lit p.1) = true then 0 else f p.2) + sumOf left r f := by
  unfold sumOf
  rw [List.filter_cons]
  cases left (ktI.lit p.1) <;> simp
theorem sumOf_rest {left : Lit → Bool} {f : ν → Int} {x : Int} : ∀ {l : List (Int × ν)}, x ∉ l.map (·.1) → sumOf (fun z => left z && !z.sameKey (ktI.lit x)) l f = sumOf left l f
  | [], _ => rfl
  | p :: r, h => by
    rw [List.map_cons, List.mem_cons, not_or] at h
    rw [sumOf_cons, sumOf_cons, sumOf_rest h.2, litI_same]
    have : decide (p.1 = x) = false := by simpa using fun e => h.1 e.symm
    rw [this]
    simp
theorem sumOf_step {left : Lit → Bool} {f : ν → Int} {x : Int} {v : ν} (hl : left (ktI.lit x) = true) : ∀ {l : List (Int × ν)}, (l.map (·.1)).Nodup → getS l x = some v →
    sumOf (fun z => left z && !z.sameKey (ktI.lit x)) l f = sumOf left l f + f v
  | [], _, h => by cases h
  | p :: r, hn, h => by
    rw [List.map_cons, List.nodup_cons] at hn
    rw [sumOf_cons, sumOf_cons, litI_same]
    by_cases e : p.1 = x
    · subst e
      simp only [getS, if_pos] at h
      cases h
      rw [sumOf_rest hn.1]
      simp [hl]
      omega
    · simp only [getS, if_neg e] at h
      rw [sumOf_step hl hn.2 h]
      simp [e]
      omega
theorem sumOf_none {left : Lit → Bool} (h : ∀ k, left k = false) (l : List (Int × ν)) (f : ν → Int) : sumOf left l f = (l.map fun p => f p.2).sum := by
  unfold sumOf
  congr 2
  exact List.filter_eq_self.2 (fun p _ => by simp [h])
theorem sumOf_all {left : Lit → Bool} {l : List (Int × ν)} (h : ∀ p ∈ l, left (ktI.lit p.1) = true) (f : ν → Int) : sumOf left l f = 0 := by
  unfold sumOf
  have : l.filter (fun p => !left (ktI.lit p.1)) = [] := List.filter_eq_nil_iff.2 (fun p hp => by simp [h p hp])
  rw [this]; rfl
theorem sumOf_le {left : Lit → Bool} {f : ν → Int} {B : Int} (hB : 0 ≤ B) : ∀ {l : List (Int × ν)}, (∀ p ∈ l, 0 ≤ f p.2 ∧ f p.2 ≤ B) → 0 ≤ sumOf left l f ∧ sumOf left l f ≤ (l.length : Int) * B
  | [], _ => ⟨Int.le_refl _, by simp [sumOf]⟩
  | p :: r, h => by
    have ih := sumOf_le (left := left) hB (l := r) (fun q hq => h q (by simp [hq]))
    have h1 := h p (by simp)
    rw [sumOf_cons, List.length_cons, Int.natCast_add, Int.add_mul]
    constructor
    · split <;> omega
    · split <;> omega
end
/-- A map that holds what the entries that are left no more say together. -/
structure SdW {ν : Type} (H : Its) (left : Lit → Bool) (l : List (Int × ν)) (f : ν → Its) : Prop where
  rise : RiseS H
  get : ∀ s, getI H s = sumOf left l (fun h => getI (f h) s)
  key : ∀ s, (getS H s).isSome = true ↔ ∃ p ∈ l, left (ktI.lit p.1) = false ∧ ∃ q ∈ f p.2, q.1 = s
  len : (H.length : Int) ≤ 16 * sumOf left l (fun _ => 1)
theorem SdW.start {ν : Type} {left : Lit → Bool} {l : List (Int × ν)} {f : ν → Its} (h : ∀ p ∈ l, left (ktI.lit p.1) = true) : SdW [] left l f :=
  ⟨List.Pairwise.nil, fun s => by rw [sumOf_all h]; rfl, fun s => ⟨fun e => (by cases e), fun ⟨p, hp, e, _⟩ => (by rw [h p hp] at e; cases e)⟩, by rw [sumOf_all h]; simp⟩
theorem SdW.step {ν : Type} {H : Its} {left : Lit → Bool} {l : List (Int × ν)} {f : ν → Its} {x : Int} {v : ν} (h : SdW H left l f) (hl : left (ktI.lit x) = true) (hn : (l.map (·.1)).Nodup) (hx : getS l x = some v) (h16 : (f v).length ≤ 16) :
    SdW (addAll H (f v)) (fun z => left z && !z.sameKey (ktI.lit x)) l f := by
  have ha := addAll_ok (f v) h.rise
  refine ⟨ha.rise, fun s => ?_, fun s => ?_, ?_⟩
  · rw [ha.get, h.get, sumOf_step hl hn hx]
  · rw [ha.key, h.key]
    constructor
    · rintro (⟨p, hp, e, q, hq, e2⟩ | ⟨q, hq, e2⟩)
      · exact ⟨p, hp, by simp [e], q, hq, e2⟩
      · exact ⟨(x, v), getK_mem hx, by simp [litI_same], q, hq, e2⟩
    · rintro ⟨p, hp, e, q, hq, e2⟩
      by_cases e3 : p.1 = x
      · have : p.2 = v := by
          have h1 := getK_of hn (x := p.1) (v := p.2) hp
          rw [e3, hx] at h1
          exact (Option.some.inj h1).symm
        exact .inr ⟨q, by rw [← this]; exact hq, e2⟩
      · rw [litI_same] at e
        simp [e3] at e
        exact .inl ⟨p, hp, e, q, hq, e2⟩
  · rw [sumOf_step hl hn hx]
    have h1 := addAll_len H (f v)
    have h2 := h.len
    omega
theorem SdW.bound {ν : Type} {H : Its} {left : Lit → Bool} {l : List (Int × ν)} {f : ν → Its} (h : SdW H left l f) (hl : l.length ≤ 256) : H.length ≤ 4096 := by
  have h1 := h.len
  have h2 := sumOf_le (left := left) (f := fun _ : ν => (1 : Int)) (B := 1) (by omega) (l := l) (fun p _ => ⟨by omega, by omega⟩)
  omega
theorem SdW.done {ν : Type} {H : Its} {left : Lit → Bool} {l : List (Int × ν)} {f : ν → Its} (h : SdW H left l f) (hl : ∀ k, left k = false) (s : Str) : (getS H s).getD 0 = (l.map fun p => getI (f p.2) s).sum ∧ ((getS H s).isSome = true ↔ ∃ p ∈ l, ∃ q ∈ f p.2, q.1 = s) := by
  constructor
  · rw [← getI_rise s h.rise, h.get, sumOf_none hl]
  · rw [h.key]
    exact ⟨fun ⟨p, hp, _, q, hq, e⟩ => ⟨p, hp, q, hq, e⟩, fun ⟨p, hp, q, hq, e⟩ => ⟨p, hp, hl _, q, hq, e⟩⟩
theorem getI_may {L : Its} (h : mayL L = true) (s : Str) : 0 ≤ getI L s ∧ getI L s ≤ 1099511627776 := by
  have hk := mayL_all h
  rw [getI_rise s hk.rise]
  cases e : getS L s with
  | none => exact ⟨Int.le_refl _, by simp⟩
  | some v => have := (hk.row _ (getK_mem e)).2; simp only [Option.getD_some]; simp only at this; omega
theorem snd_bound {ν : Type} {H : Its} {left : Lit → Bool} {l : List (Int × ν)} {f : ν → Its} {L : Its} {k : Nat} {p : Str × Int} (h : SdW H left l f) (hm : ∀ p ∈ l, mayL (f p.2) = true) (hl : l.length ≤ 256) (hL : mayL L = true) (hp : L[k]? = some p) :
    0 ≤ (getS (addAll H (L.take k)) p.1).getD 0 + p.2 ∧ (getS (addAll H (L.take k)) p.1).getD 0 + p.2 ≤ 1125899906842624 := by
  have ha := addAll_ok (L.take k) h.rise
  rw [← getI_rise p.1 ha.rise, ha.get, h.get]
  have h1 := sumOf_le (left := left) (f := fun h => getI (f h) p.1) (B := 1099511627776) (by omega) (l := l) (fun q hq => getI_may (hm q hq) p.1)
  have hpos : ∀ q ∈ L, 0 ≤ q.2 := fun q hq => by have := (mayL_all hL).row q hq; omega
  have h2 : getI L p.1 = getI (L.take (k + 1)) p.1 + getI (L.drop (k + 1)) p.1 := by rw [← getI_app, List.take_append_drop]
  have h3 : getI (L.take (k + 1)) p.1 = getI (L.take k) p.1 + p.2 := by
    rw [List.take_add_one, hp, getI_app]
    simp only [Option.toList_some]
    rw [getI_cons, if_pos rfl, getI_nil]; omega
  have h4 : 0 ≤ getI (L.drop (k + 1)) p.1 := getI_nn p.1 (fun q hq => hpos q (List.mem_of_mem_drop hq))
  have h5 : 0 ≤ getI (L.take k) p.1 := getI_nn p.1 (fun q hq => hpos q (List.mem_of_mem_take hq))
  have h6 := getI_may hL p.1
  have h7 := hpos p (List.mem_of_getElem? hp)
  have h8 : (l.length : Int) * 1099511627776 ≤ 256 * 1099511627776 := by omega
  omega
/-- How many of a good all holds together say. -/
def allE (f : HE → Its) (le : Hes) (s : Str) : Int := (le.map fun p => getI (f p.2) s).sum
/-- Are all holds together the stock's? -/
def soundE (A : Stk) (le : Hes) : Bool :=
  (A.all fun r => decide (r.2.held = allE HE.he le r.1) && decide (r.2.picked = allE HE.pi le r.1)) &&
  (le.all fun p => ((p.2.he ++ p.2.pi).all fun q => (getS A q.1).isSome))
theorem getS_del {κ ν : Type} [DecidableEq κ] (x y : κ) : ∀ l : List (κ × ν), getS (delS l x) y = if x = y then none else getS l y
  | [] => by simp [delS, getS]
  | p :: r => by
    have ih := getS_del x y r
    simp only [delS] at ih ⊢
    by_cases e : p.1 = x
    · simp only [List.filter_cons, e, decide_true, Bool.not_true, Bool.false_eq_true, if_false, getS, ih]
      by_cases e2 : x = y <;> simp [e2]
    · simp only [List.filter_cons, e, decide_false, Bool.not_false, if_true, getS, ih]
      by_cases e2 : p.1 = y
      · have : x ≠ y := fun h => e (e2.trans h.symm)
        simp [e2, this]
      · simp [e2]
/-- A map without some keys. -/
def delAll (H : Its) (ks : List Str) : Its := ks.foldl delS H
theorem delAll_take {H : Its} {ks : List Str} {k : Nat} {s : Str} (h : ks[k]? = some s) : delAll H (ks.take (k + 1)) = delS (delAll H (ks.take k)) s := by
  unfold delAll
  rw [List.take_add_one, h, List.foldl_append]
  rfl
theorem getS_delAll (s : Str) : ∀ (ks : List Str) (H : Its), getS (delAll H ks) s = if s ∈ ks then none else getS H s
  | [], H => by simp [delAll]
  | k :: r, H => by
    have ih := getS_delAll s r (delS H k)
    unfold delAll at ih ⊢
    rw [List.foldl_cons, ih, getS_del]
    by_cases h1 : s ∈ r
    · simp [h1]
    · by_cases h2 : k = s
      · subst h2; simp
      · have h3 : ¬ s = k := fun e => h2 e.symm
        simp [h1, h2, h3]
theorem delAll_nil {H : Its} {ks : List Str} : (delAll H ks).length = 0 ↔ ∀ p ∈ H, p.1 ∈ ks := by
  rw [List.length_eq_zero_iff]
  constructor
  · intro h p hp
    have h1 := getS_delAll p.1 ks H
    rw [h] at h1
    by_cases e : p.1 ∈ ks
    · exact e
    · rw [if_neg e] at h1
      exact absurd rfl (getK_none.1 h1.symm p hp)
  · intro h
    cases e : delAll H ks with
    | nil => rfl
    | cons q r =>
      have h1 := getS_delAll q.1 ks H
      rw [e] at h1
      simp only [getS, if_pos] at h1
      split at h1
      · cases h1
      · rename_i hn
        cases e2 : getS H q.1 with
        | none => rw [e2] at h1; cases h1
        | some v => exact absurd (h _ (getK_mem e2)) hn
theorem delAll_len : ∀ (ks : List Str) (H : Its), (delAll H ks).length ≤ H.length
  | [], H => Nat.le_refl _
  | k :: r, H => by
    have h1 := delAll_len r (delS H k)
    have h2 : (delS H k).length ≤ H.length := List.length_filter_le _ _
    unfold delAll at h1 ⊢
    rw [List.foldl_cons]
    omega
theorem isSome_mem {A : Stk} {s : Str} : (getS A s).isSome = true ↔ s ∈ A.map (·.1) := by
  constructor
  · intro h
    cases e : getS A s with
    | none => rw [e] at h; cases h
    | some v => exact List.mem_map.2 ⟨_, getK_mem e, rfl⟩
  · intro h
    obtain ⟨p, hp, rfl⟩ := List.mem_map.1 h
    cases e : getS A p.1 with
    | some v => rfl
    | none => exact absurd rfl (getK_none.1 e p hp)
theorem hmap_sum (f : HE → Its) (g : HV → Its) (hfg : ∀ x : HV, f x.e = g x) (l : List (Int × HV)) (s : Str) : allE f (mapE l) s = (l.map fun p => getI (g p.2) s).sum := by
  unfold allE mapE
  rw [List.map_map]
  congr 1
  exact List.map_congr_left (fun p _ => by simp [hfg])
/-- The whole test, by what the two maps hold. -/
theorem sound_of {A : Stk} {l : List (Int × HV)} {H P : Its} {left : Lit → Bool} (hw : SdW H left l HV.he) (pw : SdW P left l HV.pi) (hl : ∀ k, left k = false) :
    soundE A (mapE l) = true ↔ ((∀ r ∈ A, r.2.held = (getS H r.1).getD 0 ∧ r.2.picked = (getS P r.1).getD 0) ∧ (delAll H (A.map (·.1))).length = 0 ∧ (delAll P (A.map (·.1))).length = 0) := by
  unfold soundE
  rw [Bool.and_eq_true, List.all_eq_true, List.all_eq_true, delAll_nil, delAll_nil]
  have e1 : ∀ s, allE HE.he (mapE l) s = (getS H s).getD 0 := fun s => by rw [(hw.done hl s).1]; exact hmap_sum HE.he HV.he (fun _ => rfl) l s
  have e2 : ∀ s, allE HE.pi (mapE l) s = (getS P s).getD 0 := fun s => by rw [(pw.done hl s).1]; exact hmap_sum HE.pi HV.pi (fun _ => rfl) l s
  have k1 : ∀ s, (∃ p ∈ H, p.1 = s) ↔ ∃ p ∈ l, ∃ q ∈ p.2.he, q.1 = s := fun s => by
    rw [← (hw.done hl s).2]
    exact ⟨fun ⟨p, hp, e⟩ => by rw [← e, getK_of (riseS_nd hw.rise) (x := p.1) (v := p.2) hp]; rfl, fun h => by
      cases e : getS H s with
      | none => rw [e] at h; cases h
      | some v => exact ⟨_, getK_mem e, rfl⟩⟩
  have k2 : ∀ s, (∃ p ∈ P, p.1 = s) ↔ ∃ p ∈ l, ∃ q ∈ p.2.pi, q.1 = s := fun s => by
    rw [← (pw.done hl s).2]
    exact ⟨fun ⟨p, hp, e⟩ => by rw [← e, getK_of (riseS_nd pw.rise) (x := p.1) (v := p.2) hp]; rfl, fun h => by
      cases e : getS P s with
      | none => rw [e] at h; cases h
      | some v => exact ⟨_, getK_mem e, rfl⟩⟩
  refine and_congr ⟨fun h r hr => ?_, fun h r hr => ?_⟩ ⟨fun h => ⟨fun p hp => ?_, fun p hp => ?_⟩, fun h x hx => ?_⟩
  · have := h r hr
    rw [Bool.and_eq_true, decide_eq_true_eq, decide_eq_true_eq, e1, e2] at this
    exact this
  · rw [Bool.and_eq_true, decide_eq_true_eq, decide_eq_true_eq, e1, e2]
    exact h r hr
  · obtain ⟨y, hy, q, hq, e⟩ := (k1 p.1).1 ⟨p, hp, rfl⟩
    have := h (y.1, y.2.e) (List.mem_map.2 ⟨y, hy, rfl⟩)
    rw [List.all_eq_true] at this
    have := this q (List.mem_append_left _ hq)
    rw [isSome_mem, e] at this
    exact this
  · obtain ⟨y, hy, q, hq, e⟩ := (k2 p.1).1 ⟨p, hp, rfl⟩
    have := h (y.1, y.2.e) (List.mem_map.2 ⟨y, hy, rfl⟩)
    rw [List.all_eq_true] at this
    have := this q (List.mem_append_right _ hq)
    rw [isSome_mem, e] at this
    exact this
  · obtain ⟨y, hy, rfl⟩ := List.mem_map.1 hx
    rw [List.all_eq_true]
    intro q hq
    rw [isSome_mem]
    rcases List.mem_append.1 hq with hq | hq
    · obtain ⟨p, hp, e⟩ := (k1 q.1).2 ⟨y, hy, q, hq, rfl⟩
      rw [← e]; exact h.1 p hp
    · obtain ⟨p, hp, e⟩ := (k2 q.1).2 ⟨y, hy, q, hq, rfl⟩
      rw [← e]; exact h.2 p hp
end Go.Proofs.YtmflpeklalgibaaGreat

