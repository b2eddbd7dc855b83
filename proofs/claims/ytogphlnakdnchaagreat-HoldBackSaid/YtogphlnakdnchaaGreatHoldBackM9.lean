/- Texts of this claim, joined: hold, plainly: a shelf stays as it should be; what is taken for an order, and what is shipped; hold: read; cells.Maker, as long as it is not too long; stock: Pack: what it packs, plainly; stock: Unpack: what any bytes are, plainly; stock: what is packed is unpacked, and the other way round: plainly; stock: what is unpacked was packed so: plainly; hold: Unpack, plainly; hold: put; items: Plus; slices.Clone on items; hold: Take (written by wip/tools/take08.py); hold: move at a closure (written by wip/tools/move08.py); hold: move at a closure (written by wip/tools/move08.py). -/
import Derived.Test.YtogphlnakdnchaaGreatHoldBackM8
import Derived.Test.YtogphlnakdnchaaGreatHoldBackM5
import Derived.Test.YtogphlnakdnchaaGreatHoldBackM2
import Derived.Test.YtogphlnakdnchaaGreatHoldBackM1
import Derived.Test.YtogphlnakdnchaaGreatHoldBackM6
import Derived.Shelf.Abstract
import Derived.Test.YtogphlnakdnchaaGreatHoldBackM3
import Derived.Handy
import Derived.Lib.SliceRun
namespace Go.Proofs.YtogphlnakdnchaaGreat
open Go.RowKit Go.Maps
section
variable {ν : Type}
theorem riseO_ins {n : Int} {v : ν} : ∀ {l : List (Int × ν)}, l.Pairwise (fun p q => p.1 < q.1) → (∀ p ∈ l, p.1 ≠ n) → (insS ktI.lt (n, v) l).Pairwise (fun p q => p.1 < q.1)
  | [], _, _ => by simp [insS]
  | y :: r, h, hx => by
    obtain ⟨h1, h2⟩ := List.pairwise_cons.1 h
    have hy := hx y (by simp)
    show List.Pairwise _ (if ktI.lt n y.1 = true then (n, v) :: y :: r else y :: insS ktI.lt (n, v) r)
    by_cases hlt : n < y.1
    · have e : ktI.lt n y.1 = true := by show decide (n < y.1) = true; simpa using hlt
      rw [if_pos e]
      refine List.pairwise_cons.2 ⟨fun p hp => ?_, h⟩
      rcases List.mem_cons.1 hp with rfl | hp
      · exact hlt
      · have := h1 p hp; show n < p.1; omega
    · have e : ¬ ktI.lt n y.1 = true := by show ¬ decide (n < y.1) = true; simpa using hlt
      rw [if_neg e]
      refine List.pairwise_cons.2 ⟨fun p hp => ?_, riseO_ins h2 (fun p hp => hx p (List.mem_cons_of_mem _ hp))⟩
      rcases List.mem_cons.1 ((insK_perm ktI.lt (n, v) r).mem_iff.1 hp) with rfl | hp
      · show y.1 < n; omega
      · exact h1 p hp
theorem riseO_put {n : Int} {v : ν} {l : List (Int × ν)} (h : l.Pairwise (fun p q => p.1 < q.1)) : (putS ktI.lt l n v).Pairwise (fun p q => p.1 < q.1) :=
  riseO_ins (h.sublist List.filter_sublist) (fun p hp => by simpa [delS] using (List.mem_filter.1 hp).2)
theorem riseO_nd {l : List (Int × ν)} (h : l.Pairwise (fun p q => p.1 < q.1)) : (l.map (·.1)).Nodup := by
  rw [List.Nodup, List.pairwise_map]
  refine List.Pairwise.imp ?_ h
  intro p q e h
  omega
end
theorem HE.empty {x : HE} (h : x.num = 0) : x = ⟨x.o, [], [], []⟩ := by
  obtain ⟨o, a, b, c⟩ := x
  unfold HE.num at h
  dsimp only at h
  rw [List.eq_nil_of_length_eq_zero (show a.length = 0 by omega), List.eq_nil_of_length_eq_zero (show b.length = 0 by omega), List.eq_nil_of_length_eq_zero (show c.length = 0 by omega)]
theorem heOf_set {le : Hes} (h : le.Pairwise (fun p q => p.1 < q.1)) (x : HE) (y : Int) : heOf (setE le x) y = if x.o = y then x else heOf le y := by
  unfold heOf setE
  by_cases hn : x.num = 0
  · rw [if_pos hn, getS_del]
    by_cases e : x.o = y
    · rw [if_pos e, if_pos e, ← e]
      exact (HE.empty hn).symm
    · rw [if_neg e, if_neg e]
  · rw [if_neg hn, getK_put (riseO_nd h)]
    by_cases e : x.o = y
    · rw [if_pos e, if_pos e]; rfl
    · rw [if_neg e, if_neg e]
theorem del_less {le : Hes} {o : Int} (h : (getS le o).isNone = false) : (delS le o).length < le.length := by
  cases e : getS le o with
  | none => rw [e] at h; cases h
  | some x =>
    have hm := getK_mem e
    unfold delS
    refine List.length_filter_lt_length_iff_exists.2 ⟨_, hm, by simp⟩
theorem ShOk.set {A A' : Stk} {le : Hes} {x : HE} (h : ShOk A le) (hA : SOk A') (ho : 1 ≤ x.o ∧ x.o ≤ 1099511627776) (h1 : mayL x.he = true) (h2 : mayL x.pi = true) (h3 : mayL x.sh = true) (hl : (getS le x.o).isNone = true → le.length < 256) : ShOk A' (setE le x) := by
  unfold setE
  by_cases hn : x.num = 0
  · rw [if_pos hn]
    refine ⟨hA, h.rise.sublist List.filter_sublist, fun p hp => h.row p (List.mem_filter.1 hp).1, ?_⟩
    have := List.length_filter_le (fun p : Int × HE => !decide (p.1 = x.o)) le
    have := h.len
    unfold delS
    omega
  · rw [if_neg hn]
    refine ⟨hA, riseO_put h.rise, fun p hp => ?_, ?_⟩
    · rcases mem_putK.1 hp with rfl | ⟨hp, -⟩
      · exact ⟨rfl, ho, h1, h2, h3, hn⟩
      · exact h.row p hp
    · have h4 := h.len
      cases hg : (getS le x.o).isNone with
      | true =>
        have := putK_len ktI.lt le x.o x
        have := hl hg
        omega
      | false =>
        have h5 := del_less hg
        have h6 : (putS ktI.lt le x.o x).length = (delS le x.o).length + 1 := by
          unfold putS
          rw [(insK_perm ktI.lt (x.o, x) _).length_eq, List.length_cons]
        omega
theorem mayO_may {o : Int} (h : ¬ mayO o ≠ 0) : 1 ≤ o ∧ o ≤ 1099511627776 := by
  unfold mayO at h
  split at h
  · rename_i h2; exact h2
  · exact absurd (by decide) h
theorem heOf_o' {A : Stk} {le : Hes} (h : ShOk A le) (o : Int) : (heOf le o).o = o := heOf_o (fun p hp => (h.row p hp).eq.symm)
/-- What a call leaves of what was taken and what was shipped of one good. -/
def HE.of (x : HE) (s : Str) : Int := getI x.he s + getI x.pi s + getI x.sh s
/-- A call's answer is in order, and the shelf behind it; beside the order nothing changes; no more comes than c says. -/
structure StepOk (le : Hes) (o : Int) (R : (Its × Int) × Stk × Hes) : Prop where
  sh : ShOk R.2.1 R.2.2
  out : mayL R.1.1 = true
  same : ∀ y, y ≠ o → heOf R.2.2 y = heOf le y
theorem HE.get0 (x : HE) : x.get 0 = x.he := rfl
theorem HE.get1 (x : HE) : x.get 1 = x.pi := rfl
theorem HE.get2 (x : HE) : x.get 2 = x.sh := rfl
theorem HE.set0 (x : HE) (L : Its) : x.set 0 L = { x with he := L } := rfl
theorem HE.set1 (x : HE) (L : Its) : x.set 1 L = { x with pi := L } := rfl
theorem HE.set2 (x : HE) (L : Its) : x.set 2 L = { x with sh := L } := rfl
theorem StepOk.no {A : Stk} {le : Hes} {o c : Int} (h : ShOk A le) : StepOk le o (([], c), A, le) := ⟨h, rfl, fun y _ => rfl⟩
theorem take_ok {A : Stk} {le : Hes} {o : Int} {L : Its} (h : ShOk A le) : StepOk le o (takeE A le o L) ∧ ∀ s, (heOf (takeE A le o L).2.2 o).of s = (heOf le o).of s + getI (takeE A le o L).1.1 s ∧ (heOf (takeE A le o L).2.2 o).sh = (heOf le o).sh := by
  unfold takeE
  have hz : ∀ c : Int, StepOk le o (([], c), A, le) ∧ ∀ s, (heOf le o).of s = (heOf le o).of s + getI [] s ∧ (heOf le o).sh = (heOf le o).sh := fun c => ⟨StepOk.no h, fun s => ⟨by rw [getI_nil]; omega, rfl⟩⟩
  split
  · exact hz _
  rename_i ho
  split
  · exact hz _
  split
  · exact hz _
  split
  · exact hz _
  split
  · exact hz _
  rename_i hf
  split
  · exact hz _
  rename_i hp
  split
  · exact hz _
  obtain ⟨r, hr⟩ : ∃ r, plusF (heOf le o).he (offerS A L) = (r, 0) := ⟨_, Prod.ext rfl (by simpa using hp)⟩
  obtain ⟨p1, p2, p3, p4⟩ := plusF_ok hr
  rw [hr]
  have hm := heOf_may h.row o
  have hoo := heOf_o' h o
  have hs : ∀ y, heOf (setE le { heOf le o with he := r }) y = if o = y then { heOf le o with he := r } else heOf le y := fun y => by
    rw [heOf_set h.rise]
    show (if (heOf le o).o = y then _ else _) = _
    rw [hoo]
  refine ⟨⟨h.set (doS_ok h.stk) (by show 1 ≤ (heOf le o).o ∧ _; rw [hoo]; exact mayO_may ho) p1 hm.2.1 hm.2.2 (fun e => ?_), p3, fun y hy => ?_⟩, fun s => ?_⟩
  · have e : (getS le (heOf le o).o).isNone = true := e
    rw [hoo] at e
    exact Nat.lt_of_not_le (fun h2 => hf ⟨e, h2⟩)
  · rw [hs, if_neg (fun e => hy e.symm)]
  · rw [hs, if_pos rfl]
    refine ⟨?_, rfl⟩
    show getI r s + getI (heOf le o).pi s + getI (heOf le o).sh s = (getI (heOf le o).he s + getI (heOf le o).pi s + getI (heOf le o).sh s) + getI (offerS A L) s
    rw [p4]; omega
theorem move_cases (A : Stk) (le : Hes) (o k : Int) (i j : Nat) : (∃ c, moveS A le o k i (some j) = (([], c), A, le)) ∨ (¬ mayO o ≠ 0 ∧ (heOf le o).get i ≠ [] ∧ (plusF ((heOf le o).get j) ((heOf le o).get i)).2 = 0 ∧
    moveS A le o k i (some j) = (((heOf le o).get i, 0), (doS A k ((heOf le o).get i)).2, setE le (((heOf le o).set i []).set j (plusF ((heOf le o).get j) ((heOf le o).get i)).1))) := by
  unfold moveS
  split
  · exact .inl ⟨_, rfl⟩
  rename_i h1
  split
  · exact .inl ⟨_, rfl⟩
  rename_i h2
  dsimp only
  split
  · exact .inl ⟨_, rfl⟩
  rename_i h3
  split
  · exact .inl ⟨_, rfl⟩
  exact .inr ⟨h1, h2, by simpa using h3, rfl⟩
theorem move_cases0 (A : Stk) (le : Hes) (o k : Int) (i : Nat) : (∃ c, moveS A le o k i none = (([], c), A, le)) ∨ (¬ mayO o ≠ 0 ∧ (heOf le o).get i ≠ [] ∧
    moveS A le o k i none = (((heOf le o).get i, 0), (doS A k ((heOf le o).get i)).2, setE le ((heOf le o).set i []))) := by
  unfold moveS
  split
  · exact .inl ⟨_, rfl⟩
  rename_i h1
  split
  · exact .inl ⟨_, rfl⟩
  rename_i h2
  dsimp only
  split
  · exact .inl ⟨_, rfl⟩
  exact .inr ⟨h1, h2, rfl⟩
set_option maxRecDepth 10000 in
theorem freeM_ok {A : Stk} {le : Hes} {o : Int} (h : ShOk A le) : StepOk le o (moveS A le o 3 0 none) ∧ ∀ s, (heOf (moveS A le o 3 0 none).2.2 o).of s ≤ (heOf le o).of s ∧ getI (heOf (moveS A le o 3 0 none).2.2 o).sh s = getI (heOf le o).sh s := by
  have hz : ∀ c : Int, StepOk le o (([], c), A, le) ∧ ∀ s, (heOf le o).of s ≤ (heOf le o).of s ∧ getI (heOf le o).sh s = getI (heOf le o).sh s := fun c => ⟨StepOk.no h, fun s => ⟨Int.le_refl _, rfl⟩⟩
  rcases move_cases0 A le o 3 0 with ⟨c, e⟩ | ⟨ho, hne, e⟩
  · rw [e]; exact hz c
  rw [e]
  simp only [HE.get0, HE.get1, HE.get2, HE.set0, HE.set1, HE.set2] at hne ⊢
  have hm := heOf_may h.row o
  have hoo := heOf_o' h o
  have hs : ∀ y, heOf (setE le { heOf le o with he := [] }) y = if o = y then { heOf le o with he := [] } else heOf le y := fun y => by
    rw [heOf_set h.rise]
    show (if (heOf le o).o = y then _ else _) = _
    rw [hoo]
  refine ⟨⟨h.set (doS_ok h.stk) (by show 1 ≤ (heOf le o).o ∧ _; rw [hoo]; exact mayO_may ho) rfl hm.2.1 hm.2.2 (fun e => ?_), hm.1, fun y hy => ?_⟩, fun s => ?_⟩
  · have e : (getS le (heOf le o).o).isNone = true := e
    rw [hoo] at e
    exact absurd (show (heOf le o).he = [] by unfold heOf; cases e2 : getS le o with | none => rfl | some v => rw [e2] at e; cases e) hne
  · show heOf (setE le { heOf le o with he := [] }) y = _
    rw [hs, if_neg (fun e => hy e.symm)]
  · show (heOf (setE le { heOf le o with he := [] }) o).of s ≤ _ ∧ getI (heOf (setE le { heOf le o with he := [] }) o).sh s = _
    rw [hs, if_pos rfl]
    unfold HE.of
    dsimp only
    have n1 := getI_nn s (L := (heOf le o).he) (fun q hq => by have := (mayL_all hm.1).row q hq; omega)
    refine ⟨by rw [getI_nil]; omega, rfl⟩
set_option maxRecDepth 10000 in
theorem pickM_ok {A : Stk} {le : Hes} {o : Int} (h : ShOk A le) : StepOk le o (moveS A le o 4 0 (some 1)) ∧ ∀ s, (heOf (moveS A le o 4 0 (some 1)).2.2 o).of s ≤ (heOf le o).of s ∧ getI (heOf (moveS A le o 4 0 (some 1)).2.2 o).sh s = getI (heOf le o).sh s := by
  have hz : ∀ c : Int, StepOk le o (([], c), A, le) ∧ ∀ s, (heOf le o).of s ≤ (heOf le o).of s ∧ getI (heOf le o).sh s = getI (heOf le o).sh s := fun c => ⟨StepOk.no h, fun s => ⟨Int.le_refl _, rfl⟩⟩
  rcases move_cases A le o 4 0 1 with ⟨c, e⟩ | ⟨ho, hne, hp, e⟩
  · rw [e]; exact hz c
  rw [e]
  simp only [HE.get0, HE.get1, HE.get2, HE.set0, HE.set1, HE.set2] at hne hp ⊢
  obtain ⟨r, hr⟩ : ∃ r, plusF (heOf le o).pi (heOf le o).he = (r, 0) := ⟨_, Prod.ext rfl hp⟩
  obtain ⟨p1, p2, p3, p4⟩ := plusF_ok hr
  rw [hr]
  have hm := heOf_may h.row o
  have hoo := heOf_o' h o
  have hs : ∀ y, heOf (setE le { heOf le o with he := [], pi := r }) y = if o = y then { heOf le o with he := [], pi := r } else heOf le y := fun y => by
    rw [heOf_set h.rise]
    show (if (heOf le o).o = y then _ else _) = _
    rw [hoo]
  refine ⟨⟨h.set (doS_ok h.stk) (by show 1 ≤ (heOf le o).o ∧ _; rw [hoo]; exact mayO_may ho) rfl p1 hm.2.2 (fun e => ?_), hm.1, fun y hy => ?_⟩, fun s => ?_⟩
  · have e : (getS le (heOf le o).o).isNone = true := e
    rw [hoo] at e
    exact absurd (show (heOf le o).he = [] by unfold heOf; cases e2 : getS le o with | none => rfl | some v => rw [e2] at e; cases e) hne
  · show heOf (setE le { heOf le o with he := [], pi := r }) y = _
    rw [hs, if_neg (fun e => hy e.symm)]
  · show (heOf (setE le { heOf le o with he := [], pi := r }) o).of s ≤ _ ∧ getI (heOf (setE le { heOf le o with he := [], pi := r }) o).sh s = _
    rw [hs, if_pos rfl]
    unfold HE.of
    dsimp only
    have n1 := getI_nn s (L := (heOf le o).he) (fun q hq => by have := (mayL_all hm.1).row q hq; omega)
    have p5 := p4 s; rw [getI_nil]; constructor <;> omega
set_option maxRecDepth 10000 in
theorem unpickM_ok {A : Stk} {le : Hes} {o : Int} (h : ShOk A le) : StepOk le o (moveS A le o 5 1 (some 0)) ∧ ∀ s, (heOf (moveS A le o 5 1 (some 0)).2.2 o).of s ≤ (heOf le o).of s ∧ getI (heOf (moveS A le o 5 1 (some 0)).2.2 o).sh s = getI (heOf le o).sh s := by
  have hz : ∀ c : Int, StepOk le o (([], c), A, le) ∧ ∀ s, (heOf le o).of s ≤ (heOf le o).of s ∧ getI (heOf le o).sh s = getI (heOf le o).sh s := fun c => ⟨StepOk.no h, fun s => ⟨Int.le_refl _, rfl⟩⟩
  rcases move_cases A le o 5 1 0 with ⟨c, e⟩ | ⟨ho, hne, hp, e⟩
  · rw [e]; exact hz c
  rw [e]
  simp only [HE.get0, HE.get1, HE.get2, HE.set0, HE.set1, HE.set2] at hne hp ⊢
  obtain ⟨r, hr⟩ : ∃ r, plusF (heOf le o).he (heOf le o).pi = (r, 0) := ⟨_, Prod.ext rfl hp⟩
  obtain ⟨p1, p2, p3, p4⟩ := plusF_ok hr
  rw [hr]
  have hm := heOf_may h.row o
  have hoo := heOf_o' h o
  have hs : ∀ y, heOf (setE le { heOf le o with pi := [], he := r }) y = if o = y then { heOf le o with pi := [], he := r } else heOf le y := fun y => by
    rw [heOf_set h.rise]
    show (if (heOf le o).o = y then _ else _) = _
    rw [hoo]
  refine ⟨⟨h.set (doS_ok h.stk) (by show 1 ≤ (heOf le o).o ∧ _; rw [hoo]; exact mayO_may ho) p1 rfl hm.2.2 (fun e => ?_), hm.2.1, fun y hy => ?_⟩, fun s => ?_⟩
  · have e : (getS le (heOf le o).o).isNone = true := e
    rw [hoo] at e
    exact absurd (show (heOf le o).pi = [] by unfold heOf; cases e2 : getS le o with | none => rfl | some v => rw [e2] at e; cases e) hne
  · show heOf (setE le { heOf le o with pi := [], he := r }) y = _
    rw [hs, if_neg (fun e => hy e.symm)]
  · show (heOf (setE le { heOf le o with pi := [], he := r }) o).of s ≤ _ ∧ getI (heOf (setE le { heOf le o with pi := [], he := r }) o).sh s = _
    rw [hs, if_pos rfl]
    unfold HE.of
    dsimp only
    have n1 := getI_nn s (L := (heOf le o).he) (fun q hq => by have := (mayL_all hm.1).row q hq; omega)
    have p5 := p4 s; rw [getI_nil]; constructor <;> omega
set_option maxRecDepth 10000 in
theorem shipM_ok {A : Stk} {le : Hes} {o : Int} (h : ShOk A le) : StepOk le o (moveS A le o 6 1 (some 2)) ∧ ∀ s, (heOf (moveS A le o 6 1 (some 2)).2.2 o).of s ≤ (heOf le o).of s ∧ getI (heOf (moveS A le o 6 1 (some 2)).2.2 o).sh s = getI (heOf le o).sh s + getI (moveS A le o 6 1 (some 2)).1.1 s := by
  have hz : ∀ c : Int, StepOk le o (([], c), A, le) ∧ ∀ s, (heOf le o).of s ≤ (heOf le o).of s ∧ getI (heOf le o).sh s = getI (heOf le o).sh s + getI [] s := fun c => ⟨StepOk.no h, fun s => ⟨Int.le_refl _, by rw [getI_nil]; omega⟩⟩
  rcases move_cases A le o 6 1 2 with ⟨c, e⟩ | ⟨ho, hne, hp, e⟩
  · rw [e]; exact hz c
  rw [e]
  simp only [HE.get0, HE.get1, HE.get2, HE.set0, HE.set1, HE.set2] at hne hp ⊢
  obtain ⟨r, hr⟩ : ∃ r, plusF (heOf le o).sh (heOf le o).pi = (r, 0) := ⟨_, Prod.ext rfl hp⟩
  obtain ⟨p1, p2, p3, p4⟩ := plusF_ok hr
  rw [hr]
  have hm := heOf_may h.row o
  have hoo := heOf_o' h o
  have hs : ∀ y, heOf (setE le { heOf le o with pi := [], sh := r }) y = if o = y then { heOf le o with pi := [], sh := r } else heOf le y := fun y => by
    rw [heOf_set h.rise]
    show (if (heOf le o).o = y then _ else _) = _
    rw [hoo]
  refine ⟨⟨h.set (doS_ok h.stk) (by show 1 ≤ (heOf le o).o ∧ _; rw [hoo]; exact mayO_may ho) hm.1 rfl p1 (fun e => ?_), hm.2.1, fun y hy => ?_⟩, fun s => ?_⟩
  · have e : (getS le (heOf le o).o).isNone = true := e
    rw [hoo] at e
    exact absurd (show (heOf le o).pi = [] by unfold heOf; cases e2 : getS le o with | none => rfl | some v => rw [e2] at e; cases e) hne
  · show heOf (setE le { heOf le o with pi := [], sh := r }) y = _
    rw [hs, if_neg (fun e => hy e.symm)]
  · show (heOf (setE le { heOf le o with pi := [], sh := r }) o).of s ≤ _ ∧ getI (heOf (setE le { heOf le o with pi := [], sh := r }) o).sh s = _
    rw [hs, if_pos rfl]
    unfold HE.of
    dsimp only
    have n1 := getI_nn s (L := (heOf le o).he) (fun q hq => by have := (mayL_all hm.1).row q hq; omega)
    have p5 := p4 s; rw [getI_nil]; constructor <;> omega
theorem free_ok {A : Stk} {le : Hes} {o : Int} (h : ShOk A le) : StepOk le o (freeE A le o) ∧ ∀ s, (heOf (freeE A le o).2.2 o).of s ≤ (heOf le o).of s ∧ getI (heOf (freeE A le o).2.2 o).sh s = getI (heOf le o).sh s := by
  have hz : ∀ c : Int, StepOk le o (([], c), A, le) ∧ ∀ s, (heOf le o).of s ≤ (heOf le o).of s ∧ getI (heOf le o).sh s = getI (heOf le o).sh s := fun c => ⟨StepOk.no h, fun s => ⟨Int.le_refl _, rfl⟩⟩
  unfold freeE
  split
  · exact hz _
  split
  · exact hz _
  exact freeM_ok h
theorem do_ok {A : Stk} {le : Hes} {k : Int} {L : Its} (h : ShOk A le) : ShOk (doH A k L).2 le := by
  unfold doH
  split
  · exact ⟨doS_ok h.stk, h.rise, h.row, h.len⟩
  · exact h
end Go.Proofs.YtogphlnakdnchaaGreat

namespace Go.Proofs.YtogphlnakdnchaaGreat
open Go.RowKit Go.Maps
def readT (t : Tst) : Its × Tst := ((itG (tk t 0 16).2 (tk t 0 16).1.toNat).2, (itG (tk t 0 16).2 (tk t 0 16).1.toNat).1)
set_option maxRecDepth 100000 in
set_option maxHeartbeats 8000000 in
theorem hRead (w : World) (g : Nat) (TS : Nat → Prop) (t : Tst) (h : TK w g TS t.1 t.2) : Calls Tryz.prog 65 #[.pointer (some ⟨g, 0, none⟩)] w fun e w' =>
    ∃ v, e = .returned (.tuple #[v, .bool (mayL (readT t).1)]) ∧ Il w' v (readT t).1 ∧ (∀ b, v.ownBlock = some b → w.heap.size ≤ b ∧ b < w'.heap.size) ∧ TK w' g TS (readT t).2.1 (readT t).2.2 ∧ Fr TS w w' := by
  obtain ⟨i0, hi', hz0, hz1, hz2⟩ := info_parts infoItem
  have hx := Lib.hid (xTk w g TS t 0 16 h)
  have hqi := tk_in t (a := 0) (b := 16) (by omega) (by omega)
  obtain ⟨q, hq⟩ : ∃ q, tk t 0 16 = q := ⟨_, rfl⟩
  have hit : Hid (readT t = ((itG q.2 q.1.toNat).2, (itG q.2 q.1.toNat).1)) := Lib.hid (by unfold readT; rw [hq])
  rw [hq] at hx hqi
  obtain ⟨q1, q2⟩ := q
  obtain ⟨N, rfl⟩ : ∃ N : Nat, q1 = N := ⟨q1.toNat, by dsimp only at hqi; omega⟩
  dsimp only at hx hqi hit
  rw [Int.toNat_natCast] at hit
  have hN : N ≤ 16 := by omega
  obtain ⟨n0, hn0⟩ : ∃ n0, w.heap.size = n0 := ⟨_, rfl⟩
  have HS := Lib.hid hn0
  have HLT := Lib.hid h.lt
  clear h hq hqi
  go_enter Tryz.func65, Tryz.ntmps65
  go_wp2_with (go_at_call 64; refine hx.out.mono ?_; rintro e w1 ⟨rfl, h1, h2⟩; have H1 := Lib.hid h1; have H2 := Lib.hid h2; clear h1 h2)
  go_loopw [4, 8] (fun vo vi wr => ∃ (k : Nat), k ≤ N ∧ vi = .int .i64 k ∧ TK wr g TS (itG q2 k).1.1 (itG q2 k).1.2 ∧ wr.ownsRow n0 65 2 vo k (itCs (itG q2 k).2) ∧ Fr TS w wr) (fun _ vi _ => N - (intOf vi).toNat)
  case atStart => exact ⟨0, Nat.zero_le _, rfl, H1.out, World.ownsRow_nil _ _ _ _, H2.out⟩
  case round =>
    obtain ⟨k, hk, rfl, hT, hO, hF⟩ := hrel
    have HT := Lib.hid hT; have HO := Lib.hid hO; have HF := Lib.hid hF
    obtain ⟨oa, oc, rfl⟩ := row_sl hO
    by_cases hlt : k < N
    · have hkI : (k : Int) < N := by omega
      have hstep : Hid (itG q2 (k + 1) = it1 (itG q2 k)) := Lib.hid rfl
      have HLEN := Lib.hid (itG_len q2 k)
      obtain ⟨S, hSS⟩ : ∃ S, itG q2 k = S := ⟨_, rfl⟩
      rw [hSS] at hstep HT HO HLEN
      obtain ⟨t0, its⟩ := S
      have hTx := Lib.hid (cTText wr g TS t0 16 HT.out (by omega))
      obtain ⟨T1, hT1⟩ : ∃ T, tkT t0 16 = T := ⟨_, rfl⟩
      unfold it1 at hstep
      dsimp only at hstep hTx HT HO HLEN
      rw [hT1] at hTx hstep
      obtain ⟨gd, t1⟩ := T1
      dsimp only at hTx hstep
      have hNx := Lib.hid (fun W (h : TK W g TS t1.1 t1.2) => xTk W g TS t1 1 1099511627776 h)
      obtain ⟨T2, hT2⟩ : ∃ T, tk t1 1 1099511627776 = T := ⟨_, rfl⟩
      rw [hT2] at hNx hstep
      obtain ⟨nn, t2⟩ := T2
      dsimp only at hNx hstep
      have HLT2 := Lib.hid (show ∀ b, TS b → b < n0 by rw [← HS.out]; exact HLT.out)
      clear hT hO hF hSS hT1 hT2
      go_wp2_with (first
        | (go_at_call 63; refine hTx.out.mono ?_; rintro e w4 ⟨rfl, ht4, hf4⟩; have HT4 := Lib.hid ht4; have HF4 := Lib.hid (HF.out.trans hf4); have HO4 := Lib.hid (hf4.row HO.out (fun b hb e => by have := (HO.out.lt b hb).1; have := HLT2.out b e; omega)); clear ht4 hf4)
        | (go_at_call 64; refine (hNx.out _ HT4.out).mono ?_; rintro e w5 ⟨rfl, ht5, hf5⟩; have HT5 := Lib.hid ht5; have HF5 := Lib.hid (HF4.out.trans hf5); have HO5 := Lib.hid (hf5.row HO4.out (fun b hb e => by have := (HO4.out.lt b hb).1; have := HLT2.out b e; omega)); clear ht5 hf5)
        | (at_builtin; refine wpList_append_src rfl _ _ 27 rfl n0 65 i0 (.agg #[.string ⟨#[]⟩, .int .i64 0]) 24 Tryz.underlying27 hi' hz0 hz1 hz2 rfl (by decide) (Value.slice oa k oc) k (itCs its) rfl (((Fr.refl (fun _ => False) w5).alloc _).row HO5.out (fun _ _ e => e)) 1 rfl (rd_obj (cs := [vS gd, .int .i64 nn]) (heap_new _ _) rfl) (by intro u hu; simp only [List.mem_cons, List.not_mem_nil, or_false] at hu; rcases hu with rfl | rfl <;> rfl) (by unfold maxLen; omega) (by omega) (by have := HS.out; have := HF5.out.size; simp; omega) ?_; intro v6 w6 hown6 hgrow6 hloc6; have HO6 := Lib.hid hown6; have hfr6 : Fr (fun c => n0 ≤ c) w5 w6 := (((Fr.refl (fun c => n0 ≤ c) w5).alloc _).trans' (Fr.grown (S := fun c => n0 ≤ c) hgrow6 (fun r hr _ => (HO5.out.lt r hr).1)) (fun _ _ e => e)); have HFR6 := Lib.hid hfr6; clear hown6 hgrow6 hloc6 hfr6))
      go_roundw
      case rel =>
        refine ⟨k + 1, by omega, by go_num, ?_, ?_, ?_⟩
        · rw [hstep.out]; exact HT5.out.fr HFR6.out (fun b hb e => by have := HLT2.out b hb; omega)
        · rw [hstep.out]; dsimp only; rw [itCs_snoc]; exact HO6.out
        · exact HF5.out.trans' HFR6.out (fun b hb e => by have := HS.out; have e : n0 ≤ b := e; omega)
      case measure => simp [intOf]; omega
    · obtain rfl : k = N := by omega
      have hkI : ¬ (k : Int) < k := by omega
      have HLEN := Lib.hid (itG_len q2 k)
      have HOKS := Lib.hid (itG_ok q2 k)
      obtain ⟨S, hSS⟩ : ∃ S, itG q2 k = S := ⟨_, rfl⟩
      rw [hSS] at hit HT HO HLEN HOKS
      obtain ⟨t0, its⟩ := S
      dsimp only at hit HT HO HLEN HOKS
      have HO' := HO.out
      rw [← HLEN.out] at HO'
      have HIL := Lib.hid (Il.own HO' HOKS.out)
      have hM := Lib.hid (iMay wr _ its HIL.out.1)
      rw [HLEN.out] at hM HIL
      clear hT hO hF hSS HO'
      obtain ⟨mb, hmb⟩ : ∃ b, mayL its = b := ⟨_, rfl⟩
      rw [hmb] at hM
      have HMB := Lib.hid hmb
      clear hmb
      go_wp2_with (go_at_call 28; refine hM.out.mono ?_; rintro e w2 ⟨rfl, hf2⟩; have HF2 := Lib.hid hf2; clear hf2)
      go_ret2
      rw [hit.out]
      dsimp only
      rw [HMB.out]
      exact ⟨_, rfl, HIL.out.1.fr HF2.out (fun _ e => e.elim), fun b hb => by have := (HIL.out.2 b hb); have := HS.out; have := HF2.out.size; omega, HT.out.fr HF2.out (fun _ _ e => e), HF.out.trans' HF2.out (fun _ _ e => e.elim)⟩
end Go.Proofs.YtogphlnakdnchaaGreat

namespace Go.Proofs.YtogphlnakdnchaaGreat
open Go.RowKit Go.Maps
theorem put_ok {bs c : List Int} (h : bs.length + c.length ≤ 262144) : putB bs false c = bs ++ c ∧ putL bs false c = false := by
  unfold putB putL
  have : ¬ 262144 < bs.length + c.length := by omega
  simp [this]
theorem MK.fa {B : Nat} {w w' : World} {g : Nat} {TS : Nat → Prop} {bs : List Int} {long : Bool} (h : MK w g TS bs long) (hf : Fa B w w') : MK w' g TS bs long := by
  obtain ⟨⟨v, h1, h2, h3⟩, h4, h5, h6⟩ := h
  exact ⟨⟨v, Fa.cells hf h1, Fa.row hf h2, h3⟩, h4, fun b hb => Nat.lt_of_lt_of_le (h5 b hb) hf.size, h6⟩
theorem mNum {w : World} {g : Nat} {TS : Nat → Prop} {bs : List Int} (n : Int) (h : MK w g TS bs false) (hn : okI n) (hl : bs.length ≤ 262100) :
    Calls Tryz.prog 51 #[.pointer (some ⟨g, 0, none⟩), .int .i64 n] w fun e w' => e = .returned (.pointer (some ⟨g, 0, none⟩)) ∧ ∃ TS', MK w' g TS' (bs ++ numB n) false ∧ Stp TS w w' TS' := by
  have hp := put_ok (bs := bs) (c := numB n) (by have := (numB_len hn).2; omega)
  have := cMNum w g TS bs false n h hn
  rw [hp.1, hp.2] at this
  exact this
theorem mText {w : World} {g : Nat} {TS : Nat → Prop} {bs : List Int} (s : Str) (h : MK w g TS bs false) (hs : s.length ≤ 16) (hl : bs.length ≤ 262100) :
    Calls Tryz.prog 49 #[.pointer (some ⟨g, 0, none⟩), vS s] w fun e w' => e = .returned (.pointer (some ⟨g, 0, none⟩)) ∧ ∃ TS', MK w' g TS' (bs ++ textB s) false ∧ Stp TS w w' TS' := by
  have hp := put_ok (bs := bs) (c := textB s) (by have := textB_len hs; omega)
  have := cMText w g TS bs false s h (by omega)
  rw [hp.1, hp.2] at this
  exact this
theorem xMN (w : World) : Calls Tryz.prog 48 #[] w fun e w' => ∃ gm TS, e = .returned (.pointer (some ⟨gm, 0, none⟩)) ∧ MK w' gm TS [] false ∧ (∀ b, TS b → w.heap.size ≤ b) ∧ Fr (fun _ => False) w w' := by
  refine (cMNew w).mono ?_
  rintro e w' ⟨rfl, h1, h2⟩
  exact ⟨_, _, rfl, h1, fun b hb => by omega, h2⟩
end Go.Proofs.YtogphlnakdnchaaGreat

namespace Go.Proofs.YtogphlnakdnchaaGreat
open Go.RowKit Go.Maps
def numsB (r : SR) (k : Nat) : List Int := (List.range k).flatMap fun j => numB (r.get j)
def rowB (p : Str × SR) : List Int := textB p.1 ++ numsB p.2 11
def packS (A : Stk) : List Int := numB (A.length : Int) ++ A.flatMap rowB
theorem numsB_succ (r : SR) (k : Nat) : numsB r (k + 1) = numsB r k ++ numB (r.get k) := by simp [numsB, List.range_succ]
theorem SRok.get {r : SR} (h : SRok r) (j : Nat) : okI (r.get j) := by
  have hc := h.counted
  obtain ⟨⟨a0, a1, a2, a3, b0, b1, b2, b3, b4, b5⟩, -, -⟩ := h
  unfold okI SR.get
  split <;> omega
theorem numsB_len {r : SR} (h : SRok r) (k : Nat) : (numsB r k).length ≤ 9 * k := by
  induction k with
  | zero => simp [numsB]
  | succ k ih =>
    rw [numsB_succ, List.length_append]
    have := (numB_len (h.get k)).2
    omega
theorem rowB_len {p : Str × SR} (h1 : goodB p.1 = true) (h2 : SRok p.2) : (rowB p).length ≤ 124 := by
  unfold rowB
  rw [List.length_append]
  have := textB_len (goodB_len h1)
  have := numsB_len h2 11
  omega
theorem rows_len : ∀ {L : Stk}, (∀ p ∈ L, goodB p.1 = true ∧ SRok p.2) → (L.flatMap rowB).length ≤ 124 * L.length
  | [], _ => by simp
  | p :: r, h => by
    rw [List.flatMap_cons, List.length_append, List.length_cons]
    have := rowB_len (h p (by simp)).1 (h p (by simp)).2
    have := rows_len (L := r) (fun q hq => h q (by simp [hq]))
    omega
theorem rowsB_byt {L : Stk} (h : ∀ p ∈ L, goodB p.1 = true ∧ SRok p.2) : Byt (L.flatMap rowB) := by
  intro x hx
  obtain ⟨p, hp, hx⟩ := List.mem_flatMap.1 hx
  unfold rowB textB numsB at hx
  obtain ⟨h1, h2⟩ := h p hp
  simp only [List.mem_append, List.mem_flatMap] at hx
  rcases hx with (hx | hx) | ⟨j, _, hx⟩
  · exact numB_mem (by have := goodB_len h1; unfold okI; omega) hx
  · exact sB_byt _ x hx
  · exact numB_mem (h2.get j) hx
theorem packS_byt {A : Stk} (h : SOk A) : Byt (packS A) := by
  intro x hx
  rcases List.mem_append.1 hx with hx | hx
  · exact numB_mem (by have := h.len; unfold okI; omega) hx
  · exact rowsB_byt (fun p hp => ⟨h.good p hp, h.row p hp⟩) x hx
theorem packS_len {A : Stk} (h : SOk A) : (packS A).length ≤ 7945 := by
  unfold packS
  rw [List.length_append]
  have := (numB_len (n := (A.length : Int)) (by have := h.len; unfold okI; omega)).2
  have := rows_len (fun p hp => ⟨h.good p hp, h.row p hp⟩)
  have := h.len
  omega
end Go.Proofs.YtogphlnakdnchaaGreat

namespace Go.Proofs.YtogphlnakdnchaaGreat
open Go.RowKit Go.Maps
abbrev minI : Int := -9223372036854775808
abbrev maxI : Int := 9223372036854775807
/-- The first k of a row's numbers, taken. -/
def tkNums (t : Tst) : Nat → SR × Tst
  | 0 => (SR.zero, t)
  | k + 1 => ((tkNums t k).1.set k (tk (tkNums t k).2 minI maxI).1, (tk (tkNums t k).2 minI maxI).2)
/-- A row, taken. -/
def tkRow (t : Tst) : Str × SR × Tst := ((tkT t 16).1, tkNums (tkT t 16).2 11)
def rowMay (last : Str) (g : Str) (r : SR) : Bool := goodB g && decide (last < g) && r.bal && r.right
/-- n rows, taken. -/
def unpL : Nat → Tst → Str → Stk → Option (Stk × Tst)
  | 0, t, _, A => some (A, t)
  | n + 1, t, last, A => if rowMay last (tkRow t).1 (tkRow t).2.1 = true then unpL n (tkRow t).2.2 (tkRow t).1 (putS ktS.lt A (tkRow t).1 (tkRow t).2.1) else none
def unpS (bs : List Int) : Option Stk :=
  match unpL (tk (bs, false) 0 64).1.toNat (tk (bs, false) 0 64).2 [] [] with
  | none => none
  | some (A, t) => if doneT t.1 t.2 = 0 then some A else none
end Go.Proofs.YtogphlnakdnchaaGreat

namespace Go.Proofs.YtogphlnakdnchaaGreat
open Go.RowKit Go.Maps
theorem ins_end {ν : Type} {g : Str} {r : ν} : ∀ {B : List (Str × ν)}, (∀ p ∈ B, p.1 < g) → insS ktS.lt (g, r) B = B ++ [(g, r)]
  | [], _ => rfl
  | y :: t, h => by
    have hy := h y (by simp)
    have e : ktS.lt g y.1 = false := by rw [ktS_lt]; simpa using str_asym hy
    show (if ktS.lt g y.1 = true then (g, r) :: y :: t else y :: insS ktS.lt (g, r) t) = _
    rw [e]
    simp only [Bool.false_eq_true, if_false]
    rw [ins_end (fun p hp => h p (by simp [hp]))]
    rfl
theorem put_end {ν : Type} {g : Str} {r : ν} {B : List (Str × ν)} (h : ∀ p ∈ B, p.1 < g) : putS ktS.lt B g r = B ++ [(g, r)] := by
  unfold putS
  have e : delS B g = B := by
    unfold delS
    rw [List.filter_eq_self]
    intro p hp
    have := h p hp
    simp only [Bool.not_eq_true', decide_eq_false_iff_not]
    rintro rfl
    exact str_irr _ this
  rw [e]
  exact ins_end h
end Go.Proofs.YtogphlnakdnchaaGreat

namespace Go.Proofs.YtogphlnakdnchaaGreat
open Go.RowKit Go.Maps
theorem tkT_take {t : Tst} {m : Int} (hb : Byt t.1) (h : (tkT t m).2.2 = false) : t.1 = textB (tkT t m).1 ++ (tkT t m).2.1 ∧ t.2 = false ∧ Byt (tkT t m).2.1 := by
  obtain ⟨q, hq⟩ : ∃ q, tk t 0 m = q := ⟨_, rfl⟩
  unfold tkT at *
  rw [hq] at h ⊢
  dsimp only at h ⊢
  by_cases h1 : q.2.2 = true
  · rw [if_pos h1] at h
    dsimp only at h
    rw [h1] at h
    cases h
  · rw [if_neg h1] at h ⊢
    have h1 : q.2.2 = false := by simpa using h1
    by_cases h2 : (q.2.1.length : Int) < q.1
    · rw [if_pos h2] at h; cases h
    · rw [if_neg h2]
      dsimp only
      have := tk_take hb (a := 0) (b := m) (by rw [hq]; exact h1)
      rw [hq] at this
      obtain ⟨h3, h4, ⟨h5, h6⟩, h7, h8⟩ := this
      refine ⟨?_, h7, fun x hx => h8 x (List.mem_of_mem_drop hx)⟩
      have hl : (q.2.1.take q.1.toNat).length = q.1.toNat := by rw [List.length_take]; omega
      unfold textB
      rw [sB_bS (fun x hx => h8 x (List.mem_of_mem_take hx))]
      have : ((bS (q.2.1.take q.1.toNat)).length : Int) = q.1 := by unfold bS; rw [List.length_map, hl]; omega
      rw [this, List.append_assoc, List.take_append_drop]
      exact h4
theorem get_set (r : SR) {k : Nat} (h : k < 11) (x : Int) : (r.set k x).get k = x := by
  match k, h with
  | 0, _ => rfl
  | 1, _ => rfl
  | 2, _ => rfl
  | 3, _ => rfl
  | 4, _ => rfl
  | 5, _ => rfl
  | 6, _ => rfl
  | 7, _ => rfl
  | 8, _ => rfl
  | 9, _ => rfl
  | 10, _ => rfl
theorem get_set_ne (r : SR) {j k : Nat} (h : k < 11) (hj : j < k) (x : Int) : (r.set k x).get j = r.get j := by
  match k, h, j, hj with
  | 1, _, 0, _ => rfl
  | 1, _, j + 1, hj => exact absurd hj (by omega)
  | 2, _, 0, _ => rfl
  | 2, _, 1, _ => rfl
  | 2, _, j + 2, hj => exact absurd hj (by omega)
  | 3, _, 0, _ => rfl
  | 3, _, 1, _ => rfl
  | 3, _, 2, _ => rfl
  | 3, _, j + 3, hj => exact absurd hj (by omega)
  | 4, _, 0, _ => rfl
  | 4, _, 1, _ => rfl
  | 4, _, 2, _ => rfl
  | 4, _, 3, _ => rfl
  | 4, _, j + 4, hj => exact absurd hj (by omega)
  | 5, _, 0, _ => rfl
  | 5, _, 1, _ => rfl
  | 5, _, 2, _ => rfl
  | 5, _, 3, _ => rfl
  | 5, _, 4, _ => rfl
  | 5, _, j + 5, hj => exact absurd hj (by omega)
  | 6, _, 0, _ => rfl
  | 6, _, 1, _ => rfl
  | 6, _, 2, _ => rfl
  | 6, _, 3, _ => rfl
  | 6, _, 4, _ => rfl
  | 6, _, 5, _ => rfl
  | 6, _, j + 6, hj => exact absurd hj (by omega)
  | 7, _, 0, _ => rfl
  | 7, _, 1, _ => rfl
  | 7, _, 2, _ => rfl
  | 7, _, 3, _ => rfl
  | 7, _, 4, _ => rfl
  | 7, _, 5, _ => rfl
  | 7, _, 6, _ => rfl
  | 7, _, j + 7, hj => exact absurd hj (by omega)
  | 8, _, 0, _ => rfl
  | 8, _, 1, _ => rfl
  | 8, _, 2, _ => rfl
  | 8, _, 3, _ => rfl
  | 8, _, 4, _ => rfl
  | 8, _, 5, _ => rfl
  | 8, _, 6, _ => rfl
  | 8, _, 7, _ => rfl
  | 8, _, j + 8, hj => exact absurd hj (by omega)
  | 9, _, 0, _ => rfl
  | 9, _, 1, _ => rfl
  | 9, _, 2, _ => rfl
  | 9, _, 3, _ => rfl
  | 9, _, 4, _ => rfl
  | 9, _, 5, _ => rfl
  | 9, _, 6, _ => rfl
  | 9, _, 7, _ => rfl
  | 9, _, 8, _ => rfl
  | 9, _, j + 9, hj => exact absurd hj (by omega)
  | 10, _, 0, _ => rfl
  | 10, _, 1, _ => rfl
  | 10, _, 2, _ => rfl
  | 10, _, 3, _ => rfl
  | 10, _, 4, _ => rfl
  | 10, _, 5, _ => rfl
  | 10, _, 6, _ => rfl
  | 10, _, 7, _ => rfl
  | 10, _, 8, _ => rfl
  | 10, _, 9, _ => rfl
  | 10, _, j + 10, hj => exact absurd hj (by omega)
  | 0, _, j, hj => exact absurd hj (by omega)
theorem numsB_set (r : SR) {k : Nat} (h : k < 11) (x : Int) : ∀ n, n ≤ k → numsB (r.set k x) n = numsB r n
  | 0, _ => rfl
  | n + 1, hn => by rw [numsB_succ, numsB_succ, numsB_set r h x n (by omega), get_set_ne r h (by omega)]
theorem tkNums_take {t : Tst} (hb : Byt t.1) : ∀ k, k ≤ 11 → (tkNums t k).2.2 = false → t.1 = numsB (tkNums t k).1 k ++ (tkNums t k).2.1 ∧ t.2 = false ∧ Byt (tkNums t k).2.1
  | 0, _, h => ⟨rfl, h, hb⟩
  | k + 1, hk, h => by
    have h0 : (tk (tkNums t k).2 minI maxI).2.2 = false := h
    have h1 : (tkNums t k).2.2 = false := (tk_ok h0).1
    obtain ⟨e1, e2, e3⟩ := tkNums_take hb k (by omega) h1
    obtain ⟨a1, a2, a3, a4, a5⟩ := tk_take e3 h0
    refine ⟨?_, e2, a5⟩
    show t.1 = numsB ((tkNums t k).1.set k (tk (tkNums t k).2 minI maxI).1) (k + 1) ++ (tk (tkNums t k).2 minI maxI).2.1
    rw [numsB_succ, numsB_set _ (by omega) _ _ (Nat.le_refl _), get_set _ (by omega), List.append_assoc, ← a2]
    exact e1
theorem tkRow_take {t : Tst} (hb : Byt t.1) (h : (tkRow t).2.2.2 = false) : t.1 = rowB ((tkRow t).1, (tkRow t).2.1) ++ (tkRow t).2.2.1 ∧ t.2 = false ∧ Byt (tkRow t).2.2.1 := by
  obtain ⟨q, hq⟩ : ∃ q, tkT t 16 = q := ⟨_, rfl⟩
  unfold tkRow at *
  rw [hq] at h ⊢
  dsimp only at h ⊢
  have h1 : q.2.2 = false := by
    cases e : q.2.2 with
    | false => rfl
    | true =>
      have : ∀ k, (tkNums q.2 k).2.2 = true := fun k => by
        induction k with
        | zero => exact e
        | succ k ih =>
          show (tk (tkNums q.2 k).2 minI maxI).2.2 = true
          rw [tk_bad ih]
          exact ih
      rw [this 11] at h
      cases h
  obtain ⟨e1, e2, e3⟩ := tkT_take (t := t) (m := 16) hb (by rw [hq]; exact h1)
  rw [hq] at e1 e3
  obtain ⟨a1, a2, a3⟩ := tkNums_take e3 11 (by omega) h
  refine ⟨?_, e2, a3⟩
  unfold rowB
  dsimp only
  rw [List.append_assoc, ← a1]
  exact e1
theorem unpL_take : ∀ {n : Nat} {t : Tst} {last : Str} {B A : Stk} {t' : Tst}, unpL n t last B = some (A, t') → t'.2 = false → Byt t.1 → (∀ q ∈ B, q.1 = last ∨ q.1 < last) →
    ∃ C, A = B ++ C ∧ C.length = n ∧ t.1 = C.flatMap rowB ++ t'.1 ∧ t.2 = false ∧ (∀ p ∈ C, goodB p.1 = true ∧ SRok p.2) ∧ RiseS C ∧ ∀ p ∈ C, last < p.1
  | 0, t, last, B, A, t', h, h1, hb, hB => by
    unfold unpL at h
    injection h with h
    injection h with h2 h3
    subst h2 h3
    exact ⟨[], by simp, rfl, by simp, h1, by simp, List.Pairwise.nil, by simp⟩
  | n + 1, t, last, B, A, t', h, h1, hb, hB => by
    unfold unpL at h
    by_cases hm : rowMay last (tkRow t).1 (tkRow t).2.1 = true
    · rw [if_pos hm] at h
      unfold rowMay at hm
      simp only [Bool.and_eq_true, decide_eq_true_eq] at hm
      obtain ⟨⟨⟨m1, m2⟩, m3⟩, m4⟩ := hm
      have hlt : ∀ q ∈ B, q.1 < (tkRow t).1 := fun q hq => (hB q hq).elim (fun e => e ▸ m2) (fun e => str_trans e m2)
      rw [put_end hlt] at h
      have hbad : (tkRow t).2.2.2 = false ∨ (tkRow t).2.2.2 = true := by cases (tkRow t).2.2.2 <;> simp
      rcases hbad with hbf | hbt
      · obtain ⟨e1, e2, e3⟩ := tkRow_take hb hbf
        obtain ⟨C, c1, c2, c3, c4, c5, c6, c7⟩ := unpL_take h h1 e3 (fun q hq => by
          rcases List.mem_append.1 hq with e | e
          · exact .inr (hlt q e)
          · have : q = ((tkRow t).1, (tkRow t).2.1) := by simpa using e
            subst this
            exact .inl rfl)
        refine ⟨((tkRow t).1, (tkRow t).2.1) :: C, by rw [c1]; simp, by simp [c2], ?_, e2, ?_, ?_, ?_⟩
        · rw [List.flatMap_cons, List.append_assoc, ← c3]; exact e1
        · intro p hp
          rcases List.mem_cons.1 hp with rfl | hp
          · exact ⟨m1, SRok.of m4 m3⟩
          · exact c5 p hp
        · exact List.pairwise_cons.2 ⟨fun q hq => c7 q hq, c6⟩
        · intro p hp
          rcases List.mem_cons.1 hp with rfl | hp
          · exact m2
          · exact str_trans m2 (c7 p hp)
      · exfalso
        have hstay : ∀ (n : Nat) (s : Tst) (l : Str) (B' : Stk), s.2 = true → unpL n s l B' = some (A, t') → t'.2 = true := by
          intro n
          induction n with
          | zero => intro s l B' hs e; unfold unpL at e; injection e with e; injection e with e1 e2; rw [← e2]; exact hs
          | succ n ih =>
            intro s l B' hs e
            unfold unpL at e
            split at e
            · refine ih _ _ _ ?_ e
              cases hx : (tkRow s).2.2.2 with
              | true => rfl
              | false =>
                have hT : tkT s 16 = ([], s) := by unfold tkT; rw [tk_bad hs]; simp [hs]
                have : ∀ k, (tkNums s k).2.2 = true := fun k => by
                  induction k with
                  | zero => exact hs
                  | succ k ih =>
                    show (tk (tkNums s k).2 minI maxI).2.2 = true
                    rw [tk_bad ih]
                    exact ih
                have h9 := this 11
                unfold tkRow at hx
                rw [hT] at hx
                dsimp only at hx
                rw [h9] at hx
                cases hx
            · cases e
        rw [hstay _ _ _ _ hbt h] at h1
        cases h1
    · rw [if_neg hm] at h; cases h
theorem unpS_take {bs : List Int} {A : Stk} (hb : Byt bs) (h : unpS bs = some A) : SOk A ∧ packS A = bs := by
  unfold unpS at h
  obtain ⟨q, hq⟩ : ∃ q, tk (bs, false) 0 64 = q := ⟨_, rfl⟩
  rw [hq] at h
  cases e : unpL q.1.toNat q.2 [] [] with
  | none => rw [e] at h; cases h
  | some p =>
    obtain ⟨A', t'⟩ := p
    rw [e] at h
    dsimp only at h
    by_cases hd : doneT t'.1 t'.2 = 0
    · rw [if_pos hd] at h
      injection h with h
      subst h
      have hd2 : t'.2 = false ∧ t'.1 = [] := by
        unfold doneT at hd
        split at hd
        · cases hd
        · rename_i hn
          simp only [not_or, Decidable.not_not] at hn
          exact ⟨by simpa using hn.1, by simpa using hn.2⟩
      by_cases hqb : q.2.2 = false
      · have hbt := tk_take (t := (bs, false)) (a := 0) (b := 64) hb (by rw [hq]; exact hqb)
        rw [hq] at hbt
        obtain ⟨b1, b2, ⟨b3, b4⟩, b5, b6⟩ := hbt
        obtain ⟨C, c1, c2, c3, c4, c5, c6, c7⟩ := unpL_take e hd2.1 b6 (fun q hq => by cases hq)
        rw [List.nil_append] at c1
        subst c1
        refine ⟨⟨c6, fun p hp => (c5 p hp).1, fun p hp => (c5 p hp).2, by omega⟩, ?_⟩
        unfold packS
        rw [c2, show ((q.1.toNat : Nat) : Int) = q.1 by omega]
        rw [hd2.2, List.append_nil] at c3
        rw [← c3]
        exact b2.symm
      · exfalso
        have hqb : q.2.2 = true := by simpa using hqb
        have h0 := tk_bad0 (bs, false) 0 64 (by rw [hq]; exact hqb)
        rw [hq] at h0
        rw [h0] at e
        unfold unpL at e
        simp only [Int.toNat_zero] at e
        injection e with e
        injection e with e1 e2
        rw [← e2, hqb] at hd2
        cases hd2.1
    · rw [if_neg hd] at h; cases h
end Go.Proofs.YtogphlnakdnchaaGreat

namespace Go.Proofs.YtogphlnakdnchaaGreat
open Go.RowKit Go.Maps
/-- Lists that are read one behind the other. -/
def rdF (t : Tst) : Nat → Tst × List Its
  | 0 => (t, [])
  | j + 1 => ((readT (rdF t j).1).2, (rdF t j).2 ++ [(readT (rdF t j).1).1])
def rdG (g : Bool) (t : Tst) : Nat → Bool
  | 0 => g
  | j + 1 => rdG g t j && mayL (readT (rdF t j).1).1
/-- One order's hold: what is read, whether it is good, what is left. -/
def unh1 (t : Tst) (last : Int) : HE × Bool × Tst :=
  let o := tk t 1 1099511627776
  (⟨o.1, (readT (rdF o.2 0).1).1, (readT (rdF o.2 1).1).1, (readT (rdF o.2 2).1).1⟩, rdG (decide (last < o.1)) o.2 3, (rdF o.2 3).1)
def unhL : Nat → Tst → Int → Hes → Option (Hes × Tst)
  | 0, t, _, le => some (le, t)
  | n + 1, t, last, le => if (unh1 t last).2.1 = true ∧ (unh1 t last).1.num ≠ 0 then unhL n (unh1 t last).2.2 (unh1 t last).1.o (putS ktI.lt le (unh1 t last).1.o (unh1 t last).1) else none
def unpackH (bs : List Int) : Option (Stk × Hes) :=
  match unpS (sB (tkT (bs, false) 262144).1) with
  | none => none
  | some A => match unhL (tk (tkT (bs, false) 262144).2 0 256).1.toNat (tk (tkT (bs, false) 262144).2 0 256).2 0 [] with
    | none => none
    | some (le, t) => if doneT t.1 t.2 = 0 ∧ soundE A le = true then some (A, le) else none
/-- What has been read so far is as it should be. -/
structure LeOk (le : Hes) (last : Int) : Prop where
  rise : le.Pairwise (fun p q => p.1 < q.1)
  row : ∀ p ∈ le, HEok p.1 p.2
  top : ∀ p ∈ le, p.1 ≤ last
  pos : 0 ≤ last
theorem LeOk.nil : LeOk [] 0 := ⟨List.Pairwise.nil, fun p hp => (by cases hp), fun p hp => (by cases hp), Int.le_refl _⟩
theorem putS_last {le : Hes} {o : Int} {x : HE} (h : ∀ p ∈ le, p.1 < o) : putS ktI.lt le o x = le ++ [(o, x)] := by
  unfold putS
  have h1 : delS le o = le := List.filter_eq_self.2 (fun p hp => by have := h p hp; simp; omega)
  rw [h1]
  induction le with
  | nil => rfl
  | cons p r ih =>
    have hp := h p (by simp)
    show (if ktI.lt o p.1 = true then _ else _) = _
    have : ktI.lt o p.1 = false := by
      show decide (o < p.1) = false
      simp; omega
    rw [this]
    simp only [Bool.false_eq_true, if_false]
    rw [ih (fun q hq => h q (by simp [hq])) (List.filter_eq_self.2 (fun q hq => by have := h q (by simp [hq]); simp; omega))]
    rfl
theorem LeOk.step {le : Hes} {last : Int} {x : HE} (h : LeOk le last) (hl : last < x.o) (hm : x.o ≤ 1099511627776) (h1 : mayL x.he = true) (h2 : mayL x.pi = true) (h3 : mayL x.sh = true) (hn : x.num ≠ 0) : LeOk (putS ktI.lt le x.o x) x.o := by
  rw [putS_last (fun p hp => by have := h.top p hp; omega)]
  have hp := h.pos
  refine ⟨List.pairwise_append.2 ⟨h.rise, by simp, fun p hp q hq => ?_⟩, fun p hp => ?_, fun p hp => ?_, by omega⟩
  · simp only [List.mem_cons, List.not_mem_nil, or_false] at hq
    subst hq
    have := h.top p hp
    show p.1 < x.o
    omega
  · rcases List.mem_append.1 hp with hp | hp
    · exact h.row p hp
    · simp only [List.mem_cons, List.not_mem_nil, or_false] at hp
      subst hp
      exact ⟨rfl, ⟨by show 1 ≤ x.o; omega, hm⟩, h1, h2, h3, hn⟩
  · rcases List.mem_append.1 hp with hp | hp
    · have := h.top p hp; omega
    · simp only [List.mem_cons, List.not_mem_nil, or_false] at hp
      subst hp
      exact Int.le_refl _
theorem rdG_all {g : Bool} {t : Tst} : ∀ {j : Nat}, rdG g t j = true → g = true ∧ ∀ i, i < j → mayL (readT (rdF t i).1).1 = true
  | 0, h => ⟨h, fun i hi => by omega⟩
  | j + 1, h => by
    unfold rdG at h
    rw [Bool.and_eq_true] at h
    obtain ⟨h1, h2⟩ := rdG_all h.1
    exact ⟨h1, fun i hi => by
      by_cases e : i = j
      · rw [e]; exact h.2
      · exact h2 i (by omega)⟩
theorem unh1_ok {t : Tst} {last : Int} (h : (unh1 t last).2.1 = true) : last < (unh1 t last).1.o ∧ (unh1 t last).1.o ≤ 1099511627776 ∧ mayL (unh1 t last).1.he = true ∧ mayL (unh1 t last).1.pi = true ∧ mayL (unh1 t last).1.sh = true := by
  have h2 : rdG (decide (last < (tk t 1 1099511627776).1)) (tk t 1 1099511627776).2 3 = true := h
  obtain ⟨h3, h4⟩ := rdG_all h2
  have h5 := tk_in1 t (b := 1099511627776) (by omega)
  exact ⟨of_decide_eq_true h3, h5.2, h4 0 (by omega), h4 1 (by omega), h4 2 (by omega)⟩
theorem unhL_ok : ∀ (n : Nat) (t : Tst) (last : Int) (le : Hes) (le' : Hes) (t' : Tst), LeOk le last → unhL n t last le = some (le', t') → (∃ last', LeOk le' last') ∧ le'.length ≤ le.length + n
  | 0, t, last, le, le', t', h, e => by
    unfold unhL at e
    cases e
    exact ⟨⟨last, h⟩, by omega⟩
  | n + 1, t, last, le, le', t', h, e => by
    unfold unhL at e
    split at e
    · rename_i hg
      obtain ⟨g1, g2, g3, g4, g5⟩ := unh1_ok hg.1
      have h1 := unhL_ok n _ _ _ le' t' (h.step g1 g2 g3 g4 g5 hg.2) e
      have h2 := putK_len ktI.lt le (unh1 t last).1.o (unh1 t last).1
      exact ⟨h1.1, by omega⟩
    · cases e
theorem unpackH_ok {bs : List Int} {A : Stk} {le : Hes} (h : unpackH bs = some (A, le)) : ShOk A le := by
  unfold unpackH at h
  split at h
  · cases h
  · rename_i A' hA
    split at h
    · cases h
    · rename_i le' t' hle
      split at h
      · cases h
        obtain ⟨⟨last', h1⟩, h2⟩ := unhL_ok _ _ _ _ _ _ LeOk.nil hle
        have h3 := tk_in (tkT (bs, false) 262144).2 (a := 0) (b := 256) (by omega) (by omega)
        exact ⟨(unpS_take (sB_byt _) hA).1, h1.rise, h1.row, by simp only [List.length_nil] at h2; omega⟩
      · cases h
end Go.Proofs.YtogphlnakdnchaaGreat

namespace Go.Proofs.YtogphlnakdnchaaGreat
open Go.RowKit Go.Maps
attribute [local go_sem] Oper.semAt_some
theorem mk_fa {B : Nat} {w w' : World} {g : Nat} {TS : Nat → Prop} {bs : List Int} {long : Bool} (h : MK w g TS bs long) (hf : Fa B w w') : MK w' g TS bs long := by
  obtain ⟨⟨v, h1, h2, h3⟩, h4, h5, h6⟩ := h
  exact ⟨⟨v, Fa.cells hf h1, Fa.row hf h2, h3⟩, h4, fun b hb => Nat.lt_of_lt_of_le (h5 b hb) hf.size, h6⟩
theorem mkAll_app (s : Mst) (a b : List (List Int)) : mkAll s (a ++ b) = mkAll (mkAll s a) b := List.foldl_append
/-- Items' cells. -/
def itC (L : Its) : List (List Int) := L.flatMap fun p => [textB p.1, numB p.2]
theorem itC_take {L : Its} {j : Nat} {p : Str × Int} (h : L[j]? = some p) : itC (L.take (j + 1)) = itC (L.take j) ++ [textB p.1, numB p.2] := by
  unfold itC
  rw [List.take_add_one, h, List.flatMap_append]
  simp
/-- A list's cells. -/
def liC (L : Its) : List (List Int) := numB (L.length : Int) :: itC L
structure PmS (w : World) (TS0 : Nat → Prop) (n0 : Nat) (W : World) (g : Nat) (TM : Nat → Prop) (s : Mst) : Prop where
  mkr : MK W g TM s.1 s.2
  box : W.heap[n0]? = some (.cells #[.pointer (some ⟨g, 0, none⟩)] 79)
  nb : ¬ TM n0
  st : Stp TS0 w W TM
section
variable {W0 W W' : World} {TS0 TM TM' : Nat → Prop} {n0 g : Nat} {s s' : Mst}
theorem PmS.fa {B : Nat} (h : PmS W0 TS0 n0 W g TM s) (hf : Fa B W W') (hB : W0.heap.size ≤ B) : PmS W0 TS0 n0 W' g TM s :=
  ⟨mk_fa h.mkr hf, Fa.cells hf h.box, h.nb, Fa.old hf h.st.1 hB, h.st.2⟩
theorem PmS.step (h : PmS W0 TS0 n0 W g TM s) (hm : MK W' g TM' s'.1 s'.2) (hs : Stp TM W W' TM') : PmS W0 TS0 n0 W' g TM' s' :=
  have hl := (Array.getElem?_eq_some_iff.1 h.box).1
  ⟨hm, hs.1.at_ h.box h.nb, fun e => (hs.2 _ e).elim h.nb (fun e => by omega), h.st.trans hs⟩
theorem PmS.keep (h : PmS W0 TS0 n0 W g TM s) (hf : Fr (fun _ => False) W W') : PmS W0 TS0 n0 W' g TM s :=
  ⟨h.mkr.fr hf (fun _ _ e => e), hf.at_ h.box (fun e => e), h.nb, h.st.trans (Stp.refl hf)⟩
theorem PmS.num (h : PmS W0 TS0 n0 W g TM s) (n : Int) (hn : okI n) : Calls Tryz.prog 51 #[.pointer (some ⟨g, 0, none⟩), .int .i64 n] W fun e w' => e = .returned (.pointer (some ⟨g, 0, none⟩)) ∧ ∃ TM', PmS W0 TS0 n0 w' g TM' (mkP s (numB n)) ∧ Stp TM W w' TM' := by
  refine (cMNum W g TM s.1 s.2 n h.mkr hn).mono ?_
  rintro e w' ⟨rfl, TM', h1, h2⟩
  exact ⟨rfl, TM', h.step h1 h2, h2⟩
theorem PmS.text (h : PmS W0 TS0 n0 W g TM s) (t : Str) (ht : t.length ≤ 65536) : Calls Tryz.prog 49 #[.pointer (some ⟨g, 0, none⟩), vS t] W fun e w' => e = .returned (.pointer (some ⟨g, 0, none⟩)) ∧ ∃ TM', PmS W0 TS0 n0 w' g TM' (mkP s (textB t)) ∧ Stp TM W w' TM' := by
  refine (cMText W g TM s.1 s.2 t h.mkr ht).mono ?_
  rintro e w' ⟨rfl, TM', h1, h2⟩
  exact ⟨rfl, TM', h.step h1 h2, h2⟩
end
def PmI (W0 : World) (TS0 : Nat → Prop) (n0 g : Nat) (TM0 : Nat → Prop) (s : Mst) (L : Its) (k : Nat) (C : Nat → Prop) (W : World) : Prop :=
  ∃ TM, PmS W0 TS0 n0 W g TM (mkAll s (itC (L.take k))) ∧ ∀ b, TM b → TM0 b ∨ C b
set_option maxRecDepth 100000 in
set_option maxHeartbeats 8000000 in
theorem hPut (w : World) (g : Nat) (TS : Nat → Prop) (s : Mst) (v : Value) (its : Its) (h : MK w g TS s.1 s.2) (hi : Il w v its) (hT : its ≠ [] → ∀ b, v.ownBlock = some b → ¬ TS b) (hits : ∀ p ∈ its, p.1.length ≤ 16 ∧ okI p.2) :
    Calls Tryz.prog 52 #[.pointer (some ⟨g, 0, none⟩), v] w fun e w' => (∃ v, e = .returned v) ∧ ∃ TS', MK w' g TS' (mkAll s (liC its)).1 (mkAll s (liC its)).2 ∧ Stp TS w w' TS' := by
  obtain ⟨n0, hn0⟩ : ∃ n0, w.heap.size = n0 := ⟨_, rfl⟩
  have okN : Hid (okI (its.length : Int)) := Lib.hid (by have := hi.1; unfold okI; omega)
  obtain ⟨la, lc, rfl⟩ := hi.sl
  obtain ⟨N, hN⟩ : ∃ N : Nat, its.length = N := ⟨_, rfl⟩
  obtain ⟨W0, hW0⟩ : ∃ W0, w.alloc (.cells #[.pointer (some ⟨g, 0, none⟩)] 79) = W0 := ⟨_, rfl⟩
  have hF0 : Fr (fun _ => False) w W0 := by rw [← hW0]; exact (Fr.refl _ w).alloc _
  have hb0 : W0.heap[n0]? = some (.cells #[.pointer (some ⟨g, 0, none⟩)] 79) := by rw [← hW0]; exact heap_at hn0.symm _
  have hP0 : PmS w TS n0 W0 g TS s := ⟨h.fr hF0 (fun _ _ e => e), hb0, fun e => by have := h.lt _ e; omega, Stp.refl hF0⟩
  have HIL := Lib.hid hi; have HOB := Lib.hid hi.lt; have HT := Lib.hid hT
  have hits := Lib.hid hits
  have HN := Lib.hid hN; have HS := Lib.hid hn0; have HP0 := Lib.hid hP0; have HF0 := Lib.hid hF0
  have hTlt := Lib.hid h.lt
  have hfin : Hid (mkAll s (liC its) = mkAll (mkP s (numB (N : Int))) (itC its)) := Lib.hid (by unfold liC; rw [hN]; rfl)
  rw [hN] at HIL HOB HT okN ⊢
  have c0 := cell_obj hb0 0 (.pointer (some ⟨g, 0, none⟩)) rfl
  clear h hi hT hN hP0 hb0
  refine (callsIn_wide (n := 0)).1 ?_
  refine callsIn_of_wp_marks Tryz.func52 rfl trivial ?_ rfl
  simp only [Tryz.ntmps52, List.size_toArray, List.length_cons, List.length_nil, Nat.reduceAdd, Nat.reduceSub, Array.replicate_succ, Array.replicate_zero, List.push_toArray, List.append_toArray, List.nil_append, List.cons_append]
  have hfn : ∀ f, Fence.wide.fn f := fun _ => trivial
  have hdp : Fence.wide.depth.isSome = false := rfl
  gi_wp2_with (first
    | (gi_at_call 51; refine (callsIn_wide.2 (HP0.out.num _ okN.out)).mono ?_; rintro e w1 ⟨rfl, TS1, hP1, hs1⟩; have HP1 := Lib.hid hP1; clear hP1 hs1)
    | (gi_at_call 58; refine (callsIn_wide.2 (iAll _ _ _ _)).mono ?_; rintro e w2 ⟨rfl, rfl⟩))
  obtain ⟨s1, hs1⟩ : ∃ s1, mkP s (numB (N : Int)) = s1 := ⟨_, rfl⟩
  rw [hs1] at hfin HP1
  have hPs := HP1.out
  obtain ⟨z1, hz1⟩ : ∃ z1, w1.heap.size = z1 := ⟨_, rfl⟩
  clear hs1 c0 hW0 HP1 HP0
  have hF2 : Fr (fun _ => False) w1 (w1.alloc (.cells #[.slice la N lc] 27)) := (Fr.refl _ _).alloc _
  have hBx : Boxed (w1.alloc (.cells #[.slice la N lc] 27)) w1.heap.size 27 (.slice la N lc) := heap_new _ _
  have hs2 : (w1.alloc (.cells #[.slice la N lc] 27)).heap.size = w1.heap.size + 1 := by simp
  obtain ⟨W2, hW2⟩ : ∃ W2, w1.alloc (.cells #[.slice la N lc] 27) = W2 := ⟨_, rfl⟩
  rw [hW2] at hF2 hBx hs2 ⊢
  rw [hz1] at hBx hs2 ⊢
  have hn1 : n0 < z1 := by rw [← hz1]; exact (Array.getElem?_eq_some_iff.1 hPs.box).1
  have hT1 : Hid (∀ b, TS1 b → b < z1) := Lib.hid (fun b hb => by rw [← hz1]; exact hPs.mkr.lt b hb)
  have hne : Hid (its ≠ [] → ∀ b, la.map (·.block) = some b → ¬ TS1 b) := Lib.hid (fun hne b hb e => by
    have h2 : (Value.slice la N lc).ownBlock = some b := by cases la <;> simp_all [Value.ownBlock]
    have h3 := HOB.out hne b h2
    have hs := HS.out
    rcases hPs.st.2 b e with e | e
    · exact HT.out hne b h2 e
    · omega)
  have hP2 := hPs.keep hF2
  have hIL2 : Il W2 (.slice la N lc) its := HIL.out.keep hP2.st.1 (fun hne b hb => HT.out hne b hb)
  have HP2 := Lib.hid hP2; have HS2 := Lib.hid hs2
  have hz0 : Hid (w.heap.size ≤ W2.heap.size) := Lib.hid hP2.st.1.size
  have HN1 := Lib.hid hn1
  clear hPs hP2 hF2 hz1 hW2 hn1
  refine rangeX (w0 := W2) (X := its) (S := TS1) rfl (enters_of Tryz.func95 (by kernel_rfl) rfl)
    (iAll1 _ W2 z1 _ its hBx hIL2 (fun e => by have := hT1.out _ e; omega) (fun hne' b hb e => hne.out hne' b (by cases la <;> simp_all [Value.ownBlock]) hb)) (Below.refl _ _) (fun b hb => by have := HS2.out; have := hT1.out b hb; omega) (fun _ => rfl)
    (PmI w TS n0 g TS1 s1 its) (fun _ _ _ _ => False)
    (fun k C W W' hs hf => hs.elim fun TM h => ⟨TM, h.1.fa hf hz0.out, h.2⟩) (fun c k C W W' hs hf => hs)
    ⟨TS1, by simpa [itC, mkAll] using HP2.out, fun b hb => .inl hb⟩ ?round ?done ?stop
  case stop => intro D c k C W hD hk hX; exact hX.elim
  case round =>
    rintro lp j x C W hx hlp hi hr
    dsimp only [encIt]
    gi_wp2
    refine Took.mk (Fr.refl _ _) hi ?_
    rintro Wb ⟨TM, hPb, hTC⟩ hrb hf hsz hsw hCC _
    obtain ⟨ok1, ok2⟩ := hits.out x (List.mem_of_getElem? hx)
    have hcm := cell_obj hPb.box 0 (.pointer (some ⟨g, 0, none⟩)) rfl
    have HX := Lib.hid (itC_take hx)
    obtain ⟨gx, nx⟩ := x
    dsimp only at ok1 ok2 HX
    have ok1' : gx.length ≤ 65536 := by omega
    have HPB := Lib.hid hPb; have HTC := Lib.hid hTC; have HCC := Lib.hid hCC; have HSZ := Lib.hid hsz
    have OK1 := Lib.hid ok1'; have OK2 := Lib.hid ok2
    clear hi hr hf hrb hx hPb hTC hCC ok1 ok2 ok1'
    gi_wp2_with (first
      | (gi_at_call 49; refine (callsIn_wide.2 (HPB.out.text gx OK1.out)).mono ?_; rintro e w8 ⟨rfl, TM8, hM8, hS8⟩; have HM8 := Lib.hid hM8; have HS8 := Lib.hid hS8; clear hM8 hS8)
      | (gi_at_call 51; refine (callsIn_wide.2 (HM8.out.num nx OK2.out)).mono ?_; rintro e w9 ⟨rfl, TM9, hM9, hS9⟩; have HM9 := Lib.hid hM9; have HS9 := Lib.hid hS9; clear hM9 hS9))
    have hst := HS8.out.trans HS9.out
    refine ⟨hst.1.mono (fun b hb e => (HTC.out b e).elim .inl (fun e => .inr (.inl e))), TM9, ?_, ?_⟩
    · rw [HX.out, mkAll_app]
      exact HM9.out
    · intro b hb
      rcases hst.2 b hb with e | e
      · exact (HTC.out b e).elim .inl (fun e => .inr (.inl e))
      · exact .inr (.inr ⟨by have := HSZ.out; omega, HM9.out.mkr.lt b hb⟩)
  case done =>
    rintro D C W hD ⟨TM, hPS, -⟩ hr hK
    rw [List.take_length] at hPS
    have HPS := Lib.hid hPS; have HKK := Lib.hid hK
    clear hPS hK hr
    gi_wp2_with fail
    have hz := hz0.out
    have hs := HS.out
    refine ⟨by simp, .inl ⟨_, _, rfl, run_takeDeferred HKK.out, ?_⟩⟩
    refine ⟨_, results_none rfl _ _ _, ⟨_, rfl⟩, TM, ?_, ?_⟩
    · rw [hfin.out]
      exact mk_fa HPS.out.mkr (frPut (B := n0) (.deferred none) (by omega) HKK.out rfl)
    · exact ⟨HPS.out.st.1.trans' ((Fr.refl (fun b => b = D) W).putObj (l := D) (fun _ => rfl) _) (fun b hb e => by omega), HPS.out.st.2⟩
end Go.Proofs.YtogphlnakdnchaaGreat

namespace Go.Proofs.YtogphlnakdnchaaGreat
open Go.RowKit Go.Maps
set_option maxRecDepth 100000 in
set_option maxHeartbeats 8000000 in
theorem iPlus (w : World) (va vb : Value) (A B : Its) (hA : Il w va A) (hB : Il w vb B) : Calls Tryz.prog 30 #[va, vb] w fun e w' => ∃ v', e = .returned (.tuple #[v', .int .i64 (plusF A B).2]) ∧ w'.ownsRow w.heap.size 65 2 v' (plusF A B).1.length (itCs (plusF A B).1) ∧ Fr (fun _ => False) w w' := by
  obtain ⟨P, hP⟩ : ∃ P, plusF A B = P := ⟨_, rfl⟩
  have hPd : P = if mayL A = true ∧ mayL B = true then normF (A ++ B) else ([], 60) := by rw [← hP]; rfl
  rw [hP]
  obtain ⟨a1, c1, rfl⟩ := hA.sl
  obtain ⟨a2, c2, rfl⟩ := hB.sl
  have hMA := Lib.hid (fun W (hf : Fr (fun _ => False) w W) => iMay W _ A (hA.keep hf (fun _ _ _ e => e)))
  have hMB := Lib.hid (fun W (hf : Fr (fun _ => False) w W) => iMay W _ B (hB.keep hf (fun _ _ _ e => e)))
  have HA := Lib.hid hA; have HB := Lib.hid hB
  clear hP
  cases hm1 : mayL A with
  | false =>
    rw [hm1, if_neg (by simp)] at hPd
    rw [hm1] at hMA
    have HP := Lib.hid hPd
    clear hA hB hm1 hPd
    go_enter Tryz.func30, Tryz.ntmps30
    go_wp2_with (go_at_call 28; refine (hMA.out _ (Fr.refl _ _)).mono ?_; rintro e w1 ⟨rfl, hf1⟩; have HF1 := Lib.hid hf1; clear hf1)
    go_ret2
    rw [HP.out]
    exact ⟨_, rfl, World.ownsRow_nil _ _ _ _, HF1.out⟩
  | true =>
    rw [hm1] at hMA
    cases hm2 : mayL B with
    | false =>
      rw [hm1, hm2, if_neg (by simp)] at hPd
      rw [hm2] at hMB
      have HP := Lib.hid hPd
      have hnx : True := trivial
      clear hA hB hm1 hm2 hPd
      go_enter Tryz.func30, Tryz.ntmps30
      go_wp2_with (first
        | (go_at_call 28; refine (hMB.out _ HF1.out).mono ?_; rintro e w2 ⟨rfl, hf2⟩; have HF2 := Lib.hid hf2; clear hf2)
        | (go_at_call 28; refine (hMA.out _ (Fr.refl _ _)).mono ?_; rintro e w1 ⟨rfl, hf1⟩; have HF1 := Lib.hid hf1; clear hf1))
      go_ret2
      rw [HP.out]
      exact ⟨_, rfl, World.ownsRow_nil _ _ _ _, HF1.out.trans HF2.out⟩
    | true =>
      rw [hm1, hm2, if_pos ⟨rfl, rfl⟩] at hPd
      rw [hm2] at hMB
      have HP := Lib.hid hPd
      have hl1 := (mayL_all hm1).len; have hl2 := (mayL_all hm2).len
      have hcat : ∀ W : World, Fr (fun _ => False) w W → Calls Tryz.prog 71 #[.slice (some ⟨W.heap.size, 0, none⟩) 2 2] (W.alloc (.cells #[.slice a1 A.length c1, .slice a2 B.length c2] 27)) fun e w' => ∃ v', e = .returned v' ∧ Il w' v' (A ++ B) ∧ Fr (fun _ => False) w w' := fun W hf => by
        have hf2 := hf.alloc (.cells #[.slice a1 A.length c1, .slice a2 B.length c2] 27)
        have hh := heap_at (w := W) rfl (.cells #[.slice a1 A.length c1, .slice a2 B.length c2] 27)
        have := iConcat _ _ [(.slice a1 A.length c1, A), (.slice a2 B.length c2, B)] ⟨⟨W.heap.size, 0, none⟩, 2, rfl, fun i p hp => by
          match i, hp with
          | 0, hp => cases hp; exact ⟨cell_obj hh 0 _ rfl, HA.out.keep hf2 (fun _ _ _ e => e)⟩
          | 1, hp => cases hp; exact ⟨cell_obj hh 1 _ rfl, HB.out.keep hf2 (fun _ _ _ e => e)⟩⟩ (by simp) (by simp [catI]; omega)
        refine this.mono ?_
        rintro e w' ⟨v', rfl, h1, h2⟩
        rw [show catI [(Value.slice a1 A.length c1, A), (.slice a2 B.length c2, B)] = A ++ B by simp [catI]] at h1
        refine ⟨v', rfl, (Il.own h1 (fun p hp => ?_)).1, hf2.trans h2⟩
        rcases List.mem_append.1 hp with hp | hp
        · exact il_okm' HA.out hp
        · exact il_okm' HB.out hp
      have HCAT := Lib.hid hcat
      have hll : (A ++ B).length ≤ 100000 := by rw [List.length_append]; omega
      have HLL := Lib.hid hll
      clear hA hB hm1 hm2 hPd hcat hll hl1 hl2
      obtain ⟨LL, hLL⟩ : ∃ l, A ++ B = l := ⟨_, rfl⟩
      rw [hLL] at HCAT HLL HP
      clear hLL
      obtain ⟨NF, hNF⟩ : ∃ R, normF LL = R := ⟨_, rfl⟩
      rw [hNF] at HP
      have hno := Lib.hid (fun W v h => iNorm W v LL h HLL.out)
      rw [hNF] at hno
      obtain ⟨n1, hn1⟩ : ∃ n, A.length = n := ⟨_, rfl⟩
      obtain ⟨n2, hn2⟩ : ∃ n, B.length = n := ⟨_, rfl⟩
      rw [hn1, hn2] at HCAT
      rw [hn1] at hMA ⊢
      rw [hn2] at hMB ⊢
      clear hNF hn1 hn2 HA HB
      go_enter Tryz.func30, Tryz.ntmps30
      go_wp2_with (first
        | (go_at_call 70; refine (hno.out _ _ HI3.out).mono ?_; rintro e w4 ⟨v4, rfl, ho4, hf4⟩; obtain ⟨ra, rc, rfl⟩ := row_slice ho4; have HO4 := Lib.hid ho4; have HF4 := Lib.hid hf4; clear ho4 hf4)
        | (go_at_call 71; refine (HCAT.out _ (HF1.out.trans HF2.out)).mono ?_; rintro e w3 ⟨v3, rfl, hi3, hf3⟩; have HI3 := Lib.hid hi3; obtain ⟨sa, sc, rfl⟩ := hi3.sl; have HF3 := Lib.hid hf3; clear hi3 hf3)
        | (go_at_call 28; refine (hMB.out _ HF1.out).mono ?_; rintro e w2 ⟨rfl, hf2⟩; have HF2 := Lib.hid hf2; clear hf2)
        | (go_at_call 28; refine (hMA.out _ (Fr.refl _ _)).mono ?_; rintro e w1 ⟨rfl, hf1⟩; have HF1 := Lib.hid hf1; clear hf1))
      go_ret2
      rw [HP.out]
      exact ⟨_, rfl, own_base HO4.out HF3.out.size, HF3.out.trans HF4.out⟩
end Go.Proofs.YtogphlnakdnchaaGreat

namespace Go.Proofs.YtogphlnakdnchaaGreat
open Go.RowKit Go.Maps
set_option maxRecDepth 100000 in
theorem itClone (w : World) (v : Value) (bs : Its) (h : Il w v bs) (hl : (bs.length : Int) ≤ 1000) : Calls Tryz.prog 33 #[v] w fun e w' =>
    ∃ v', e = .returned v' ∧ w'.ownsRow w.heap.size 65 2 v' bs.length (itCs bs) ∧ Fr (fun _ => False) w w' := by
  obtain ⟨i0, hi', hz0, hz1, hz2⟩ := info_parts infoItem
  obtain ⟨hb1, a, c, rfl, hbx⟩ := id h
  obtain ⟨n, hn⟩ : ∃ n, bs.length = n := ⟨_, rfl⟩
  have HN := Lib.hid hn
  rw [hn] at hl hb1 ⊢
  clear hn
  have hq := fun (w : World) (a : Option Addr) (n c n' c' : Nat) => Lib.run_eql_slice_nil (P := Tryz.prog) w 27 _ a n c n' c' Tryz.underlying27
  cases a with
  | none =>
    have h0 : n = 0 := by
      rcases Nat.eq_zero_or_pos n with h0 | h0
      · exact h0
      · obtain ⟨x, hx⟩ : ∃ x, bs[0]? = some x := ⟨bs[0]'(by have := HN.out; omega), List.getElem?_eq_getElem _⟩
        obtain ⟨-, -, ad', e, -⟩ := hbx 0 x hx
        cases e
    subst h0
    have hbe : bs = [] := List.eq_nil_of_length_eq_zero HN.out
    subst hbe
    clear h hbx
    go_enter Tryz.func33, Tryz.ntmps33
    go_wp2_with fail
    go_ret
    exact ⟨_, rfl, World.ownsRow_nil _ _ _ _, Fr.refl _ _⟩
  | some ad =>
    have hown : (w.alloc (.cells #[] 65)).ownsRow w.heap.size 65 2 (.slice (some ⟨w.heap.size, 0, none⟩) 0 0) 0 [] := World.ownsRow_made w #[] 0 (Nat.le_refl _) (Nat.zero_le _) rfl
    have hnews : ∀ (i : Nat) (u : Value), (itCs bs)[i]? = some u → (w.alloc (.cells #[] 65)).cell? (ad.add i) = some u := fun i u hu => by
      have hi := (List.getElem?_eq_some_iff.1 hu).1
      rw [itCs_len] at hi
      obtain ⟨x, hx⟩ : ∃ x, bs[i / 2]? = some x := ⟨bs[i / 2]'(by omega), List.getElem?_eq_getElem _⟩
      obtain ⟨-, -, ad', e, c0, c1⟩ := hbx (i / 2) x hx
      cases e
      obtain ⟨d0, d1⟩ := itCs_at hx
      rcases (by omega : i = i / 2 * 2 ∨ i = i / 2 * 2 + 1) with e | e
      · rw [e] at hu ⊢
        rw [d0] at hu
        rw [← hu]
        exact ((Fr.refl (fun _ => False) w).alloc _).cell c0 (fun h => h)
      · rw [e] at hu ⊢
        rw [d1] at hu
        rw [← hu, add_field]
        exact ((Fr.refl (fun _ => False) w).alloc _).cell c1 (fun h => h)
    have hall : ∀ u ∈ itCs bs, u.oneCell' = true := fun u hu => itCs_one hu
    have hul : (itCs bs).length = n * 2 := by have := HN.out; rw [itCs_len, this]
    have HNEWS := Lib.hid hnews; have HALL := Lib.hid hall; have HUL := Lib.hid hul; have HO := Lib.hid hown
    clear hnews hall hul hown hbx h
    go_enter Tryz.func33, Tryz.ntmps33
    go_wp2_with (at_builtin; refine wpList_append_own_at _ rfl _ _ 27 rfl w.heap.size 65 i0 _ 2 24 Tryz.underlying27 hi' hz0 hz1 hz2 rfl (by decide) (.slice (some ⟨w.heap.size, 0, none⟩) 0 0) 0 [] rfl HO.out ad n _ (itCs bs) rfl HUL.out HNEWS.out HALL.out (by unfold maxLen; omega) (by omega) (by simp) ?_; intro v' w5 hown' hgrow _ hat)
    go_ret
    refine ⟨_, rfl, by simpa using hown', ((Fr.refl (fun _ => False) w).alloc _).trans' (Fr.grown (S := fun b => b = w.heap.size) hgrow (fun r hr _ => by cases hr; rfl)) (fun b hb e => by omega)⟩
end Go.Proofs.YtogphlnakdnchaaGreat

namespace Go.Proofs.YtogphlnakdnchaaGreat
open Go.RowKit Go.Maps
theorem il_nil (w : World) : Il w (.slice none 0 0) [] := ⟨by simp, none, 0, rfl, fun i p hp => by simp at hp⟩
/-- What a step of a shelf leaves: its stock, its lists' blocks. -/
def Shs (w w' : World) (m : Nat) (T0 TB T0' TB' : Nat → Prop) : Prop := Fr (fun b => T0 b ∨ b = m) w w' ∧ (∀ b, T0' b → T0 b ∨ w.heap.size ≤ b) ∧ (∀ b, TB' b → TB b ∨ w.heap.size ≤ b)
set_option maxRecDepth 100000 in
set_option maxHeartbeats 16000000 in
theorem hTake (w : World) (g gs m : Nat) (T0 TB : Nat → Prop) (A : Stk) (l : List (Int × HV)) (o : Int) (v : Value) (L : Its) (h : SB w g gs m T0 TB A l) (hA : SOk A) (ho : okI o) (hv : Il w v L) (hll : l.length ≤ 1000000) (hk : ∀ p ∈ mapE l, HEok p.1 p.2) :
    Calls Tryz.prog 8 #[.pointer (some ⟨g, 0, none⟩), .int .i64 o, v] w fun e w' => ∃ v' T0' TB' l', e = .returned (.tuple #[v', .int .i64 (takeE A (mapE l) o L).1.2]) ∧ SB w' g gs m T0' TB' (takeE A (mapE l) o L).2.1 l' ∧ mapE l' = (takeE A (mapE l) o L).2.2 ∧
      Il w' v' (takeE A (mapE l) o L).1.1 ∧ (∀ b, v'.ownBlock = some b → w.heap.size ≤ b ∧ b < w'.heap.size ∧ ¬ T0' b ∧ ¬ TB' b) ∧ Shs w w' m T0 TB T0' TB' := by
  obtain ⟨R, hR'⟩ : ∃ R, takeE A (mapE l) o L = R := ⟨_, rfl⟩
  have hRd : R = takeE A (mapE l) o L := hR'.symm
  rw [hR']
  unfold takeE at hRd
  obtain ⟨va, vc, rfl⟩ := hv.sl
  have HSB := Lib.hid h; have HVV := Lib.hid hv
  obtain ⟨c0, c1⟩ := h.cells
  have hm := Lib.hid (hmay w g m o c1)
  have hgc : Hid (∀ W, Fr (fun _ => False) w W → W.cell? ⟨g, 0, none⟩ = some (.pointer (some ⟨gs, 0, none⟩)) ∧ W.cell? ⟨g, 1, none⟩ = some (.map (some m))) := Lib.hid (fun W hf => (HSB.out.keep hf (fun _ _ e => e)).cells)
  have hMay := Lib.hid (fun W (hf : Fr (fun _ => False) w W) => iMay W _ L (hv.keep hf (fun _ _ _ e => e)))
  have hhd := h.hold ho
  have hln0 := heOf_len hk o
  have hmy0 := heOf_may hk o
  rw [heOf_map] at hRd hln0 hmy0
  have hh := hhold w g gs m T0 TB A l o h ho
  have hlook0 : ∀ W, Fr (fun _ => False) w W → (Instr.lookup 61 (.map (some m)) (.int .i64 o) true).run Tryz.prog W = .ok (.tuple #[((getS l o).getD ⟨0, .slice none 0 0, .slice none 0 0, .slice none 0 0, [], [], []⟩).enc, .bool (getS l o).isSome]) W := fun W hf => by
    have := (hf.mp h.mp (fun e => e)).look_ok (t := 61) kHI Tryz.underlying61 (z := .agg #[.int .i64 0, .slice none 0 0, .slice none 0 0, .slice none 0 0]) (by kernel_rfl) ho
    rw [show ktI.enc o = .int .i64 o from rfl] at this
    rw [this]
    cases getS l o <;> rfl
  have hlen : Hid (∀ W, Fr (fun _ => False) w W → ∀ ty, (Builtin.len_ #[61] ty #[.map (some m)]).run Tryz.prog W = .ok (.int .i64 l.length) W) := Lib.hid (fun W hf ty => (hf.mp h.mp (fun e => e)).len Tryz.underlying61 ty)
  obtain ⟨⟨lo, lv1, lv2, lv3, le1, le2, le3⟩, hlv⟩ : ∃ x, (getS l o).getD (⟨0, .slice none 0 0, .slice none 0 0, .slice none 0 0, [], [], []⟩ : HV) = x := ⟨_, rfl⟩
  have hlsl : (∃ b1 k1 d1, lv1 = .slice b1 k1 d1) ∧ (∃ b2 k2 d2, lv2 = .slice b2 k2 d2) ∧ (∃ b3 k3 d3, lv3 = .slice b3 k3 d3) := by
    cases e : getS l o with
    | none => rw [e] at hlv; cases hlv; exact ⟨⟨_, _, _, rfl⟩, ⟨_, _, _, rfl⟩, ⟨_, _, _, rfl⟩⟩
    | some x =>
      rw [e] at hlv
      obtain ⟨-, hx⟩ := h.rows _ (getS_mem e)
      have hlv : x = _ := hlv
      rw [hlv] at hx
      obtain ⟨q1, q2, q3⟩ := hx.lh.1.sl
      obtain ⟨r1, r2, r3⟩ := hx.lp.1.sl
      obtain ⟨s1, s2, s3⟩ := hx.ls.1.sl
      exact ⟨⟨_, _, _, q3⟩, ⟨_, _, _, r3⟩, ⟨_, _, _, s3⟩⟩
  rw [hlv] at hlook0
  obtain ⟨⟨b1, k1, d1, rfl⟩, ⟨b2, k2, d2, rfl⟩, ⟨b3, k3, d3, rfl⟩⟩ := hlsl
  dsimp only [HV.enc] at hlook0
  have hlook := Lib.hid hlook0
  have hno := getE_none l o
  have hmlen := mapE_len l
  rw [hno, hmlen] at hRd
  have hsm : (getS l o).isSome = !(getS l o).isNone := by cases getS l o <;> rfl
  obtain ⟨isn, hisn⟩ : ∃ b, (getS l o).isNone = b := ⟨_, rfl⟩
  rw [hisn] at hRd hsm
  rw [hsm] at hlook
  obtain ⟨ll, hllen⟩ : ∃ n, l.length = n := ⟨_, rfl⟩
  rw [hllen] at hRd hlen hll
  have HLLEN := Lib.hid hllen
  obtain ⟨⟨xo, xh, xp, xs, he, pi, sh⟩, hX⟩ : ∃ X, holdOf l o = X := ⟨_, rfl⟩
  rw [hX] at hhd hh hRd hln0 hmy0
  obtain ⟨a1, d1', e1⟩ := hhd.1.lh.1.sl
  obtain ⟨a2, d2', e2⟩ := hhd.1.lp.1.sl
  obtain ⟨a3, d3', e3⟩ := hhd.1.ls.1.sl
  have hxo := hhd.2.symm
  dsimp only at e1 e2 e3 hxo
  subst e1 e2 e3 hxo
  dsimp only [HV.enc, HV.e] at hh hRd hln0 hmy0
  obtain ⟨n1, hn1⟩ : ∃ n, he.length = n := ⟨_, rfl⟩
  obtain ⟨n2, hn2⟩ : ∃ n, pi.length = n := ⟨_, rfl⟩
  obtain ⟨n3, hn3⟩ : ∃ n, sh.length = n := ⟨_, rfl⟩
  have HHD := Lib.hid hhd.1
  rw [hn1, hn2, hn3] at HHD hh hln0
  simp only [hn2, hn3] at hRd
  have hOf0 := fun W (hf : Fr (fun _ => False) w W) => sOffer W gs T0 A _ L (h.stk.fr hf (fun _ _ e => e)) hA (hv.keep hf (fun _ _ _ e => e))
  have hFl := offer_len A L
  obtain ⟨F, hF⟩ : ∃ F, offerS A L = F := ⟨_, rfl⟩
  rw [hF] at hOf0 hRd hFl
  obtain ⟨nF, hnF⟩ : ∃ n, F.length = n := ⟨_, rfl⟩
  have hFN := Lib.hid hnF
  have hPl0 := fun W v' (hf : Fr (fun _ => False) w W) (hi : Il W v' F) => iPlus W (.slice a1 n1 d1') v' he F (HHD.out.lh.1.keep hf (fun _ _ _ e => e)) hi
  obtain ⟨⟨P, pe⟩, hP⟩ : ∃ P, plusF he F = P := ⟨_, rfl⟩
  rw [hP] at hPl0
  simp only [hP] at hRd
  have HP := Lib.hid hP
  obtain ⟨nP, hnP⟩ : ∃ n, P.length = n := ⟨_, rfl⟩
  have hPN := Lib.hid hnP
  have hDo0 : ∀ W v', Fr (fun _ => False) w W → Il W v' F → Calls Tryz.prog 31 #[.pointer (some ⟨gs, 0, none⟩), .int .i64 2, v'] W fun e w' => e = .returned (.int .i64 (doS A 2 F).1) ∧ ∃ T0', SB w' g gs m T0' TB (doS A 2 F).2 l ∧ Stp T0 W w' T0' := fun W v' hf hi => by
    have hW := HSB.out.keep hf (fun _ _ e => e)
    refine (sDo W gs T0 A 2 v' F hW.stk hA hi).mono ?_
    rintro e w' ⟨rfl, T0', h1, h2⟩
    exact ⟨rfl, T0', hW.stock h1 h2, h2⟩
  obtain ⟨⟨de, D⟩, hD⟩ : ∃ D, doS A 2 F = D := ⟨_, rfl⟩
  rw [hD] at hDo0
  simp only [hD] at hRd
  have hDA0 : de ≠ 0 → D = A := by
    have := doS_no (A := A) (k := 2) (L := F)
    rw [hD] at this
    exact this
  have hnbT : Hid (∀ b, w.heap.size ≤ b → ¬ T0 b) := Lib.hid (fun b hb e => by have := h.stk.lt b e; omega)
  have hh := Lib.hid hh
  have HMY := Lib.hid hmy0
  (try dsimp only at hRd)
  have HLN := Lib.hid hln0; have HN2 := Lib.hid hn2; have HN3 := Lib.hid hn3
  clear h hv c0 c1 hR' hhd hlook0 hno hmlen hlv hX hF hP hD hisn hsm hllen hmy0 hk
  by_cases hq1 : mayO o = 0
  case neg =>
    rw [if_pos hq1] at hRd
    have hR := Lib.hid hRd
    have q1 : (mayO o != 0) = true := by simpa using hq1
    clear hRd
    go_enter Tryz.func8, Tryz.ntmps8
    go_wp2_with (go_at_call 26; refine hm.out.mono ?_; rintro e w0 ⟨rfl, rfl⟩)
    go_ret2
    rw [hR.out]
    exact ⟨_, T0, TB, l, rfl, HSB.out, rfl, il_nil _, fun b hb => (by cases hb), Fr.refl _ _, fun b hb => .inl hb, fun b hb => .inl hb⟩
  rw [if_neg (by simpa using hq1)] at hRd
  rw [hq1] at hm
  clear hq1
  cases hq2 : mayL L with
  | false =>
    rw [if_pos hq2] at hRd
    have hR := Lib.hid hRd
    rw [hq2] at hMay
    clear hRd hq2
    go_enter Tryz.func8, Tryz.ntmps8
    go_wp2_with (first
      | (go_at_call 26; refine hm.out.mono ?_; rintro e w0 ⟨rfl, rfl⟩)
      | (go_at_call 27; refine hh.out.mono ?_; rintro e w1 ⟨rfl, hf1⟩; have HF1 := Lib.hid hf1; have HW1 := Lib.hid hf1.size; clear hf1)
      | (go_at_call 28; refine (hMay.out _ (HF1.out.alloc _)).mono ?_; rintro e w2 ⟨rfl, hf2⟩; have hb2 := hf2.at_ (heap_at (w := w1) rfl (.cells #[.int .i64 o, .slice a1 n1 d1', .slice a2 n2 d2', .slice a3 n3 d3'] 37)) (fun e => e); have HB2 := Lib.hid hb2; have y0 := cell_obj hb2 0 (.int .i64 o) rfl; have y1 := cell_obj hb2 1 (.slice a1 n1 d1') rfl; have y2 := cell_obj hb2 2 (.slice a2 n2 d2') rfl; have y3 := cell_obj hb2 3 (.slice a3 n3 d3') rfl; have HF2 := Lib.hid ((HF1.out.alloc _).trans hf2); have HZ12 : Hid (w1.heap.size + 1 ≤ w2.heap.size) := Lib.hid (by have := hf2.size; rw [World.size_alloc] at this; exact this); obtain ⟨g0, g1⟩ := hgc.out _ HF2.out; clear hf2 hb2))
    go_ret2
    rw [hR.out]
    exact ⟨_, T0, TB, l, rfl, HSB.out.keep HF2.out (fun _ _ e => e), rfl, il_nil _, fun b hb => (by cases hb), HF2.out.mono (fun _ _ e => e.elim), fun b hb => .inl hb, fun b hb => .inl hb⟩
  | true =>
  rw [if_neg (by rw [hq2]; simp)] at hRd
  rw [hq2] at hMay
  have hLl := (mayL_iff.1 hq2).2
  rw [if_pos hq2] at hOf0
  have hOf := Lib.hid hOf0
  have hPl := Lib.hid hPl0; have hDo2 := Lib.hid hDo0
  clear hq2 hOf0 hPl0 hDo0
  have hw1 : IntKind.i64.wrap ((n2 : Int) + n3) = (n2 : Int) + n3 := IntWalk.i64_in _ ⟨by omega, by omega⟩
  by_cases hq3 : 0 < n2 + n3
  case pos =>
    rw [if_pos hq3] at hRd
    have hR := Lib.hid hRd
    have hI : (0 : Int) < (n2 : Int) + n3 := by omega
    clear hRd hq3
    go_enter Tryz.func8, Tryz.ntmps8
    go_wp2_with (first
      | (go_at_call 26; refine hm.out.mono ?_; rintro e w0 ⟨rfl, rfl⟩)
      | (go_at_call 27; refine hh.out.mono ?_; rintro e w1 ⟨rfl, hf1⟩; have HF1 := Lib.hid hf1; have HW1 := Lib.hid hf1.size; clear hf1)
      | (go_at_call 28; refine (hMay.out _ (HF1.out.alloc _)).mono ?_; rintro e w2 ⟨rfl, hf2⟩; have hb2 := hf2.at_ (heap_at (w := w1) rfl (.cells #[.int .i64 o, .slice a1 n1 d1', .slice a2 n2 d2', .slice a3 n3 d3'] 37)) (fun e => e); have HB2 := Lib.hid hb2; have y0 := cell_obj hb2 0 (.int .i64 o) rfl; have y1 := cell_obj hb2 1 (.slice a1 n1 d1') rfl; have y2 := cell_obj hb2 2 (.slice a2 n2 d2') rfl; have y3 := cell_obj hb2 3 (.slice a3 n3 d3') rfl; have HF2 := Lib.hid ((HF1.out.alloc _).trans hf2); have HZ12 : Hid (w1.heap.size + 1 ≤ w2.heap.size) := Lib.hid (by have := hf2.size; rw [World.size_alloc] at this; exact this); obtain ⟨g0, g1⟩ := hgc.out _ HF2.out; clear hf2 hb2))
    go_ret2
    rw [hR.out]
    exact ⟨_, T0, TB, l, rfl, HSB.out.keep HF2.out (fun _ _ e => e), rfl, il_nil _, fun b hb => (by cases hb), HF2.out.mono (fun _ _ e => e.elim), fun b hb => .inl hb, fun b hb => .inl hb⟩
  rw [if_neg hq3] at hRd
  have hI3 : ¬ (0 : Int) < (n2 : Int) + n3 := by omega
  by_cases hq4 : F = []
  case pos =>
    rw [if_pos hq4] at hRd
    have hR := Lib.hid hRd
    obtain rfl : nF = 0 := by rw [← hnF, hq4]; rfl
    clear hRd hq3 hnF hq4
    go_enter Tryz.func8, Tryz.ntmps8
    go_wp2_with (first
      | (go_at_call 26; refine hm.out.mono ?_; rintro e w0 ⟨rfl, rfl⟩)
      | (go_at_call 27; refine hh.out.mono ?_; rintro e w1 ⟨rfl, hf1⟩; have HF1 := Lib.hid hf1; have HW1 := Lib.hid hf1.size; clear hf1)
      | (go_at_call 28; refine (hMay.out _ (HF1.out.alloc _)).mono ?_; rintro e w2 ⟨rfl, hf2⟩; have hb2 := hf2.at_ (heap_at (w := w1) rfl (.cells #[.int .i64 o, .slice a1 n1 d1', .slice a2 n2 d2', .slice a3 n3 d3'] 37)) (fun e => e); have HB2 := Lib.hid hb2; have y0 := cell_obj hb2 0 (.int .i64 o) rfl; have y1 := cell_obj hb2 1 (.slice a1 n1 d1') rfl; have y2 := cell_obj hb2 2 (.slice a2 n2 d2') rfl; have y3 := cell_obj hb2 3 (.slice a3 n3 d3') rfl; have HF2 := Lib.hid ((HF1.out.alloc _).trans hf2); have HZ12 : Hid (w1.heap.size + 1 ≤ w2.heap.size) := Lib.hid (by have := hf2.size; rw [World.size_alloc] at this; exact this); obtain ⟨g0, g1⟩ := hgc.out _ HF2.out; clear hf2 hb2)
      | (go_at_call 29; refine (hOf.out _ HF2.out).mono ?_; rintro e w3 ⟨v3, rfl, hi3, ho3, hf3⟩; obtain ⟨fa, fc, rfl⟩ := hi3.sl; rw [hFN.out] at hi3 ho3; (try rw [hFN.out]); have HF3 := Lib.hid (HF2.out.trans hf3); clear hi3 ho3 hf3))
    go_ret2
    rw [hR.out]
    exact ⟨_, T0, TB, l, rfl, HSB.out.keep HF3.out (fun _ _ e => e), rfl, il_nil _, fun b hb => (by cases hb), HF3.out.mono (fun _ _ e => e.elim), fun b hb => .inl hb, fun b hb => .inl hb⟩
  rw [if_neg hq4] at hRd
  have hF0 : 0 < nF := by
    rcases Nat.eq_zero_or_pos nF with h0 | h0
    · exact absurd (List.eq_nil_of_length_eq_zero (hnF.trans h0)) hq4
    · exact h0
  have hF1 : ((nF : Int) == 0) = false := by simp; omega
  have hFl2 : nF ≤ 16 := by omega
  clear hnF hq3 hq4 hFl
  by_cases hq5 : isn = true ∧ 256 ≤ ll
  case pos =>
    rw [if_pos hq5] at hRd
    have hR := Lib.hid hRd
    obtain ⟨rfl, hq5⟩ := hq5
    have hI : (256 : Int) ≤ ll := by omega
    clear hRd
    go_enter Tryz.func8, Tryz.ntmps8
    go_wp2_with (first
      | (go_at_call 26; refine hm.out.mono ?_; rintro e w0 ⟨rfl, rfl⟩)
      | (go_at_call 27; refine hh.out.mono ?_; rintro e w1 ⟨rfl, hf1⟩; have HF1 := Lib.hid hf1; have HW1 := Lib.hid hf1.size; clear hf1)
      | (go_at_call 28; refine (hMay.out _ (HF1.out.alloc _)).mono ?_; rintro e w2 ⟨rfl, hf2⟩; have hb2 := hf2.at_ (heap_at (w := w1) rfl (.cells #[.int .i64 o, .slice a1 n1 d1', .slice a2 n2 d2', .slice a3 n3 d3'] 37)) (fun e => e); have HB2 := Lib.hid hb2; have y0 := cell_obj hb2 0 (.int .i64 o) rfl; have y1 := cell_obj hb2 1 (.slice a1 n1 d1') rfl; have y2 := cell_obj hb2 2 (.slice a2 n2 d2') rfl; have y3 := cell_obj hb2 3 (.slice a3 n3 d3') rfl; have HF2 := Lib.hid ((HF1.out.alloc _).trans hf2); have HZ12 : Hid (w1.heap.size + 1 ≤ w2.heap.size) := Lib.hid (by have := hf2.size; rw [World.size_alloc] at this; exact this); obtain ⟨g0, g1⟩ := hgc.out _ HF2.out; clear hf2 hb2)
      | (go_at_call 29; refine (hOf.out _ HF2.out).mono ?_; rintro e w3 ⟨v3, rfl, hi3, ho3, hf3⟩; obtain ⟨fa, fc, rfl⟩ := hi3.sl; rw [hFN.out] at hi3 ho3; (try rw [hFN.out]); have HI3 := Lib.hid hi3; have HO3 := Lib.hid ho3; have hb3 := hf3.at_ HB2.out (fun e => e); have HB3 := Lib.hid hb3; have z0 := cell_obj hb3 0 (.int .i64 o) rfl; have z1 := cell_obj hb3 1 (.slice a1 n1 d1') rfl; have z2 := cell_obj hb3 2 (.slice a2 n2 d2') rfl; have z3 := cell_obj hb3 3 (.slice a3 n3 d3') rfl; have HF3 := Lib.hid (HF2.out.trans hf3); have HZ3 := Lib.hid hf3.size; have HZ13 := Lib.hid (Nat.le_trans HZ12.out hf3.size); obtain ⟨g2, g3⟩ := hgc.out _ HF3.out; have hlk := hlook.out _ HF3.out; obtain ⟨g4, g5⟩ := hgc.out _ (HF3.out.alloc (.cells #[.int .i64 lo, .slice b1 k1 d1, .slice b2 k2 d2, .slice b3 k3 d3] 37)); have hln := hlen.out _ (HF3.out.alloc (.cells #[.int .i64 lo, .slice b1 k1 d1, .slice b2 k2 d2, .slice b3 k3 d3] 37)); have hb4 := heap_keep hb3 (.cells #[.int .i64 lo, .slice b1 k1 d1, .slice b2 k2 d2, .slice b3 k3 d3] 37); have u0 := cell_obj hb4 0 (.int .i64 o) rfl; have u1 := cell_obj hb4 1 (.slice a1 n1 d1') rfl; have u2 := cell_obj hb4 2 (.slice a2 n2 d2') rfl; have u3 := cell_obj hb4 3 (.slice a3 n3 d3') rfl; clear hi3 ho3 hf3 hb3 hb4))
    go_ret2
    rw [hR.out]
    exact ⟨_, T0, TB, l, rfl, HSB.out.keep (HF3.out.alloc _) (fun _ _ e => e), rfl, il_nil _, fun b hb => (by cases hb), (HF3.out.alloc _).mono (fun _ _ e => e.elim), fun b hb => .inl hb, fun b hb => .inl hb⟩
  rw [if_neg hq5] at hRd
  have hI5 : isn = false ∨ (isn = true ∧ ¬ (256 : Int) ≤ ll) := by
    cases isn with
    | false => exact .inl rfl
    | true => exact .inr ⟨rfl, fun e => hq5 ⟨rfl, by omega⟩⟩
  clear hq5
  by_cases hq6 : pe = 0
  case neg =>
    rw [if_pos hq6] at hRd
    have hR := Lib.hid hRd
    have q6 : (pe == 0) = false := by simpa using hq6
    have q7 : (pe != 0) = true := by simpa using hq6
    clear hRd hq6
    rcases hI5 with rfl | ⟨rfl, hI5⟩
    all_goals
      go_enter Tryz.func8, Tryz.ntmps8
      go_wp2_with (first
        | (go_at_call 26; refine hm.out.mono ?_; rintro e w0 ⟨rfl, rfl⟩)
        | (go_at_call 27; refine hh.out.mono ?_; rintro e w1 ⟨rfl, hf1⟩; have HF1 := Lib.hid hf1; have HW1 := Lib.hid hf1.size; clear hf1)
        | (go_at_call 28; refine (hMay.out _ (HF1.out.alloc _)).mono ?_; rintro e w2 ⟨rfl, hf2⟩; have hb2 := hf2.at_ (heap_at (w := w1) rfl (.cells #[.int .i64 o, .slice a1 n1 d1', .slice a2 n2 d2', .slice a3 n3 d3'] 37)) (fun e => e); have HB2 := Lib.hid hb2; have y0 := cell_obj hb2 0 (.int .i64 o) rfl; have y1 := cell_obj hb2 1 (.slice a1 n1 d1') rfl; have y2 := cell_obj hb2 2 (.slice a2 n2 d2') rfl; have y3 := cell_obj hb2 3 (.slice a3 n3 d3') rfl; have HF2 := Lib.hid ((HF1.out.alloc _).trans hf2); have HZ12 : Hid (w1.heap.size + 1 ≤ w2.heap.size) := Lib.hid (by have := hf2.size; rw [World.size_alloc] at this; exact this); obtain ⟨g0, g1⟩ := hgc.out _ HF2.out; clear hf2 hb2)
        | (go_at_call 29; refine (hOf.out _ HF2.out).mono ?_; rintro e w3 ⟨v3, rfl, hi3, ho3, hf3⟩; obtain ⟨fa, fc, rfl⟩ := hi3.sl; rw [hFN.out] at hi3 ho3; (try rw [hFN.out]); have HI3 := Lib.hid hi3; have HO3 := Lib.hid ho3; have hb3 := hf3.at_ HB2.out (fun e => e); have HB3 := Lib.hid hb3; have z0 := cell_obj hb3 0 (.int .i64 o) rfl; have z1 := cell_obj hb3 1 (.slice a1 n1 d1') rfl; have z2 := cell_obj hb3 2 (.slice a2 n2 d2') rfl; have z3 := cell_obj hb3 3 (.slice a3 n3 d3') rfl; have HF3 := Lib.hid (HF2.out.trans hf3); have HZ3 := Lib.hid hf3.size; have HZ13 := Lib.hid (Nat.le_trans HZ12.out hf3.size); obtain ⟨g2, g3⟩ := hgc.out _ HF3.out; have hlk := hlook.out _ HF3.out; obtain ⟨g4, g5⟩ := hgc.out _ (HF3.out.alloc (.cells #[.int .i64 lo, .slice b1 k1 d1, .slice b2 k2 d2, .slice b3 k3 d3] 37)); have hln := hlen.out _ (HF3.out.alloc (.cells #[.int .i64 lo, .slice b1 k1 d1, .slice b2 k2 d2, .slice b3 k3 d3] 37)); have hb4 := heap_keep hb3 (.cells #[.int .i64 lo, .slice b1 k1 d1, .slice b2 k2 d2, .slice b3 k3 d3] 37); have u0 := cell_obj hb4 0 (.int .i64 o) rfl; have u1 := cell_obj hb4 1 (.slice a1 n1 d1') rfl; have u2 := cell_obj hb4 2 (.slice a2 n2 d2') rfl; have u3 := cell_obj hb4 3 (.slice a3 n3 d3') rfl; clear hi3 ho3 hf3 hb3 hb4)
        | (go_at_call 30; refine (hPl.out _ _ (HF3.out.alloc _) (HI3.out.keep ((Fr.refl (fun _ => False) _).alloc _) (fun _ _ _ e => e))).mono ?_; rintro e w4 ⟨v4, rfl, ho4, hf4⟩; obtain ⟨pa, pc, rfl⟩ := row_slice ho4; (try rw [hPN.out]); have HO4 := Lib.hid ho4; have HG4 := Lib.hid (((Fr.refl (fun _ => False) w3).alloc (.cells #[.int .i64 lo, .slice b1 k1 d1, .slice b2 k2 d2, .slice b3 k3 d3] 37)).trans hf4); have HF4 := Lib.hid (HF3.out.trans HG4.out); have HZ4 := Lib.hid hf4.size; have HI4 := Lib.hid (HI3.out.keep HG4.out (fun _ _ _ e => e)); obtain ⟨g6, g7⟩ := hgc.out _ HF4.out; clear ho4 hf4))
      go_ret2
      rw [hR.out]
      exact ⟨_, T0, TB, l, rfl, HSB.out.keep HF4.out (fun _ _ e => e), rfl, il_nil _, fun b hb => (by cases hb), HF4.out.mono (fun _ _ e => e.elim), fun b hb => .inl hb, fun b hb => .inl hb⟩
  rw [if_neg (by simpa using hq6)] at hRd
  subst hq6
  by_cases hq7 : de = 0
  case neg =>
    rw [if_pos hq7] at hRd
    have hR := Lib.hid hRd
    have q7 : (de != 0) = true := by simpa using hq7
    have hDA : Hid (D = A) := Lib.hid (hDA0 hq7)
    clear hRd
    rcases hI5 with rfl | ⟨rfl, hI5⟩
    all_goals
      go_enter Tryz.func8, Tryz.ntmps8
      go_wp2_with (first
        | (go_at_call 26; refine hm.out.mono ?_; rintro e w0 ⟨rfl, rfl⟩)
        | (go_at_call 27; refine hh.out.mono ?_; rintro e w1 ⟨rfl, hf1⟩; have HF1 := Lib.hid hf1; have HW1 := Lib.hid hf1.size; clear hf1)
        | (go_at_call 28; refine (hMay.out _ (HF1.out.alloc _)).mono ?_; rintro e w2 ⟨rfl, hf2⟩; have hb2 := hf2.at_ (heap_at (w := w1) rfl (.cells #[.int .i64 o, .slice a1 n1 d1', .slice a2 n2 d2', .slice a3 n3 d3'] 37)) (fun e => e); have HB2 := Lib.hid hb2; have y0 := cell_obj hb2 0 (.int .i64 o) rfl; have y1 := cell_obj hb2 1 (.slice a1 n1 d1') rfl; have y2 := cell_obj hb2 2 (.slice a2 n2 d2') rfl; have y3 := cell_obj hb2 3 (.slice a3 n3 d3') rfl; have HF2 := Lib.hid ((HF1.out.alloc _).trans hf2); have HZ12 : Hid (w1.heap.size + 1 ≤ w2.heap.size) := Lib.hid (by have := hf2.size; rw [World.size_alloc] at this; exact this); obtain ⟨g0, g1⟩ := hgc.out _ HF2.out; clear hf2 hb2)
        | (go_at_call 29; refine (hOf.out _ HF2.out).mono ?_; rintro e w3 ⟨v3, rfl, hi3, ho3, hf3⟩; obtain ⟨fa, fc, rfl⟩ := hi3.sl; rw [hFN.out] at hi3 ho3; (try rw [hFN.out]); have HI3 := Lib.hid hi3; have HO3 := Lib.hid ho3; have hb3 := hf3.at_ HB2.out (fun e => e); have HB3 := Lib.hid hb3; have z0 := cell_obj hb3 0 (.int .i64 o) rfl; have z1 := cell_obj hb3 1 (.slice a1 n1 d1') rfl; have z2 := cell_obj hb3 2 (.slice a2 n2 d2') rfl; have z3 := cell_obj hb3 3 (.slice a3 n3 d3') rfl; have HF3 := Lib.hid (HF2.out.trans hf3); have HZ3 := Lib.hid hf3.size; have HZ13 := Lib.hid (Nat.le_trans HZ12.out hf3.size); obtain ⟨g2, g3⟩ := hgc.out _ HF3.out; have hlk := hlook.out _ HF3.out; obtain ⟨g4, g5⟩ := hgc.out _ (HF3.out.alloc (.cells #[.int .i64 lo, .slice b1 k1 d1, .slice b2 k2 d2, .slice b3 k3 d3] 37)); have hln := hlen.out _ (HF3.out.alloc (.cells #[.int .i64 lo, .slice b1 k1 d1, .slice b2 k2 d2, .slice b3 k3 d3] 37)); have hb4 := heap_keep hb3 (.cells #[.int .i64 lo, .slice b1 k1 d1, .slice b2 k2 d2, .slice b3 k3 d3] 37); have u0 := cell_obj hb4 0 (.int .i64 o) rfl; have u1 := cell_obj hb4 1 (.slice a1 n1 d1') rfl; have u2 := cell_obj hb4 2 (.slice a2 n2 d2') rfl; have u3 := cell_obj hb4 3 (.slice a3 n3 d3') rfl; clear hi3 ho3 hf3 hb3 hb4)
        | (go_at_call 30; refine (hPl.out _ _ (HF3.out.alloc _) (HI3.out.keep ((Fr.refl (fun _ => False) _).alloc _) (fun _ _ _ e => e))).mono ?_; rintro e w4 ⟨v4, rfl, ho4, hf4⟩; obtain ⟨pa, pc, rfl⟩ := row_slice ho4; (try rw [hPN.out]); have HO4 := Lib.hid ho4; have HG4 := Lib.hid (((Fr.refl (fun _ => False) w3).alloc (.cells #[.int .i64 lo, .slice b1 k1 d1, .slice b2 k2 d2, .slice b3 k3 d3] 37)).trans hf4); have HF4 := Lib.hid (HF3.out.trans HG4.out); have HZ4 := Lib.hid hf4.size; have HI4 := Lib.hid (HI3.out.keep HG4.out (fun _ _ _ e => e)); obtain ⟨g6, g7⟩ := hgc.out _ HF4.out; clear ho4 hf4)
        | (go_at_call 31; refine (hDo2.out _ _ HF4.out HI4.out).mono ?_; rintro e w5 ⟨rfl, T0', hS5, hs5⟩; have HS5 := Lib.hid hS5; have Hs5 := Lib.hid hs5; clear hS5 hs5))
      go_ret2
      rw [hR.out]
      have hS5 := HS5.out
      rw [hDA.out] at hS5
      exact ⟨_, T0', TB, l, rfl, hS5, rfl, il_nil _, fun b hb => (by cases hb), (HF4.out.mono (fun _ _ e => e.elim)).trans' (Hs5.out.1.mono (fun _ _ e => .inl e)) (fun _ _ e => e), fun b hb => (Hs5.out.2 b hb).imp id (fun e => Nat.le_trans HF4.out.size e), fun b hb => .inl hb⟩
  rw [if_neg (by simpa using hq7)] at hRd
  subst hq7
  have hPk : mayL P = true := (plusF_ok HP.out).1
  have hPr := mayL_all hPk
  have hPok : ∀ p ∈ P, okS p.1 ∧ okI p.2 := fun p hp => by
    have h1 := hPr.row p hp
    have h2 := h1.1
    unfold goodB at h2
    simp only [Bool.and_eq_true, decide_eq_true_eq] at h2
    exact ⟨by unfold okS maxLen; omega, by unfold okI; omega⟩
  have hfinS : Hid (∀ (w1 w3 w4 w5 W5 : World) (T0' : Nat → Prop) (pa : Option Addr) (pc : Nat), Fr (fun _ => False) w3 w4 → Fr (fun _ => False) w w1 → w1.heap.size + 1 ≤ w3.heap.size → Fr (fun _ => False) w w4 → w4.ownsRow (w3.alloc (.cells #[.int .i64 lo, .slice b1 k1 d1, .slice b2 k2 d2, .slice b3 k3 d3] 37)).heap.size 65 2 (.slice pa P.length pc) P.length (itCs P) → SB w5 g gs m T0' TB D l → Stp T0 w4 w5 T0' → Fr (fun b => b = w1.heap.size) w5 W5 →
      Calls Tryz.prog 32 #[.pointer (some ⟨g, 0, none⟩), .agg #[.int .i64 o, .slice pa nP pc, .slice a2 n2 d2', .slice a3 n3 d3']] W5 fun e w6 => e = .returned (.tuple #[]) ∧ SB w6 g gs m T0' (fun b => TB b ∨ (w3.heap.size ≤ b ∧ b < w4.heap.size)) D (setH l ⟨o, .slice pa nP pc, .slice a2 n2 d2', .slice a3 n3 d3', P, pi, sh⟩) ∧ Fr (fun b => b = m) W5 w6) := Lib.hid (fun w1 w3 w4 w5 W5 T0' pa pc h34 hf1 hz hf4 ho hs hst hf5 => by
    have hsb := HSB.out
    have hlt := hsb.lt
    have z1 := hf1.size; have z4 := hf4.size; have z5 := hst.1.size; have z6 := hf5.size
    have hin : ∀ b, (b = g ∨ b = m ∨ T0' b ∨ TB b) → ¬ b = w1.heap.size := fun b hb e => by
      rcases hb with hb | hb | hb | hb
      · have := hlt b (.inl hb); omega
      · have := hlt b (.inr (.inl hb)); omega
      · rcases hst.2 b hb with hb | hb
        · have := hlt b (.inr (.inr (.inl hb))); omega
        · have := h34.size; omega
      · have := hlt b (.inr (.inr (.inr hb))); omega
    have hS5 := hs.keep hf5 hin
    have hF : Fr (fun b => T0 b ∨ b = w1.heap.size) w W5 := ((hf4.mono (fun _ _ e => e.elim)).trans' (hst.1.mono (fun _ _ e => .inl e)) (fun _ _ e => e)).trans' (hf5.mono (fun _ _ e => .inr e)) (fun _ _ e => e)
    have hi4 := (Il.own ho hPok)
    have hk1 : HOk W5 TB ⟨o, .slice a1 n1 d1', .slice a2 n2 d2', .slice a3 n3 d3', he, pi, sh⟩ := HHD.out.keep hF (fun b hb e => by
      rcases e with e | e
      · exact hsb.nb b hb e
      · exact hin b (.inr (.inr (.inr hb))) e)
    have hlP : Lb W5 (fun b => TB b ∨ (w3.heap.size ≤ b ∧ b < w4.heap.size)) (.slice pa nP pc) P := by
      have hfa : Fr (fun b => T0 b ∨ b = w1.heap.size) w4 W5 := (hst.1.mono (fun _ _ e => .inl e)).trans' (hf5.mono (fun _ _ e => .inr e)) (fun _ _ e => e)
      have h1 := hi4.1.keep hfa (fun _ b hb e => by
        have := hi4.2 b hb
        rw [World.size_alloc] at this
        rcases e with e | e
        · have := hlt b (.inr (.inr (.inl e))); omega
        · omega)
      rw [hPN.out] at h1
      refine ⟨h1, fun _ b hb => .inr ?_⟩
      have := hi4.2 b (by rw [hPN.out]; exact hb)
      rw [World.size_alloc] at this
      omega
    have hln := hPr.len
    refine hset W5 g gs m T0' TB _ D l ⟨o, .slice pa nP pc, .slice a2 n2 d2', .slice a3 n3 d3', P, pi, sh⟩ hS5 (fun b hb => .inl hb) ⟨hk1.o, hlP, hk1.lp.mono (fun b hb => .inl hb), hk1.ls.mono (fun b hb => .inl hb)⟩ (fun b hb => ?_) (by rw [HLLEN.out]; exact hll) ⟨by dsimp only; omega, by dsimp only; have := HLN.out.2.1; have := HN2.out; omega, by dsimp only; have := HLN.out.2.2; have := HN3.out; omega⟩
    rcases hb with hb | hb
    · have hb1 := hsb.ltb b hb
      refine ⟨by omega, fun e => ?_, fun e => hsb.ng.2.1 (e ▸ hb), fun e => hsb.nm.2 (e ▸ hb)⟩
      rcases hst.2 b e with e | e
      · exact hsb.nb b hb e
      · omega
    · have hg := hlt g (.inl rfl); have hm' := hlt m (.inr (.inl rfl))
      refine ⟨by omega, fun e => ?_, fun e => by omega, fun e => by omega⟩
      rcases hst.2 b e with e | e
      · have := hlt b (.inr (.inr (.inl e))); omega
      · omega)
  have hfinC : Hid (∀ (w1 w2 w3 w4 w5 W5 w6 : World) (T0' : Nat → Prop) (fa : Option Addr) (fc : Nat), Fr (fun _ => False) w w1 → w1.heap.size + 1 ≤ w2.heap.size → Fr (fun _ => False) w w2 → w2.heap.size ≤ w3.heap.size → Il w4 (.slice fa nF fc) F → (∀ b, (Value.slice fa nF fc).ownBlock = some b → w2.heap.size ≤ b ∧ b < w3.heap.size) → Fr (fun _ => False) w w4 → Stp T0 w4 w5 T0' → Fr (fun b => b = w1.heap.size) w5 W5 → Fr (fun b => b = m) W5 w6 →
      Calls Tryz.prog 33 #[.slice fa nF fc] w6 fun e w' => ∃ v', e = .returned v' ∧ w'.ownsRow w6.heap.size 65 2 v' nF (itCs F) ∧ Fr (fun _ => False) w6 w') := Lib.hid (fun w1 w2 w3 w4 w5 W5 w6 T0' fa fc hf1 hz hf2 hz3 hi ho hf4 hst hf5 hf6 => by
    have hlt := HSB.out.lt
    have z1 := hf1.size; have z2 := hf2.size
    have hfa : Fr (fun b => T0 b ∨ b = w1.heap.size ∨ b = m) w4 w6 := ((hst.1.mono (fun _ _ e => .inl e)).trans' (hf5.mono (fun _ _ e => .inr (.inl e))) (fun _ _ e => e)).trans' (hf6.mono (fun _ _ e => .inr (.inr e))) (fun _ _ e => e)
    have hi6 := hi.keep hfa (fun _ b hb e => by
      have := ho b hb
      rcases e with e | e | e
      · have := hlt b (.inr (.inr (.inl e))); omega
      · omega
      · have := hlt m (.inr (.inl rfl)); omega)
    have := itClone w6 _ F hi6 (by rw [hFN.out]; omega)
    rw [hFN.out] at this
    exact this)
  have hR := Lib.hid hRd
  clear hRd hPk hPr hPok hDA0
  rcases hI5 with rfl | ⟨rfl, hI5⟩
  all_goals
    go_enter Tryz.func8, Tryz.ntmps8
    go_wp2_with (first
      | (go_at_call 26; refine hm.out.mono ?_; rintro e w0 ⟨rfl, rfl⟩)
      | (go_at_call 27; refine hh.out.mono ?_; rintro e w1 ⟨rfl, hf1⟩; have HF1 := Lib.hid hf1; have HW1 := Lib.hid hf1.size; clear hf1)
      | (go_at_call 28; refine (hMay.out _ (HF1.out.alloc _)).mono ?_; rintro e w2 ⟨rfl, hf2⟩; have hb2 := hf2.at_ (heap_at (w := w1) rfl (.cells #[.int .i64 o, .slice a1 n1 d1', .slice a2 n2 d2', .slice a3 n3 d3'] 37)) (fun e => e); have HB2 := Lib.hid hb2; have y0 := cell_obj hb2 0 (.int .i64 o) rfl; have y1 := cell_obj hb2 1 (.slice a1 n1 d1') rfl; have y2 := cell_obj hb2 2 (.slice a2 n2 d2') rfl; have y3 := cell_obj hb2 3 (.slice a3 n3 d3') rfl; have HF2 := Lib.hid ((HF1.out.alloc _).trans hf2); have HZ12 : Hid (w1.heap.size + 1 ≤ w2.heap.size) := Lib.hid (by have := hf2.size; rw [World.size_alloc] at this; exact this); obtain ⟨g0, g1⟩ := hgc.out _ HF2.out; clear hf2 hb2)
      | (go_at_call 29; refine (hOf.out _ HF2.out).mono ?_; rintro e w3 ⟨v3, rfl, hi3, ho3, hf3⟩; obtain ⟨fa, fc, rfl⟩ := hi3.sl; rw [hFN.out] at hi3 ho3; (try rw [hFN.out]); have HI3 := Lib.hid hi3; have HO3 := Lib.hid ho3; have hb3 := hf3.at_ HB2.out (fun e => e); have HB3 := Lib.hid hb3; have z0 := cell_obj hb3 0 (.int .i64 o) rfl; have z1 := cell_obj hb3 1 (.slice a1 n1 d1') rfl; have z2 := cell_obj hb3 2 (.slice a2 n2 d2') rfl; have z3 := cell_obj hb3 3 (.slice a3 n3 d3') rfl; have HF3 := Lib.hid (HF2.out.trans hf3); have HZ3 := Lib.hid hf3.size; have HZ13 := Lib.hid (Nat.le_trans HZ12.out hf3.size); obtain ⟨g2, g3⟩ := hgc.out _ HF3.out; have hlk := hlook.out _ HF3.out; obtain ⟨g4, g5⟩ := hgc.out _ (HF3.out.alloc (.cells #[.int .i64 lo, .slice b1 k1 d1, .slice b2 k2 d2, .slice b3 k3 d3] 37)); have hln := hlen.out _ (HF3.out.alloc (.cells #[.int .i64 lo, .slice b1 k1 d1, .slice b2 k2 d2, .slice b3 k3 d3] 37)); have hb4 := heap_keep hb3 (.cells #[.int .i64 lo, .slice b1 k1 d1, .slice b2 k2 d2, .slice b3 k3 d3] 37); have u0 := cell_obj hb4 0 (.int .i64 o) rfl; have u1 := cell_obj hb4 1 (.slice a1 n1 d1') rfl; have u2 := cell_obj hb4 2 (.slice a2 n2 d2') rfl; have u3 := cell_obj hb4 3 (.slice a3 n3 d3') rfl; clear hi3 ho3 hf3 hb3 hb4)
      | (go_at_call 30; refine (hPl.out _ _ (HF3.out.alloc _) (HI3.out.keep ((Fr.refl (fun _ => False) _).alloc _) (fun _ _ _ e => e))).mono ?_; rintro e w4 ⟨v4, rfl, ho4, hf4⟩; obtain ⟨pa, pc, rfl⟩ := row_slice ho4; (try rw [hPN.out]); have HO4 := Lib.hid ho4; have HG4 := Lib.hid (((Fr.refl (fun _ => False) w3).alloc (.cells #[.int .i64 lo, .slice b1 k1 d1, .slice b2 k2 d2, .slice b3 k3 d3] 37)).trans hf4); have HF4 := Lib.hid (HF3.out.trans HG4.out); have HZ4 := Lib.hid hf4.size; have HI4 := Lib.hid (HI3.out.keep HG4.out (fun _ _ _ e => e)); obtain ⟨g6, g7⟩ := hgc.out _ HF4.out; clear ho4 hf4)
      | (go_at_call 31; refine (hDo2.out _ _ HF4.out HI4.out).mono ?_; rintro e w5 ⟨rfl, T0', hS5, hs5⟩; have HS5 := Lib.hid hS5; have Hs5 := Lib.hid hs5; have hb5 := hs5.1.at_ (HG4.out.at_ HB3.out (fun e => e)) (hnbT.out _ (by have := HW1.out; omega)); have f5 := obj_frozen hb5 1; have q0 := cell_obj hb5 0 (.int .i64 o) rfl; have q1 := cell_obj hb5 1 (.slice a1 n1 d1') rfl; have q2 := cell_obj hb5 2 (.slice a2 n2 d2') rfl; have q3 := cell_obj hb5 3 (.slice a3 n3 d3') rfl; obtain ⟨W5, hW5⟩ : ∃ W5, w5.setCell ⟨w1.heap.size, 1, none⟩ (.slice pa nP pc) = W5 := ⟨_, rfl⟩; have hb6 := obj_set hb5 1 (.slice pa nP pc); rw [hW5] at hb6; have hf56 : Fr (fun b => b = w1.heap.size) w5 W5 := (by rw [← hW5]; exact (Fr.refl (fun b => b = w1.heap.size) _).setCell (p := ⟨w1.heap.size, 1, none⟩) (fun _ => rfl) _); have HF56 := Lib.hid hf56; have HB6 := Lib.hid hb6; have p0 := cell_obj hb6 0 (.int .i64 o) rfl; have p1 := cell_obj hb6 1 (.slice pa nP pc) rfl; have p2 := cell_obj hb6 2 (.slice a2 n2 d2') rfl; have p3 := cell_obj hb6 3 (.slice a3 n3 d3') rfl; have hset5 := Lib.hid (hfinS.out w1 w3 w4 w5 W5 T0' pa pc HG4.out HF1.out HZ13.out HF4.out HO4.out HS5.out Hs5.out HF56.out); clear hf56 hb6 hS5 hs5 hb5)
      | (go_at_call 32; refine hset5.out.mono ?_; rintro e w6 ⟨rfl, hS6, hf6⟩; have HS6 := Lib.hid hS6; have HF6 := Lib.hid hf6; clear hS6 hf6)
      | (go_at_call 33; refine (hfinC.out w1 w2 w3 w4 w5 W5 w6 T0' fa fc HF1.out HZ12.out HF2.out HZ3.out HI4.out HO3.out HF4.out Hs5.out HF56.out HF6.out).mono ?_; rintro e w7 ⟨v7, rfl, ho7, hf7⟩; obtain ⟨ra, rc, rfl⟩ := row_slice ho7; have HO7 := Lib.hid ho7; have HF7 := Lib.hid hf7; clear ho7 hf7))
    go_ret2
    rw [hR.out]
    have hlt := HSB.out.lt
    have z1 := HF1.out.size; have z12 := HZ12.out; have z3 := HZ3.out; have z4 := HF4.out.size; have z5 := Hs5.out.1.size; have z6 := HF56.out.size; have z7 := HF6.out.size; have z13 := HZ13.out
    have hS7 := HS6.out.keep HF7.out (fun _ _ e => e)
    have hFk : ∀ p ∈ F, okS p.1 ∧ okI p.2 := fun p hp => il_okm' HI4.out hp
    have ho7 := HO7.out
    rw [← hFN.out] at ho7
    have hi7 := Il.own ho7 hFk
    have hlt6 := HS6.out.lt
    refine ⟨_, T0', _, _, rfl, hS7, setE_map _ _, by rw [hFN.out] at hi7; exact hi7.1, fun b hb => ?_, ?_, fun b hb => ?_, fun b hb => ?_⟩
    · have := hi7.2 b (by rw [hFN.out]; exact hb)
      exact ⟨by omega, this.2, fun e => by have := hlt6 b (.inr (.inr (.inl e))); omega, fun e => by have := hlt6 b (.inr (.inr (.inr e))); omega⟩
    · exact (((HF4.out.mono (fun _ _ e => e.elim)).trans' (Hs5.out.1.mono (fun _ _ e => .inl e)) (fun _ _ e => e)).trans' (HF56.out.mono (S' := fun b => b = w1.heap.size) (fun _ _ e => e)) (fun b hb e => by omega)).trans' ((HF6.out.mono (fun _ _ e => .inr e)).trans (HF7.out.mono (fun _ _ e => e.elim))) (fun _ _ e => e)
    · rcases Hs5.out.2 b hb with e | e
      · exact .inl e
      · exact .inr (by omega)
    · rcases hb with e | e
      · exact .inl e
      · exact .inr (by omega)
end Go.Proofs.YtogphlnakdnchaaGreat

namespace Go.Proofs.YtogphlnakdnchaaGreat
open Go.RowKit Go.Maps
theorem hmvF_of (W : World) (b : Nat) : Calls Tryz.prog 35 #[.pointer (some ⟨b, 0, none⟩)] W fun e w' => e = .returned (.tuple #[.pointer (some ⟨b, 1, none⟩), .pointer none]) ∧ Fr (fun _ => False) W w' := by
  go_enter Tryz.func35, Tryz.ntmps35
  go_wp2_with fail
  go_ret2
  exact ⟨rfl, Fr.refl _ _⟩
set_option maxRecDepth 100000 in
set_option maxHeartbeats 16000000 in
theorem hmvF (w : World) (g gs m : Nat) (T0 TB : Nat → Prop) (A : Stk) (l : List (Int × HV)) (o : Int) (h : SB w g gs m T0 TB A l) (hA : SOk A) (ho : okI o) (hll : l.length ≤ 1000000) (hk : ∀ p ∈ mapE l, HEok p.1 p.2) :
    Calls Tryz.prog 34 #[.pointer (some ⟨g, 0, none⟩), .int .i64 o, .int .i64 3, .func (.func 35) #[] #[]] w fun e w' => ∃ v' T0' TB' l', e = .returned (.tuple #[v', .int .i64 (moveS A (mapE l) o 3 0 none).1.2]) ∧ SB w' g gs m T0' TB' (moveS A (mapE l) o 3 0 none).2.1 l' ∧ mapE l' = (moveS A (mapE l) o 3 0 none).2.2 ∧
      Il w' v' (moveS A (mapE l) o 3 0 none).1.1 ∧ (∀ b, v'.ownBlock = some b → w.heap.size ≤ b ∧ b < w'.heap.size ∧ ¬ T0' b ∧ ¬ TB' b) ∧ Shs w w' m T0 TB T0' TB' := by
  obtain ⟨R, hR'⟩ : ∃ R, moveS A (mapE l) o 3 0 none = R := ⟨_, rfl⟩
  have hRd : R = moveS A (mapE l) o 3 0 none := hR'.symm
  rw [hR']
  unfold moveS at hRd
  have HSB := Lib.hid h
  obtain ⟨c0, c1⟩ := h.cells
  have hm := Lib.hid (hmay w g m o c1)
  have hgc : Hid (∀ W, Fr (fun _ => False) w W → W.cell? ⟨g, 0, none⟩ = some (.pointer (some ⟨gs, 0, none⟩)) ∧ W.cell? ⟨g, 1, none⟩ = some (.map (some m))) := Lib.hid (fun W hf => (HSB.out.keep hf (fun _ _ e => e)).cells)
  have hhd := h.hold ho
  have hln0 := heOf_len hk o
  have hmy0 := heOf_may hk o
  rw [heOf_map] at hRd hln0 hmy0
  have hh := hhold w g gs m T0 TB A l o h ho
  obtain ⟨⟨xo, xh, xp, xs, he, pi, sh⟩, hX⟩ : ∃ X, holdOf l o = X := ⟨_, rfl⟩
  rw [hX] at hhd hh hRd hln0 hmy0
  obtain ⟨a1, d1, e1⟩ := hhd.1.lh.1.sl
  obtain ⟨a2, d2, e2⟩ := hhd.1.lp.1.sl
  obtain ⟨a3, d3, e3⟩ := hhd.1.ls.1.sl
  have hxo := hhd.2.symm
  dsimp only at e1 e2 e3 hxo
  subst e1 e2 e3 hxo
  simp only [HV.enc, HV.e, HE.get, HE.set] at hh hRd hln0 hmy0
  obtain ⟨n1, hn1⟩ : ∃ n, he.length = n := ⟨_, rfl⟩
  obtain ⟨n2, hn2⟩ : ∃ n, pi.length = n := ⟨_, rfl⟩
  obtain ⟨n3, hn3⟩ : ∃ n, sh.length = n := ⟨_, rfl⟩
  have HN1 := Lib.hid hn1; have HN2 := Lib.hid hn2; have HN3 := Lib.hid hn3; have HLN := Lib.hid hln0
  have HHD0 := hhd.1
  rw [hn1, hn2, hn3] at HHD0 hh
  have HHD := Lib.hid HHD0
  have HLL : Hid (l.length ≤ 1000000) := Lib.hid hll
  have hDo0 : ∀ W, Fr (fun _ => False) w W → Calls Tryz.prog 31 #[.pointer (some ⟨gs, 0, none⟩), .int .i64 3, .slice a1 n1 d1] W fun e w' => e = .returned (.int .i64 (doS A 3 he).1) ∧ ∃ T0', SB w' g gs m T0' TB (doS A 3 he).2 l ∧ Stp T0 W w' T0' := fun W hf => by
    have hW := HSB.out.keep hf (fun _ _ e => e)
    refine (sDo W gs T0 A 3 _ he hW.stk hA (HHD.out.lh.1.keep hf (fun _ _ _ e => e))).mono ?_
    rintro e w' ⟨rfl, T0', h1, h2⟩
    exact ⟨rfl, T0', hW.stock h1 h2, h2⟩
  have hDA1 := doS_no (A := A) (k := 3) (L := he)
  obtain ⟨⟨de, D⟩, hD⟩ : ∃ D, doS A 3 he = D := ⟨_, rfl⟩
  rw [hD] at hDo0 hDA1
  simp only [hD] at hRd
  have hDA0 : de ≠ 0 → D = A := hDA1
  have hnbT : Hid (∀ b, w.heap.size ≤ b → ¬ T0 b) := Lib.hid (fun b hb e => by have := h.stk.lt b e; omega)
  have hh := Lib.hid hh
  have hDo2 := Lib.hid hDo0
  clear h c0 c1 hR' hhd hX hD hmy0 hk hDo0 HHD0 hDA1 hln0 hll
  by_cases hq1 : mayO o = 0
  case neg =>
    rw [if_pos hq1] at hRd
    have hR := Lib.hid hRd
    have q1 : (mayO o != 0) = true := by simpa using hq1
    clear hRd
    go_enter Tryz.func34, Tryz.ntmps34
    go_wp2_with (go_at_call 26; refine hm.out.mono ?_; rintro e w0 ⟨rfl, rfl⟩)
    go_ret2
    rw [hR.out]
    exact ⟨_, T0, TB, l, rfl, HSB.out, rfl, il_nil _, fun b hb => (by cases hb), Fr.refl _ _, fun b hb => .inl hb, fun b hb => .inl hb⟩
  rw [if_neg (by simpa using hq1)] at hRd
  rw [hq1] at hm
  clear hq1
  by_cases hq4 : he = []
  case pos =>
    rw [if_pos hq4] at hRd
    have hR := Lib.hid hRd
    have hz0 : n1 = 0 := by rw [← hn1, hq4]; rfl
    have hz1 : ((n1 : Int) == 0) = true := by simp; omega
    clear hRd hn1 hq4 hz0
    go_enter Tryz.func34, Tryz.ntmps34
    go_wp2_with (first
      | (go_at_call 26; refine hm.out.mono ?_; rintro e w0 ⟨rfl, rfl⟩)
      | (go_at_call 27; refine hh.out.mono ?_; rintro e w1 ⟨rfl, hf1⟩; have HF1 := Lib.hid hf1; clear hf1)
      | (go_at_call 35; refine (hmvF_of _ _).mono ?_; rintro e w2 ⟨rfl, hf2⟩; have hb2 := hf2.at_ (heap_at (w := w1) rfl (.cells #[.int .i64 o, .slice a1 n1 d1, .slice a2 n2 d2, .slice a3 n3 d3] 37)) (fun e => e); have HB2 := Lib.hid hb2; have y0 := cell_obj hb2 0 (.int .i64 o) rfl; have y1 := cell_obj hb2 1 (.slice a1 n1 d1) rfl; have y2 := cell_obj hb2 2 (.slice a2 n2 d2) rfl; have y3 := cell_obj hb2 3 (.slice a3 n3 d3) rfl; have HZ12 : Hid (w1.heap.size + 1 ≤ w2.heap.size) := Lib.hid (by have := hf2.size; rw [World.size_alloc] at this; exact this); have HF2 := Lib.hid ((HF1.out.alloc _).trans hf2); obtain ⟨g0, g1⟩ := hgc.out _ HF2.out; clear hf2 hb2))
    go_ret2
    rw [hR.out]
    exact ⟨_, T0, TB, l, rfl, HSB.out.keep HF2.out (fun _ _ e => e), rfl, il_nil _, fun b hb => (by cases hb), HF2.out.mono (fun _ _ e => e.elim), fun b hb => .inl hb, fun b hb => .inl hb⟩
  rw [if_neg hq4] at hRd
  have hF0 : 0 < n1 := by
    rcases Nat.eq_zero_or_pos n1 with h0 | h0
    · exact absurd (List.eq_nil_of_length_eq_zero (hn1.trans h0)) hq4
    · exact h0
  have hF1 : ((n1 : Int) == 0) = false := by simp; omega
  clear hn1 hn2 hn3 hq4
  (try dsimp only at hRd)
  by_cases hq7 : de = 0
  case neg =>
    rw [if_pos hq7] at hRd
    have hR := Lib.hid hRd
    have q7 : (de != 0) = true := by simpa using hq7
    have hDA : Hid (D = A) := Lib.hid (hDA0 hq7)
    clear hRd
    go_enter Tryz.func34, Tryz.ntmps34
    go_wp2_with (first
      | (go_at_call 26; refine hm.out.mono ?_; rintro e w0 ⟨rfl, rfl⟩)
      | (go_at_call 27; refine hh.out.mono ?_; rintro e w1 ⟨rfl, hf1⟩; have HF1 := Lib.hid hf1; clear hf1)
      | (go_at_call 35; refine (hmvF_of _ _).mono ?_; rintro e w2 ⟨rfl, hf2⟩; have hb2 := hf2.at_ (heap_at (w := w1) rfl (.cells #[.int .i64 o, .slice a1 n1 d1, .slice a2 n2 d2, .slice a3 n3 d3] 37)) (fun e => e); have HB2 := Lib.hid hb2; have y0 := cell_obj hb2 0 (.int .i64 o) rfl; have y1 := cell_obj hb2 1 (.slice a1 n1 d1) rfl; have y2 := cell_obj hb2 2 (.slice a2 n2 d2) rfl; have y3 := cell_obj hb2 3 (.slice a3 n3 d3) rfl; have HZ12 : Hid (w1.heap.size + 1 ≤ w2.heap.size) := Lib.hid (by have := hf2.size; rw [World.size_alloc] at this; exact this); have HF2 := Lib.hid ((HF1.out.alloc _).trans hf2); obtain ⟨g0, g1⟩ := hgc.out _ HF2.out; clear hf2 hb2)
      | (go_at_call 31; refine (hDo2.out _ HF2.out).mono ?_; rintro e w5 ⟨rfl, T0', hS5, hs5⟩; have HS5 := Lib.hid hS5; have Hs5 := Lib.hid hs5; clear hS5 hs5))
    go_ret2
    rw [hR.out]
    have hS5 := HS5.out
    rw [hDA.out] at hS5
    exact ⟨_, T0', TB, l, rfl, hS5, rfl, il_nil _, fun b hb => (by cases hb), (HF2.out.mono (fun _ _ e => e.elim)).trans' (Hs5.out.1.mono (fun _ _ e => .inl e)) (fun _ _ e => e), fun b hb => (Hs5.out.2 b hb).imp id (fun e => Nat.le_trans HF2.out.size e), fun b hb => .inl hb⟩
  rw [if_neg (by simpa using hq7)] at hRd
  subst hq7
  have hfinS : Hid (∀ (w1 w2 w5 W7 : World) (T0' : Nat → Prop), Fr (fun _ => False) w w1 → w1.heap.size + 1 ≤ w2.heap.size → Fr (fun _ => False) w w2 → SB w5 g gs m T0' TB D l → Stp T0 w2 w5 T0' → Fr (fun b => b = w1.heap.size) w5 W7 →
      Calls Tryz.prog 32 #[.pointer (some ⟨g, 0, none⟩), .agg #[.int .i64 o, .slice none 0 0, .slice a2 n2 d2, .slice a3 n3 d3]] W7 fun e w6 => e = .returned (.tuple #[]) ∧ SB w6 g gs m T0' TB D (setH l ⟨o, .slice none 0 0, .slice a2 n2 d2, .slice a3 n3 d3, [], pi, sh⟩) ∧ Fr (fun b => b = m) W7 w6) := Lib.hid (fun w1 w2 w5 W7 T0' hf1 hz hf4 hs hst hf5 => by
    have hsb := HSB.out
    have hlt := hsb.lt
    have z1 := hf1.size; have z4 := hf4.size; have z5 := hst.1.size; have z6 := hf5.size
    have hin : ∀ b, (b = g ∨ b = m ∨ T0' b ∨ TB b) → ¬ b = w1.heap.size := fun b hb e => by
      rcases hb with hb | hb | hb | hb
      · have := hlt b (.inl hb); omega
      · have := hlt b (.inr (.inl hb)); omega
      · rcases hst.2 b hb with hb | hb
        · have := hlt b (.inr (.inr (.inl hb))); omega
        · omega
      · have := hlt b (.inr (.inr (.inr hb))); omega
    have hS5 := hs.keep hf5 hin
    have hF : Fr (fun b => T0 b ∨ b = w1.heap.size) w W7 := ((hf4.mono (fun _ _ e => e.elim)).trans' (hst.1.mono (fun _ _ e => .inl e)) (fun _ _ e => e)).trans' (hf5.mono (fun _ _ e => .inr e)) (fun _ _ e => e)
    have hk1 : HOk W7 TB ⟨o, .slice a1 n1 d1, .slice a2 n2 d2, .slice a3 n3 d3, he, pi, sh⟩ := HHD.out.keep hF (fun b hb e => by
      rcases e with e | e
      · exact hsb.nb b hb e
      · exact hin b (.inr (.inr (.inr hb))) e)
    have hnil : ∀ TB : Nat → Prop, Lb W7 TB (.slice none 0 0) [] := fun TB => ⟨il_nil _, fun e => absurd rfl e⟩
    have hl0 := HLN.out; have hl1 := HN1.out; have hl2 := HN2.out; have hl3 := HN3.out
    have HTB : ∀ b, TB b → TB b := fun b hb => hb
    refine hset W7 g gs m T0' TB _ D l ⟨o, .slice none 0 0, .slice a2 n2 d2, .slice a3 n3 d3, [], pi, sh⟩ hS5 HTB ⟨hk1.o, hnil _, hk1.lp.mono HTB, hk1.ls.mono HTB⟩ (fun b hb => ?_) HLL.out (by dsimp only [List.length_nil]; omega)
    have hb1 := hsb.ltb b hb
    refine ⟨by omega, fun e => ?_, fun e => hsb.ng.2.1 (e ▸ hb), fun e => hsb.nm.2 (e ▸ hb)⟩
    rcases hst.2 b e with e | e
    · exact hsb.nb b hb e
    · omega)
  have hfinC : Hid (∀ (w1 w4 w5 W7 w6 : World) (T0' : Nat → Prop), Fr (fun _ => False) w w1 → Fr (fun _ => False) w w4 → Stp T0 w4 w5 T0' → Fr (fun b => b = w1.heap.size) w5 W7 → Fr (fun b => b = m) W7 w6 →
      Calls Tryz.prog 33 #[.slice a1 n1 d1] w6 fun e w' => ∃ v', e = .returned v' ∧ w'.ownsRow w6.heap.size 65 2 v' n1 (itCs he) ∧ Fr (fun _ => False) w6 w') := Lib.hid (fun w1 w4 w5 W7 w6 T0' hf1 hf4 hst hf5 hf6 => by
    have hsb := HSB.out
    have hlt := hsb.lt
    have z1 := hf1.size
    have hfa : Fr (fun b => T0 b ∨ b = w1.heap.size ∨ b = m) w w6 := (((hf4.mono (fun _ _ e => e.elim)).trans' (hst.1.mono (fun _ _ e => .inl e)) (fun _ _ e => e)).trans' (hf5.mono (fun _ _ e => .inr (.inl e))) (fun _ _ e => e)).trans' (hf6.mono (fun _ _ e => .inr (.inr e))) (fun _ _ e => e)
    have hi6 := HHD.out.lh.keep hfa (fun b hb e => by
      rcases e with e | e | e
      · exact hsb.nb b hb e
      · have := hsb.ltb b hb; omega
      · exact hsb.nm.2 (e ▸ hb))
    have hl0 := HLN.out; have hl1 := HN1.out; have hl2 := HN2.out; have hl3 := HN3.out
    have := itClone w6 _ he hi6.1 (by omega)
    dsimp only at this
    rw [HN1.out] at this
    exact this)
  have hR := Lib.hid hRd
  clear hRd hDA0
  go_enter Tryz.func34, Tryz.ntmps34
  go_wp2_with (first
    | (go_at_call 26; refine hm.out.mono ?_; rintro e w0 ⟨rfl, rfl⟩)
    | (go_at_call 27; refine hh.out.mono ?_; rintro e w1 ⟨rfl, hf1⟩; have HF1 := Lib.hid hf1; clear hf1)
    | (go_at_call 35; refine (hmvF_of _ _).mono ?_; rintro e w2 ⟨rfl, hf2⟩; have hb2 := hf2.at_ (heap_at (w := w1) rfl (.cells #[.int .i64 o, .slice a1 n1 d1, .slice a2 n2 d2, .slice a3 n3 d3] 37)) (fun e => e); have HB2 := Lib.hid hb2; have y0 := cell_obj hb2 0 (.int .i64 o) rfl; have y1 := cell_obj hb2 1 (.slice a1 n1 d1) rfl; have y2 := cell_obj hb2 2 (.slice a2 n2 d2) rfl; have y3 := cell_obj hb2 3 (.slice a3 n3 d3) rfl; have HZ12 : Hid (w1.heap.size + 1 ≤ w2.heap.size) := Lib.hid (by have := hf2.size; rw [World.size_alloc] at this; exact this); have HF2 := Lib.hid ((HF1.out.alloc _).trans hf2); obtain ⟨g0, g1⟩ := hgc.out _ HF2.out; clear hf2 hb2)
    | (go_at_call 31; refine (hDo2.out _ HF2.out).mono ?_; rintro e w5 ⟨rfl, T0', hS5, hs5⟩; have HS5 := Lib.hid hS5; have Hs5 := Lib.hid hs5; have hb5 := hs5.1.at_ HB2.out (hnbT.out _ HF1.out.size); have f5 := obj_frozen hb5 1; have q0 := cell_obj hb5 0 (.int .i64 o) rfl; have q1 := cell_obj hb5 1 (.slice a1 n1 d1) rfl; have q2 := cell_obj hb5 2 (.slice a2 n2 d2) rfl; have q3 := cell_obj hb5 3 (.slice a3 n3 d3) rfl; obtain ⟨W6, hW6⟩ : ∃ W6, w5.setCell ⟨w1.heap.size, 1, none⟩ (.slice none 0 0) = W6 := ⟨_, rfl⟩; have hb6 := obj_set hb5 1 (.slice none 0 0); rw [hW6] at hb6; have hf56 : Fr (fun b => b = w1.heap.size) w5 W6 := (by rw [← hW6]; exact (Fr.refl (fun b => b = w1.heap.size) _).setCell (p := ⟨w1.heap.size, 1, none⟩) (fun _ => rfl) _); have r0 := cell_obj hb6 0 (.int .i64 o) rfl; have r1 := cell_obj hb6 1 (.slice none 0 0) rfl; have r2 := cell_obj hb6 2 (.slice a2 n2 d2) rfl; have r3 := cell_obj hb6 3 (.slice a3 n3 d3) rfl; obtain ⟨W7, hW7⟩ : ∃ W7, W7 = W6 := ⟨_, rfl⟩; obtain rfl : W7 = W6 := hW7; have hf57 := hf56; have hset5 := Lib.hid (hfinS.out w1 w2 w5 W7 T0' HF1.out HZ12.out HF2.out HS5.out Hs5.out hf57); have HF57 := Lib.hid hf57; clear hS5 hs5 hb5 hb6 hf56 hf57)
    | (go_at_call 32; refine hset5.out.mono ?_; rintro e w8 ⟨rfl, hS6, hf6⟩; have HS6 := Lib.hid hS6; have HF6 := Lib.hid hf6; clear hS6 hf6)
    | (go_at_call 33; refine (hfinC.out w1 w2 w5 W7 w8 T0' HF1.out HF2.out Hs5.out HF57.out HF6.out).mono ?_; rintro e w9 ⟨v9, rfl, ho9, hf9⟩; obtain ⟨ra, rc, rfl⟩ := row_slice ho9; have HO9 := Lib.hid ho9; have HF9 := Lib.hid hf9; clear ho9 hf9))
  go_ret2
  rw [hR.out]
  have hlt := HSB.out.lt
  have z1 := HF1.out.size; have z12 := HZ12.out; have z4 := HF2.out.size; have z5 := Hs5.out.1.size; have z6 := HF57.out.size; have z7 := HF6.out.size
  have hS7 := HS6.out.keep HF9.out (fun _ _ e => e)
  have hFk : ∀ p ∈ he, okS p.1 ∧ okI p.2 := fun p hp => il_okm' HHD.out.lh.1 hp
  have ho9 := HO9.out
  rw [← HN1.out] at ho9
  have hi7 := Il.own ho9 hFk
  have hlt6 := HS6.out.lt
  refine ⟨_, T0', _, _, rfl, hS7, setE_map _ _, by rw [HN1.out] at hi7; exact hi7.1, fun b hb => ?_, ?_, fun b hb => ?_, fun b hb => ?_⟩
  · have := hi7.2 b (by rw [HN1.out]; exact hb)
    exact ⟨by omega, this.2, fun e => by have := hlt6 b (.inr (.inr (.inl e))); omega, fun e => by have := hlt6 b (.inr (.inr (.inr e))); omega⟩
  · exact (((HF2.out.mono (fun _ _ e => e.elim)).trans' (Hs5.out.1.mono (fun _ _ e => .inl e)) (fun _ _ e => e)).trans' (HF57.out.mono (S' := fun b => b = w1.heap.size) (fun _ _ e => e)) (fun b hb e => by omega)).trans' ((HF6.out.mono (fun _ _ e => .inr e)).trans (HF9.out.mono (fun _ _ e => e.elim))) (fun _ _ e => e)
  · rcases Hs5.out.2 b hb with e | e
    · exact .inl e
    · exact .inr (by omega)
  · exact .inl hb
end Go.Proofs.YtogphlnakdnchaaGreat

namespace Go.Proofs.YtogphlnakdnchaaGreat
open Go.RowKit Go.Maps
theorem hmvP_of (W : World) (b : Nat) : Calls Tryz.prog 36 #[.pointer (some ⟨b, 0, none⟩)] W fun e w' => e = .returned (.tuple #[.pointer (some ⟨b, 1, none⟩), .pointer (some ⟨b, 2, none⟩)]) ∧ Fr (fun _ => False) W w' := by
  go_enter Tryz.func36, Tryz.ntmps36
  go_wp2_with fail
  refine wp_region_fr (by kernel_rfl) (by kernel_rfl) ?_
  repeat (go_big_quiet_step (fail))
  refine wpQuiet_nil ?_
  rintro _ ⟨⟨W2, hf2⟩, rfl⟩
  go_wp2_with fail
  go_ret2
  exact ⟨rfl, hf2⟩
set_option maxRecDepth 100000 in
set_option maxHeartbeats 16000000 in
theorem hmvP (w : World) (g gs m : Nat) (T0 TB : Nat → Prop) (A : Stk) (l : List (Int × HV)) (o : Int) (h : SB w g gs m T0 TB A l) (hA : SOk A) (ho : okI o) (hll : l.length ≤ 1000000) (hk : ∀ p ∈ mapE l, HEok p.1 p.2) :
    Calls Tryz.prog 34 #[.pointer (some ⟨g, 0, none⟩), .int .i64 o, .int .i64 4, .func (.func 36) #[] #[]] w fun e w' => ∃ v' T0' TB' l', e = .returned (.tuple #[v', .int .i64 (moveS A (mapE l) o 4 0 (some 1)).1.2]) ∧ SB w' g gs m T0' TB' (moveS A (mapE l) o 4 0 (some 1)).2.1 l' ∧ mapE l' = (moveS A (mapE l) o 4 0 (some 1)).2.2 ∧
      Il w' v' (moveS A (mapE l) o 4 0 (some 1)).1.1 ∧ (∀ b, v'.ownBlock = some b → w.heap.size ≤ b ∧ b < w'.heap.size ∧ ¬ T0' b ∧ ¬ TB' b) ∧ Shs w w' m T0 TB T0' TB' := by
  obtain ⟨R, hR'⟩ : ∃ R, moveS A (mapE l) o 4 0 (some 1) = R := ⟨_, rfl⟩
  have hRd : R = moveS A (mapE l) o 4 0 (some 1) := hR'.symm
  rw [hR']
  unfold moveS at hRd
  have HSB := Lib.hid h
  obtain ⟨c0, c1⟩ := h.cells
  have hm := Lib.hid (hmay w g m o c1)
  have hgc : Hid (∀ W, Fr (fun _ => False) w W → W.cell? ⟨g, 0, none⟩ = some (.pointer (some ⟨gs, 0, none⟩)) ∧ W.cell? ⟨g, 1, none⟩ = some (.map (some m))) := Lib.hid (fun W hf => (HSB.out.keep hf (fun _ _ e => e)).cells)
  have hhd := h.hold ho
  have hln0 := heOf_len hk o
  have hmy0 := heOf_may hk o
  rw [heOf_map] at hRd hln0 hmy0
  have hh := hhold w g gs m T0 TB A l o h ho
  obtain ⟨⟨xo, xh, xp, xs, he, pi, sh⟩, hX⟩ : ∃ X, holdOf l o = X := ⟨_, rfl⟩
  rw [hX] at hhd hh hRd hln0 hmy0
  obtain ⟨a1, d1, e1⟩ := hhd.1.lh.1.sl
  obtain ⟨a2, d2, e2⟩ := hhd.1.lp.1.sl
  obtain ⟨a3, d3, e3⟩ := hhd.1.ls.1.sl
  have hxo := hhd.2.symm
  dsimp only at e1 e2 e3 hxo
  subst e1 e2 e3 hxo
  simp only [HV.enc, HV.e, HE.get, HE.set] at hh hRd hln0 hmy0
  obtain ⟨n1, hn1⟩ : ∃ n, he.length = n := ⟨_, rfl⟩
  obtain ⟨n2, hn2⟩ : ∃ n, pi.length = n := ⟨_, rfl⟩
  obtain ⟨n3, hn3⟩ : ∃ n, sh.length = n := ⟨_, rfl⟩
  have HN1 := Lib.hid hn1; have HN2 := Lib.hid hn2; have HN3 := Lib.hid hn3; have HLN := Lib.hid hln0
  have HHD0 := hhd.1
  rw [hn1, hn2, hn3] at HHD0 hh
  have HHD := Lib.hid HHD0
  have HLL : Hid (l.length ≤ 1000000) := Lib.hid hll
  have hDo0 : ∀ W, Fr (fun _ => False) w W → Calls Tryz.prog 31 #[.pointer (some ⟨gs, 0, none⟩), .int .i64 4, .slice a1 n1 d1] W fun e w' => e = .returned (.int .i64 (doS A 4 he).1) ∧ ∃ T0', SB w' g gs m T0' TB (doS A 4 he).2 l ∧ Stp T0 W w' T0' := fun W hf => by
    have hW := HSB.out.keep hf (fun _ _ e => e)
    refine (sDo W gs T0 A 4 _ he hW.stk hA (HHD.out.lh.1.keep hf (fun _ _ _ e => e))).mono ?_
    rintro e w' ⟨rfl, T0', h1, h2⟩
    exact ⟨rfl, T0', hW.stock h1 h2, h2⟩
  have hDA1 := doS_no (A := A) (k := 4) (L := he)
  obtain ⟨⟨de, D⟩, hD⟩ : ∃ D, doS A 4 he = D := ⟨_, rfl⟩
  rw [hD] at hDo0 hDA1
  simp only [hD] at hRd
  have hDA0 : de ≠ 0 → D = A := hDA1
  have hPl0 := fun W (hf : Fr (fun _ => False) w W) => iPlus W (.slice a2 n2 d2) (.slice a1 n1 d1) pi he (HHD.out.lp.1.keep hf (fun _ _ _ e => e)) (HHD.out.lh.1.keep hf (fun _ _ _ e => e))
  obtain ⟨⟨P, pe⟩, hP⟩ : ∃ P, plusF pi he = P := ⟨_, rfl⟩
  rw [hP] at hPl0
  simp only [hP] at hRd
  have HP := Lib.hid hP
  obtain ⟨nP, hnP⟩ : ∃ n, P.length = n := ⟨_, rfl⟩
  have hPN := Lib.hid hnP
  have hPl := Lib.hid hPl0
  clear hPl0 hP hnP
  have hnbT : Hid (∀ b, w.heap.size ≤ b → ¬ T0 b) := Lib.hid (fun b hb e => by have := h.stk.lt b e; omega)
  have hh := Lib.hid hh
  have hDo2 := Lib.hid hDo0
  clear h c0 c1 hR' hhd hX hD hmy0 hk hDo0 HHD0 hDA1 hln0 hll
  by_cases hq1 : mayO o = 0
  case neg =>
    rw [if_pos hq1] at hRd
    have hR := Lib.hid hRd
    have q1 : (mayO o != 0) = true := by simpa using hq1
    clear hRd
    go_enter Tryz.func34, Tryz.ntmps34
    go_wp2_with (go_at_call 26; refine hm.out.mono ?_; rintro e w0 ⟨rfl, rfl⟩)
    go_ret2
    rw [hR.out]
    exact ⟨_, T0, TB, l, rfl, HSB.out, rfl, il_nil _, fun b hb => (by cases hb), Fr.refl _ _, fun b hb => .inl hb, fun b hb => .inl hb⟩
  rw [if_neg (by simpa using hq1)] at hRd
  rw [hq1] at hm
  clear hq1
  by_cases hq4 : he = []
  case pos =>
    rw [if_pos hq4] at hRd
    have hR := Lib.hid hRd
    have hz0 : n1 = 0 := by rw [← hn1, hq4]; rfl
    have hz1 : ((n1 : Int) == 0) = true := by simp; omega
    clear hRd hn1 hq4 hz0
    go_enter Tryz.func34, Tryz.ntmps34
    go_wp2_with (first
      | (go_at_call 26; refine hm.out.mono ?_; rintro e w0 ⟨rfl, rfl⟩)
      | (go_at_call 27; refine hh.out.mono ?_; rintro e w1 ⟨rfl, hf1⟩; have HF1 := Lib.hid hf1; clear hf1)
      | (go_at_call 36; refine (hmvP_of _ _).mono ?_; rintro e w2 ⟨rfl, hf2⟩; have hb2 := hf2.at_ (heap_at (w := w1) rfl (.cells #[.int .i64 o, .slice a1 n1 d1, .slice a2 n2 d2, .slice a3 n3 d3] 37)) (fun e => e); have HB2 := Lib.hid hb2; have y0 := cell_obj hb2 0 (.int .i64 o) rfl; have y1 := cell_obj hb2 1 (.slice a1 n1 d1) rfl; have y2 := cell_obj hb2 2 (.slice a2 n2 d2) rfl; have y3 := cell_obj hb2 3 (.slice a3 n3 d3) rfl; have HZ12 : Hid (w1.heap.size + 1 ≤ w2.heap.size) := Lib.hid (by have := hf2.size; rw [World.size_alloc] at this; exact this); have HF2 := Lib.hid ((HF1.out.alloc _).trans hf2); obtain ⟨g0, g1⟩ := hgc.out _ HF2.out; clear hf2 hb2))
    go_ret2
    rw [hR.out]
    exact ⟨_, T0, TB, l, rfl, HSB.out.keep HF2.out (fun _ _ e => e), rfl, il_nil _, fun b hb => (by cases hb), HF2.out.mono (fun _ _ e => e.elim), fun b hb => .inl hb, fun b hb => .inl hb⟩
  rw [if_neg hq4] at hRd
  have hF0 : 0 < n1 := by
    rcases Nat.eq_zero_or_pos n1 with h0 | h0
    · exact absurd (List.eq_nil_of_length_eq_zero (hn1.trans h0)) hq4
    · exact h0
  have hF1 : ((n1 : Int) == 0) = false := by simp; omega
  clear hn1 hn2 hn3 hq4
  (try dsimp only at hRd)
  by_cases hq6 : pe = 0
  case neg =>
    rw [if_pos hq6] at hRd
    have hR := Lib.hid hRd
    have q6 : (pe == 0) = false := by simpa using hq6
    have q7 : (pe != 0) = true := by simpa using hq6
    clear hRd hq6
    go_enter Tryz.func34, Tryz.ntmps34
    go_wp2_with (first
      | (go_at_call 26; refine hm.out.mono ?_; rintro e w0 ⟨rfl, rfl⟩)
      | (go_at_call 27; refine hh.out.mono ?_; rintro e w1 ⟨rfl, hf1⟩; have HF1 := Lib.hid hf1; clear hf1)
      | (go_at_call 36; refine (hmvP_of _ _).mono ?_; rintro e w2 ⟨rfl, hf2⟩; have hb2 := hf2.at_ (heap_at (w := w1) rfl (.cells #[.int .i64 o, .slice a1 n1 d1, .slice a2 n2 d2, .slice a3 n3 d3] 37)) (fun e => e); have HB2 := Lib.hid hb2; have y0 := cell_obj hb2 0 (.int .i64 o) rfl; have y1 := cell_obj hb2 1 (.slice a1 n1 d1) rfl; have y2 := cell_obj hb2 2 (.slice a2 n2 d2) rfl; have y3 := cell_obj hb2 3 (.slice a3 n3 d3) rfl; have HZ12 : Hid (w1.heap.size + 1 ≤ w2.heap.size) := Lib.hid (by have := hf2.size; rw [World.size_alloc] at this; exact this); have HF2 := Lib.hid ((HF1.out.alloc _).trans hf2); obtain ⟨g0, g1⟩ := hgc.out _ HF2.out; clear hf2 hb2)
      | (go_at_call 30; refine (hPl.out _ HF2.out).mono ?_; rintro e w4 ⟨v4, rfl, ho4, hf4⟩; obtain ⟨pa, pc, rfl⟩ := row_slice ho4; (try rw [hPN.out]); have HO4 := Lib.hid ho4; have HG4 := Lib.hid hf4; have HF4 := Lib.hid (HF2.out.trans hf4); have hb4 := hf4.at_ HB2.out (fun e => e); have HB4 := Lib.hid hb4; have z0 := cell_obj hb4 0 (.int .i64 o) rfl; have z1 := cell_obj hb4 1 (.slice a1 n1 d1) rfl; have z2 := cell_obj hb4 2 (.slice a2 n2 d2) rfl; have z3 := cell_obj hb4 3 (.slice a3 n3 d3) rfl; obtain ⟨g6, g7⟩ := hgc.out _ HF4.out; clear ho4 hf4 hb4))
    go_ret2
    rw [hR.out]
    exact ⟨_, T0, TB, l, rfl, HSB.out.keep HF4.out (fun _ _ e => e), rfl, il_nil _, fun b hb => (by cases hb), HF4.out.mono (fun _ _ e => e.elim), fun b hb => .inl hb, fun b hb => .inl hb⟩
  rw [if_neg (by simpa using hq6)] at hRd
  subst hq6
  by_cases hq7 : de = 0
  case neg =>
    rw [if_pos hq7] at hRd
    have hR := Lib.hid hRd
    have q7 : (de != 0) = true := by simpa using hq7
    have hDA : Hid (D = A) := Lib.hid (hDA0 hq7)
    clear hRd
    go_enter Tryz.func34, Tryz.ntmps34
    go_wp2_with (first
      | (go_at_call 26; refine hm.out.mono ?_; rintro e w0 ⟨rfl, rfl⟩)
      | (go_at_call 27; refine hh.out.mono ?_; rintro e w1 ⟨rfl, hf1⟩; have HF1 := Lib.hid hf1; clear hf1)
      | (go_at_call 36; refine (hmvP_of _ _).mono ?_; rintro e w2 ⟨rfl, hf2⟩; have hb2 := hf2.at_ (heap_at (w := w1) rfl (.cells #[.int .i64 o, .slice a1 n1 d1, .slice a2 n2 d2, .slice a3 n3 d3] 37)) (fun e => e); have HB2 := Lib.hid hb2; have y0 := cell_obj hb2 0 (.int .i64 o) rfl; have y1 := cell_obj hb2 1 (.slice a1 n1 d1) rfl; have y2 := cell_obj hb2 2 (.slice a2 n2 d2) rfl; have y3 := cell_obj hb2 3 (.slice a3 n3 d3) rfl; have HZ12 : Hid (w1.heap.size + 1 ≤ w2.heap.size) := Lib.hid (by have := hf2.size; rw [World.size_alloc] at this; exact this); have HF2 := Lib.hid ((HF1.out.alloc _).trans hf2); obtain ⟨g0, g1⟩ := hgc.out _ HF2.out; clear hf2 hb2)
      | (go_at_call 30; refine (hPl.out _ HF2.out).mono ?_; rintro e w4 ⟨v4, rfl, ho4, hf4⟩; obtain ⟨pa, pc, rfl⟩ := row_slice ho4; (try rw [hPN.out]); have HO4 := Lib.hid ho4; have HG4 := Lib.hid hf4; have HF4 := Lib.hid (HF2.out.trans hf4); have hb4 := hf4.at_ HB2.out (fun e => e); have HB4 := Lib.hid hb4; have z0 := cell_obj hb4 0 (.int .i64 o) rfl; have z1 := cell_obj hb4 1 (.slice a1 n1 d1) rfl; have z2 := cell_obj hb4 2 (.slice a2 n2 d2) rfl; have z3 := cell_obj hb4 3 (.slice a3 n3 d3) rfl; obtain ⟨g6, g7⟩ := hgc.out _ HF4.out; clear ho4 hf4 hb4)
      | (go_at_call 31; refine (hDo2.out _ HF4.out).mono ?_; rintro e w5 ⟨rfl, T0', hS5, hs5⟩; have HS5 := Lib.hid hS5; have Hs5 := Lib.hid hs5; clear hS5 hs5))
    go_ret2
    rw [hR.out]
    have hS5 := HS5.out
    rw [hDA.out] at hS5
    exact ⟨_, T0', TB, l, rfl, hS5, rfl, il_nil _, fun b hb => (by cases hb), (HF4.out.mono (fun _ _ e => e.elim)).trans' (Hs5.out.1.mono (fun _ _ e => .inl e)) (fun _ _ e => e), fun b hb => (Hs5.out.2 b hb).imp id (fun e => Nat.le_trans HF4.out.size e), fun b hb => .inl hb⟩
  rw [if_neg (by simpa using hq7)] at hRd
  subst hq7
  have hPk : mayL P = true := (plusF_ok HP.out).1
  have hPr := mayL_all hPk
  have hPok : ∀ p ∈ P, okS p.1 ∧ okI p.2 := fun p hp => by
    have h1 := hPr.row p hp
    have h2 := h1.1
    unfold goodB at h2
    simp only [Bool.and_eq_true, decide_eq_true_eq] at h2
    exact ⟨by unfold okS maxLen; omega, by unfold okI; omega⟩
  have hfinS : Hid (∀ (w1 w2 w4 w5 W7 : World) (T0' : Nat → Prop) (pa : Option Addr) (pc : Nat), Fr (fun _ => False) w2 w4 → Fr (fun _ => False) w w1 → w1.heap.size + 1 ≤ w2.heap.size → Fr (fun _ => False) w w4 → w4.ownsRow w2.heap.size 65 2 (.slice pa P.length pc) P.length (itCs P) → SB w5 g gs m T0' TB D l → Stp T0 w4 w5 T0' → Fr (fun b => b = w1.heap.size) w5 W7 →
      Calls Tryz.prog 32 #[.pointer (some ⟨g, 0, none⟩), .agg #[.int .i64 o, .slice none 0 0, .slice pa nP pc, .slice a3 n3 d3]] W7 fun e w6 => e = .returned (.tuple #[]) ∧ SB w6 g gs m T0' (fun b => TB b ∨ (w2.heap.size ≤ b ∧ b < w4.heap.size)) D (setH l ⟨o, .slice none 0 0, .slice pa nP pc, .slice a3 n3 d3, [], P, sh⟩) ∧ Fr (fun b => b = m) W7 w6) := Lib.hid (fun w1 w2 w4 w5 W7 T0' pa pc h34 hf1 hz hf4 ho hs hst hf5 => by
    have hsb := HSB.out
    have hlt := hsb.lt
    have z1 := hf1.size; have z4 := hf4.size; have z5 := hst.1.size; have z6 := hf5.size; have z34 := h34.size
    have hin : ∀ b, (b = g ∨ b = m ∨ T0' b ∨ TB b) → ¬ b = w1.heap.size := fun b hb e => by
      rcases hb with hb | hb | hb | hb
      · have := hlt b (.inl hb); omega
      · have := hlt b (.inr (.inl hb)); omega
      · rcases hst.2 b hb with hb | hb
        · have := hlt b (.inr (.inr (.inl hb))); omega
        · omega
      · have := hlt b (.inr (.inr (.inr hb))); omega
    have hS5 := hs.keep hf5 hin
    have hF : Fr (fun b => T0 b ∨ b = w1.heap.size) w W7 := ((hf4.mono (fun _ _ e => e.elim)).trans' (hst.1.mono (fun _ _ e => .inl e)) (fun _ _ e => e)).trans' (hf5.mono (fun _ _ e => .inr e)) (fun _ _ e => e)
    have hk1 : HOk W7 TB ⟨o, .slice a1 n1 d1, .slice a2 n2 d2, .slice a3 n3 d3, he, pi, sh⟩ := HHD.out.keep hF (fun b hb e => by
      rcases e with e | e
      · exact hsb.nb b hb e
      · exact hin b (.inr (.inr (.inr hb))) e)
    have hnil : ∀ TB : Nat → Prop, Lb W7 TB (.slice none 0 0) [] := fun TB => ⟨il_nil _, fun e => absurd rfl e⟩
    have hl0 := HLN.out; have hl1 := HN1.out; have hl2 := HN2.out; have hl3 := HN3.out
    have hi4 := (Il.own ho hPok)
    have hlP : Lb W7 (fun b => TB b ∨ (w2.heap.size ≤ b ∧ b < w4.heap.size)) (.slice pa nP pc) P := by
      have hfa : Fr (fun b => T0 b ∨ b = w1.heap.size) w4 W7 := (hst.1.mono (fun _ _ e => .inl e)).trans' (hf5.mono (fun _ _ e => .inr e)) (fun _ _ e => e)
      have h1 := hi4.1.keep hfa (fun _ b hb e => by
        have := hi4.2 b hb
        rcases e with e | e
        · have := hlt b (.inr (.inr (.inl e))); omega
        · omega)
      rw [hPN.out] at h1
      refine ⟨h1, fun _ b hb => .inr ?_⟩
      have := hi4.2 b (by rw [hPN.out]; exact hb)
      omega
    have hln := hPr.len
    have HTB : ∀ b, TB b → TB b ∨ (w2.heap.size ≤ b ∧ b < w4.heap.size) := fun b hb => .inl hb
    refine hset W7 g gs m T0' TB _ D l ⟨o, .slice none 0 0, .slice pa nP pc, .slice a3 n3 d3, [], P, sh⟩ hS5 HTB ⟨hk1.o, hnil _, hlP, hk1.ls.mono HTB⟩ (fun b hb => ?_) HLL.out (by dsimp only [List.length_nil]; omega)
    rcases hb with hb | hb
    · have hb1 := hsb.ltb b hb
      refine ⟨by omega, fun e => ?_, fun e => hsb.ng.2.1 (e ▸ hb), fun e => hsb.nm.2 (e ▸ hb)⟩
      rcases hst.2 b e with e | e
      · exact hsb.nb b hb e
      · omega
    · have hg := hlt g (.inl rfl); have hm' := hlt m (.inr (.inl rfl))
      refine ⟨by omega, fun e => ?_, fun e => by omega, fun e => by omega⟩
      rcases hst.2 b e with e | e
      · have := hlt b (.inr (.inr (.inl e))); omega
      · omega)
  have hfinC : Hid (∀ (w1 w4 w5 W7 w6 : World) (T0' : Nat → Prop), Fr (fun _ => False) w w1 → Fr (fun _ => False) w w4 → Stp T0 w4 w5 T0' → Fr (fun b => b = w1.heap.size) w5 W7 → Fr (fun b => b = m) W7 w6 →
      Calls Tryz.prog 33 #[.slice a1 n1 d1] w6 fun e w' => ∃ v', e = .returned v' ∧ w'.ownsRow w6.heap.size 65 2 v' n1 (itCs he) ∧ Fr (fun _ => False) w6 w') := Lib.hid (fun w1 w4 w5 W7 w6 T0' hf1 hf4 hst hf5 hf6 => by
    have hsb := HSB.out
    have hlt := hsb.lt
    have z1 := hf1.size
    have hfa : Fr (fun b => T0 b ∨ b = w1.heap.size ∨ b = m) w w6 := (((hf4.mono (fun _ _ e => e.elim)).trans' (hst.1.mono (fun _ _ e => .inl e)) (fun _ _ e => e)).trans' (hf5.mono (fun _ _ e => .inr (.inl e))) (fun _ _ e => e)).trans' (hf6.mono (fun _ _ e => .inr (.inr e))) (fun _ _ e => e)
    have hi6 := HHD.out.lh.keep hfa (fun b hb e => by
      rcases e with e | e | e
      · exact hsb.nb b hb e
      · have := hsb.ltb b hb; omega
      · exact hsb.nm.2 (e ▸ hb))
    have hl0 := HLN.out; have hl1 := HN1.out; have hl2 := HN2.out; have hl3 := HN3.out
    have := itClone w6 _ he hi6.1 (by omega)
    dsimp only at this
    rw [HN1.out] at this
    exact this)
  have hR := Lib.hid hRd
  clear hRd hDA0 hPk hPr hPok
  go_enter Tryz.func34, Tryz.ntmps34
  go_wp2_with (first
    | (go_at_call 26; refine hm.out.mono ?_; rintro e w0 ⟨rfl, rfl⟩)
    | (go_at_call 27; refine hh.out.mono ?_; rintro e w1 ⟨rfl, hf1⟩; have HF1 := Lib.hid hf1; clear hf1)
    | (go_at_call 36; refine (hmvP_of _ _).mono ?_; rintro e w2 ⟨rfl, hf2⟩; have hb2 := hf2.at_ (heap_at (w := w1) rfl (.cells #[.int .i64 o, .slice a1 n1 d1, .slice a2 n2 d2, .slice a3 n3 d3] 37)) (fun e => e); have HB2 := Lib.hid hb2; have y0 := cell_obj hb2 0 (.int .i64 o) rfl; have y1 := cell_obj hb2 1 (.slice a1 n1 d1) rfl; have y2 := cell_obj hb2 2 (.slice a2 n2 d2) rfl; have y3 := cell_obj hb2 3 (.slice a3 n3 d3) rfl; have HZ12 : Hid (w1.heap.size + 1 ≤ w2.heap.size) := Lib.hid (by have := hf2.size; rw [World.size_alloc] at this; exact this); have HF2 := Lib.hid ((HF1.out.alloc _).trans hf2); obtain ⟨g0, g1⟩ := hgc.out _ HF2.out; clear hf2 hb2)
    | (go_at_call 30; refine (hPl.out _ HF2.out).mono ?_; rintro e w4 ⟨v4, rfl, ho4, hf4⟩; obtain ⟨pa, pc, rfl⟩ := row_slice ho4; (try rw [hPN.out]); have HO4 := Lib.hid ho4; have HG4 := Lib.hid hf4; have HF4 := Lib.hid (HF2.out.trans hf4); have hb4 := hf4.at_ HB2.out (fun e => e); have HB4 := Lib.hid hb4; have z0 := cell_obj hb4 0 (.int .i64 o) rfl; have z1 := cell_obj hb4 1 (.slice a1 n1 d1) rfl; have z2 := cell_obj hb4 2 (.slice a2 n2 d2) rfl; have z3 := cell_obj hb4 3 (.slice a3 n3 d3) rfl; obtain ⟨g6, g7⟩ := hgc.out _ HF4.out; clear ho4 hf4 hb4)
    | (go_at_call 31; refine (hDo2.out _ HF4.out).mono ?_; rintro e w5 ⟨rfl, T0', hS5, hs5⟩; have HS5 := Lib.hid hS5; have Hs5 := Lib.hid hs5; have hb5 := hs5.1.at_ HB4.out (hnbT.out _ HF1.out.size); have f5 := obj_frozen hb5 1; have q0 := cell_obj hb5 0 (.int .i64 o) rfl; have q1 := cell_obj hb5 1 (.slice a1 n1 d1) rfl; have q2 := cell_obj hb5 2 (.slice a2 n2 d2) rfl; have q3 := cell_obj hb5 3 (.slice a3 n3 d3) rfl; obtain ⟨W6, hW6⟩ : ∃ W6, w5.setCell ⟨w1.heap.size, 1, none⟩ (.slice none 0 0) = W6 := ⟨_, rfl⟩; have hb6 := obj_set hb5 1 (.slice none 0 0); rw [hW6] at hb6; have hf56 : Fr (fun b => b = w1.heap.size) w5 W6 := (by rw [← hW6]; exact (Fr.refl (fun b => b = w1.heap.size) _).setCell (p := ⟨w1.heap.size, 1, none⟩) (fun _ => rfl) _); have r0 := cell_obj hb6 0 (.int .i64 o) rfl; have r1 := cell_obj hb6 1 (.slice none 0 0) rfl; have r2 := cell_obj hb6 2 (.slice a2 n2 d2) rfl; have r3 := cell_obj hb6 3 (.slice a3 n3 d3) rfl; have f6 := obj_frozen hb6 2; obtain ⟨W7, hW7⟩ : ∃ W7, W6.setCell ⟨w1.heap.size, 2, none⟩ (.slice pa nP pc) = W7 := ⟨_, rfl⟩; have hb7 := obj_set hb6 2 (.slice pa nP pc); rw [hW7] at hb7; have hf57 : Fr (fun b => b = w1.heap.size) w5 W7 := hf56.trans (by rw [← hW7]; exact (Fr.refl (fun b => b = w1.heap.size) _).setCell (p := ⟨w1.heap.size, 2, none⟩) (fun _ => rfl) _); have p0 := cell_obj hb7 0 (.int .i64 o) rfl; have p1 := cell_obj hb7 1 (.slice none 0 0) rfl; have p2 := cell_obj hb7 2 (.slice pa nP pc) rfl; have p3 := cell_obj hb7 3 (.slice a3 n3 d3) rfl; have hset5 := Lib.hid (hfinS.out w1 w2 w4 w5 W7 T0' pa pc HG4.out HF1.out HZ12.out HF4.out HO4.out HS5.out Hs5.out hf57); have HF57 := Lib.hid hf57; clear hS5 hs5 hb5 hb6 hf56 hf57)
    | (go_at_call 32; refine hset5.out.mono ?_; rintro e w8 ⟨rfl, hS6, hf6⟩; have HS6 := Lib.hid hS6; have HF6 := Lib.hid hf6; clear hS6 hf6)
    | (go_at_call 33; refine (hfinC.out w1 w4 w5 W7 w8 T0' HF1.out HF4.out Hs5.out HF57.out HF6.out).mono ?_; rintro e w9 ⟨v9, rfl, ho9, hf9⟩; obtain ⟨ra, rc, rfl⟩ := row_slice ho9; have HO9 := Lib.hid ho9; have HF9 := Lib.hid hf9; clear ho9 hf9))
  go_ret2
  rw [hR.out]
  have hlt := HSB.out.lt
  have z1 := HF1.out.size; have z12 := HZ12.out; have z4 := HF4.out.size; have z5 := Hs5.out.1.size; have z6 := HF57.out.size; have z7 := HF6.out.size; have z34 := HG4.out.size
  have hS7 := HS6.out.keep HF9.out (fun _ _ e => e)
  have hFk : ∀ p ∈ he, okS p.1 ∧ okI p.2 := fun p hp => il_okm' HHD.out.lh.1 hp
  have ho9 := HO9.out
  rw [← HN1.out] at ho9
  have hi7 := Il.own ho9 hFk
  have hlt6 := HS6.out.lt
  refine ⟨_, T0', _, _, rfl, hS7, setE_map _ _, by rw [HN1.out] at hi7; exact hi7.1, fun b hb => ?_, ?_, fun b hb => ?_, fun b hb => ?_⟩
  · have := hi7.2 b (by rw [HN1.out]; exact hb)
    exact ⟨by omega, this.2, fun e => by have := hlt6 b (.inr (.inr (.inl e))); omega, fun e => by have := hlt6 b (.inr (.inr (.inr e))); omega⟩
  · exact (((HF4.out.mono (fun _ _ e => e.elim)).trans' (Hs5.out.1.mono (fun _ _ e => .inl e)) (fun _ _ e => e)).trans' (HF57.out.mono (S' := fun b => b = w1.heap.size) (fun _ _ e => e)) (fun b hb e => by omega)).trans' ((HF6.out.mono (fun _ _ e => .inr e)).trans (HF9.out.mono (fun _ _ e => e.elim))) (fun _ _ e => e)
  · rcases Hs5.out.2 b hb with e | e
    · exact .inl e
    · exact .inr (by omega)
  · rcases hb with e | e
    · exact .inl e
    · exact .inr (by omega)
end Go.Proofs.YtogphlnakdnchaaGreat

