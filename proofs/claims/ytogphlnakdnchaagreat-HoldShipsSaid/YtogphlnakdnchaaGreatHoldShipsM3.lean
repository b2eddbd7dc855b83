/- Texts of this claim, joined: hold, plainly: a shelf stays as it should be; what is taken for an order, and what is shipped; Slices of bytes; cells: numbers as bytes: Num; cells.Num: walked; slices.Grow, slices.Concat, slices.Clone at bytes; slices.Concat, slices.Clone at bytes; cells.Maker: put, Num, Flag, New, Done; cells.Maker: Num, Flag, Done; slices.Clone; Slices of bytes as strings; their first bytes; cells.First: a number read; cells.Taker: Take, may, fault, Num, Flag, Done; cells.Taker: Flag, Done; what a cell reads as, plainly; What makers put, as states: plainly; cells: what First reads is what Num wrote: plainly; What makers put and takers take, as states: plainly; cells: Maker.Text; cells: Taker.Text; A variable that a loop appends to: what the append leaves; items: rows of the call's own, as slices of items; Items that are taken, plainly; append(row, source...) where the source may be nil, empty or not; rows of cells read out of memory; append(row, source...) at a step of a region that draws its order; hold: read; stock: Goods, the iterator; Offer. -/
import Derived.Test.YtogphlnakdnchaaGreatHoldShipsM2
import Derived.Test.YtogphlnakdnchaaGreatHoldShipsM1
import Derived.Test.YtogphlnakdnchaaGreatLen64
import Derived.Maps.AppendAt
import Derived.RangeFuncBox
import Derived.OwnWalk
import Derived.Laws.BitsAllLaws
import Derived.Deep.LoopGhost
import Derived.Deep.RegionWith
import Derived.Deep.QuietTactic
import Derived.BigQuiet
import Derived.Handy
import Derived.Lib.SliceRun
import Derived.Laws.BytesArg
import Derived.Deep.Slices
import Derived.Lib.ConvBytes
import Derived.Maps.OwnIn
import Derived.Deep.RegionHeld3
namespace Go.Proofs.YtogphlnakdnchaaGreat
open Go.RowKit Go.Maps
section
variable {ν : Type}
theorem riseO_ins {n : Int} {v : ν} : ∀ {l : List (Int × ν)}, l.Pairwise (fun p q => p.1 < q.1) → (∀ p ∈ l, p.1 ≠ n) → (insS ktI.lt (n, v) l).Pairwise (fun p q => p.1 < q.1)
  | [], _, _ => by simp [insS]
  | y :: r, h, hx => by
    obtain ⟨h1, h2⟩ := List.pairwise_cons.1 h
    have hy := hx y (by simp)
    show List.Pairwise _ (if ktI.lt n y.1 = true then (n, v) :: y :: r else y :: insS ktI.lt (n, v) r)
    by_cases hlt : n < y.1
    · have e : ktI.lt n y.1 = true := by show decide (n < y.1) = true; simpa using hlt
      rw [if_pos e]
      refine List.pairwise_cons.2 ⟨fun p hp => ?_, h⟩
      rcases List.mem_cons.1 hp with rfl | hp
      · exact hlt
      · have := h1 p hp; show n < p.1; omega
    · have e : ¬ ktI.lt n y.1 = true := by show ¬ decide (n < y.1) = true; simpa using hlt
      rw [if_neg e]
      refine List.pairwise_cons.2 ⟨fun p hp => ?_, riseO_ins h2 (fun p hp => hx p (List.mem_cons_of_mem _ hp))⟩
      rcases List.mem_cons.1 ((insK_perm ktI.lt (n, v) r).mem_iff.1 hp) with rfl | hp
      · show y.1 < n; omega
      · exact h1 p hp
theorem riseO_put {n : Int} {v : ν} {l : List (Int × ν)} (h : l.Pairwise (fun p q => p.1 < q.1)) : (putS ktI.lt l n v).Pairwise (fun p q => p.1 < q.1) :=
  riseO_ins (h.sublist List.filter_sublist) (fun p hp => by simpa [delS] using (List.mem_filter.1 hp).2)
theorem riseO_nd {l : List (Int × ν)} (h : l.Pairwise (fun p q => p.1 < q.1)) : (l.map (·.1)).Nodup := by
  rw [List.Nodup, List.pairwise_map]
  refine List.Pairwise.imp ?_ h
  intro p q e h
  omega
end
theorem HE.empty {x : HE} (h : x.num = 0) : x = ⟨x.o, [], [], []⟩ := by
  obtain ⟨o, a, b, c⟩ := x
  unfold HE.num at h
  dsimp only at h
  rw [List.eq_nil_of_length_eq_zero (show a.length = 0 by omega), List.eq_nil_of_length_eq_zero (show b.length = 0 by omega), List.eq_nil_of_length_eq_zero (show c.length = 0 by omega)]
theorem heOf_set {le : Hes} (h : le.Pairwise (fun p q => p.1 < q.1)) (x : HE) (y : Int) : heOf (setE le x) y = if x.o = y then x else heOf le y := by
  unfold heOf setE
  by_cases hn : x.num = 0
  · rw [if_pos hn, getS_del]
    by_cases e : x.o = y
    · rw [if_pos e, if_pos e, ← e]
      exact (HE.empty hn).symm
    · rw [if_neg e, if_neg e]
  · rw [if_neg hn, getK_put (riseO_nd h)]
    by_cases e : x.o = y
    · rw [if_pos e, if_pos e]; rfl
    · rw [if_neg e, if_neg e]
theorem del_less {le : Hes} {o : Int} (h : (getS le o).isNone = false) : (delS le o).length < le.length := by
  cases e : getS le o with
  | none => rw [e] at h; cases h
  | some x =>
    have hm := getK_mem e
    unfold delS
    refine List.length_filter_lt_length_iff_exists.2 ⟨_, hm, by simp⟩
theorem ShOk.set {A A' : Stk} {le : Hes} {x : HE} (h : ShOk A le) (hA : SOk A') (ho : 1 ≤ x.o ∧ x.o ≤ 1099511627776) (h1 : mayL x.he = true) (h2 : mayL x.pi = true) (h3 : mayL x.sh = true) (hl : (getS le x.o).isNone = true → le.length < 256) : ShOk A' (setE le x) := by
  unfold setE
  by_cases hn : x.num = 0
  · rw [if_pos hn]
    refine ⟨hA, h.rise.sublist List.filter_sublist, fun p hp => h.row p (List.mem_filter.1 hp).1, ?_⟩
    have := List.length_filter_le (fun p : Int × HE => !decide (p.1 = x.o)) le
    have := h.len
    unfold delS
    omega
  · rw [if_neg hn]
    refine ⟨hA, riseO_put h.rise, fun p hp => ?_, ?_⟩
    · rcases mem_putK.1 hp with rfl | ⟨hp, -⟩
      · exact ⟨rfl, ho, h1, h2, h3, hn⟩
      · exact h.row p hp
    · have h4 := h.len
      cases hg : (getS le x.o).isNone with
      | true =>
        have := putK_len ktI.lt le x.o x
        have := hl hg
        omega
      | false =>
        have h5 := del_less hg
        have h6 : (putS ktI.lt le x.o x).length = (delS le x.o).length + 1 := by
          unfold putS
          rw [(insK_perm ktI.lt (x.o, x) _).length_eq, List.length_cons]
        omega
theorem mayO_may {o : Int} (h : ¬ mayO o ≠ 0) : 1 ≤ o ∧ o ≤ 1099511627776 := by
  unfold mayO at h
  split at h
  · rename_i h2; exact h2
  · exact absurd (by decide) h
theorem heOf_o' {A : Stk} {le : Hes} (h : ShOk A le) (o : Int) : (heOf le o).o = o := heOf_o (fun p hp => (h.row p hp).eq.symm)
/-- What a call leaves of what was taken and what was shipped of one good. -/
def HE.of (x : HE) (s : Str) : Int := getI x.he s + getI x.pi s + getI x.sh s
/-- A call's answer is in order, and the shelf behind it; beside the order nothing changes; no more comes than c says. -/
structure StepOk (le : Hes) (o : Int) (R : (Its × Int) × Stk × Hes) : Prop where
  sh : ShOk R.2.1 R.2.2
  out : mayL R.1.1 = true
  same : ∀ y, y ≠ o → heOf R.2.2 y = heOf le y
theorem HE.get0 (x : HE) : x.get 0 = x.he := rfl
theorem HE.get1 (x : HE) : x.get 1 = x.pi := rfl
theorem HE.get2 (x : HE) : x.get 2 = x.sh := rfl
theorem HE.set0 (x : HE) (L : Its) : x.set 0 L = { x with he := L } := rfl
theorem HE.set1 (x : HE) (L : Its) : x.set 1 L = { x with pi := L } := rfl
theorem HE.set2 (x : HE) (L : Its) : x.set 2 L = { x with sh := L } := rfl
theorem StepOk.no {A : Stk} {le : Hes} {o c : Int} (h : ShOk A le) : StepOk le o (([], c), A, le) := ⟨h, rfl, fun y _ => rfl⟩
theorem take_ok {A : Stk} {le : Hes} {o : Int} {L : Its} (h : ShOk A le) : StepOk le o (takeE A le o L) ∧ ∀ s, (heOf (takeE A le o L).2.2 o).of s = (heOf le o).of s + getI (takeE A le o L).1.1 s ∧ (heOf (takeE A le o L).2.2 o).sh = (heOf le o).sh := by
  unfold takeE
  have hz : ∀ c : Int, StepOk le o (([], c), A, le) ∧ ∀ s, (heOf le o).of s = (heOf le o).of s + getI [] s ∧ (heOf le o).sh = (heOf le o).sh := fun c => ⟨StepOk.no h, fun s => ⟨by rw [getI_nil]; omega, rfl⟩⟩
  split
  · exact hz _
  rename_i ho
  split
  · exact hz _
  split
  · exact hz _
  split
  · exact hz _
  split
  · exact hz _
  rename_i hf
  split
  · exact hz _
  rename_i hp
  split
  · exact hz _
  obtain ⟨r, hr⟩ : ∃ r, plusF (heOf le o).he (offerS A L) = (r, 0) := ⟨_, Prod.ext rfl (by simpa using hp)⟩
  obtain ⟨p1, p2, p3, p4⟩ := plusF_ok hr
  rw [hr]
  have hm := heOf_may h.row o
  have hoo := heOf_o' h o
  have hs : ∀ y, heOf (setE le { heOf le o with he := r }) y = if o = y then { heOf le o with he := r } else heOf le y := fun y => by
    rw [heOf_set h.rise]
    show (if (heOf le o).o = y then _ else _) = _
    rw [hoo]
  refine ⟨⟨h.set (doS_ok h.stk) (by show 1 ≤ (heOf le o).o ∧ _; rw [hoo]; exact mayO_may ho) p1 hm.2.1 hm.2.2 (fun e => ?_), p3, fun y hy => ?_⟩, fun s => ?_⟩
  · have e : (getS le (heOf le o).o).isNone = true := e
    rw [hoo] at e
    exact Nat.lt_of_not_le (fun h2 => hf ⟨e, h2⟩)
  · rw [hs, if_neg (fun e => hy e.symm)]
  · rw [hs, if_pos rfl]
    refine ⟨?_, rfl⟩
    show getI r s + getI (heOf le o).pi s + getI (heOf le o).sh s = (getI (heOf le o).he s + getI (heOf le o).pi s + getI (heOf le o).sh s) + getI (offerS A L) s
    rw [p4]; omega
theorem move_cases (A : Stk) (le : Hes) (o k : Int) (i j : Nat) : (∃ c, moveS A le o k i (some j) = (([], c), A, le)) ∨ (¬ mayO o ≠ 0 ∧ (heOf le o).get i ≠ [] ∧ (plusF ((heOf le o).get j) ((heOf le o).get i)).2 = 0 ∧
    moveS A le o k i (some j) = (((heOf le o).get i, 0), (doS A k ((heOf le o).get i)).2, setE le (((heOf le o).set i []).set j (plusF ((heOf le o).get j) ((heOf le o).get i)).1))) := by
  unfold moveS
  split
  · exact .inl ⟨_, rfl⟩
  rename_i h1
  split
  · exact .inl ⟨_, rfl⟩
  rename_i h2
  dsimp only
  split
  · exact .inl ⟨_, rfl⟩
  rename_i h3
  split
  · exact .inl ⟨_, rfl⟩
  exact .inr ⟨h1, h2, by simpa using h3, rfl⟩
theorem move_cases0 (A : Stk) (le : Hes) (o k : Int) (i : Nat) : (∃ c, moveS A le o k i none = (([], c), A, le)) ∨ (¬ mayO o ≠ 0 ∧ (heOf le o).get i ≠ [] ∧
    moveS A le o k i none = (((heOf le o).get i, 0), (doS A k ((heOf le o).get i)).2, setE le ((heOf le o).set i []))) := by
  unfold moveS
  split
  · exact .inl ⟨_, rfl⟩
  rename_i h1
  split
  · exact .inl ⟨_, rfl⟩
  rename_i h2
  dsimp only
  split
  · exact .inl ⟨_, rfl⟩
  exact .inr ⟨h1, h2, rfl⟩
set_option maxRecDepth 10000 in
theorem freeM_ok {A : Stk} {le : Hes} {o : Int} (h : ShOk A le) : StepOk le o (moveS A le o 3 0 none) ∧ ∀ s, (heOf (moveS A le o 3 0 none).2.2 o).of s ≤ (heOf le o).of s ∧ getI (heOf (moveS A le o 3 0 none).2.2 o).sh s = getI (heOf le o).sh s := by
  have hz : ∀ c : Int, StepOk le o (([], c), A, le) ∧ ∀ s, (heOf le o).of s ≤ (heOf le o).of s ∧ getI (heOf le o).sh s = getI (heOf le o).sh s := fun c => ⟨StepOk.no h, fun s => ⟨Int.le_refl _, rfl⟩⟩
  rcases move_cases0 A le o 3 0 with ⟨c, e⟩ | ⟨ho, hne, e⟩
  · rw [e]; exact hz c
  rw [e]
  simp only [HE.get0, HE.get1, HE.get2, HE.set0, HE.set1, HE.set2] at hne ⊢
  have hm := heOf_may h.row o
  have hoo := heOf_o' h o
  have hs : ∀ y, heOf (setE le { heOf le o with he := [] }) y = if o = y then { heOf le o with he := [] } else heOf le y := fun y => by
    rw [heOf_set h.rise]
    show (if (heOf le o).o = y then _ else _) = _
    rw [hoo]
  refine ⟨⟨h.set (doS_ok h.stk) (by show 1 ≤ (heOf le o).o ∧ _; rw [hoo]; exact mayO_may ho) rfl hm.2.1 hm.2.2 (fun e => ?_), hm.1, fun y hy => ?_⟩, fun s => ?_⟩
  · have e : (getS le (heOf le o).o).isNone = true := e
    rw [hoo] at e
    exact absurd (show (heOf le o).he = [] by unfold heOf; cases e2 : getS le o with | none => rfl | some v => rw [e2] at e; cases e) hne
  · show heOf (setE le { heOf le o with he := [] }) y = _
    rw [hs, if_neg (fun e => hy e.symm)]
  · show (heOf (setE le { heOf le o with he := [] }) o).of s ≤ _ ∧ getI (heOf (setE le { heOf le o with he := [] }) o).sh s = _
    rw [hs, if_pos rfl]
    unfold HE.of
    dsimp only
    have n1 := getI_nn s (L := (heOf le o).he) (fun q hq => by have := (mayL_all hm.1).row q hq; omega)
    refine ⟨by rw [getI_nil]; omega, rfl⟩
set_option maxRecDepth 10000 in
theorem pickM_ok {A : Stk} {le : Hes} {o : Int} (h : ShOk A le) : StepOk le o (moveS A le o 4 0 (some 1)) ∧ ∀ s, (heOf (moveS A le o 4 0 (some 1)).2.2 o).of s ≤ (heOf le o).of s ∧ getI (heOf (moveS A le o 4 0 (some 1)).2.2 o).sh s = getI (heOf le o).sh s := by
  have hz : ∀ c : Int, StepOk le o (([], c), A, le) ∧ ∀ s, (heOf le o).of s ≤ (heOf le o).of s ∧ getI (heOf le o).sh s = getI (heOf le o).sh s := fun c => ⟨StepOk.no h, fun s => ⟨Int.le_refl _, rfl⟩⟩
  rcases move_cases A le o 4 0 1 with ⟨c, e⟩ | ⟨ho, hne, hp, e⟩
  · rw [e]; exact hz c
  rw [e]
  simp only [HE.get0, HE.get1, HE.get2, HE.set0, HE.set1, HE.set2] at hne hp ⊢
  obtain ⟨r, hr⟩ : ∃ r, plusF (heOf le o).pi (heOf le o).he = (r, 0) := ⟨_, Prod.ext rfl hp⟩
  obtain ⟨p1, p2, p3, p4⟩ := plusF_ok hr
  rw [hr]
  have hm := heOf_may h.row o
  have hoo := heOf_o' h o
  have hs : ∀ y, heOf (setE le { heOf le o with he := [], pi := r }) y = if o = y then { heOf le o with he := [], pi := r } else heOf le y := fun y => by
    rw [heOf_set h.rise]
    show (if (heOf le o).o = y then _ else _) = _
    rw [hoo]
  refine ⟨⟨h.set (doS_ok h.stk) (by show 1 ≤ (heOf le o).o ∧ _; rw [hoo]; exact mayO_may ho) rfl p1 hm.2.2 (fun e => ?_), hm.1, fun y hy => ?_⟩, fun s => ?_⟩
  · have e : (getS le (heOf le o).o).isNone = true := e
    rw [hoo] at e
    exact absurd (show (heOf le o).he = [] by unfold heOf; cases e2 : getS le o with | none => rfl | some v => rw [e2] at e; cases e) hne
  · show heOf (setE le { heOf le o with he := [], pi := r }) y = _
    rw [hs, if_neg (fun e => hy e.symm)]
  · show (heOf (setE le { heOf le o with he := [], pi := r }) o).of s ≤ _ ∧ getI (heOf (setE le { heOf le o with he := [], pi := r }) o).sh s = _
    rw [hs, if_pos rfl]
    unfold HE.of
    dsimp only
    have n1 := getI_nn s (L := (heOf le o).he) (fun q hq => by have := (mayL_all hm.1).row q hq; omega)
    have p5 := p4 s; rw [getI_nil]; constructor <;> omega
set_option maxRecDepth 10000 in
theorem unpickM_ok {A : Stk} {le : Hes} {o : Int} (h : ShOk A le) : StepOk le o (moveS A le o 5 1 (some 0)) ∧ ∀ s, (heOf (moveS A le o 5 1 (some 0)).2.2 o).of s ≤ (heOf le o).of s ∧ getI (heOf (moveS A le o 5 1 (some 0)).2.2 o).sh s = getI (heOf le o).sh s := by
  have hz : ∀ c : Int, StepOk le o (([], c), A, le) ∧ ∀ s, (heOf le o).of s ≤ (heOf le o).of s ∧ getI (heOf le o).sh s = getI (heOf le o).sh s := fun c => ⟨StepOk.no h, fun s => ⟨Int.le_refl _, rfl⟩⟩
  rcases move_cases A le o 5 1 0 with ⟨c, e⟩ | ⟨ho, hne, hp, e⟩
  · rw [e]; exact hz c
  rw [e]
  simp only [HE.get0, HE.get1, HE.get2, HE.set0, HE.set1, HE.set2] at hne hp ⊢
  obtain ⟨r, hr⟩ : ∃ r, plusF (heOf le o).he (heOf le o).pi = (r, 0) := ⟨_, Prod.ext rfl hp⟩
  obtain ⟨p1, p2, p3, p4⟩ := plusF_ok hr
  rw [hr]
  have hm := heOf_may h.row o
  have hoo := heOf_o' h o
  have hs : ∀ y, heOf (setE le { heOf le o with pi := [], he := r }) y = if o = y then { heOf le o with pi := [], he := r } else heOf le y := fun y => by
    rw [heOf_set h.rise]
    show (if (heOf le o).o = y then _ else _) = _
    rw [hoo]
  refine ⟨⟨h.set (doS_ok h.stk) (by show 1 ≤ (heOf le o).o ∧ _; rw [hoo]; exact mayO_may ho) p1 rfl hm.2.2 (fun e => ?_), hm.2.1, fun y hy => ?_⟩, fun s => ?_⟩
  · have e : (getS le (heOf le o).o).isNone = true := e
    rw [hoo] at e
    exact absurd (show (heOf le o).pi = [] by unfold heOf; cases e2 : getS le o with | none => rfl | some v => rw [e2] at e; cases e) hne
  · show heOf (setE le { heOf le o with pi := [], he := r }) y = _
    rw [hs, if_neg (fun e => hy e.symm)]
  · show (heOf (setE le { heOf le o with pi := [], he := r }) o).of s ≤ _ ∧ getI (heOf (setE le { heOf le o with pi := [], he := r }) o).sh s = _
    rw [hs, if_pos rfl]
    unfold HE.of
    dsimp only
    have n1 := getI_nn s (L := (heOf le o).he) (fun q hq => by have := (mayL_all hm.1).row q hq; omega)
    have p5 := p4 s; rw [getI_nil]; constructor <;> omega
set_option maxRecDepth 10000 in
theorem shipM_ok {A : Stk} {le : Hes} {o : Int} (h : ShOk A le) : StepOk le o (moveS A le o 6 1 (some 2)) ∧ ∀ s, (heOf (moveS A le o 6 1 (some 2)).2.2 o).of s ≤ (heOf le o).of s ∧ getI (heOf (moveS A le o 6 1 (some 2)).2.2 o).sh s = getI (heOf le o).sh s + getI (moveS A le o 6 1 (some 2)).1.1 s := by
  have hz : ∀ c : Int, StepOk le o (([], c), A, le) ∧ ∀ s, (heOf le o).of s ≤ (heOf le o).of s ∧ getI (heOf le o).sh s = getI (heOf le o).sh s + getI [] s := fun c => ⟨StepOk.no h, fun s => ⟨Int.le_refl _, by rw [getI_nil]; omega⟩⟩
  rcases move_cases A le o 6 1 2 with ⟨c, e⟩ | ⟨ho, hne, hp, e⟩
  · rw [e]; exact hz c
  rw [e]
  simp only [HE.get0, HE.get1, HE.get2, HE.set0, HE.set1, HE.set2] at hne hp ⊢
  obtain ⟨r, hr⟩ : ∃ r, plusF (heOf le o).sh (heOf le o).pi = (r, 0) := ⟨_, Prod.ext rfl hp⟩
  obtain ⟨p1, p2, p3, p4⟩ := plusF_ok hr
  rw [hr]
  have hm := heOf_may h.row o
  have hoo := heOf_o' h o
  have hs : ∀ y, heOf (setE le { heOf le o with pi := [], sh := r }) y = if o = y then { heOf le o with pi := [], sh := r } else heOf le y := fun y => by
    rw [heOf_set h.rise]
    show (if (heOf le o).o = y then _ else _) = _
    rw [hoo]
  refine ⟨⟨h.set (doS_ok h.stk) (by show 1 ≤ (heOf le o).o ∧ _; rw [hoo]; exact mayO_may ho) hm.1 rfl p1 (fun e => ?_), hm.2.1, fun y hy => ?_⟩, fun s => ?_⟩
  · have e : (getS le (heOf le o).o).isNone = true := e
    rw [hoo] at e
    exact absurd (show (heOf le o).pi = [] by unfold heOf; cases e2 : getS le o with | none => rfl | some v => rw [e2] at e; cases e) hne
  · show heOf (setE le { heOf le o with pi := [], sh := r }) y = _
    rw [hs, if_neg (fun e => hy e.symm)]
  · show (heOf (setE le { heOf le o with pi := [], sh := r }) o).of s ≤ _ ∧ getI (heOf (setE le { heOf le o with pi := [], sh := r }) o).sh s = _
    rw [hs, if_pos rfl]
    unfold HE.of
    dsimp only
    have n1 := getI_nn s (L := (heOf le o).he) (fun q hq => by have := (mayL_all hm.1).row q hq; omega)
    have p5 := p4 s; rw [getI_nil]; constructor <;> omega
theorem free_ok {A : Stk} {le : Hes} {o : Int} (h : ShOk A le) : StepOk le o (freeE A le o) ∧ ∀ s, (heOf (freeE A le o).2.2 o).of s ≤ (heOf le o).of s ∧ getI (heOf (freeE A le o).2.2 o).sh s = getI (heOf le o).sh s := by
  have hz : ∀ c : Int, StepOk le o (([], c), A, le) ∧ ∀ s, (heOf le o).of s ≤ (heOf le o).of s ∧ getI (heOf le o).sh s = getI (heOf le o).sh s := fun c => ⟨StepOk.no h, fun s => ⟨Int.le_refl _, rfl⟩⟩
  unfold freeE
  split
  · exact hz _
  split
  · exact hz _
  exact freeM_ok h
theorem do_ok {A : Stk} {le : Hes} {k : Int} {L : Its} (h : ShOk A le) : ShOk (doH A k L).2 le := by
  unfold doH
  split
  · exact ⟨doS_ok h.stk, h.rise, h.row, h.len⟩
  · exact h
end Go.Proofs.YtogphlnakdnchaaGreat

namespace Go.Proofs.YtogphlnakdnchaaGreat
open Go.RowKit
/-- Bytes. -/
def Bs (w : World) (v : Value) (bs : List Int) : Prop := bs.length ≤ 9223372036854775807 ∧ ∃ (a : Option Addr) (c : Nat), v = .slice a bs.length c ∧ ∀ (i : Nat) (x : Int), bs[i]? = some x → 0 ≤ x ∧ x < 256 ∧ ∃ ad, a = some ad ∧ w.cell? (ad.add i) = some (.int .u8 x)
theorem Bs.nil (w : World) : Bs w (.slice none 0 0) [] := ⟨by simp, none, 0, rfl, fun i x h => by simp at h⟩
theorem Bs.fr {S : Nat → Prop} {w w' : World} {v : Value} {bs : List Int} (h : Bs w v bs) (hf : Fr S w w') (hS : ∀ b, S b → w.heap.size ≤ b) : Bs w' v bs := by
  obtain ⟨h0, a, c, e, h1⟩ := h
  refine ⟨h0, a, c, e, fun i x hx => ?_⟩
  obtain ⟨b1, b2, ad, e, hc⟩ := h1 i x hx
  exact ⟨b1, b2, ad, e, hf.cell hc (fun hs => by have := hS _ hs; have := World.block_lt_of_cell? w _ hc; omega)⟩
end Go.Proofs.YtogphlnakdnchaaGreat

namespace Go.Proofs.YtogphlnakdnchaaGreat
open Go.RowKit Go.Maps
theorem infoU8 : (Tryz.prog.info? 5).map (fun i => (i.zero, i.size, i.bytes)) = some (some (.int .u8 0), 1, 1) := by kernel_rfl
/-- k bytes of u, the highest first. -/
def beB (u : Nat) : Nat → List Int
  | 0 => []
  | k + 1 => ((u / 256 ^ k % 256 : Nat) : Int) :: beB u k
def nSz (u : Nat) : Nat := (Lib.bitLen u + 7) / 8
def numH (n : Int) : Int := if n < 0 then 144 else 128
def numU (n : Int) : Nat := if n < 0 then (-1 - n).toNat else n.toNat
/-- A number's cell. -/
def numB (n : Int) : List Int := if 0 ≤ n ∧ n < 128 then [n] else (numH n + nSz (numU n)) :: beB (numU n) (nSz (numU n))
theorem beB_len (u : Nat) : ∀ k, (beB u k).length = k
  | 0 => rfl
  | k + 1 => by simp [beB, beB_len u k]
/-- Bytes as values. -/
def u8s (l : List Int) : List Value := l.map (.int .u8)
/-- Bytes that lie in memory from block B on. -/
def Bn (B : Nat) (w : World) (v : Value) (bs : List Int) : Prop := Bs w v bs ∧ ∀ b, v.ownBlock = some b → B ≤ b
theorem beB_mem {u k : Nat} {x : Int} (h : x ∈ beB u k) : 0 ≤ x ∧ x < 256 := by
  induction k with
  | zero => cases h
  | succ k ih =>
    simp only [beB, List.mem_cons] at h
    rcases h with rfl | h
    · omega
    · exact ih h
theorem nSz_le {u : Nat} (h : u < 18446744073709551616) : nSz u ≤ 8 := by
  have := Lib.bitLen_le u 64 (by omega) h
  unfold nSz; omega
theorem numU_lt {n : Int} (h : okI n) : numU n < 9223372036854775808 := by unfold numU okI at *; split <;> omega
theorem numB_mem {n : Int} (h : okI n) {x : Int} (hx : x ∈ numB n) : 0 ≤ x ∧ x < 256 := by
  unfold numB at hx
  split at hx
  · simp at hx; omega
  · simp only [List.mem_cons] at hx
    rcases hx with rfl | hx
    · have := nSz_le (u := numU n) (by have := numU_lt h; omega)
      unfold numH; split <;> omega
    · exact beB_mem hx
theorem numB_len {n : Int} (h : okI n) : 1 ≤ (numB n).length ∧ (numB n).length ≤ 9 := by
  unfold numB
  split
  · simp
  · have := nSz_le (u := numU n) (by have := numU_lt h; omega)
    simp [beB_len]; omega
/-- A row of the call's own, read as bytes. -/
theorem Bs.own {w : World} {base : Nat} {v : Value} {bs : List Int} (h : w.ownsRow base 5 1 v bs.length (u8s bs)) (hb : ∀ x ∈ bs, 0 ≤ x ∧ x < 256) : Bn base w v bs := by
  rcases Nat.eq_zero_or_pos bs.length with h0 | h0
  · have : bs = [] := List.eq_nil_of_length_eq_zero h0
    subst this
    obtain ⟨hl, h1 | ⟨g, cap, cur, rfl, hbs, hh, hn, hm, hs, ht⟩⟩ := h
    · obtain ⟨rfl, -⟩ := h1
      exact ⟨Bs.nil w, fun b hb => by cases hb⟩
    · exact ⟨⟨by simp, _, cap, rfl, fun i x hx => by simp at hx⟩, fun b hb => by cases hb; exact hbs⟩
  · obtain ⟨g, cap, rfl, hg, hlt⟩ := h.form h0
    refine ⟨⟨?_, _, cap, rfl, fun i x hx => ?_⟩, fun b hb => by cases hb; exact hg⟩
    · obtain ⟨-, h1 | ⟨g', cap', cur, e, _, _, hn, hm, _, _⟩⟩ := h
      · omega
      · have hm : cap' ≤ 9223372036854775807 := hm
        omega
    · have hi := (List.getElem?_eq_some_iff.1 hx).1
      have hmem : x ∈ bs := List.mem_of_getElem? hx
      refine ⟨(hb x hmem).1, (hb x hmem).2, _, rfl, ?_⟩
      have := h.cellAt (g := g) (j := i) (by simpa using hi)
      rw [show (⟨g, 0, none⟩ : Addr).add i = ⟨g, i, none⟩ by simp [Addr.add]; omega, this]
      simp [u8s, hx]
end Go.Proofs.YtogphlnakdnchaaGreat

namespace Go.Proofs.YtogphlnakdnchaaGreat
open Go.RowKit Go.Maps
theorem beB_get (u : Nat) : ∀ {s k : Nat}, k < s → (beB u s)[k]? = some ((u / 256 ^ (s - 1 - k) % 256 : Nat) : Int)
  | 0, _, h => by omega
  | s + 1, 0, _ => by simp [beB]
  | s + 1, k + 1, h => by
    have := beB_get u (s := s) (k := k) (by omega)
    simp only [beB, List.getElem?_cons_succ]
    rw [this, show s + 1 - 1 - (k + 1) = s - 1 - k by omega]
theorem cClip (w : World) (a : Addr) (n c : Nat) (h : n ≤ c) (hc : c ≤ 9223372036854775807) : Calls Tryz.prog 115 #[.slice (some a) n c] w fun e w' => e = .returned (.slice (some a) n n) ∧ w = w' := by
  go_enter Tryz.func115, Tryz.ntmps115
  go_wp2
  go_ret
  exact ⟨rfl, rfl⟩
theorem pow256 (U m : Nat) : ((U : Int) / 2 ^ (8 * m)) % 256 = ((U / 256 ^ m % 256 : Nat) : Int) := by
  have : (2 : Int) ^ (8 * m) = ((256 ^ m : Nat) : Int) := by
    rw [Int.pow_mul]; simp
  rw [this]; simp
theorem own_cap {w : World} {base : Nat} {e : TypeId} {size n m cap : Nat} {a : Addr} {xs : List Value} (h : w.ownsRow base e size (.slice (some a) n cap) m xs) : n ≤ cap ∧ cap ≤ 9223372036854775807 := by
  rcases h.2 with ⟨h0, _⟩ | ⟨g, c, cur, e1, _, _, h1, h2, _⟩
  · cases h0
  · injection e1 with e2 e3 e4
    subst e3 e4
    exact ⟨h1, h2⟩
theorem Bn.clip {B : Nat} {w : World} {a : Option Addr} {n c c' : Nat} {bs : List Int} (h : Bn B w (.slice a n c) bs) : Bn B w (.slice a n c') bs := by
  obtain ⟨⟨h0, a', c1, e, h1⟩, h2⟩ := h
  injection e with e1 e2 e3
  subst e1 e2
  exact ⟨⟨h0, _, c', rfl, h1⟩, fun b hb => h2 b (by cases a <;> exact hb)⟩
theorem xorOnes (m : Nat) (h : m < 18446744073709551616) : 18446744073709551615 ^^^ m = 18446744073709551615 - m := by
  have h1 := congrArg BitVec.toNat (BitVec.allOnes_xor (x := BitVec.ofNat 64 m))
  rw [BitVec.toNat_xor, BitVec.toNat_not, BitVec.toNat_allOnes, BitVec.toNat_ofNat, Nat.mod_eq_of_lt (by simpa using h)] at h1
  simpa using h1
theorem notU64 {n : Int} (h0 : -9223372036854775808 ≤ n) (h1 : n < 0) : bits BinOp.xor IntKind.u64 IntKind.u64.max (IntKind.u64.wrap n) = ((-1 - n).toNat : Int) := by
  have e1 : IntKind.u64.max = ((18446744073709551615 : Nat) : Int) := by decide
  have e2 : IntKind.u64.wrap n = ((n + 18446744073709551616).toNat : Int) := by
    show n % 18446744073709551616 = _
    omega
  rw [e1, e2, u64_xor_nat _ _ (by omega) (by omega), xorOnes _ (by omega)]
  omega
set_option maxRecDepth 100000 in
set_option maxHeartbeats 2000000 in
theorem cNum (w : World) (n : Int) (hn : okI n) : Calls Tryz.prog 90 #[.int .i64 n] w fun e w' => ∃ v, e = .returned v ∧ Bn w.heap.size w' v (numB n) ∧ Below w.heap.size w w' := by
  obtain ⟨i0, hi', hz0, hz1, hz2⟩ := info_parts infoU8
  have HN := Lib.hid hn
  unfold okI at hn
  by_cases h : 0 ≤ n ∧ n < 128
  · obtain ⟨h0, h1⟩ := h
    have e : numB n = [n] := by unfold numB; rw [if_pos ⟨h0, h1⟩]
    rw [e]
    go_enter Tryz.func90, Tryz.ntmps90
    go_wp2
    go_ret
    exact ⟨_, rfl, Bs.own (w := w.alloc (.cells #[.int .u8 n] 5)) (base := w.heap.size) ⟨by simp [u8s], .inr ⟨_, _, _, rfl, Nat.le_refl _, heap_new _ _, by simp, by decide, by simp, by simp [u8s]⟩⟩ (fun x hx => by simp at hx; omega), (Below.refl _ _).alloc (Nat.le_refl _) _⟩
  · obtain ⟨U, hU⟩ : ∃ U, numU n = U := ⟨_, rfl⟩
    have hU1 := numU_lt HN.out
    have e : numB n = (numH n + nSz U) :: beB U (nSz U) := by unfold numB; rw [if_neg h, hU]
    rw [e]
    rw [hU] at hU1
    obtain ⟨s, hs⟩ : ∃ s, nSz U = s := ⟨_, rfl⟩
    rw [hs]
    have hs8 : s ≤ 8 := by rw [← hs]; exact nSz_le (by omega)
    have hLen := bLen64 (U : Int) w (by omega) (by omega)
    rw [show (U : Int).toNat = U from rfl] at hLen
    obtain ⟨bl, hbl⟩ : ∃ bl, Lib.bitLen U = bl := ⟨_, rfl⟩
    have hbs : (bl + 7) / 8 = s := by rw [← hs, ← hbl]; rfl
    rw [hbl] at hLen
    have hbl64 : bl ≤ 64 := by rw [← hbl]; exact Lib.bitLen_le U 64 (by omega) (by omega)
    have HL := Lib.hid hLen
    clear hLen
    rcases (by omega : n < 0 ∨ 128 ≤ n) with hneg | hpos
    · have hH : numH n = 144 := if_pos hneg
      have hX := notU64 hn.1 hneg
      have hUn : (-1 - n).toNat = U := by rw [← hU]; unfold numU; rw [if_pos hneg]
      rw [hUn] at hX
      rw [hH]
      clear hU hs hbl h e
      go_enter Tryz.func90, Tryz.ntmps90
      go_wp2_with fail
      refine HL.out.mono ?_
      rintro e w' ⟨rfl, hww⟩
      have hww := hww.symm
      subst hww
      go_wp2_with fail
      go_loopw [6, 7] (fun o i wr => ∃ k : Nat, k ≤ s ∧ i = .int .i64 ((s : Int) - 1 - k) ∧ wr.ownsRow w.heap.size 5 1 o (1 + k) (u8s ((144 + (s : Int)) :: (beB U s).take k)) ∧ Below w.heap.size w wr) (fun _ i _ => (intOf i + 1).toNat)
      case atStart =>
        refine ⟨0, by omega, val_int (by omega), ⟨by simp [u8s], .inr ⟨_, _, _, rfl, Nat.le_refl _, heap_new _ _, by simp, by decide, by simp, ?_⟩⟩, (Below.refl _ _).alloc (Nat.le_refl _) _⟩
        simp [u8s]; omega
      case round =>
        obtain ⟨k, hk, rfl, hown, hB⟩ := hrel
        by_cases hks : k < s
        · have HOW := Lib.hid hown; have HBB := Lib.hid hB
          have hBs := hB.size
          clear hown hB
          go_wp2_with (at_builtin; refine wpList_append_own_at _ rfl _ _ 48 rfl w.heap.size 5 i0 (.int .u8 0) 1 1 Tryz.underlying48 hi' hz0 hz1 hz2 rfl (by decide) _ (1 + k) _ rfl (HOW.out.alloc _) ⟨wr.heap.size, 0, none⟩ 1 1 [.int .u8 _] rfl rfl (cell_one_new _ _ _) (by simp [Value.oneCell']) (by unfold maxLen; omega) (by omega) (by simp; omega) ?_; intro v' w1 hown' hgrow _ _)
          go_roundw
          case rel =>
            refine ⟨k + 1, by omega, val_int (by omega), ?_, (HBB.out.alloc hBs _).grown hgrow (by simp; omega) (fun r hr => (HOW.out.lt r hr).1)⟩
            rw [List.take_add_one, beB_get U hks, ← pow256]
            rw [show 1 + (k + 1) = 1 + k + 1 by omega]
            simpa [u8s] using hown'
          case measure => simp [intOf]; omega
        · have hke : k = s := by omega
          subst hke
          obtain ⟨g, cap, rfl, hg, hlt⟩ := hown.form (by omega)
          have HOW := Lib.hid hown; have HBB := Lib.hid hB
          clear hown hB
          go_wp2_with fail
          refine (cClip wr _ _ _ (own_cap HOW.out).1 (own_cap HOW.out).2).mono ?_
          rintro e w3 ⟨rfl, rfl⟩
          go_wp2_with fail
          go_ret
          have hle : (beB U k).take k = beB U k := List.take_of_length_le (by rw [beB_len]; omega)
          have hown := HOW.out
          rw [hle] at hown
          have hl1 : ((144 + (k : Int)) :: beB U k).length = 1 + k := by rw [List.length_cons, beB_len, Nat.add_comm]
          refine ⟨_, rfl, (Bs.own (v := .slice (some ⟨g, 0, none⟩) (1 + k) cap) (bs := (144 + (k : Int)) :: beB U k) (by rw [hl1]; exact hown) (fun x hx => ?_)).clip, HBB.out⟩
          rcases List.mem_cons.1 hx with rfl | hx
          · omega
          · exact beB_mem hx
    · have hH : numH n = 128 := if_neg (by omega)
      have hUn : n = (U : Int) := by rw [← hU]; unfold numU; rw [if_neg (by omega)]; omega
      rw [hH]
      clear hU hs hbl h e HN
      subst hUn
      go_enter Tryz.func90, Tryz.ntmps90
      go_wp2_with fail
      refine HL.out.mono ?_
      rintro e w' ⟨rfl, hww⟩
      have hww := hww.symm
      subst hww
      go_wp2_with fail
      go_loopw [6, 7] (fun o i wr => ∃ k : Nat, k ≤ s ∧ i = .int .i64 ((s : Int) - 1 - k) ∧ wr.ownsRow w.heap.size 5 1 o (1 + k) (u8s ((128 + (s : Int)) :: (beB U s).take k)) ∧ Below w.heap.size w wr) (fun _ i _ => (intOf i + 1).toNat)
      case atStart =>
        refine ⟨0, by omega, val_int (by omega), ⟨by simp [u8s], .inr ⟨_, _, _, rfl, Nat.le_refl _, heap_new _ _, by simp, by decide, by simp, ?_⟩⟩, (Below.refl _ _).alloc (Nat.le_refl _) _⟩
        simp [u8s]; omega
      case round =>
        obtain ⟨k, hk, rfl, hown, hB⟩ := hrel
        by_cases hks : k < s
        · have HOW := Lib.hid hown; have HBB := Lib.hid hB
          have hBs := hB.size
          clear hown hB
          go_wp2_with (at_builtin; refine wpList_append_own_at _ rfl _ _ 48 rfl w.heap.size 5 i0 (.int .u8 0) 1 1 Tryz.underlying48 hi' hz0 hz1 hz2 rfl (by decide) _ (1 + k) _ rfl (HOW.out.alloc _) ⟨wr.heap.size, 0, none⟩ 1 1 [.int .u8 _] rfl rfl (cell_one_new _ _ _) (by simp [Value.oneCell']) (by unfold maxLen; omega) (by omega) (by simp; omega) ?_; intro v' w1 hown' hgrow _ _)
          go_roundw
          case rel =>
            refine ⟨k + 1, by omega, val_int (by omega), ?_, (HBB.out.alloc hBs _).grown hgrow (by simp; omega) (fun r hr => (HOW.out.lt r hr).1)⟩
            rw [List.take_add_one, beB_get U hks, ← pow256]
            rw [show 1 + (k + 1) = 1 + k + 1 by omega]
            simpa [u8s] using hown'
          case measure => simp [intOf]; omega
        · have hke : k = s := by omega
          subst hke
          obtain ⟨g, cap, rfl, hg, hlt⟩ := hown.form (by omega)
          have HOW := Lib.hid hown; have HBB := Lib.hid hB
          clear hown hB
          go_wp2_with fail
          refine (cClip wr _ _ _ (own_cap HOW.out).1 (own_cap HOW.out).2).mono ?_
          rintro e w3 ⟨rfl, rfl⟩
          go_wp2_with fail
          go_ret
          have hle : (beB U k).take k = beB U k := List.take_of_length_le (by rw [beB_len]; omega)
          have hown := HOW.out
          rw [hle] at hown
          have hl1 : ((128 + (k : Int)) :: beB U k).length = 1 + k := by rw [List.length_cons, beB_len, Nat.add_comm]
          refine ⟨_, rfl, (Bs.own (v := .slice (some ⟨g, 0, none⟩) (1 + k) cap) (bs := (128 + (k : Int)) :: beB U k) (by rw [hl1]; exact hown) (fun x hx => ?_)).clip, HBB.out⟩
          rcases List.mem_cons.1 hx with rfl | hx
          · omega
          · exact beB_mem hx
end Go.Proofs.YtogphlnakdnchaaGreat

namespace Go.Proofs.YtogphlnakdnchaaGreat
open Go.RowKit Go.Maps
theorem run_append_zeros {P : Program} (w : World) (t ty e ti : TypeId) (i : TypeInfo) (z : Value) (ht : P.underlying t = some (.slice e)) (hti : P.underlying ti = some (.int .i64)) (hi : P.info? e = some i) (hz : i.zero = some z) (hby : i.bytes = 1) (hsz : i.size = 1)
    (n : Nat) (h0 : 0 < n) (h63 : n ≤ 1099511627776) :
    (Builtin.append_ #[t, ti] ty #[.slice none 0 0, .int .i64 n]).run P w =
      .ok (.slice (some ⟨w.heap.size, 0, none⟩) n (grownCap w n 0 e)) (w.drew.alloc (.cells (Builtin.zeroCells z.cells n ++ Builtin.zeroCells z.cells (grownCap w n 0 e - n)) e)) := by
  have hn : n ≠ 0 := by omega
  have h63' : ¬ (9223372036854775807 < (n : Int)) := by omega
  have h48' : ¬ (281474976710656 < Builtin.nextslicecap n 0) := by rw [nextslicecap_zero h0]; omega
  have hw : IntKind.i64.wrap (n : Int) = n := by rw [IntKind.wrap_i64]; omega
  have hl : ¬ ((n : Int) < 0) := by omega
  have hl2 : ¬ (281474976710656 < (n : Int)) := by omega
  simp [Builtin.append_, run_underlying ht, run_underlying hti, sizeOf, typeInfo, zeroValue, hi, hz, hby, hsz, asInt, asIntOf, hw, hl, hl2, hn, h63', h48', Question.forced, run_firstCells_none, newRow, grownCap]
theorem wpList_append_zeros {P : Program} (w : World) {ops : Array Oper} {rest : List Oper} {o : Oper} {a : Act} {Q : Exit → Act → World → Prop} (hgd : o.guard = none) (s x : Operand) (t e ti : TypeId)
    (ho : o.op = .call { callee := .builtin .append, args := #[s, x], argTypes := #[t, ti] }) (i : TypeInfo) (z : Value) (ht : P.underlying t = some (.slice e)) (hti : P.underlying ti = some (.int .i64)) (hi : P.info? e = some i) (hz : i.zero = some z) (hby : i.bytes = 1) (hsz : i.size = 1)
    (n : Nat) (h0 : 0 < n) (h63 : n ≤ 1099511627776) (hs : a.eval s = .slice none 0 0) (hx : a.eval x = .int .i64 n)
    (h : wpList P ops Q rest (a.put o.dst (.slice (some ⟨w.heap.size, 0, none⟩) n (grownCap w n 0 e))) (w.drew.alloc (.cells (Builtin.zeroCells z.cells n ++ Builtin.zeroCells z.cells (grownCap w n 0 e - n)) e))) :
    wpList P ops Q (o :: rest) a w := by
  refine wpList_plain hgd fun K hK => ?_
  have hr := run_append_zeros (P := P) w t o.type e ti i z ht hti hi hz hby hsz n h0 h63
  unfold Oper.wp execOp
  simp only [ho, resolve, invoke, builtin, Sem.run_bind, Sem.run_pure, Result.andThen_ok, List.map_toArray, List.map_cons, List.map_nil, hs, hx, hr]
  exact hK _ _ h
theorem zeroCells_size (z : Array Value) (hz : z.size = 1) (n : Nat) : (Builtin.zeroCells z n).size = n := by simp [Builtin.zeroCells, hz]
set_option maxRecDepth 100000 in
theorem cGrow (w : World) (n : Nat) (hn : (n : Int) ≤ 1099511627776) : Calls Tryz.prog 125 #[.slice none 0 0, .int .i64 n] w fun e w' =>
    ∃ v, e = .returned v ∧ w'.ownsRow w.heap.size 5 1 v 0 [] ∧ Below w.heap.size w w' := by
  obtain ⟨i0, hi', hz0, hz1, hz2⟩ := info_parts infoU8
  by_cases h0 : n = 0
  · subst h0
    go_enter Tryz.func125, Tryz.ntmps125
    go_wp2
    go_ret
    exact ⟨_, rfl, World.ownsRow_nil _ _ _ _, Below.refl _ _⟩
  · have hpos : 0 < n := by omega
    have hcap := Lib.hid (grownCap_ge w n 0 5)
    have hcm := Lib.hid (grownCap_le_maxLen w n 0 5 (by unfold maxLen; omega))
    go_enter Tryz.func125, Tryz.ntmps125
    go_wp2_with (at_builtin; refine wpList_append_zeros _ rfl _ _ 48 5 3 rfl i0 (.int .u8 0) Tryz.underlying48 Tryz.underlying3 hi' hz0 hz2 hz1 n hpos (by omega) rfl rfl ?_)
    go_ret
    refine ⟨_, rfl, World.ownsRow_made (w := w.drew) _ _ (Nat.le_refl _) hcm.out ?_, (Below.refl _ w).drew.alloc (Nat.le_refl _) _⟩
    rw [Array.size_append, zeroCells_size _ rfl, zeroCells_size _ rfl]
    have := hcap.out
    omega
end Go.Proofs.YtogphlnakdnchaaGreat

namespace Go.Proofs.YtogphlnakdnchaaGreat
open Go.RowKit Go.Maps
def Parts (w : World) (v : Value) (L : List (Value × List Int)) : Prop := ∃ a c, v = .slice (some a) L.length c ∧ ∀ i p, L[i]? = some p → w.cell? (a.add i) = some p.1 ∧ Bs w p.1 p.2 ∧ ∃ ad n c, p.1 = .slice (some ad) n c
def catL (L : List (Value × List Int)) : List Int := L.flatMap (·.2)
theorem catL_take {L : List (Value × List Int)} {k : Nat} {p : Value × List Int} (h : L[k]? = some p) : catL (L.take (k + 1)) = catL (L.take k) ++ p.2 := by
  unfold catL
  rw [List.take_add_one, h]; simp
theorem catL_le (L : List (Value × List Int)) (k : Nat) : (catL (L.take k)).length ≤ (catL L).length := by
  have : catL L = catL (L.take k) ++ catL (L.drop k) := by
    unfold catL
    rw [← List.flatMap_append, List.take_append_drop]
  rw [this, List.length_append]; omega
theorem Parts.fr {S : Nat → Prop} {w w' : World} {v : Value} {L : List (Value × List Int)} (h : Parts w v L) (hf : Fr S w w') (hS : ∀ b, S b → w.heap.size ≤ b) : Parts w' v L := by
  obtain ⟨a, c, e, h1⟩ := h
  refine ⟨a, c, e, fun i p hp => ⟨?_, (h1 i p hp).2.1.fr hf hS, (h1 i p hp).2.2⟩⟩
  have hc := (h1 i p hp).1
  exact hf.cell hc (fun hs => by have := hS _ hs; have := World.block_lt_of_cell? w _ hc; omega)
set_option maxRecDepth 100000 in
set_option maxHeartbeats 1000000 in
theorem cConcat (w : World) (v : Value) (L : List (Value × List Int)) (h : Parts w v L) (hl : (L.length : Int) ≤ 1000) (hn : ((catL L).length : Int) ≤ 1099511627776) : Calls Tryz.prog 113 #[v] w fun e w' =>
    ∃ v', e = .returned v' ∧ w'.ownsRow w.heap.size 5 1 v' (catL L).length (u8s (catL L)) ∧ Below w.heap.size w w' := by
  obtain ⟨i0, hi', hz0, hz1, hz2⟩ := info_parts infoU8
  obtain ⟨a, c, rfl, -⟩ := id h
  have HP := Lib.hid h
  clear h
  obtain ⟨ln, hln⟩ : ∃ ln, L.length = ln := ⟨_, rfl⟩
  have HLN := Lib.hid hln
  rw [hln] at hl HP ⊢
  clear hln
  have hle := fun k => catL_le L k
  obtain ⟨tot, htot⟩ : ∃ t, (catL L).length = t := ⟨_, rfl⟩
  have HTOT := Lib.hid htot
  rw [htot] at hn hle ⊢
  have HLE := Lib.hid hle
  clear htot hle
  go_enter Tryz.func113, Tryz.ntmps113
  go_wp2
  go_loopw [3, 11] (fun z i wr => ∃ k : Nat, (k : Int) ≤ ln ∧ z = .int .i64 ((catL (L.take k)).length : Nat) ∧ i = .int .i64 k ∧ wr = w) (fun _ i _ => ln - (intOf i).toNat)
  case atStart => exact ⟨0, by omega, by simp [catL], rfl, rfl⟩
  case round =>
    obtain ⟨k, hk, rfl, rfl, rfl⟩ := hrel
    by_cases hkl : (k : Int) < ln
    · obtain ⟨p, hp⟩ : ∃ p, L[k]? = some p := ⟨L[k]'(by have := HLN.out; omega), List.getElem?_eq_getElem _⟩
      obtain ⟨a', c', e, h1⟩ := HP.out
      have hc := (h1 k p hp).1
      obtain ⟨hb1, ba, bc, hbe, -⟩ := id (h1 k p hp).2.1
      injection e with e1 e2 e3
      cases e1
      have e3 := e3.symm
      subst e3
      have HT := Lib.hid (congrArg List.length (catL_take hp))
      have HLE1 := HLE.out (k + 1)
      rw [HT.out, List.length_append] at HLE1
      rw [hbe] at hc
      obtain ⟨pl, hpl⟩ : ∃ n, p.2.length = n := ⟨_, rfl⟩
      rw [hpl] at hc HLE1 hb1
      obtain ⟨z, hz⟩ : ∃ z, (catL (L.take k)).length = z := ⟨_, rfl⟩
      rw [hz] at HLE1 ⊢
      have HZ := Lib.hid hz; have HPL := Lib.hid hpl
      clear h1 hp hz hpl e2 hbe
      go_wp2
      go_roundw
      case rel => exact ⟨k + 1, by omega, val_int (by rw [HT.out, List.length_append, HZ.out, HPL.out]; omega), by go_num, by trivial⟩
      case measure => simp [intOf]; omega
    · have hke : k = ln := by omega
      have hz : (catL (L.take k)).length = tot := by rw [List.take_of_length_le (by have := HLN.out; omega)]; exact HTOT.out
      rw [hz]
      subst hke
      clear hz
      go_wp2_with fail
      refine (cGrow _ _ hn).mono ?_
      rintro e w1 ⟨v1, rfl, hown, hB⟩
      have HOW := Lib.hid hown; have HBB := Lib.hid hB
      clear hown hB
      go_wp2_with fail
      obtain ⟨W0, rfl⟩ : ∃ W0 : World, W0 = wr := ⟨_, rfl⟩
      go_loopw [6, 27] (fun o i w2 => ∃ j : Nat, (j : Int) ≤ k ∧ i = .int .i64 j ∧ w2.ownsRow W0.heap.size 5 1 o (catL (L.take j)).length (u8s (catL (L.take j))) ∧ Below W0.heap.size W0 w2) (fun _ i _ => k - (intOf i).toNat)
      case atStart => exact ⟨0, by omega, rfl, HOW.out, HBB.out⟩
      case round =>
        obtain ⟨j, hj, rfl, hown2, hB2⟩ := hrel
        by_cases hjl : (j : Int) < k
        · obtain ⟨p, hp⟩ : ∃ p, L[j]? = some p := ⟨L[j]'(by have := HLN.out; omega), List.getElem?_eq_getElem _⟩
          obtain ⟨a', c', e, h1⟩ := HP.out
          have hc := (h1 j p hp).1
          obtain ⟨ad, pl', pc, hpe⟩ := (h1 j p hp).2.2
          obtain ⟨hb1, ba, bc, hbe, hbx⟩ := id (h1 j p hp).2.1
          rw [hpe] at hbe
          injection hbe with g1 g2 g3
          subst g1 g2 g3
          injection e with e1 e2 e3
          cases e1
          have e3 := e3.symm
          subst e3
          rw [hpe] at hc
          have hc2 := (hB2.cell (p := a.add j) (World.block_lt_of_cell? W0 _ hc)).trans hc
          have hT := catL_take hp
          have hLE1 := HLE.out (j + 1)
          rw [hT, List.length_append] at hLE1
          have hnews : ∀ (i : Nat) (u : Value), (u8s p.2)[i]? = some u → wr.cell? (ad.add i) = some u := fun i u hu => by
            unfold u8s at hu
            rw [List.getElem?_map] at hu
            obtain ⟨x, hx, rfl⟩ := Option.map_eq_some_iff.1 hu
            obtain ⟨-, -, ad', e, hcell⟩ := hbx i x hx
            cases e
            exact (hB2.cell (World.block_lt_of_cell? W0 _ hcell)).trans hcell
          have hall : ∀ u ∈ u8s p.2, u.oneCell' = true := fun u hu => by
            unfold u8s at hu
            obtain ⟨x, _, rfl⟩ := List.mem_map.1 hu
            rfl
          have hul : (u8s p.2).length = p.2.length := by simp [u8s]
          have HNEWS := Lib.hid hnews; have HALL := Lib.hid hall; have HUL := Lib.hid hul; have HT := Lib.hid hT; have HO2 := Lib.hid hown2; have HB2 := Lib.hid hB2
          obtain ⟨pl, hpl⟩ : ∃ n, p.2.length = n := ⟨_, rfl⟩
          obtain ⟨z, hz⟩ : ∃ z, (catL (L.take j)).length = z := ⟨_, rfl⟩
          have hBs := hB2.size
          rw [hpl] at hc2 hLE1 HUL
          rw [hz] at hLE1 HO2
          have HPL := Lib.hid hpl; have HZ := Lib.hid hz
          clear hnews hall hul hT hown2 hB2 h1 hp hc hbx e2 hb1 hpl hz hpe
          go_wp2_with (at_builtin; refine wpList_append_own_at _ rfl _ _ 48 rfl W0.heap.size 5 i0 (.int .u8 0) 1 1 Tryz.underlying48 hi' hz0 hz1 hz2 rfl (by decide) _ z _ rfl HO2.out ad pl _ (u8s p.2) rfl (by rw [HUL.out, Nat.mul_one]) HNEWS.out HALL.out (by unfold maxLen; omega) (by omega) hBs ?_; intro v' w5 hown' hgrow _ _)
          go_roundw
          case rel =>
            refine ⟨j + 1, by omega, by go_num, ?_, HB2.out.grown hgrow hBs (fun r hr => (HO2.out.lt r hr).1)⟩
            rw [HT.out, List.length_append, HZ.out, HPL.out]
            unfold u8s at hown' ⊢
            rw [List.map_append]
            exact hown'
          case measure => simp [intOf]; omega
        · have hje : j = k := by omega
          subst hje
          rw [List.take_of_length_le (by have := HLN.out; omega), HTOT.out] at hown2
          go_wp2_with fail
          go_ret
          exact ⟨_, rfl, hown2, hB2⟩
end Go.Proofs.YtogphlnakdnchaaGreat

namespace Go.Proofs.YtogphlnakdnchaaGreat
open Go.RowKit Go.Maps
/-- A maker that holds bs. -/
structure MK (w : World) (g : Nat) (TS : Nat → Prop) (bs : List Int) (long : Bool) : Prop where
  ex : ∃ v, w.heap[g]? = some (.cells #[v, .bool long] 137) ∧ w.ownsRow 0 5 1 v bs.length (u8s bs) ∧ ∀ b, v.ownBlock = some b → TS b ∧ b ≠ g
  own : TS g
  lt : ∀ b, TS b → b < w.heap.size
  len : (bs.length : Int) ≤ 262144
def putB (bs : List Int) (long : Bool) (c : List Int) : List Int := if long = true ∨ 262144 < bs.length + c.length then bs else bs ++ c
def putL (bs : List Int) (long : Bool) (c : List Int) : Bool := long || decide (262144 < bs.length + c.length)
theorem MK.fr {S TS : Nat → Prop} {w w' : World} {g : Nat} {bs : List Int} {long : Bool} (h : MK w g TS bs long) (hf : Fr S w w') (hS : ∀ b, TS b → ¬ S b) : MK w' g TS bs long := by
  obtain ⟨⟨v, h1, h2, h3⟩, h4, h5, h6⟩ := h
  exact ⟨⟨v, hf.at_ h1 (hS _ h4), hf.row h2 (fun b hb => hS _ (h3 b hb).1), h3⟩, h4, fun b hb => Nat.lt_of_lt_of_le (h5 b hb) hf.size, h6⟩
set_option maxRecDepth 100000 in
theorem cMNew (w : World) : Calls Tryz.prog 48 #[] w fun e w' => e = .returned (.pointer (some ⟨w.heap.size, 0, none⟩)) ∧ MK w' w.heap.size (fun b => b = w.heap.size) [] false ∧ Fr (fun _ => False) w w' := by
  go_enter Tryz.func48, Tryz.ntmps48
  go_wp2
  go_ret
  exact ⟨rfl, ⟨⟨_, heap_new _ _, World.ownsRow_nil _ _ _ _, fun b hb => by cases hb⟩, rfl, fun b hb => by simp [hb], by simp⟩, (Fr.refl _ _).alloc _⟩
set_option maxRecDepth 100000 in
set_option maxHeartbeats 1000000 in
theorem cPut (w : World) (g : Nat) (TS : Nat → Prop) (bs : List Int) (long : Bool) (v : Value) (L : List (Value × List Int)) (h : MK w g TS bs long) (hP : Parts w v L) (hl : (L.length : Int) ≤ 1000) (hn : ((catL L).length : Int) ≤ 1099511627776) (hn0 : 0 < (catL L).length) :
    Calls Tryz.prog 89 #[.pointer (some ⟨g, 0, none⟩), v] w fun e w' => e = .returned (.pointer (some ⟨g, 0, none⟩)) ∧ ∃ TS', MK w' g TS' (putB bs long (catL L)) (putL bs long (catL L)) ∧ Stp TS w w' TS' := by
  obtain ⟨i0, hi', hz0, hz1, hz2⟩ := info_parts infoU8
  go_enter Tryz.func89, Tryz.ntmps89
  go_wp2_with fail
  refine (cConcat w v L hP hl hn).mono ?_
  rintro e w1 ⟨v', rfl, hown, hB⟩
  obtain ⟨g', cap, rfl, hg', hlt'⟩ := hown.form hn0
  have hM := h.fr (Fr.below hB) (fun _ _ h => h)
  obtain ⟨⟨vm, h1, h2, h3⟩, h4, h5, h6⟩ := id hM
  have hgw : g < w.heap.size := h.lt g h.own
  have HLT := Lib.hid h.lt; have HGO := Lib.hid h4
  obtain ⟨am, cm, rfl⟩ : ∃ a c, vm = .slice a bs.length c := by
    rcases h2.2 with ⟨e1, e2⟩ | ⟨_, _, _, e1, _⟩
    · exact ⟨_, _, by rw [e1, e2]⟩
    · exact ⟨_, _, e1⟩
  have b0 := cell_obj h1 0 (.slice am bs.length cm) rfl
  have b1 := cell_obj h1 1 (.bool long) rfl
  have f0 := obj_frozen h1 0
  have f1 := obj_frozen h1 1
  obtain ⟨n, hn1⟩ : ∃ n, bs.length = n := ⟨_, rfl⟩
  obtain ⟨k, hk1⟩ : ∃ k, (catL L).length = k := ⟨_, rfl⟩
  rw [hn1] at b0 h6
  rw [hk1] at hn hn0 ⊢
  have HM := Lib.hid hM; have HN := Lib.hid hn1; have HK := Lib.hid hk1; have HB := Lib.hid hB; have HO := Lib.hid hown; have H1 := Lib.hid h1; have H2 := Lib.hid h2; have H3 := Lib.hid h3
  clear h hM h1 h2 h3 h4 h5 hn1 hk1 hB hown hP hl
  have hlong : ∀ (bs' : List Int), (bs'.length : Int) ≤ 262144 → bs' = bs → ∃ TS', MK (w1.setCell ⟨g, 1, none⟩ (.bool true)) g TS' bs' true ∧ Stp TS w (w1.setCell ⟨g, 1, none⟩ (.bool true)) TS' := by
    rintro bs' h1 rfl
    have hF : Fr (fun b => b = g) w1 (w1.setCell ⟨g, 1, none⟩ (.bool true)) := (Fr.refl (fun b => b = g) w1).setCell (p := ⟨g, 1, none⟩) (fun _ => rfl) _
    exact ⟨TS, ⟨⟨_, obj_set H1.out 1 (.bool true), hF.row H2.out (fun b hb => (H3.out b hb).2), H3.out⟩, HGO.out, fun b hb => by have := HLT.out b hb; have := HB.out.size; have := hF.size; omega, h1⟩,
      ((Fr.below HB.out).mono (S := fun _ => False) (S' := TS) (fun _ _ h => h.elim)).trans' hF (fun b _ e => e ▸ HGO.out), fun b hb => .inl hb⟩
  have HLONG := Lib.hid hlong
  clear hlong
  cases long with
  | true =>
    go_wp2_with fail
    go_ret
    have e1 : putB bs true (catL L) = bs := by simp [putB]
    have e2 : putL bs true (catL L) = true := by simp [putL]
    rw [e1, e2]
    exact ⟨rfl, HLONG.out bs (by have := HN.out; omega) rfl⟩
  | false =>
    by_cases ho : 262144 - (n : Int) < k
    · go_wp2_with fail
      go_ret
      have hov : 262144 < bs.length + (catL L).length := by have := HN.out; have := HK.out; omega
      have e1 : putB bs false (catL L) = bs := by simp [putB, hov]
      have e2 : putL bs false (catL L) = true := by simp [putL, hov]
      rw [e1, e2]
      exact ⟨rfl, HLONG.out bs (by have := HN.out; omega) rfl⟩
    · have hno : ¬ 262144 < bs.length + (catL L).length := by have := HN.out; have := HK.out; omega
      have e1 : putB bs false (catL L) = bs ++ catL L := by simp [putB, hno]
      have e2 : putL bs false (catL L) = false := by simp [putL, hno]
      have HE1 := Lib.hid e1; have HE2 := Lib.hid e2; have HNO := Lib.hid hno
      clear HLONG e1 e2 hno
      have hd : decide (262144 - (n : Int) < k) = false := by simpa using ho
      have hF : Fr (fun b => b = g) w1 (w1.setCell ⟨g, 1, none⟩ (.bool false)) := (Fr.refl (fun b => b = g) w1).setCell (p := ⟨g, 1, none⟩) (fun _ => rfl) _
      have hG := obj_set H1.out 1 (.bool false)
      have hrow := hF.row H2.out (fun b hb => (H3.out b hb).2)
      have hrowc := hF.row HO.out (fun b hb => by cases hb; show ¬ g' = g; omega)
      have hnews : ∀ (i : Nat) (u : Value), (u8s (catL L))[i]? = some u → (w1.setCell ⟨g, 1, none⟩ (.bool false)).cell? ((⟨g', 0, none⟩ : Addr).add i) = some u := fun i u hu => by
        have hi := (List.getElem?_eq_some_iff.1 hu).1
        have := hrowc.cellAt (g := g') (j := i) (by simpa [u8s] using hi)
        rw [show (⟨g', 0, none⟩ : Addr).add i = ⟨g', i, none⟩ by simp [Addr.add]; omega, this]
        exact hu
      have hall : ∀ u ∈ u8s (catL L), u.oneCell' = true := fun u hu => by
        unfold u8s at hu
        obtain ⟨x, _, rfl⟩ := List.mem_map.1 hu
        rfl
      have hul : (u8s (catL L)).length = k * 1 := by have := HK.out; simp [u8s]; exact this
      have HNEWS := Lib.hid hnews; have HALL := Lib.hid hall; have HUL := Lib.hid hul; have HROW := Lib.hid hrow; have HG := Lib.hid hG; have HF := Lib.hid hF
      rw [HN.out] at HROW
      clear hnews hall hul hrow hG hF hrowc ho
      have c0 := cell_obj HG.out 0 (.slice am n cm) (by rw [← HN.out]; rfl)
      have h3 := H3.out
      rw [HN.out] at h3
      have HNB := Lib.hid h3
      clear h3
      go_wp2_with (at_builtin; refine wpList_append_own_at _ rfl _ _ 48 rfl 0 5 i0 (.int .u8 0) 1 1 Tryz.underlying48 hi' hz0 hz1 hz2 rfl (by decide) (.slice am n cm) n (u8s bs) rfl HROW.out ⟨g', 0, none⟩ k _ (u8s (catL L)) rfl HUL.out HNEWS.out HALL.out (by unfold maxLen; omega) (by omega) (Nat.zero_le _) ?_; intro v' w5 hown' hgrow _ hat; obtain ⟨g5, cap5, rfl, -, hl5⟩ := hown'.form (by omega); have hG5 := (hgrow.block g (Array.getElem?_eq_some_iff.1 HG.out).1 (fun e => (HNB.out g e.symm).2 rfl)).trans HG.out; have c5 := cell_obj hG5 0 (.slice am n cm) (by rw [← HN.out]; rfl); have f5 := obj_frozen hG5 0)
      go_ret
      rw [HE1.out, HE2.out]
      have hs1 : (w1.setCell ⟨g, 1, none⟩ (.bool false)).heap.size = w1.heap.size := by simp [World.setCell]
      have hat2 : TS g5 ∧ g5 ≠ g ∨ g5 = w1.heap.size := by
        rcases hat with e | e
        · exact .inl (HNB.out g5 e.symm)
        · rw [hs1] at e; exact .inr (by injection e)
      have hBs := HB.out.size
      have hne : g5 ≠ g := by
        rcases hat2 with e | e
        · exact e.2
        · omega
      have hF6 : Fr (fun b => b = g) w5 (w5.setCell ⟨g, 0, none⟩ (.slice (some ⟨g5, 0, none⟩) (n + k) cap5)) := (Fr.refl (fun b => b = g) w5).setCell (p := ⟨g, 0, none⟩) (fun _ => rfl) _
      have hs5 := hgrow.size
      have hs6 := hF6.size
      refine ⟨rfl, fun b => TS b ∨ b = g5, ⟨⟨_, obj_set hG5 0 _, ?_, fun b hb => ?_⟩, .inl HGO.out, ?_, ?_⟩, ?_, ?_⟩
      · have hl : (bs ++ catL L).length = n + k := by rw [List.length_append, HN.out, HK.out]
        rw [hl]
        unfold u8s at hown' ⊢
        rw [List.map_append]
        exact hF6.row hown' (fun b hb => by cases hb; exact hne)
      · cases hb; exact ⟨.inr rfl, hne⟩
      · rintro b (hb | rfl)
        · have := HLT.out b hb; omega
        · omega
      · have := HNO.out; rw [List.length_append]; omega
      · refine ((((Fr.below HB.out).mono (S := fun _ => False) (S' := TS) (fun _ _ h => h.elim)).trans' HF.out (fun b _ e => e ▸ HGO.out)).trans' (Fr.grown (S := fun b => TS b) hgrow (fun r hr _ => (HNB.out r hr).1)) (fun b _ e => e)).trans' hF6 (fun b _ e => e ▸ HGO.out)
      · rintro b (hb | rfl)
        · exact .inl hb
        · rcases hat2 with e | e
          · exact .inl e.1
          · exact .inr (by omega)
end Go.Proofs.YtogphlnakdnchaaGreat

namespace Go.Proofs.YtogphlnakdnchaaGreat
open Go.RowKit Go.Maps
theorem Bs.at0 {w : World} {v : Value} {bs : List Int} (h : Bs w v bs) (h0 : 0 < bs.length) : ∃ ad c, v = .slice (some ad) bs.length c := by
  obtain ⟨_, a, c, e, h1⟩ := h
  obtain ⟨x, hx⟩ : ∃ x, bs[0]? = some x := ⟨bs[0], List.getElem?_eq_getElem h0⟩
  obtain ⟨_, _, ad, ea, _⟩ := h1 0 x hx
  exact ⟨ad, c, by rw [e, ea]⟩
theorem Parts.one {w : World} {v : Value} {bs : List Int} {B : Nat} (h : Bn B w v bs) (h0 : 0 < bs.length) (b : Nat) (hb : b = w.heap.size) : Parts (w.alloc (.cells #[v] 48)) (.slice (some ⟨b, 0, none⟩) 1 1) [(v, bs)] := by
  subst hb
  obtain ⟨ad, c, e⟩ := h.1.at0 h0
  refine ⟨_, _, rfl, fun i p hp => ?_⟩
  match i, hp with
  | 0, hp =>
    cases hp
    refine ⟨?_, h.1.fr ((Fr.refl (fun _ => False) _).alloc _) (fun _ h => h.elim), ad, _, c, e⟩
    exact cell_obj (heap_new _ _) 0 v rfl
set_option maxRecDepth 100000 in
theorem cMNum (w : World) (g : Nat) (TS : Nat → Prop) (bs : List Int) (long : Bool) (n : Int) (h : MK w g TS bs long) (hn : okI n) :
    Calls Tryz.prog 51 #[.pointer (some ⟨g, 0, none⟩), .int .i64 n] w fun e w' => e = .returned (.pointer (some ⟨g, 0, none⟩)) ∧ ∃ TS', MK w' g TS' (putB bs long (numB n)) (putL bs long (numB n)) ∧ Stp TS w w' TS' := by
  have hl := numB_len hn
  go_enter Tryz.func51, Tryz.ntmps51
  go_wp2_with fail
  refine (cNum w n hn).mono ?_
  rintro e w1 ⟨v, rfl, hb, hB⟩
  obtain ⟨ad, c, rfl⟩ := hb.1.at0 (by omega)
  have hP := Parts.one hb (by omega) w1.heap.size rfl
  have hF : Fr (fun _ => False) w (w1.alloc (.cells #[.slice (some ad) (numB n).length c] 48)) := ((Fr.below hB).mono (fun _ _ h => h)).alloc _
  have hM := h.fr hF (fun _ _ h => h)
  have hcat : catL [(Value.slice (some ad) (numB n).length c, numB n)] = numB n := by simp [catL]
  have HP := Lib.hid hP; have HM := Lib.hid hM; have HF := Lib.hid hF; have HC := Lib.hid hcat; have HL := Lib.hid hl
  clear hb hP hM hF hcat hB h hl
  go_wp2_with fail
  refine (cPut _ g TS bs long _ _ HM.out HP.out (by simp) (by rw [HC.out]; have := HL.out; omega) (by rw [HC.out]; have := HL.out; omega)).mono ?_
  rw [HC.out]
  rintro e w2 ⟨rfl, TS', hM2, hs⟩
  go_wp2_with fail
  go_ret
  exact ⟨rfl, TS', hM2, (Stp.refl HF.out).trans hs⟩
set_option maxRecDepth 100000 in
theorem cClone (w : World) (v : Value) (bs : List Int) (h : Bs w v bs) (hl : (bs.length : Int) ≤ 140737488351232) : Calls Tryz.prog 92 #[v] w fun e w' =>
    ∃ v', e = .returned v' ∧ w'.ownsRow w.heap.size 5 1 v' bs.length (u8s bs) ∧ Below w.heap.size w w' := by
  obtain ⟨i0, hi', hz0, hz1, hz2⟩ := info_parts infoU8
  obtain ⟨hb1, a, c, rfl, hbx⟩ := id h
  obtain ⟨n, hn⟩ : ∃ n, bs.length = n := ⟨_, rfl⟩
  have HN := Lib.hid hn
  rw [hn] at hl hb1 ⊢
  clear hn
  have hq := fun (w : World) (a : Option Addr) (n c n' c' : Nat) => Lib.run_eql_slice_nil (P := Tryz.prog) w 48 _ a n c n' c' Tryz.underlying48
  cases a with
  | none =>
    have h0 : n = 0 := by
      rcases Nat.eq_zero_or_pos n with h0 | h0
      · exact h0
      · obtain ⟨ad, c', e⟩ := h.at0 (by have := HN.out; omega)
        injection e with e _ _; cases e
    subst h0
    have hbe : bs = [] := List.eq_nil_of_length_eq_zero HN.out
    subst hbe
    clear h hbx
    go_enter Tryz.func92, Tryz.ntmps92
    go_wp2_with fail
    go_ret
    exact ⟨_, rfl, World.ownsRow_nil _ _ _ _, Below.refl _ _⟩
  | some ad =>
    have hown : (w.alloc (.cells #[] 5)).ownsRow w.heap.size 5 1 (.slice (some ⟨w.heap.size, 0, none⟩) 0 0) 0 [] := World.ownsRow_made w #[] 0 (Nat.le_refl _) (Nat.zero_le _) rfl
    have hnews : ∀ (i : Nat) (u : Value), (u8s bs)[i]? = some u → (w.alloc (.cells #[] 5)).cell? (ad.add i) = some u := fun i u hu => by
      unfold u8s at hu
      rw [List.getElem?_map] at hu
      obtain ⟨x, hx, rfl⟩ := Option.map_eq_some_iff.1 hu
      obtain ⟨-, -, ad', e, hcell⟩ := hbx i x hx
      cases e
      exact ((Fr.refl (fun _ => False) w).alloc _).cell hcell (fun h => h)
    have hall : ∀ u ∈ u8s bs, u.oneCell' = true := fun u hu => by
      unfold u8s at hu
      obtain ⟨x, _, rfl⟩ := List.mem_map.1 hu
      rfl
    have hul : (u8s bs).length = n * 1 := by have := HN.out; simp [u8s]; exact this
    have HNEWS := Lib.hid hnews; have HALL := Lib.hid hall; have HUL := Lib.hid hul; have HO := Lib.hid hown
    clear hnews hall hul hown hbx h
    go_enter Tryz.func92, Tryz.ntmps92
    go_wp2_with (at_builtin; refine wpList_append_own_at _ rfl _ _ 48 rfl w.heap.size 5 i0 (.int .u8 0) 1 1 Tryz.underlying48 hi' hz0 hz1 hz2 rfl (by decide) (.slice (some ⟨w.heap.size, 0, none⟩) 0 0) 0 [] rfl HO.out ad n _ (u8s bs) rfl HUL.out HNEWS.out HALL.out (by unfold maxLen; omega) (by omega) (by simp) ?_; intro v' w5 hown' hgrow _ hat)
    go_ret
    refine ⟨_, rfl, by simpa using hown', ((Below.refl _ w).alloc (Nat.le_refl _) _).grown hgrow (by simp) (fun r hr => by cases hr; exact Nat.le_refl _)⟩
/-- A maker's end: its bytes anew, or an error. -/
theorem cMDone (w : World) (g : Nat) (TS : Nat → Prop) (bs : List Int) (long : Bool) (h : MK w g TS bs long) (hb : ∀ x ∈ bs, 0 ≤ x ∧ x < 256) :
    Calls Tryz.prog 53 #[.pointer (some ⟨g, 0, none⟩)] w fun e w' => Below w.heap.size w w' ∧ ∃ v, e = .returned (.tuple #[v, .int .i64 (if long then 3 else 0)]) ∧ w'.ownsRow w.heap.size 5 1 v (if long then [] else bs).length (u8s (if long then [] else bs)) := by
  obtain ⟨⟨vm, h1, h2, h3⟩, h4, h5, h6⟩ := id h
  obtain ⟨am, cm, rfl⟩ : ∃ a c, vm = .slice a bs.length c := by
    rcases h2.2 with ⟨e1, e2⟩ | ⟨_, _, _, e1, _⟩
    · exact ⟨_, _, by rw [e1, e2]⟩
    · exact ⟨_, _, e1⟩
  have hBs := (Bs.own h2 hb).1
  have hC := cClone w _ _ hBs (by omega)
  have b0 := cell_obj h1 0 (.slice am bs.length cm) rfl
  have b1 := cell_obj h1 1 (.bool long) rfl
  have HC := Lib.hid hC
  clear h hC hBs h2 h3 hb h4 h5 h1
  cases long with
  | true =>
    go_enter Tryz.func53, Tryz.ntmps53
    go_wp2_with fail
    go_returns
    exact ⟨Below.refl _ _, _, rfl, World.ownsRow_nil _ _ _ _⟩
  | false =>
    go_enter Tryz.func53, Tryz.ntmps53
    go_wp2_with fail
    refine HC.out.mono ?_
    rintro e w1 ⟨v, rfl, hown, hB⟩
    go_wp2_with fail
    go_returns
    exact ⟨hB, v, rfl, hown⟩
end Go.Proofs.YtogphlnakdnchaaGreat

namespace Go.Proofs.YtogphlnakdnchaaGreat
open Go.RowKit Go.Maps
set_option maxRecDepth 100000 in
theorem Bs.string {w : World} {v : Value} {bs : List Int} (h : Bs w v bs) : (convert 48 9 v).run Tryz.prog w = .ok (.string (strOfNums bs)) w := by
  rcases Nat.eq_zero_or_pos bs.length with h0 | h0
  · have : bs = [] := List.eq_nil_of_length_eq_zero h0
    subst this
    obtain ⟨_, a, c, rfl, _⟩ := h
    cases a with
    | none => exact run_convert_bytes_nil w 48 5 Tryz.underlying48 Tryz.underlying5 _ _ _ Tryz.underlying9
    | some ad =>
      rw [run_convert_bytes_string w 48 9 5 _ _ _ Tryz.underlying48 Tryz.underlying5 Tryz.underlying9]
      have := run_loadCells_list (P := Tryz.prog) w ad [] (fun j v hj => by simp at hj)
      rw [List.length_nil, run_bytesToString w ad 0 c [] (by simpa using this)]
      rfl
  · obtain ⟨ad, c, rfl⟩ := h.at0 h0
    obtain ⟨_, a, c', e, hx⟩ := h
    injection e with e1 _ _
    subst e1
    rw [run_convert_bytes_string w 48 9 5 _ _ _ Tryz.underlying48 Tryz.underlying5 Tryz.underlying9]
    have := run_loadCells_list (P := Tryz.prog) w ad (bs.map (Value.int .u8)) (fun j v hj => by
      rw [List.getElem?_map] at hj
      obtain ⟨x, hx2, rfl⟩ := Option.map_eq_some_iff.1 hj
      obtain ⟨_, _, ad', e, hc⟩ := hx j x hx2
      cases e; exact hc)
    rw [run_bytesToString w ad bs.length c bs (by simpa using this), foldl_push_bytes]
    simp [strOfNums, ByteArray.empty, ByteArray.emptyWithCapacity]
    rfl
theorem strOf_inj {x y : List Int} (hx : ∀ b ∈ x, 0 ≤ b ∧ b < 256) (hy : ∀ b ∈ y, 0 ≤ b ∧ b < 256) (h : strOfNums x = strOfNums y) : x = y := by
  have h1 : x.map (fun n => UInt8.ofNat n.toNat) = y.map (fun n => UInt8.ofNat n.toNat) := by rw [← strOfNums_data, ← strOfNums_data, h]
  induction x generalizing y with
  | nil => cases y with
    | nil => rfl
    | cons b r => simp at h1
  | cons a r ih => cases y with
    | nil => simp at h1
    | cons b s =>
      simp only [List.map_cons, List.cons.injEq] at h1
      have ha := hx a (by simp)
      have hb := hy b (by simp)
      have e := congrArg UInt8.toNat h1.1
      rw [UInt8.toNat_ofNat', UInt8.toNat_ofNat'] at e
      have : a = b := by omega
      rw [this, ih (fun z hz => hx z (by simp [hz])) (fun z hz => hy z (by simp [hz])) ?_ h1.2]
      unfold strOfNums
      rw [h1.2]
theorem strNe {a b : ByteArray} (h : a ≠ b) : (a.toList == b.toList) = false := by
  have : a.toList ≠ b.toList := fun e => by
    rw [ByteArray.toList_eq, ByteArray.toList_eq] at e
    apply h
    cases a; cases b
    simp only [ByteArray.mk.injEq]
    exact Array.toList_inj.1 e
  simpa using this
theorem Bs.take {w : World} {a : Option Addr} {n c k : Nat} {bs : List Int} (h : Bs w (.slice a n c) bs) (hk : k ≤ n) : Bs w (.slice a k c) (bs.take k) := by
  obtain ⟨h0, a', c', e, hx⟩ := h
  injection e with e1 e2 e3
  subst e1 e3
  have hl : (bs.take k).length = k := by rw [List.length_take]; omega
  refine ⟨by omega, a, c, by rw [hl], fun i x hi => ?_⟩
  rw [List.getElem?_take] at hi
  split at hi
  · exact hx i x hi
  · cases hi
end Go.Proofs.YtogphlnakdnchaaGreat

namespace Go.Proofs.YtogphlnakdnchaaGreat
open Go.RowKit Go.Maps
def dSize (h : Int) : Int := if 144 ≤ h then h - 144 else h - 128
def dTurn (h : Int) : Int := if 144 ≤ h then 18446744073709551615 else 0
def dStep (u c : Int) : Int := bits .or .u64 (IntKind.u64.wrap (u * 256)) c
def dU (l : List Int) : Int := l.foldl dStep 0
def dN (h : Int) (l : List Int) : Int := wrap64 (bits .xor .u64 (dU l) (dTurn h))
/-- The number with whose cell bytes begin. -/
def firstB (bs : List Int) : Option (Int × Nat) :=
  match bs with
  | [] => none
  | h :: r => if h < 128 then some (h, 1) else if 8 < dSize h ∨ (r.length : Int) < dSize h then none
    else if numB (dN h (r.take (dSize h).toNat)) = h :: r.take (dSize h).toNat then some (dN h (r.take (dSize h).toNat), 1 + (dSize h).toNat) else none
theorem dU_succ {l : List Int} {k : Nat} {x : Int} (h : l[k]? = some x) : dU (l.take (k + 1)) = dStep (dU (l.take k)) x := by
  unfold dU
  rw [List.take_add_one, h, List.foldl_append]; rfl
def firstV (o : Option (Int × Nat)) : Value := match o with
  | some (n, k) => .tuple #[.int .i64 n, .int .i64 k, .int .i64 0]
  | none => .tuple #[.int .i64 0, .int .i64 0, .int .i64 10]
set_option maxRecDepth 100000 in
set_option maxHeartbeats 4000000 in
theorem cFirst (w : World) (v : Value) (bs : List Int) (h : Bs w v bs) (hcap : ∀ a n c, v = .slice a n c → n ≤ c) : Calls Tryz.prog 102 #[v] w fun e w' => e = .returned (firstV (firstB bs)) ∧ Below w.heap.size w w' := by
  obtain ⟨hlen, a, c, rfl, hx⟩ := id h
  cases bs with
  | nil =>
    clear h hx
    unfold firstB firstV
    dsimp only
    go_enter Tryz.func102, Tryz.ntmps102
    go_wp2
    go_returns
    exact ⟨rfl, Below.refl _ _⟩
  | cons hd r =>
    obtain ⟨h0, h1, ad, rfl, hc⟩ := hx 0 hd rfl
    have hc0 : w.cell? ad = some (.int .u8 hd) := by have := hc; unfold Addr.add at this; simpa using this
    obtain ⟨n, hn⟩ : ∃ n, r.length = n := ⟨_, rfl⟩
    have HN := Lib.hid hn
    have hl : (hd :: r).length = n + 1 := by rw [List.length_cons, hn]
    rw [hl] at hlen h ⊢
    by_cases hs : hd < 128
    · have e : firstB (hd :: r) = some (hd, 1) := by simp [firstB, hs]
      rw [e]
      unfold firstV
      dsimp only
      clear hx h hl hn e
      go_enter Tryz.func102, Tryz.ntmps102
      go_wp2
      go_returns
      exact ⟨rfl, Below.refl _ _⟩
    · have hcn : n + 1 ≤ c := by rw [← hl]; exact hcap _ _ _ (by rw [hl])
      have hbyte : ∀ x ∈ r, 0 ≤ x ∧ x < 256 := fun x hxr => by
        obtain ⟨i, hi, rfl⟩ := List.getElem_of_mem hxr
        obtain ⟨z0, z1, _⟩ := hx (i + 1) r[i] (by simp)
        exact ⟨z0, z1⟩
      have hcell : ∀ (i : Nat) (x : Int), r[i]? = some x → w.cell? (ad.add (1 + i)) = some (.int .u8 x) := fun i x hi => by
        obtain ⟨_, _, ad', e, hc⟩ := hx (i + 1) x (by simpa using hi)
        cases e
        rw [Nat.add_comm]; exact hc
      have HB := Lib.hid hbyte; have HC := Lib.hid hcell; have HH := Lib.hid h
      obtain ⟨S, hS⟩ : ∃ S, dSize hd = S := ⟨_, rfl⟩
      obtain ⟨T, hT⟩ : ∃ T, dTurn hd = T := ⟨_, rfl⟩
      have HS := Lib.hid hS; have HT := Lib.hid hT
      have hS0 : 0 ≤ S := by rw [← hS]; unfold dSize; split <;> omega
      by_cases hbad : 8 < S ∨ (n : Int) < S
      · have e : firstB (hd :: r) = none := by
          have := HN.out
          simp only [firstB, hs, if_false, hS]
          rw [if_pos (by rw [this]; exact hbad)]
        rw [e]
        unfold firstV
        dsimp only
        clear hbyte hcell hx h hl hn e hT hcap
        rcases (by omega : 8 < S ∨ S ≤ 8 ∧ (n : Int) < S) with hb1 | ⟨hb1, hb2⟩ <;> rcases (by omega : 144 ≤ hd ∨ hd < 144) with hh | hh
        all_goals
          first
          | (have hSe : S = hd - 144 := by rw [← hS]; unfold dSize; rw [if_pos hh])
          | (have hSe : S = hd - 128 := by rw [← hS]; unfold dSize; rw [if_neg (by omega)])
          clear hS hbad
          subst hSe
          go_enter Tryz.func102, Tryz.ntmps102
          go_wp2
          go_returns
          exact ⟨rfl, Below.refl _ _⟩
      · obtain ⟨m, rfl⟩ : ∃ m : Nat, S = m := ⟨S.toNat, by omega⟩
        have hm8 : (m : Int) ≤ 8 := by omega
        have hmn : (m : Int) ≤ n := by omega
        have e : firstB (hd :: r) = if numB (dN hd (r.take m)) = hd :: r.take m then some (dN hd (r.take m), 1 + m) else none := by
          have := HN.out
          simp only [firstB, hs, if_false, hS, Int.toNat_natCast]
          rw [if_neg (by rw [this]; exact hbad)]
        obtain ⟨N, hN⟩ : ∃ N, dN hd (r.take m) = N := ⟨_, rfl⟩
        have hdn : wrap64 (bits .xor .u64 (dU (r.take m)) T) = N := by rw [← hN]; unfold dN; rw [hT]
        have hNk : okI N := by rw [← hN]; unfold dN wrap64 okI; omega
        rw [e, hN]
        have HDN := Lib.hid hdn; have HNK := Lib.hid hNk
        clear hN hNk
        have hl8 : ((r.take m).length : Nat) = m := by rw [List.length_take]; have := HN.out; omega
        have HL8 := Lib.hid hl8
        clear e hdn hx hbyte hcell hl8
        have htake : ∀ (h' : Int), Bs w (.slice (some ad) (n + 1) c) (h' :: r) → Bs w (.slice (some ad) (1 + m) c) (h' :: r.take m) := fun h' hb => by
          have := hb.take (k := 1 + m) (by omega)
          rw [Nat.add_comm 1 m, List.take_succ_cons] at this
          rw [Nat.add_comm 1 m]; exact this
        have HTK := Lib.hid (htake hd h)
        clear htake
        have hbytes : ∀ x ∈ hd :: r.take m, 0 ≤ x ∧ x < 256 := fun x hx => by
          rcases List.mem_cons.1 hx with rfl | hx
          · exact ⟨h0, h1⟩
          · exact HB.out x (List.mem_of_mem_take hx)
        have hiff : strOfNums (numB N) = strOfNums (hd :: r.take m) ↔ numB N = hd :: r.take m := ⟨fun e => strOf_inj (fun x hx => numB_mem HNK.out hx) hbytes e, fun e => by rw [e]⟩
        obtain ⟨sa, hsa⟩ : ∃ x, strOfNums (numB N) = x := ⟨_, rfl⟩
        obtain ⟨sb, hsb⟩ : ∃ x, strOfNums (hd :: r.take m) = x := ⟨_, rfl⟩
        rw [hsa, hsb] at hiff
        have HIFF := Lib.hid hiff; have HSA := Lib.hid hsa; have HSB := Lib.hid hsb
        clear hiff hbytes hsa hsb
        rcases (by omega : 144 ≤ hd ∨ hd < 144) with hh | hh
        · have hde : hd = (m : Int) + 144 := by have := hS; unfold dSize at this; rw [if_pos hh] at this; omega
          have hTe : T = 18446744073709551615 := by rw [← hT]; unfold dTurn; rw [if_pos hh]
          clear hS hT HS HT hbad h hn hl hcap
          subst hTe
          subst hde
          by_cases hc1 : c = 1
          · subst hc1
            rcases Decidable.em (sa = sb) with heq | hne
            · skip
              have hv : (if numB N = ((m : Int) + 144) :: r.take m then some (N, 1 + m) else none) = some (N, 1 + m) := if_pos (HIFF.out.1 heq)
              rw [hv]
              clear hv
              subst heq
              unfold firstV
              dsimp only
              go_enter Tryz.func102, Tryz.ntmps102
              go_wp2_with fail
              go_loopw [8, 41] (fun u i wr => ∃ k : Nat, (k : Int) ≤ m ∧ u = .int .u64 (dU (r.take k)) ∧ i = .int .i64 k ∧ wr = w) (fun _ i _ => m - (intOf i).toNat)
              case atStart => exact ⟨0, by omega, rfl, rfl, rfl⟩
              case round =>
                obtain ⟨k, hk, rfl, rfl, rfl⟩ := hrel
                by_cases hkm : (k : Int) < m
                · exact absurd hkm (by omega)
                · have hke : k = m := by omega
                  subst hke
                  clear hkm hk
                  go_wp2_with fail
                  rw [HDN.out]
                  have hc2 := Lib.hid (cNum wr.drew N HNK.out)
                  have hq0 := (HTK.out.fr (Fr.refl (fun _ => False) _).drew (fun _ h => h.elim)).string
                  rw [HSB.out] at hq0
                  have hb1 : (1 : Int) + (k : Int) ≤ 1 := by omega
                  have hb0 : (0 : Int) ≤ 1 + (k : Int) := by omega
                  have hwr : IntKind.i64.wrap (1 + (k : Int)) = 1 + (k : Int) := by rw [IntKind.wrap_i64]; omega
                  have htn : (1 + (k : Int)).toNat = 1 + k := by omega
                  go_region_with (go_at_call 90; refine hc2.out.mono ?_; rintro e w1 ⟨v, rfl, hb, hB⟩; have hv1 := hb.1.string; rw [HSA.out] at hv1; have hq1 := ((HTK.out.fr (Fr.refl (fun _ => False) _).drew (fun _ h => h.elim)).fr (Fr.below (S := fun _ => False) hB) (fun _ h => h.elim)).string; rw [HSB.out] at hq1; have HBB := Lib.hid hB; clear hb hB)
                  all_goals
                    go_wp2_with fail
                    go_returns
                    exact ⟨rfl, ((Below.refl _ _).drew).trans HBB.out⟩
            · skip
              have hv : (if numB N = ((m : Int) + 144) :: r.take m then some (N, 1 + m) else none) = none := if_neg (fun e => hne (HIFF.out.2 e))
              rw [hv]
              clear hv
              have hbne : (sa.toList == sb.toList) = false := strNe hne
              unfold firstV
              dsimp only
              go_enter Tryz.func102, Tryz.ntmps102
              go_wp2_with fail
              go_loopw [8, 41] (fun u i wr => ∃ k : Nat, (k : Int) ≤ m ∧ u = .int .u64 (dU (r.take k)) ∧ i = .int .i64 k ∧ wr = w) (fun _ i _ => m - (intOf i).toNat)
              case atStart => exact ⟨0, by omega, rfl, rfl, rfl⟩
              case round =>
                obtain ⟨k, hk, rfl, rfl, rfl⟩ := hrel
                by_cases hkm : (k : Int) < m
                · exact absurd hkm (by omega)
                · have hke : k = m := by omega
                  subst hke
                  clear hkm hk
                  go_wp2_with fail
                  rw [HDN.out]
                  have hc2 := Lib.hid (cNum wr.drew N HNK.out)
                  have hq0 := (HTK.out.fr (Fr.refl (fun _ => False) _).drew (fun _ h => h.elim)).string
                  rw [HSB.out] at hq0
                  have hb1 : (1 : Int) + (k : Int) ≤ 1 := by omega
                  have hb0 : (0 : Int) ≤ 1 + (k : Int) := by omega
                  have hwr : IntKind.i64.wrap (1 + (k : Int)) = 1 + (k : Int) := by rw [IntKind.wrap_i64]; omega
                  have htn : (1 + (k : Int)).toNat = 1 + k := by omega
                  go_region_with (go_at_call 90; refine hc2.out.mono ?_; rintro e w1 ⟨v, rfl, hb, hB⟩; have hv1 := hb.1.string; rw [HSA.out] at hv1; have hq1 := ((HTK.out.fr (Fr.refl (fun _ => False) _).drew (fun _ h => h.elim)).fr (Fr.below (S := fun _ => False) hB) (fun _ h => h.elim)).string; rw [HSB.out] at hq1; have HBB := Lib.hid hB; clear hb hB)
                  all_goals
                    go_wp2_with fail
                    go_returns
                    exact ⟨rfl, ((Below.refl _ _).drew).trans HBB.out⟩
          · skip
            rcases Decidable.em (sa = sb) with heq | hne
            · skip
              have hv : (if numB N = ((m : Int) + 144) :: r.take m then some (N, 1 + m) else none) = some (N, 1 + m) := if_pos (HIFF.out.1 heq)
              rw [hv]
              clear hv
              subst heq
              unfold firstV
              dsimp only
              go_enter Tryz.func102, Tryz.ntmps102
              go_wp2_with fail
              go_loopw [8, 41] (fun u i wr => ∃ k : Nat, (k : Int) ≤ m ∧ u = .int .u64 (dU (r.take k)) ∧ i = .int .i64 k ∧ wr = w) (fun _ i _ => m - (intOf i).toNat)
              case atStart => exact ⟨0, by omega, rfl, rfl, rfl⟩
              case round =>
                obtain ⟨k, hk, rfl, rfl, rfl⟩ := hrel
                by_cases hkm : (k : Int) < m
                · obtain ⟨x, hx⟩ : ∃ x, r[k]? = some x := ⟨r[k]'(by have := HN.out; omega), List.getElem?_eq_getElem _⟩
                  have hcx := HC.out k x hx
                  obtain ⟨x0, x1⟩ := HB.out x (List.mem_of_getElem? hx)
                  have hcx : wr.cell? ⟨ad.block, ad.off + 1 + k, none⟩ = some (.int .u8 x) := by
                    rw [← hcx]
                    unfold Addr.add
                    rw [if_neg (by omega)]
                    congr 2; omega
                  have HU := Lib.hid (dU_succ hx)
                  generalize dU (r.take k) = u at *
                  clear hx
                  go_wp2
                  go_roundw
                  case rel => exact ⟨k + 1, by omega, by rw [HU.out]; rfl, by go_num, by trivial⟩
                  case measure => simp [intOf]; omega
                · have hke : k = m := by omega
                  subst hke
                  clear hkm hk
                  go_wp2_with fail
                  rw [HDN.out]
                  have hc2 := Lib.hid (cNum wr.drew N HNK.out)
                  have hq0 := (HTK.out.fr (Fr.refl (fun _ => False) _).drew (fun _ h => h.elim)).string
                  rw [HSB.out] at hq0
                  have hb1 : (1 : Int) + (k : Int) ≤ (c : Int) := by omega
                  have hb0 : (0 : Int) ≤ 1 + (k : Int) := by omega
                  have hb3 : ¬ c = 0 := by omega
                  have hwr : IntKind.i64.wrap (1 + (k : Int)) = 1 + (k : Int) := by rw [IntKind.wrap_i64]; omega
                  have htn : (1 + (k : Int)).toNat = 1 + k := by omega
                  go_region_with (go_at_call 90; refine hc2.out.mono ?_; rintro e w1 ⟨v, rfl, hb, hB⟩; have hv1 := hb.1.string; rw [HSA.out] at hv1; have hq1 := ((HTK.out.fr (Fr.refl (fun _ => False) _).drew (fun _ h => h.elim)).fr (Fr.below (S := fun _ => False) hB) (fun _ h => h.elim)).string; rw [HSB.out] at hq1; have HBB := Lib.hid hB; clear hb hB)
                  all_goals
                    go_wp2_with fail
                    go_returns
                    exact ⟨rfl, ((Below.refl _ _).drew).trans HBB.out⟩
            · skip
              have hv : (if numB N = ((m : Int) + 144) :: r.take m then some (N, 1 + m) else none) = none := if_neg (fun e => hne (HIFF.out.2 e))
              rw [hv]
              clear hv
              have hbne : (sa.toList == sb.toList) = false := strNe hne
              unfold firstV
              dsimp only
              go_enter Tryz.func102, Tryz.ntmps102
              go_wp2_with fail
              go_loopw [8, 41] (fun u i wr => ∃ k : Nat, (k : Int) ≤ m ∧ u = .int .u64 (dU (r.take k)) ∧ i = .int .i64 k ∧ wr = w) (fun _ i _ => m - (intOf i).toNat)
              case atStart => exact ⟨0, by omega, rfl, rfl, rfl⟩
              case round =>
                obtain ⟨k, hk, rfl, rfl, rfl⟩ := hrel
                by_cases hkm : (k : Int) < m
                · obtain ⟨x, hx⟩ : ∃ x, r[k]? = some x := ⟨r[k]'(by have := HN.out; omega), List.getElem?_eq_getElem _⟩
                  have hcx := HC.out k x hx
                  obtain ⟨x0, x1⟩ := HB.out x (List.mem_of_getElem? hx)
                  have hcx : wr.cell? ⟨ad.block, ad.off + 1 + k, none⟩ = some (.int .u8 x) := by
                    rw [← hcx]
                    unfold Addr.add
                    rw [if_neg (by omega)]
                    congr 2; omega
                  have HU := Lib.hid (dU_succ hx)
                  generalize dU (r.take k) = u at *
                  clear hx
                  go_wp2
                  go_roundw
                  case rel => exact ⟨k + 1, by omega, by rw [HU.out]; rfl, by go_num, by trivial⟩
                  case measure => simp [intOf]; omega
                · have hke : k = m := by omega
                  subst hke
                  clear hkm hk
                  go_wp2_with fail
                  rw [HDN.out]
                  have hc2 := Lib.hid (cNum wr.drew N HNK.out)
                  have hq0 := (HTK.out.fr (Fr.refl (fun _ => False) _).drew (fun _ h => h.elim)).string
                  rw [HSB.out] at hq0
                  have hb1 : (1 : Int) + (k : Int) ≤ (c : Int) := by omega
                  have hb0 : (0 : Int) ≤ 1 + (k : Int) := by omega
                  have hb3 : ¬ c = 0 := by omega
                  have hwr : IntKind.i64.wrap (1 + (k : Int)) = 1 + (k : Int) := by rw [IntKind.wrap_i64]; omega
                  have htn : (1 + (k : Int)).toNat = 1 + k := by omega
                  go_region_with (go_at_call 90; refine hc2.out.mono ?_; rintro e w1 ⟨v, rfl, hb, hB⟩; have hv1 := hb.1.string; rw [HSA.out] at hv1; have hq1 := ((HTK.out.fr (Fr.refl (fun _ => False) _).drew (fun _ h => h.elim)).fr (Fr.below (S := fun _ => False) hB) (fun _ h => h.elim)).string; rw [HSB.out] at hq1; have HBB := Lib.hid hB; clear hb hB)
                  all_goals
                    go_wp2_with fail
                    go_returns
                    exact ⟨rfl, ((Below.refl _ _).drew).trans HBB.out⟩
        · have hde : hd = (m : Int) + 128 := by have := hS; unfold dSize at this; rw [if_neg (by omega)] at this; omega
          have hTe : T = 0 := by rw [← hT]; unfold dTurn; rw [if_neg (by omega)]
          clear hS hT HS HT hbad h hn hl hcap
          subst hTe
          subst hde
          by_cases hc1 : c = 1
          · subst hc1
            rcases Decidable.em (sa = sb) with heq | hne
            · skip
              have hv : (if numB N = ((m : Int) + 128) :: r.take m then some (N, 1 + m) else none) = some (N, 1 + m) := if_pos (HIFF.out.1 heq)
              rw [hv]
              clear hv
              subst heq
              unfold firstV
              dsimp only
              go_enter Tryz.func102, Tryz.ntmps102
              go_wp2_with fail
              go_loopw [8, 41] (fun u i wr => ∃ k : Nat, (k : Int) ≤ m ∧ u = .int .u64 (dU (r.take k)) ∧ i = .int .i64 k ∧ wr = w) (fun _ i _ => m - (intOf i).toNat)
              case atStart => exact ⟨0, by omega, rfl, rfl, rfl⟩
              case round =>
                obtain ⟨k, hk, rfl, rfl, rfl⟩ := hrel
                by_cases hkm : (k : Int) < m
                · exact absurd hkm (by omega)
                · have hke : k = m := by omega
                  subst hke
                  clear hkm hk
                  go_wp2_with fail
                  rw [HDN.out]
                  have hc2 := Lib.hid (cNum wr.drew N HNK.out)
                  have hq0 := (HTK.out.fr (Fr.refl (fun _ => False) _).drew (fun _ h => h.elim)).string
                  rw [HSB.out] at hq0
                  have hb1 : (1 : Int) + (k : Int) ≤ 1 := by omega
                  have hb0 : (0 : Int) ≤ 1 + (k : Int) := by omega
                  have hwr : IntKind.i64.wrap (1 + (k : Int)) = 1 + (k : Int) := by rw [IntKind.wrap_i64]; omega
                  have htn : (1 + (k : Int)).toNat = 1 + k := by omega
                  go_region_with (go_at_call 90; refine hc2.out.mono ?_; rintro e w1 ⟨v, rfl, hb, hB⟩; have hv1 := hb.1.string; rw [HSA.out] at hv1; have hq1 := ((HTK.out.fr (Fr.refl (fun _ => False) _).drew (fun _ h => h.elim)).fr (Fr.below (S := fun _ => False) hB) (fun _ h => h.elim)).string; rw [HSB.out] at hq1; have HBB := Lib.hid hB; clear hb hB)
                  all_goals
                    go_wp2_with fail
                    go_returns
                    exact ⟨rfl, ((Below.refl _ _).drew).trans HBB.out⟩
            · skip
              have hv : (if numB N = ((m : Int) + 128) :: r.take m then some (N, 1 + m) else none) = none := if_neg (fun e => hne (HIFF.out.2 e))
              rw [hv]
              clear hv
              have hbne : (sa.toList == sb.toList) = false := strNe hne
              unfold firstV
              dsimp only
              go_enter Tryz.func102, Tryz.ntmps102
              go_wp2_with fail
              go_loopw [8, 41] (fun u i wr => ∃ k : Nat, (k : Int) ≤ m ∧ u = .int .u64 (dU (r.take k)) ∧ i = .int .i64 k ∧ wr = w) (fun _ i _ => m - (intOf i).toNat)
              case atStart => exact ⟨0, by omega, rfl, rfl, rfl⟩
              case round =>
                obtain ⟨k, hk, rfl, rfl, rfl⟩ := hrel
                by_cases hkm : (k : Int) < m
                · exact absurd hkm (by omega)
                · have hke : k = m := by omega
                  subst hke
                  clear hkm hk
                  go_wp2_with fail
                  rw [HDN.out]
                  have hc2 := Lib.hid (cNum wr.drew N HNK.out)
                  have hq0 := (HTK.out.fr (Fr.refl (fun _ => False) _).drew (fun _ h => h.elim)).string
                  rw [HSB.out] at hq0
                  have hb1 : (1 : Int) + (k : Int) ≤ 1 := by omega
                  have hb0 : (0 : Int) ≤ 1 + (k : Int) := by omega
                  have hwr : IntKind.i64.wrap (1 + (k : Int)) = 1 + (k : Int) := by rw [IntKind.wrap_i64]; omega
                  have htn : (1 + (k : Int)).toNat = 1 + k := by omega
                  go_region_with (go_at_call 90; refine hc2.out.mono ?_; rintro e w1 ⟨v, rfl, hb, hB⟩; have hv1 := hb.1.string; rw [HSA.out] at hv1; have hq1 := ((HTK.out.fr (Fr.refl (fun _ => False) _).drew (fun _ h => h.elim)).fr (Fr.below (S := fun _ => False) hB) (fun _ h => h.elim)).string; rw [HSB.out] at hq1; have HBB := Lib.hid hB; clear hb hB)
                  all_goals
                    go_wp2_with fail
                    go_returns
                    exact ⟨rfl, ((Below.refl _ _).drew).trans HBB.out⟩
          · skip
            rcases Decidable.em (sa = sb) with heq | hne
            · skip
              have hv : (if numB N = ((m : Int) + 128) :: r.take m then some (N, 1 + m) else none) = some (N, 1 + m) := if_pos (HIFF.out.1 heq)
              rw [hv]
              clear hv
              subst heq
              unfold firstV
              dsimp only
              go_enter Tryz.func102, Tryz.ntmps102
              go_wp2_with fail
              go_loopw [8, 41] (fun u i wr => ∃ k : Nat, (k : Int) ≤ m ∧ u = .int .u64 (dU (r.take k)) ∧ i = .int .i64 k ∧ wr = w) (fun _ i _ => m - (intOf i).toNat)
              case atStart => exact ⟨0, by omega, rfl, rfl, rfl⟩
              case round =>
                obtain ⟨k, hk, rfl, rfl, rfl⟩ := hrel
                by_cases hkm : (k : Int) < m
                · obtain ⟨x, hx⟩ : ∃ x, r[k]? = some x := ⟨r[k]'(by have := HN.out; omega), List.getElem?_eq_getElem _⟩
                  have hcx := HC.out k x hx
                  obtain ⟨x0, x1⟩ := HB.out x (List.mem_of_getElem? hx)
                  have hcx : wr.cell? ⟨ad.block, ad.off + 1 + k, none⟩ = some (.int .u8 x) := by
                    rw [← hcx]
                    unfold Addr.add
                    rw [if_neg (by omega)]
                    congr 2; omega
                  have HU := Lib.hid (dU_succ hx)
                  generalize dU (r.take k) = u at *
                  clear hx
                  go_wp2
                  go_roundw
                  case rel => exact ⟨k + 1, by omega, by rw [HU.out]; rfl, by go_num, by trivial⟩
                  case measure => simp [intOf]; omega
                · have hke : k = m := by omega
                  subst hke
                  clear hkm hk
                  go_wp2_with fail
                  rw [HDN.out]
                  have hc2 := Lib.hid (cNum wr.drew N HNK.out)
                  have hq0 := (HTK.out.fr (Fr.refl (fun _ => False) _).drew (fun _ h => h.elim)).string
                  rw [HSB.out] at hq0
                  have hb1 : (1 : Int) + (k : Int) ≤ (c : Int) := by omega
                  have hb0 : (0 : Int) ≤ 1 + (k : Int) := by omega
                  have hb3 : ¬ c = 0 := by omega
                  have hwr : IntKind.i64.wrap (1 + (k : Int)) = 1 + (k : Int) := by rw [IntKind.wrap_i64]; omega
                  have htn : (1 + (k : Int)).toNat = 1 + k := by omega
                  go_region_with (go_at_call 90; refine hc2.out.mono ?_; rintro e w1 ⟨v, rfl, hb, hB⟩; have hv1 := hb.1.string; rw [HSA.out] at hv1; have hq1 := ((HTK.out.fr (Fr.refl (fun _ => False) _).drew (fun _ h => h.elim)).fr (Fr.below (S := fun _ => False) hB) (fun _ h => h.elim)).string; rw [HSB.out] at hq1; have HBB := Lib.hid hB; clear hb hB)
                  all_goals
                    go_wp2_with fail
                    go_returns
                    exact ⟨rfl, ((Below.refl _ _).drew).trans HBB.out⟩
            · skip
              have hv : (if numB N = ((m : Int) + 128) :: r.take m then some (N, 1 + m) else none) = none := if_neg (fun e => hne (HIFF.out.2 e))
              rw [hv]
              clear hv
              have hbne : (sa.toList == sb.toList) = false := strNe hne
              unfold firstV
              dsimp only
              go_enter Tryz.func102, Tryz.ntmps102
              go_wp2_with fail
              go_loopw [8, 41] (fun u i wr => ∃ k : Nat, (k : Int) ≤ m ∧ u = .int .u64 (dU (r.take k)) ∧ i = .int .i64 k ∧ wr = w) (fun _ i _ => m - (intOf i).toNat)
              case atStart => exact ⟨0, by omega, rfl, rfl, rfl⟩
              case round =>
                obtain ⟨k, hk, rfl, rfl, rfl⟩ := hrel
                by_cases hkm : (k : Int) < m
                · obtain ⟨x, hx⟩ : ∃ x, r[k]? = some x := ⟨r[k]'(by have := HN.out; omega), List.getElem?_eq_getElem _⟩
                  have hcx := HC.out k x hx
                  obtain ⟨x0, x1⟩ := HB.out x (List.mem_of_getElem? hx)
                  have hcx : wr.cell? ⟨ad.block, ad.off + 1 + k, none⟩ = some (.int .u8 x) := by
                    rw [← hcx]
                    unfold Addr.add
                    rw [if_neg (by omega)]
                    congr 2; omega
                  have HU := Lib.hid (dU_succ hx)
                  generalize dU (r.take k) = u at *
                  clear hx
                  go_wp2
                  go_roundw
                  case rel => exact ⟨k + 1, by omega, by rw [HU.out]; rfl, by go_num, by trivial⟩
                  case measure => simp [intOf]; omega
                · have hke : k = m := by omega
                  subst hke
                  clear hkm hk
                  go_wp2_with fail
                  rw [HDN.out]
                  have hc2 := Lib.hid (cNum wr.drew N HNK.out)
                  have hq0 := (HTK.out.fr (Fr.refl (fun _ => False) _).drew (fun _ h => h.elim)).string
                  rw [HSB.out] at hq0
                  have hb1 : (1 : Int) + (k : Int) ≤ (c : Int) := by omega
                  have hb0 : (0 : Int) ≤ 1 + (k : Int) := by omega
                  have hb3 : ¬ c = 0 := by omega
                  have hwr : IntKind.i64.wrap (1 + (k : Int)) = 1 + (k : Int) := by rw [IntKind.wrap_i64]; omega
                  have htn : (1 + (k : Int)).toNat = 1 + k := by omega
                  go_region_with (go_at_call 90; refine hc2.out.mono ?_; rintro e w1 ⟨v, rfl, hb, hB⟩; have hv1 := hb.1.string; rw [HSA.out] at hv1; have hq1 := ((HTK.out.fr (Fr.refl (fun _ => False) _).drew (fun _ h => h.elim)).fr (Fr.below (S := fun _ => False) hB) (fun _ h => h.elim)).string; rw [HSB.out] at hq1; have HBB := Lib.hid hB; clear hb hB)
                  all_goals
                    go_wp2_with fail
                    go_returns
                    exact ⟨rfl, ((Below.refl _ _).drew).trans HBB.out⟩
end Go.Proofs.YtogphlnakdnchaaGreat

namespace Go.Proofs.YtogphlnakdnchaaGreat
open Go.RowKit Go.Maps
/-- A taker with bs left. -/
structure TK (w : World) (g : Nat) (TS : Nat → Prop) (bs : List Int) (bad : Bool) : Prop where
  ex : ∃ v, w.heap[g]? = some (.cells #[v, .bool bad] 153) ∧ Bs w v bs ∧ (∀ a n c, v = .slice a n c → n ≤ c) ∧ ∀ b, v.ownBlock = some b → TS b ∧ b ≠ g
  own : TS g
  lt : ∀ b, TS b → b < w.heap.size
theorem Bs.keep {S : Nat → Prop} {w w' : World} {v : Value} {bs : List Int} (h : Bs w v bs) (hf : Fr S w w') (hS : ∀ b, v.ownBlock = some b → ¬ S b) : Bs w' v bs := by
  obtain ⟨h0, a, c, rfl, h1⟩ := h
  refine ⟨h0, a, c, rfl, fun i x hx => ?_⟩
  obtain ⟨b1, b2, ad, rfl, hc⟩ := h1 i x hx
  have hb : (ad.add i).block = ad.block := by unfold Addr.add; split <;> rfl
  exact ⟨b1, b2, ad, rfl, hf.cell hc (fun e => hS ad.block rfl (hb ▸ e))⟩
theorem TK.fr {S TS : Nat → Prop} {w w' : World} {g : Nat} {bs : List Int} {bad : Bool} (h : TK w g TS bs bad) (hf : Fr S w w') (hS : ∀ b, TS b → ¬ S b) : TK w' g TS bs bad := by
  obtain ⟨⟨v, h1, h2, h3, h4⟩, h5, h6⟩ := h
  exact ⟨⟨v, hf.at_ h1 (hS _ h5), h2.keep hf (fun b hb => hS _ (h4 b hb).1), h3, h4⟩, h5, fun b hb => Nat.lt_of_lt_of_le (h6 b hb) hf.size⟩
/-- What a taker's Num gives, and what is left. -/
def numT (bs : List Int) (bad : Bool) (least most : Int) : Int × List Int × Bool :=
  if bad = true then (0, bs, true) else match firstB bs with
    | some (n, k) => if n < least ∨ most < n then (0, bs, true) else (n, bs.drop k, false)
    | none => (0, bs, true)
set_option maxRecDepth 100000 in
theorem cTake (w : World) (v : Value) (bs : List Int) (h : Bs w v bs) (hl : (bs.length : Int) ≤ 140737488351232) (hb : ∀ x ∈ bs, 0 ≤ x ∧ x < 256) : Calls Tryz.prog 61 #[v] w fun e w' =>
    ∃ g TS, e = .returned (.pointer (some ⟨g, 0, none⟩)) ∧ TK w' g TS bs false ∧ Fr (fun _ => False) w w' ∧ ∀ b, TS b → w.heap.size ≤ b := by
  have hC := cClone w v bs h hl
  have HC := Lib.hid hC; have HB := Lib.hid hb
  obtain ⟨_, a, c, rfl, _⟩ := h
  clear hC hb
  go_enter Tryz.func61, Tryz.ntmps61
  go_wp2_with fail
  refine HC.out.mono ?_
  rintro e w1 ⟨v', rfl, hown, hB⟩
  have hBs := Bs.own hown HB.out
  obtain ⟨_, a', c', rfl, _⟩ := id hBs.1
  have hcap : ∀ a n c, Value.slice a' bs.length c' = .slice a n c → n ≤ c := fun a n c e => by
    injection e with e1 e2 e3
    subst e1 e2 e3
    rcases hown.2 with ⟨e, e2⟩ | ⟨g, cap, cur, e, _, _, h1, _⟩
    · omega
    · injection e with _ _ e3
      omega
  have hlt := fun b hb => hown.lt b hb
  have HBS := Lib.hid hBs; have HCAP := Lib.hid hcap; have HLT := Lib.hid hlt; have HBB := Lib.hid hB
  clear hown hBs hcap hlt hB
  go_wp2_with fail
  go_ret
  refine ⟨_, fun b => b = w1.heap.size ∨ (Value.slice a' bs.length c').ownBlock = some b, rfl, ⟨⟨_, heap_new _ _, HBS.out.1.keep ((Fr.refl (fun _ => False) _).alloc _) (fun _ _ h => h), HCAP.out, fun b hb => ⟨.inr hb, ?_⟩⟩, .inl rfl, ?_⟩, ((Fr.below HBB.out).mono (fun _ _ h => h)).alloc _, ?_⟩
  · have := (HLT.out b hb).2; omega
  · rintro b (rfl | hb)
    · simp
    · have := (HLT.out b hb).2; simp; omega
  · rintro b (rfl | hb)
    · exact HBB.out.size
    · exact (HLT.out b hb).1
theorem cMay (w : World) (g : Nat) (TS : Nat → Prop) (bs : List Int) (bad : Bool) (h : TK w g TS bs bad) : Calls Tryz.prog 100 #[.pointer (some ⟨g, 0, none⟩)] w fun e w' => e = .returned (.bool (!bad)) ∧ w = w' := by
  obtain ⟨⟨v, h1, h2, h3, h4⟩, h5, h6⟩ := h
  have b1 := cell_obj h1 1 (.bool bad) rfl
  clear h1 h2 h3 h4 h5 h6
  go_enter Tryz.func100, Tryz.ntmps100
  go_wp2
  go_ret
  exact ⟨rfl, rfl⟩
theorem cFault (w : World) (g : Nat) (TS : Nat → Prop) (bs : List Int) (bad : Bool) (h : TK w g TS bs bad) : Calls Tryz.prog 101 #[.pointer (some ⟨g, 0, none⟩)] w fun e w' => (∃ v, e = .returned v) ∧ TK w' g TS bs true ∧ Fr TS w w' := by
  obtain ⟨⟨v, h1, h2, h3, h4⟩, h5, h6⟩ := h
  have b1 := cell_obj h1 1 (.bool bad) rfl
  have f1 := obj_frozen h1 1
  have H1 := Lib.hid h1; have H2 := Lib.hid h2; have H3 := Lib.hid h3; have H4 := Lib.hid h4; have H5 := Lib.hid h5; have H6 := Lib.hid h6
  clear h1 h2 h3 h4 h5 h6
  go_enter Tryz.func101, Tryz.ntmps101
  go_wp2
  go_end0
  have hF : Fr (fun b => b = g) w (w.setCell ⟨g, 1, none⟩ (.bool true)) := (Fr.refl (fun b => b = g) w).setCell (p := ⟨g, 1, none⟩) (fun _ => rfl) _
  refine ⟨⟨_, rfl⟩, ⟨⟨v, obj_set H1.out 1 (.bool true), H2.out.keep hF (fun b hb => (H4.out b hb).2), H3.out, H4.out⟩, H5.out, fun b hb => by have := H6.out b hb; have := hF.size; omega⟩, hF.mono (fun b _ e => e ▸ H5.out)⟩
theorem Bs.drop {w : World} {a : Option Addr} {n c c' k : Nat} {bs : List Int} (h : Bs w (.slice a n c) bs) (hn : bs.length = n) (hk : k ≤ n) : Bs w (.slice (a.map fun x => x.add k) (n - k) c') (bs.drop k) := by
  obtain ⟨h0, a', c1, e, hx⟩ := h
  injection e with e1 e2 e3
  subst e1
  have hl : (bs.drop k).length = n - k := by rw [List.length_drop, hn]
  refine ⟨by omega, _, c', by rw [hl], fun i x hi => ?_⟩
  rw [List.getElem?_drop] at hi
  obtain ⟨b1, b2, ad, rfl, hc⟩ := hx (k + i) x hi
  exact ⟨b1, b2, _, rfl, by rw [Go.Deep.add_add]; exact hc⟩
theorem Bs.none' (w : World) (a : Option Addr) (c : Nat) : Bs w (.slice a 0 c) [] := ⟨by simp, a, c, rfl, fun i x h => by simp at h⟩
theorem firstB_le {bs : List Int} {n : Int} {k : Nat} (h : firstB bs = some (n, k)) : 1 ≤ k ∧ k ≤ bs.length := by
  cases bs with
  | nil => cases h
  | cons a r =>
    simp only [firstB] at h
    split at h
    · cases h; simp
    · split at h
      · cases h
      · split at h
        · cases h
          rename_i h1 _
          simp only [List.length_cons]
          omega
        · cases h
set_option maxRecDepth 100000 in
set_option maxHeartbeats 1000000 in
theorem cTNum (w : World) (g : Nat) (TS : Nat → Prop) (bs : List Int) (bad : Bool) (least most : Int) (h : TK w g TS bs bad) :
    Calls Tryz.prog 64 #[.pointer (some ⟨g, 0, none⟩), .int .i64 least, .int .i64 most] w fun e w' => e = .returned (.int .i64 (numT bs bad least most).1) ∧ TK w' g TS (numT bs bad least most).2.1 (numT bs bad least most).2.2 ∧ Fr TS w w' := by
  have hM := fun w h => cMay w g TS bs bad h
  have HM := Lib.hid hM; have HT := Lib.hid h
  clear hM
  cases bad with
  | true =>
    clear h
    unfold numT
    go_enter Tryz.func64, Tryz.ntmps64
    go_wp2_with (go_at_call 100; refine (HM.out _ HT.out).mono ?_; rintro e w1 ⟨rfl, rfl⟩)
    go_ret
    exact ⟨rfl, HT.out, Fr.refl _ _⟩
  | false =>
    obtain ⟨⟨v, h1, h2, h3, h4⟩, h5, h6⟩ := id h
    obtain ⟨_, a, c, rfl, _⟩ := id h2
    have b0 := cell_obj h1 0 (.slice a bs.length c) rfl
    have hFi := cFirst w _ bs h2 h3
    have HFI := Lib.hid hFi; have H1 := Lib.hid h1; have H2 := Lib.hid h2; have H3 := Lib.hid h3; have H4 := Lib.hid h4; have H5 := Lib.hid h5; have H6 := Lib.hid h6
    obtain ⟨o, ho⟩ : ∃ o, firstB bs = o := ⟨_, rfl⟩
    rw [ho] at HFI
    have HO := Lib.hid ho
    clear hFi h h1 h2 h3 h4 h5 h6 ho
    cases o with
    | none =>
      have e : numT bs false least most = (0, bs, true) := by simp [numT, HO.out]
      rw [e]
      clear e
      go_enter Tryz.func64, Tryz.ntmps64
      go_wp2_with (go_at_call 100; refine (HM.out _ HT.out).mono ?_; rintro e w1 ⟨rfl, rfl⟩)
      refine HFI.out.mono ?_
      rintro e w2 ⟨rfl, hB⟩
      unfold firstV
      dsimp only
      have HT2 := Lib.hid (HT.out.fr (Fr.below (S := fun _ => False) hB) (fun _ _ h => h)); have HBB := Lib.hid hB
      clear hB
      go_wp2_with fail
      refine (cFault _ _ _ _ _ HT2.out).mono ?_
      rintro e w3 ⟨⟨v, rfl⟩, hT3, hF3⟩
      go_wp2_with fail
      go_ret
      exact ⟨rfl, hT3, ((Fr.below (S := TS) HBB.out)).trans' hF3 (fun _ _ h => h)⟩
    | some p =>
      obtain ⟨n, k⟩ := p
      obtain ⟨hk1, hk2⟩ := firstB_le HO.out
      by_cases hbnd : n < least ∨ most < n
      · have e : numT bs false least most = (0, bs, true) := by simp [numT, HO.out, hbnd]
        rw [e]
        clear e hk1 hk2
        rcases (by omega : n < least ∨ least ≤ n ∧ most < n) with hlo | ⟨hlo, hhi⟩
        all_goals
          clear hbnd
          go_enter Tryz.func64, Tryz.ntmps64
          go_wp2_with (go_at_call 100; refine (HM.out _ HT.out).mono ?_; rintro e w1 ⟨rfl, rfl⟩)
          refine HFI.out.mono ?_
          rintro e w2 ⟨rfl, hB⟩
          unfold firstV
          dsimp only
          have HT2 := Lib.hid (HT.out.fr (Fr.below (S := fun _ => False) hB) (fun _ _ h => h)); have HBB := Lib.hid hB
          clear hB
          go_wp2_with fail
          refine (cFault _ _ _ _ _ HT2.out).mono ?_
          rintro e w3 ⟨⟨v, rfl⟩, hT3, hF3⟩
          go_wp2_with fail
          go_ret
          exact ⟨rfl, hT3, ((Fr.below (S := TS) HBB.out)).trans' hF3 (fun _ _ h => h)⟩
      · have e : numT bs false least most = (n, bs.drop k, false) := by simp only [numT, HO.out, hbnd]; simp
        rw [e]
        have hlo : least ≤ n := by omega
        have hhi : n ≤ most := by omega
        clear e hbnd
        have hcap := H3.out _ _ _ rfl
        obtain ⟨ln, hln⟩ : ∃ ln, bs.length = ln := ⟨_, rfl⟩
        have HLN := Lib.hid hln
        rw [hln] at hk2 hcap b0
        clear hln
        go_enter Tryz.func64, Tryz.ntmps64
        go_wp2_with (go_at_call 100; refine (HM.out _ HT.out).mono ?_; rintro e w1 ⟨rfl, rfl⟩)
        rw [HLN.out] at HFI
        refine HFI.out.mono ?_
        rintro e w2 ⟨rfl, hB⟩
        unfold firstV
        dsimp only
        have hF2 := Fr.below (S := fun _ => False) hB
        have hG2 := hF2.at_ H1.out (fun h => h)
        rw [HLN.out] at hG2
        have c0 := cell_obj hG2 0 (.slice a ln c) rfl
        have f0 := obj_frozen hG2 0
        have HG2 := Lib.hid hG2; have HF2 := Lib.hid hF2
        clear hB hF2 hG2 b0
        have hpost : ∀ v' : Value, Bs w2 v' (bs.drop k) → (∀ a n c, v' = .slice a n c → n ≤ c) → (∀ b, v'.ownBlock = some b → (Value.slice a ln c).ownBlock = some b) →
            TK (w2.setCell ⟨g, 0, none⟩ v') g TS (bs.drop k) false ∧ Fr TS w (w2.setCell ⟨g, 0, none⟩ v') := fun v' hb hc ho => by
          have hF : Fr (fun b => b = g) w2 (w2.setCell ⟨g, 0, none⟩ v') := (Fr.refl (fun b => b = g) w2).setCell (p := ⟨g, 0, none⟩) (fun _ => rfl) _
          have h4 := H4.out
          rw [HLN.out] at h4
          refine ⟨⟨⟨v', obj_set HG2.out 0 v', hb.keep hF (fun b e => (h4 b (ho b e)).2), hc, fun b e => h4 b (ho b e)⟩, H5.out, fun b e => ?_⟩, (HF2.out.mono (fun _ _ h => h.elim)).trans' hF (fun b _ e => e ▸ H5.out)⟩
          have := H6.out b e; have := HF2.out.size; have := hF.size; omega
        have HPOST := Lib.hid hpost
        have hb2 : Bs w2 (.slice a ln c) bs := by have := H2.out.fr HF2.out (fun _ h => h.elim); rw [HLN.out] at this; exact this
        have HB2 := Lib.hid hb2
        clear hpost hb2
        go_wp2_with fail
        · have hck : c = k := by assumption
          have hlk : ln = k := by omega
          go_ret
          refine ⟨rfl, HPOST.out _ ?_ ?_ ?_⟩
          · have e0 : bs.drop k = [] := List.drop_eq_nil_of_le (by rw [HLN.out]; omega)
            rw [e0, show ln - k = 0 by omega]
            exact Bs.none' _ _ _
          · rintro a' n' c' e
            injection e with _ e2 e3
            omega
          · intro b e
            cases a with
            | none => cases e
            | some ad => exact e
        · go_ret
          refine ⟨rfl, HPOST.out _ (HB2.out.drop HLN.out hk2) ?_ ?_⟩
          · rintro a' n' c' e
            injection e with _ e2 e3
            omega
          · intro b e
            cases a with
            | none => cases e
            | some ad =>
              have hb : (ad.add k).block = ad.block := by unfold Addr.add; split <;> rfl
              simp only [Option.map, Value.ownBlock, hb] at e ⊢
              exact e
end Go.Proofs.YtogphlnakdnchaaGreat

namespace Go.Proofs.YtogphlnakdnchaaGreat
open Go.RowKit Go.Maps
def doneT (bs : List Int) (bad : Bool) : Int := if bad = true ∨ bs ≠ [] then 10 else 0
theorem cTDone (w : World) (g : Nat) (TS : Nat → Prop) (bs : List Int) (bad : Bool) (h : TK w g TS bs bad) :
    Calls Tryz.prog 66 #[.pointer (some ⟨g, 0, none⟩)] w fun e w' => e = .returned (.int .i64 (doneT bs bad)) ∧ w = w' := by
  obtain ⟨⟨v, h1, h2, -, -⟩, -, -⟩ := h
  obtain ⟨hlen, a, c, rfl, -⟩ := id h2
  have b0 := cell_obj h1 0 (.slice a bs.length c) rfl
  have b1 := cell_obj h1 1 (.bool bad) rfl
  clear h1 h2
  cases bad with
  | true =>
    clear b0
    rw [show doneT bs true = 10 by simp [doneT]]
    go_enter Tryz.func66, Tryz.ntmps66
    go_wp2
    go_ret
    exact ⟨rfl, rfl⟩
  | false =>
    cases bs with
    | nil =>
      rw [show doneT [] false = 0 by simp [doneT]]
      go_enter Tryz.func66, Tryz.ntmps66
      go_wp2
      go_ret
      exact ⟨rfl, rfl⟩
    | cons x r =>
      obtain ⟨n, hn⟩ : ∃ n, (x :: r).length = n + 1 := ⟨r.length, rfl⟩
      rw [hn] at b0 hlen
      clear hn
      rw [show doneT (x :: r) false = 10 by simp [doneT]]
      go_enter Tryz.func66, Tryz.ntmps66
      go_wp2
      go_ret
      exact ⟨rfl, rfl⟩
end Go.Proofs.YtogphlnakdnchaaGreat

namespace Go.Proofs.YtogphlnakdnchaaGreat
open Go.RowKit Go.Maps
abbrev Mst := List Int × Bool
def mkP (s : Mst) (c : List Int) : Mst := (putB s.1 s.2 c, putL s.1 s.2 c)
def mkAll (s : Mst) (cs : List (List Int)) : Mst := cs.foldl mkP s
def Byt (l : List Int) : Prop := ∀ x ∈ l, 0 ≤ x ∧ x < 256
end Go.Proofs.YtogphlnakdnchaaGreat

namespace Go.Proofs.YtogphlnakdnchaaGreat
open Go.RowKit Go.Maps
/-- What is read begins with that number's cell. -/
theorem firstB_of {bs : List Int} {n : Int} {k : Nat} (h : firstB bs = some (n, k)) (hb : ∀ x ∈ bs, 0 ≤ x ∧ x < 256) : okI n ∧ k = (numB n).length ∧ bs = numB n ++ bs.drop k := by
  cases bs with
  | nil => cases h
  | cons a r =>
    simp only [firstB] at h
    by_cases ha : a < 128
    · rw [if_pos ha] at h
      cases h
      have h0 := (hb n (by simp)).1
      have e : numB n = [n] := by unfold numB; rw [if_pos ⟨h0, ha⟩]
      refine ⟨by unfold okI; omega, by rw [e]; rfl, by rw [e]; rfl⟩
    · rw [if_neg ha] at h
      split at h
      · cases h
      · rename_i hs
        split at h
        · rename_i he
          injection h with h
          injection h with h1 h2
          subst h2
          rw [h1] at he
          have hok : okI n := by rw [← h1]; unfold dN wrap64 okI; omega
          have hS0 : 0 ≤ dSize a := by unfold dSize; split <;> omega
          have hl : (r.take (dSize a).toNat).length = (dSize a).toNat := by rw [List.length_take]; omega
          refine ⟨hok, by rw [he, List.length_cons, hl, Nat.add_comm], ?_⟩
          rw [he, Nat.add_comm, List.drop_succ_cons, List.cons_append, List.take_append_drop]
        · cases h
end Go.Proofs.YtogphlnakdnchaaGreat

namespace Go.Proofs.YtogphlnakdnchaaGreat
open Go.RowKit Go.Maps
abbrev Tst := List Int × Bool
def tk (t : Tst) (a b : Int) : Int × Tst := ((numT t.1 t.2 a b).1, (numT t.1 t.2 a b).2)
theorem tk_in (t : Tst) {a b : Int} (h0 : a ≤ 0) (h1 : 0 ≤ b) : a ≤ (tk t a b).1 ∧ (tk t a b).1 ≤ b := by
  unfold tk numT
  dsimp only
  split
  · exact ⟨h0, h1⟩
  · split
    · split
      · exact ⟨h0, h1⟩
      · dsimp only; omega
    · exact ⟨h0, h1⟩
theorem tk_in1 (t : Tst) {b : Int} (h1 : 0 ≤ b) : 0 ≤ (tk t 1 b).1 ∧ (tk t 1 b).1 ≤ b := by
  unfold tk numT
  dsimp only
  split
  · exact ⟨by omega, h1⟩
  · split
    · split
      · exact ⟨by omega, h1⟩
      · dsimp only; omega
    · exact ⟨by omega, h1⟩
theorem xTk (w : World) (g : Nat) (TS : Nat → Prop) (t : Tst) (a b : Int) (h : TK w g TS t.1 t.2) :
    Calls Tryz.prog 64 #[.pointer (some ⟨g, 0, none⟩), .int .i64 a, .int .i64 b] w fun e w' => e = .returned (.int .i64 (tk t a b).1) ∧ TK w' g TS (tk t a b).2.1 (tk t a b).2.2 ∧ Fr TS w w' := cTNum w g TS t.1 t.2 a b h
theorem tk_bad {t : Tst} (h : t.2 = true) (a b : Int) : tk t a b = (0, t) := by
  obtain ⟨bs, bad⟩ := t
  dsimp only at h
  subst h
  simp [tk, numT]
theorem tk_bad0 (t : Tst) (a b : Int) (h : (tk t a b).2.2 = true) : (tk t a b).1 = 0 := by
  unfold tk numT at *
  dsimp only at *
  split at h
  · simp_all
  · split at h
    · split at h
      · simp_all
      · cases h
    · simp_all
theorem tk_ok {t : Tst} {a b : Int} (h : (tk t a b).2.2 = false) : t.2 = false ∧ a ≤ (tk t a b).1 ∧ (tk t a b).1 ≤ b := by
  obtain ⟨bs, bad⟩ := t
  unfold tk numT at *
  dsimp only at *
  cases bad with
  | true => simp at h
  | false =>
    cases e : firstB bs with
    | none => rw [e] at h; simp at h
    | some p =>
      obtain ⟨n, k⟩ := p
      rw [e] at h
      simp only [Bool.false_eq_true, if_false] at h ⊢
      by_cases hr : n < a ∨ b < n
      · rw [if_pos hr] at h; cases h
      · rw [if_neg hr]
        refine ⟨by first | rfl | trivial, ?_⟩
        dsimp only; omega
theorem tk_take {t : Tst} {a b : Int} (hb : Byt t.1) (h : (tk t a b).2.2 = false) : okI (tk t a b).1 ∧ t.1 = numB (tk t a b).1 ++ (tk t a b).2.1 ∧ (a ≤ (tk t a b).1 ∧ (tk t a b).1 ≤ b) ∧ t.2 = false ∧ Byt (tk t a b).2.1 := by
  obtain ⟨bs, bad⟩ := t
  unfold tk numT at *
  dsimp only at *
  cases bad with
  | true => simp at h
  | false =>
    cases e : firstB bs with
    | none => rw [e] at h; simp at h
    | some p =>
      obtain ⟨n, k⟩ := p
      rw [e] at h
      simp only [Bool.false_eq_true, if_false] at h ⊢
      by_cases hr : n < a ∨ b < n
      · rw [if_pos hr] at h; cases h
      · rw [if_neg hr]
        obtain ⟨h1, h2, h3⟩ := firstB_of e hb
        exact ⟨h1, h3, by dsimp only; omega, by first | rfl | trivial, fun x hx => hb x (List.mem_of_mem_drop hx)⟩
end Go.Proofs.YtogphlnakdnchaaGreat

namespace Go.Proofs.YtogphlnakdnchaaGreat
open Go.RowKit Go.Maps
/-- A text's bytes. -/
def sB (s : Str) : List Int := s.map fun c => (c.toNat : Int)
theorem sB_len (s : Str) : (sB s).length = s.length := by simp [sB]
theorem sB_byt (s : Str) : Byt (sB s) := by
  intro x hx
  obtain ⟨c, -, rfl⟩ := List.mem_map.1 hx
  have := c.toNat_lt
  omega
/-- A text's cell. -/
def textB (s : Str) : List Int := numB (s.length : Int) ++ sB s
theorem bytesWorld_fr (w : World) (e : TypeId) (s : ByteArray) : Fr (fun _ => False) w (Lib.bytesWorld w e s) :=
  ⟨rfl, rfl, rfl, by rw [Lib.bytesWorld_size]; omega, fun b hb _ => Lib.bytesWorld_at_old w e s b hb⟩
theorem bytesWorld_bs (w : World) (s : Str) (c : Nat) (hs : s.length ≤ 65536) : Bs (Lib.bytesWorld w 5 ⟨s.toArray⟩) (.slice (some ⟨w.heap.size, 0, none⟩) s.length c) (sB s) := by
  refine ⟨by rw [sB_len]; omega, some ⟨w.heap.size, 0, none⟩, c, by rw [sB_len], fun i x hx => ?_⟩
  have hb := sB_byt s x (List.mem_of_getElem? hx)
  refine ⟨hb.1, hb.2, _, rfl, ?_⟩
  have hi : i < s.length := by have := (List.getElem?_eq_some_iff.1 hx).1; rwa [sB_len] at this
  have := Lib.bytesWorld_cell w 5 ⟨s.toArray⟩ i (by simpa [ByteArray.size] using hi)
  rw [show (⟨w.heap.size, 0, none⟩ : Addr).add i = ⟨w.heap.size, i, none⟩ by simp [Addr.add]; omega, this]
  unfold sB at hx
  rw [List.getElem?_map, List.getElem?_eq_getElem hi] at hx
  injection hx with hx
  subst hx
  simp [List.getD, hi]
set_option maxRecDepth 100000 in
set_option maxHeartbeats 2000000 in
theorem cMText (w : World) (g : Nat) (TS : Nat → Prop) (bs : List Int) (long : Bool) (s : Str) (h : MK w g TS bs long) (hs : s.length ≤ 65536) :
    Calls Tryz.prog 49 #[.pointer (some ⟨g, 0, none⟩), vS s] w fun e w' => e = .returned (.pointer (some ⟨g, 0, none⟩)) ∧ ∃ TS', MK w' g TS' (putB bs long (textB s)) (putL bs long (textB s)) ∧ Stp TS w w' TS' := by
  have hn : okI (s.length : Int) := by unfold okI; omega
  have hl := numB_len hn
  have hN := Lib.hid (cNum w (s.length : Int) hn)
  have hcv := fun (W : World) => Lib.run_convert_string_bytes (P := Tryz.prog) W 9 48 5 ⟨s.toArray⟩ Tryz.underlying9 Tryz.underlying48 Tryz.underlying5
  have HH := Lib.hid h; have HL := Lib.hid hl
  have hsz : (ByteArray.mk s.toArray).size = s.length := by simp [ByteArray.size]
  simp only [hsz] at hcv
  clear h hl hsz
  go_enter Tryz.func49, Tryz.ntmps49
  go_wp2_with fail
  refine hN.out.mono ?_
  rintro e w1 ⟨v, rfl, hb, hB⟩
  obtain ⟨ad, c, rfl⟩ := hb.1.at0 (by have := HL.out; omega)
  have HBN := Lib.hid hb; have HB := Lib.hid hB
  clear hb hB
  go_wp2_with fail
  obtain ⟨cc, hcc⟩ : ∃ cc, grownCap w1 s.length 0 5 = cc := ⟨_, rfl⟩
  rw [hcc]
  have hFb := bytesWorld_fr w1 5 ⟨s.toArray⟩
  have hBs := bytesWorld_bs w1 s cc hs
  obtain ⟨V, hV⟩ : ∃ V, Lib.bytesWorld w1 5 ⟨s.toArray⟩ = V := ⟨_, rfl⟩
  rw [hV] at hFb hBs ⊢
  have hF2 : Fr (fun _ => False) w1 (V.alloc (.cells #[.slice (some ad) (numB (s.length : Int)).length c, .slice (some ⟨w1.heap.size, 0, none⟩) s.length cc] 48)) := hFb.alloc _
  have hF : Fr (fun _ => False) w _ := (Fr.below HB.out).trans hF2
  have hM := HH.out.fr hF (fun _ _ h => h)
  have hcat : catL [(Value.slice (some ad) (numB (s.length : Int)).length c, numB (s.length : Int)), (Value.slice (some ⟨w1.heap.size, 0, none⟩) s.length cc, sB s)] = textB s := by simp [catL, textB]
  have hblk := heap_new V (.cells #[.slice (some ad) (numB (s.length : Int)).length c, .slice (some ⟨w1.heap.size, 0, none⟩) s.length cc] 48)
  have hP : Parts (V.alloc (.cells #[.slice (some ad) (numB (s.length : Int)).length c, .slice (some ⟨w1.heap.size, 0, none⟩) s.length cc] 48)) (.slice (some ⟨V.heap.size, 0, none⟩) 2 2) [(Value.slice (some ad) (numB (s.length : Int)).length c, numB (s.length : Int)), (Value.slice (some ⟨w1.heap.size, 0, none⟩) s.length cc, sB s)] := by
    refine ⟨_, _, rfl, fun i p hp => ?_⟩
    match i, hp with
    | 0, hp =>
      cases hp
      exact ⟨cell_obj hblk 0 _ rfl, HBN.out.1.fr hF2 (fun _ h => h.elim), ad, _, c, rfl⟩
    | 1, hp =>
      cases hp
      exact ⟨cell_obj hblk 1 _ rfl, hBs.fr ((Fr.refl (fun _ => False) _).alloc _) (fun _ h => h.elim), ⟨w1.heap.size, 0, none⟩, _, cc, rfl⟩
  have HM := Lib.hid hM; have HP := Lib.hid hP; have HC := Lib.hid hcat; have HF := Lib.hid hF
  have hlt : Hid (0 < (textB s).length ∧ ((textB s).length : Int) ≤ 1099511627776) := Lib.hid (by have := HL.out; unfold textB; rw [List.length_append, sB_len]; omega)
  clear hFb hBs hV hF2 hF hM hcat hblk hP hcc
  refine (cPut _ g TS bs long _ _ HM.out HP.out (by simp) (by rw [HC.out]; exact hlt.out.2) (by rw [HC.out]; exact hlt.out.1)).mono ?_
  rw [HC.out]
  rintro e w2 ⟨rfl, TS', hM2, hs2⟩
  go_wp2_with fail
  go_ret
  exact ⟨rfl, TS', hM2, (Stp.refl HF.out).trans hs2⟩
end Go.Proofs.YtogphlnakdnchaaGreat

namespace Go.Proofs.YtogphlnakdnchaaGreat
open Go.RowKit Go.Maps
/-- Bytes, as a text. -/
def bS (bs : List Int) : Str := bs.map fun x => UInt8.ofNat x.toNat
theorem strOfNums_bS (bs : List Int) : strOfNums bs = ⟨(bS bs).toArray⟩ := rfl
theorem sB_bS {bs : List Int} (h : Byt bs) : sB (bS bs) = bs := by
  unfold bS sB
  rw [List.map_map]
  conv => rhs; rw [← List.map_id bs]
  refine List.map_congr_left fun x hx => ?_
  have := h x hx
  simp only [Function.comp, id, UInt8.toNat_ofNat']
  omega
/-- What a taker's Text gives, and what is left. -/
def tkT (t : Tst) (m : Int) : Str × Tst :=
  let n := tk t 0 m
  if n.2.2 = true then ([], n.2) else if (n.2.1.length : Int) < n.1 then ([], (n.2.1, true)) else (bS (n.2.1.take n.1.toNat), (n.2.1.drop n.1.toNat, false))
set_option maxRecDepth 100000 in
set_option maxHeartbeats 4000000 in
theorem cTText (w : World) (g : Nat) (TS : Nat → Prop) (t : Tst) (m : Int) (h : TK w g TS t.1 t.2) (hm : 0 ≤ m) :
    Calls Tryz.prog 63 #[.pointer (some ⟨g, 0, none⟩), .int .i64 m] w fun e w' => e = .returned (vS (tkT t m).1) ∧ TK w' g TS (tkT t m).2.1 (tkT t m).2.2 ∧ Fr TS w w' := by
  have hN := Lib.hid (xTk w g TS t 0 m h)
  have hin := tk_in t (a := 0) (b := m) (by omega) hm
  obtain ⟨N, hNN⟩ : ∃ N, tk t 0 m = N := ⟨_, rfl⟩
  have hT : Hid (tkT t m = if N.2.2 = true then ([], N.2) else if (N.2.1.length : Int) < N.1 then ([], (N.2.1, true)) else (bS (N.2.1.take N.1.toNat), (N.2.1.drop N.1.toNat, false))) := Lib.hid (by unfold tkT; rw [hNN])
  rw [hNN] at hN hin
  obtain ⟨n, bs, bad⟩ := N
  dsimp only at hN hin hT
  obtain ⟨h0, h1⟩ := hin
  obtain ⟨k, rfl⟩ : ∃ k : Nat, n = k := ⟨n.toNat, by omega⟩
  rw [Int.toNat_natCast] at hT
  clear h hNN
  cases bad with
  | true =>
    have hT2 : Hid (tkT t m = ([], (bs, true))) := Lib.hid (by rw [hT.out]; rfl)
    clear hT
    go_enter Tryz.func63, Tryz.ntmps63
    go_wp2_with fail
    refine hN.out.mono ?_
    rintro e w1 ⟨rfl, hK, hF⟩
    have HK := Lib.hid hK; have HF := Lib.hid hF
    clear hK hF
    go_wp2_with (go_at_call 100; refine (cMay w1 g TS bs true HK.out).mono ?_; rintro e w2 ⟨rfl, rfl⟩)
    go_ret
    rw [hT2.out]
    exact ⟨rfl, HK.out, HF.out⟩
  | false =>
    by_cases hlt : (bs.length : Int) < (k : Int)
    · have hT2 : Hid (tkT t m = ([], (bs, true))) := Lib.hid (by rw [hT.out, if_neg (by decide), if_pos hlt])
      clear hT
      go_enter Tryz.func63, Tryz.ntmps63
      go_wp2_with fail
      refine hN.out.mono ?_
      rintro e w1 ⟨rfl, hK, hF⟩
      obtain ⟨⟨v, k1, k2, k3, k4⟩, k5, k6⟩ := id hK
      obtain ⟨hbl, a, c, rfl, -⟩ := id k2
      have c0 := cell_obj k1 0 (.slice a bs.length c) rfl
      obtain ⟨ln, hln⟩ : ∃ ln, bs.length = ln := ⟨_, rfl⟩
      rw [hln] at c0 hlt hbl
      have HK := Lib.hid hK; have HF := Lib.hid hF
      clear hK hF k1 k2 k3 k4 k5 k6 hln
      go_wp2_with (first
        | (go_at_call 100; refine (cMay w1 g TS bs false HK.out).mono ?_; rintro e w2 ⟨rfl, rfl⟩)
        | (go_at_call 101; refine (cFault w1 g TS bs false HK.out).mono ?_; rintro e w2 ⟨⟨v, rfl⟩, hK2, hF2⟩; have HK2 := Lib.hid hK2; have HF2 := Lib.hid hF2; clear hK2 hF2))
      go_ret
      rw [hT2.out]
      exact ⟨rfl, HK2.out, HF.out.trans HF2.out⟩
    · have hT2 : Hid (tkT t m = (bS (bs.take k), (bs.drop k, false))) := Lib.hid (by rw [hT.out, if_neg (by decide), if_neg hlt])
      clear hT
      go_enter Tryz.func63, Tryz.ntmps63
      go_wp2_with fail
      refine hN.out.mono ?_
      rintro e w1 ⟨rfl, hK, hF⟩
      obtain ⟨⟨v, k1, k2, k3, k4⟩, k5, k6⟩ := id hK
      obtain ⟨hbl, a, c, rfl, -⟩ := id k2
      have c0 := cell_obj k1 0 (.slice a bs.length c) rfl
      have f0 := obj_frozen k1 0
      have hcap := k3 _ _ _ rfl
      obtain ⟨ln, hln⟩ : ∃ ln, bs.length = ln := ⟨_, rfl⟩
      have HLN := Lib.hid hln
      have k2 := k2
      have HK1 := Lib.hid k1; have HK2 := Lib.hid k2; have HK4 := Lib.hid k4; have HK5 := Lib.hid k5; have HK6 := Lib.hid k6
      rw [hln] at c0 hlt hbl hcap HK1 HK2 HK4
      have hkl : (k : Int) ≤ (ln : Int) := by omega
      have hk0 : (0 : Int) ≤ k := by omega
      have HK := Lib.hid hK; have HF := Lib.hid hF
      have hstr := (Bs.take HK2.out (k := k) (by omega)).string
      rw [strOfNums_bS] at hstr
      have hpost : ∀ v' : Value, Bs w1 v' (bs.drop k) → (∀ a n c, v' = .slice a n c → n ≤ c) → (∀ b, v'.ownBlock = some b → (Value.slice a ln c).ownBlock = some b) →
          TK (w1.setCell ⟨g, 0, none⟩ v') g TS (bs.drop k) false ∧ Fr TS w (w1.setCell ⟨g, 0, none⟩ v') := fun v' hb hc ho => by
        have hF0 : Fr (fun b => b = g) w1 (w1.setCell ⟨g, 0, none⟩ v') := (Fr.refl (fun b => b = g) w1).setCell (p := ⟨g, 0, none⟩) (fun _ => rfl) _
        have h4 := HK4.out
        refine ⟨⟨⟨v', obj_set HK1.out 0 v', hb.keep hF0 (fun b e => (h4 b (ho b e)).2), hc, fun b e => h4 b (ho b e)⟩, HK5.out, fun b e => ?_⟩, HF.out.trans' hF0 (fun b _ e => e ▸ HK5.out)⟩
        have := HK6.out b e; have := hF0.size; omega
      have HPOST := Lib.hid hpost
      obtain ⟨sv, hsv⟩ : ∃ sv, bS (bs.take k) = sv := ⟨_, rfl⟩
      rw [hsv] at hstr hT2
      clear hK hF k1 k2 k3 k4 k5 k6 hln hpost hsv h1
      go_wp2_with (go_at_call 100; refine (cMay w1 g TS bs false HK.out).mono ?_; rintro e w2 ⟨rfl, rfl⟩)
      · have hck : c = k := by assumption
        have hlk : ln = k := by omega
        go_ret
        rw [hT2.out]
        refine ⟨rfl, HPOST.out _ ?_ ?_ ?_⟩
        · have e0 : bs.drop k = [] := List.drop_eq_nil_of_le (by rw [HLN.out]; omega)
          rw [e0, show ln - k = 0 by omega]
          exact Bs.none' _ _ _
        · rintro a' n' c' e
          injection e with _ e2 e3
          omega
        · intro b e
          cases a with
          | none => cases e
          | some ad => exact e
      · go_ret
        rw [hT2.out]
        refine ⟨rfl, HPOST.out _ (HK2.out.drop HLN.out (by omega)) ?_ ?_⟩
        · rintro a' n' c' e
          injection e with _ e2 e3
          omega
        · intro b e
          cases a with
          | none => cases e
          | some ad =>
            have hb : (ad.add k).block = ad.block := by unfold Addr.add; split <;> rfl
            simp only [Option.map, Value.ownBlock, hb] at e ⊢
            exact e
end Go.Proofs.YtogphlnakdnchaaGreat

namespace Go.Proofs.YtogphlnakdnchaaGreat
open Go.RowKit
/-- The variable in block B holds a slice that owns xs; its row, if it has one, was made by the rounds. -/
structure Col (W : World) (base B : Nat) (t e : TypeId) (size : Nat) (C : Nat → Prop) (v : Value) (n : Nat) (xs : List Value) : Prop where
  box : Boxed W B t v
  row : W.ownsRow base e size v n xs
  mine : ∀ b, v.ownBlock = some b → C b
section
variable {W w1 W' : World} {base B : Nat} {t e : TypeId} {size : Nat} {C : Nat → Prop} {v v' : Value} {n m : Nat} {xs ys : List Value} {tmp : Obj}
theorem Col.fa {D : Nat} (h : Col W base B t e size C v n xs) (hf : Fa D W W') : Col W' base B t e size C v n xs := ⟨Fa.box hf h.box, Fa.row hf h.row, h.mine⟩
theorem Col.cc {W0 : World} {W1 : World} (h : Col W base B t e size C v n xs) : Col W base B t e size (CC C W0 W1) v n xs := ⟨h.box, h.row, fun b hb => .inl (h.mine b hb)⟩
theorem Col.appended {S : Nat → Prop} {W0 : World} (h : Col W base B t e size C v n xs) (hte : t ≠ e) (hS : S B) (h0 : W0.heap.size ≤ W.heap.size)
    (hown' : w1.ownsRow base e size v' m ys) (hgrow : (W.alloc tmp).grownBy w1 v.ownBlock) (hat : v'.ownBlock = v.ownBlock ∨ v'.ownBlock = some (W.alloc tmp).heap.size) :
    Boxed w1 B t v ∧ Col (w1.setCell ⟨B, 0, none⟩ v') base B t e size (CC C W0 (w1.setCell ⟨B, 0, none⟩ v')) v' m ys ∧ Fr (fun b => S b ∨ CC C W0 W b) W (w1.setCell ⟨B, 0, none⟩ v') := by
  have hv1 : Boxed w1 B t v := (h.box.alloc tmp).kept hgrow (h.box.not_row hte h.row)
  refine ⟨hv1, ⟨hv1.set v', hown'.kept (grownBy_setCell' w1 B v') (.inr (hv1.not_row hte hown').symm), fun b hb => ?_⟩, ?_⟩
  · rcases hat with e1 | e1
    · rw [e1] at hb
      exact .inl (h.mine b hb)
    · rw [e1] at hb
      cases hb
      have h3 := (hown'.lt _ e1).2
      have h4 : (w1.setCell ⟨B, 0, none⟩ v').heap.size = w1.heap.size := by simp [World.setCell]
      have h5 : (W.alloc tmp).heap.size = W.heap.size + 1 := by simp
      refine .inr ⟨by omega, by omega⟩
  · refine Fr.setCell (p := ⟨B, 0, none⟩) ?_ (fun _ => .inl hS) _
    refine ((Fr.refl _ W).alloc tmp).trans (Fr.grown hgrow (fun r hr _ => .inr (.inl (h.mine r hr))))
end
end Go.Proofs.YtogphlnakdnchaaGreat

namespace Go.Proofs.YtogphlnakdnchaaGreat
open Go.RowKit Go.Maps
theorem infoItem : (Tryz.prog.info? 65).map (fun i => (i.zero, i.size, i.bytes)) = some (some (.agg #[.string ⟨#[]⟩, .int .i64 0]), 2, 24) := by kernel_rfl
/-- Items' cells. -/
def itCs (L : Its) : List Value := L.flatMap fun p => [vS p.1, .int .i64 p.2]
theorem itCs_app (L M : Its) : itCs (L ++ M) = itCs L ++ itCs M := by simp [itCs]
theorem itCs_len (L : Its) : (itCs L).length = L.length * 2 := by
  induction L with
  | nil => rfl
  | cons q r ih => simp only [itCs, List.flatMap_cons, List.length_append, List.length_cons, List.length_nil] at *; rw [ih]; omega
theorem itCs_one {u : Value} {L : Its} (h : u ∈ itCs L) : u.oneCell' = true := by
  simp only [itCs, List.mem_flatMap] at h
  obtain ⟨q, _, hq⟩ := h
  simp only [List.mem_cons, List.not_mem_nil, or_false] at hq
  rcases hq with rfl | rfl <;> rfl
theorem itCs_at : ∀ {L : Its} {k : Nat} {p : Str × Int}, L[k]? = some p → (itCs L)[k * 2]? = some (vS p.1) ∧ (itCs L)[k * 2 + 1]? = some (.int .i64 p.2)
  | q :: r, 0, p, h => by
    cases h
    exact ⟨rfl, rfl⟩
  | q :: r, k + 1, p, h => by
    have := itCs_at (L := r) (k := k) (p := p) (by simpa using h)
    rw [show (k + 1) * 2 = k * 2 + 1 + 1 by omega]
    exact this
/-- What a row of the call's own reads as. -/
theorem Il.own {w : World} {base : Nat} {v : Value} {L : Its} (h : w.ownsRow base 65 2 v L.length (itCs L)) (hL : ∀ p ∈ L, okS p.1 ∧ okI p.2) : Il w v L ∧ ∀ b, v.ownBlock = some b → base ≤ b ∧ b < w.heap.size := by
  refine ⟨?_, fun b hb => h.lt b hb⟩
  rcases h.2 with ⟨rfl, h0⟩ | ⟨g, cap, cur, rfl, hbase, hb, hn, hm, hs, ht⟩
  · have : L = [] := List.eq_nil_of_length_eq_zero h0
    subst this
    exact ⟨by simp, none, 0, rfl, fun i p hp => by simp at hp⟩
  · have hm' : cap ≤ 9223372036854775807 := hm
    refine ⟨by omega, some ⟨g, 0, none⟩, cap, rfl, fun i p hp => ?_⟩
    have hok := hL p (List.mem_of_getElem? hp)
    obtain ⟨c0, c1⟩ := itCs_at hp
    have hi := (List.getElem?_eq_some_iff.1 hp).1
    have k0 := h.cellAt (g := g) (j := i * 2) (by omega)
    have k1 := h.cellAt (g := g) (j := i * 2 + 1) (by omega)
    have e0 : (⟨g, 0, none⟩ : Addr).add (i * 2) = ⟨g, i * 2, none⟩ := by
      unfold Addr.add; split <;> simp_all
    refine ⟨hok.1, hok.2, _, rfl, ?_, ?_⟩
    · rw [e0, k0]; exact c0
    · rw [e0]; dsimp only; rw [k1]; exact c1
end Go.Proofs.YtogphlnakdnchaaGreat

namespace Go.Proofs.YtogphlnakdnchaaGreat
open Go.RowKit Go.Maps
theorem ftkT_len (t : Tst) {m : Int} (hm : 0 ≤ m) : ((tkT t m).1.length : Int) ≤ m := by
  have h := tk_in t (a := 0) (b := m) (Int.le_refl _) hm
  unfold tkT
  dsimp only
  split <;> (try split) <;> simp [bS, List.length_take] <;> omega
/-- What Take reads: one item; k items; a list. -/
def it1 (s : Tst × Its) : Tst × Its := ((tk (tkT s.1 16).2 1 1099511627776).2, s.2 ++ [((tkT s.1 16).1, (tk (tkT s.1 16).2 1 1099511627776).1)])
def itG (t : Tst) : Nat → Tst × Its
  | 0 => (t, [])
  | k + 1 => it1 (itG t k)
theorem itG_len (t : Tst) : ∀ k, (itG t k).2.length = k
  | 0 => rfl
  | k + 1 => by show (it1 (itG t k)).2.length = k + 1; unfold it1; simp [itG_len t k]
theorem itG_ok (t : Tst) : ∀ k, ∀ p ∈ (itG t k).2, okS p.1 ∧ okI p.2
  | 0, p, h => by simp [itG] at h
  | k + 1, p, h => by
    have h : p ∈ (it1 (itG t k)).2 := h
    unfold it1 at h
    rcases List.mem_append.1 h with h | h
    · exact itG_ok t k p h
    · simp only [List.mem_cons, List.not_mem_nil, or_false] at h
      subst h
      have h1 := ftkT_len (itG t k).1 (m := 16) (by omega)
      have h2 := tk_in1 (tkT (itG t k).1 16).2 (b := 1099511627776) (by omega)
      exact ⟨by unfold okS maxLen; dsimp only; omega, by unfold okI; dsimp only; omega⟩
theorem itCs_snoc (L : Its) (p : Str × Int) : itCs (L ++ [p]) = itCs L ++ [vS p.1, .int .i64 p.2] := by rw [itCs_app]; rfl
end Go.Proofs.YtogphlnakdnchaaGreat

namespace Go.Proofs.YtogphlnakdnchaaGreat
open Go.RowKit
theorem row_sl {w : World} {base : Nat} {e : TypeId} {size n : Nat} {v : Value} {xs : List Value} (h : w.ownsRow base e size v n xs) : ∃ a c, v = .slice a n c := by
  rcases h.2 with ⟨rfl, rfl⟩ | ⟨g, c, cur, rfl, _⟩
  · exact ⟨_, _, rfl⟩
  · exact ⟨_, _, rfl⟩
theorem own_base {w : World} {base base' : Nat} {e : TypeId} {size n : Nat} {v : Value} {xs : List Value} (h : w.ownsRow base e size v n xs) (hb : base' ≤ base) : w.ownsRow base' e size v n xs := by
  refine ⟨h.1, ?_⟩
  rcases h.2 with h | ⟨g, c, cur, h1, h2, r⟩
  · exact .inl h
  · exact .inr ⟨g, c, cur, h1, Nat.le_trans hb h2, r⟩
/-- A slice's cells: m elements of that size, at A. -/
def Rd (w : World) (size : Nat) (A : Option Addr) (m : Nat) (xs : List Value) : Prop := xs.length = m * size ∧ (0 < m → ∃ ad, A = some ad ∧ ∀ (j : Nat) (u : Value), xs[j]? = some u → w.cell? (ad.add j) = some u)
section
variable {w w' : World} {size m : Nat} {A : Option Addr} {xs : List Value}
theorem Rd.nil (w : World) (size : Nat) (A : Option Addr) : Rd w size A 0 [] := ⟨by simp, fun h => absurd h (by omega)⟩
theorem add_add' (a : Addr) (i j : Nat) : (a.add i).add j = a.add (i + j) := by
  unfold Addr.add
  by_cases hi : i = 0 <;> by_cases hj : j = 0 <;> simp [hi, hj, Nat.add_assoc]
theorem Rd.fr {S : Nat → Prop} (h : Rd w size A m xs) (hf : Fr S w w') (hS : ∀ ad, A = some ad → ¬ S ad.block) : Rd w' size A m xs :=
  ⟨h.1, fun hm => by
    obtain ⟨ad, e, hc⟩ := h.2 hm
    exact ⟨ad, e, fun j u hu => hf.cell (hc j u hu) (by rw [add_block]; exact hS ad e)⟩⟩
theorem Rd.own {base n c : Nat} {e : TypeId} (h : w.ownsRow base e size (.slice A n c) n xs) : Rd w size A n xs := by
  refine ⟨h.1, fun hn => ?_⟩
  obtain ⟨g, cap, hv, _, _⟩ := h.form hn
  have hA : A = some ⟨g, 0, none⟩ := by injection hv
  subst hA
  exact ⟨_, rfl, h.cells (g := g) rfl⟩
theorem Rd.take {k : Nat} (h : Rd w size A m xs) (hk : k ≤ m) : Rd w size A k (xs.take (k * size)) := by
  have hle : k * size ≤ m * size := Nat.mul_le_mul_right _ hk
  refine ⟨by rw [List.length_take, h.1]; omega, fun hp => ?_⟩
  obtain ⟨ad, e, hc⟩ := h.2 (by omega)
  refine ⟨ad, e, fun j u hu => hc j u ?_⟩
  rw [List.getElem?_take] at hu
  split at hu
  · exact hu
  · cases hu
theorem Rd.drop {k : Nat} (h : Rd w size A m xs) (hk : k ≤ m) : Rd w size (A.map fun x => x.add (k * size)) (m - k) (xs.drop (k * size)) := by
  refine ⟨by rw [List.length_drop, h.1, Nat.sub_mul], fun hn => ?_⟩
  obtain ⟨ad, rfl, hc⟩ := h.2 (by omega)
  exact ⟨_, rfl, fun j u hu => by rw [add_add']; exact hc _ u (by rw [← hu, List.getElem?_drop])⟩
theorem Rd.at_ {k : Nat} {u : Value} (h : Rd w size A m xs) (hm : 0 < m) (hk : xs[k]? = some u) : ∃ ad, A = some ad ∧ w.cell? (ad.add k) = some u := by
  obtain ⟨ad, e, hc⟩ := h.2 hm
  exact ⟨ad, e, hc k u hk⟩
variable {P : Program}
theorem run_append_src (base : Nat) (t ty e : TypeId) (i : TypeInfo) (z : Value) (bytes : Nat) (ht : P.underlying t = some (.slice e)) (hi : P.info? e = some i) (hz : i.zero = some z)
    (hsize : i.size = size) (hby : i.bytes = bytes) (hzs : z.cells.size = size) (hsz : 0 < size) (v : Value) (n : Nat) (ys : List Value) (hown : w.ownsRow base e size v n ys)
    (c : Nat) (hr : Rd w size A m xs) (h1 : ∀ u ∈ xs, u.oneCell' = true) (h63 : n + m ≤ maxLen) (hbytes : (n + m) * bytes ≤ 140737488355328) (hbase : base ≤ w.heap.size) :
    ∃ v' w', (Builtin.append_ #[t, t] ty #[v, .slice A m c]).run P w = .ok v' w' ∧ w'.ownsRow base e size v' (n + m) (ys ++ xs) ∧ w.grownBy w' v.ownBlock ∧ (v'.ownBlock = v.ownBlock ∨ v'.ownBlock = some w.heap.size) := by
  cases A with
  | none =>
    obtain rfl : m = 0 := by
      rcases Nat.eq_zero_or_pos m with h | h
      · exact h
      · obtain ⟨_, h, _⟩ := hr.2 h; cases h
    obtain rfl : xs = [] := List.eq_nil_of_length_eq_zero (by simpa using hr.1)
    refine ⟨v, w, ?_, by simpa using hown, World.grownBy.refl w _, .inl rfl⟩
    rcases hown.2 with ⟨rfl, rfl⟩ | ⟨g, cap, cur, rfl, _, _, hnc, _⟩
    · simp [Builtin.append_, run_underlying ht, sizeOf, typeInfo, hi, Builtin.lenOf, Builtin.firstCells]
    · simp [Builtin.append_, run_underlying ht, sizeOf, typeInfo, hi, Builtin.lenOf, Builtin.firstCells, hnc, storeCells]
  | some ad =>
    have hc : ∀ j u, xs[j]? = some u → w.cell? (ad.add j) = some u := by
      intro j u hu
      rcases Nat.eq_zero_or_pos m with h | h
      · subst h
        obtain rfl : xs = [] := List.eq_nil_of_length_eq_zero (by simpa using hr.1)
        cases hu
      · obtain ⟨ad', e, hc⟩ := hr.2 h
        cases e
        exact hc j u hu
    obtain ⟨v', w', a1, a2, a3, _, a5⟩ := run_append_own_at (P := P) w base t ty e i z size bytes ht hi hz hsize hby hzs hsz v n ys hown ad m c xs hr.1 hc h1 h63 hbytes hbase
    exact ⟨v', w', a1, a2, a3, a5⟩
theorem wpList_append_src {ops : Array Oper} {rest : List Oper} {o : Oper} {a : Act} {Q : Exit → Act → World → Prop} (hgd : o.guard = none) (s x : Operand) (t : TypeId)
    (ho : o.op = .call { callee := .builtin .append, args := #[s, x], argTypes := #[t, t] })
    (base : Nat) (e : TypeId) (i : TypeInfo) (z : Value) (bytes : Nat) (ht : P.underlying t = some (.slice e)) (hi : P.info? e = some i) (hz : i.zero = some z)
    (hsize : i.size = size) (hby : i.bytes = bytes) (hzs : z.cells.size = size) (hsz : 0 < size) (v : Value) (n : Nat) (ys : List Value) (hs : a.eval s = v) (hown : w.ownsRow base e size v n ys)
    (c : Nat) (hx : a.eval x = .slice A m c) (hr : Rd w size A m xs) (h1 : ∀ u ∈ xs, u.oneCell' = true) (h63 : n + m ≤ maxLen) (hbytes : (n + m) * bytes ≤ 140737488355328) (hbase : base ≤ w.heap.size)
    (h : ∀ v' w', w'.ownsRow base e size v' (n + m) (ys ++ xs) → w.grownBy w' v.ownBlock → (v'.ownBlock = v.ownBlock ∨ v'.ownBlock = some w.heap.size) → wpList P ops Q rest (a.put o.dst v') w') : wpList P ops Q (o :: rest) a w := by
  refine wpList_plain hgd fun K hK => ?_
  obtain ⟨v', w', hr, h2, h3, h5⟩ := run_append_src (P := P) base t o.type e i z bytes ht hi hz hsize hby hzs hsz v n ys hown c hr h1 h63 hbytes hbase
  unfold Oper.wp execOp
  simp only [ho, resolve, invoke, builtin, Sem.run_bind, Sem.run_pure, Result.andThen_ok, List.map_toArray, List.map_cons, List.map_nil, hs, hx, hr]
  exact hK _ _ (h v' w' h2 h3 h5)
end
end Go.Proofs.YtogphlnakdnchaaGreat

namespace Go.Proofs.YtogphlnakdnchaaGreat
open Go.RowKit
section
variable {w w' : World} {size m : Nat} {A : Option Addr} {xs : List Value} {P : Program}
theorem rd_obj {w : World} {g : Nat} {cs : List Value} {t : TypeId} {size : Nat} (h : w.heap[g]? = some (.cells cs.toArray t)) (hs : cs.length = size) : Rd w size (some ⟨g, 0, none⟩) 1 cs :=
  ⟨by omega, fun _ => ⟨_, rfl, fun j u hu => by
    have : (⟨g, 0, none⟩ : Addr).add j = ⟨g, j, none⟩ := by unfold Addr.add; split <;> simp_all
    rw [this]
    exact cell_obj h j u (by simpa using hu)⟩⟩
end
end Go.Proofs.YtogphlnakdnchaaGreat

namespace Go.Proofs.YtogphlnakdnchaaGreat
open Go.RowKit Go.Maps
def readT (t : Tst) : Its × Tst := ((itG (tk t 0 16).2 (tk t 0 16).1.toNat).2, (itG (tk t 0 16).2 (tk t 0 16).1.toNat).1)
set_option maxRecDepth 100000 in
set_option maxHeartbeats 8000000 in
theorem hRead (w : World) (g : Nat) (TS : Nat → Prop) (t : Tst) (h : TK w g TS t.1 t.2) : Calls Tryz.prog 65 #[.pointer (some ⟨g, 0, none⟩)] w fun e w' =>
    ∃ v, e = .returned (.tuple #[v, .bool (mayL (readT t).1)]) ∧ Il w' v (readT t).1 ∧ (∀ b, v.ownBlock = some b → w.heap.size ≤ b ∧ b < w'.heap.size) ∧ TK w' g TS (readT t).2.1 (readT t).2.2 ∧ Fr TS w w' := by
  obtain ⟨i0, hi', hz0, hz1, hz2⟩ := info_parts infoItem
  have hx := Lib.hid (xTk w g TS t 0 16 h)
  have hqi := tk_in t (a := 0) (b := 16) (by omega) (by omega)
  obtain ⟨q, hq⟩ : ∃ q, tk t 0 16 = q := ⟨_, rfl⟩
  have hit : Hid (readT t = ((itG q.2 q.1.toNat).2, (itG q.2 q.1.toNat).1)) := Lib.hid (by unfold readT; rw [hq])
  rw [hq] at hx hqi
  obtain ⟨q1, q2⟩ := q
  obtain ⟨N, rfl⟩ : ∃ N : Nat, q1 = N := ⟨q1.toNat, by dsimp only at hqi; omega⟩
  dsimp only at hx hqi hit
  rw [Int.toNat_natCast] at hit
  have hN : N ≤ 16 := by omega
  obtain ⟨n0, hn0⟩ : ∃ n0, w.heap.size = n0 := ⟨_, rfl⟩
  have HS := Lib.hid hn0
  have HLT := Lib.hid h.lt
  clear h hq hqi
  go_enter Tryz.func65, Tryz.ntmps65
  go_wp2_with (go_at_call 64; refine hx.out.mono ?_; rintro e w1 ⟨rfl, h1, h2⟩; have H1 := Lib.hid h1; have H2 := Lib.hid h2; clear h1 h2)
  go_loopw [4, 8] (fun vo vi wr => ∃ (k : Nat), k ≤ N ∧ vi = .int .i64 k ∧ TK wr g TS (itG q2 k).1.1 (itG q2 k).1.2 ∧ wr.ownsRow n0 65 2 vo k (itCs (itG q2 k).2) ∧ Fr TS w wr) (fun _ vi _ => N - (intOf vi).toNat)
  case atStart => exact ⟨0, Nat.zero_le _, rfl, H1.out, World.ownsRow_nil _ _ _ _, H2.out⟩
  case round =>
    obtain ⟨k, hk, rfl, hT, hO, hF⟩ := hrel
    have HT := Lib.hid hT; have HO := Lib.hid hO; have HF := Lib.hid hF
    obtain ⟨oa, oc, rfl⟩ := row_sl hO
    by_cases hlt : k < N
    · have hkI : (k : Int) < N := by omega
      have hstep : Hid (itG q2 (k + 1) = it1 (itG q2 k)) := Lib.hid rfl
      have HLEN := Lib.hid (itG_len q2 k)
      obtain ⟨S, hSS⟩ : ∃ S, itG q2 k = S := ⟨_, rfl⟩
      rw [hSS] at hstep HT HO HLEN
      obtain ⟨t0, its⟩ := S
      have hTx := Lib.hid (cTText wr g TS t0 16 HT.out (by omega))
      obtain ⟨T1, hT1⟩ : ∃ T, tkT t0 16 = T := ⟨_, rfl⟩
      unfold it1 at hstep
      dsimp only at hstep hTx HT HO HLEN
      rw [hT1] at hTx hstep
      obtain ⟨gd, t1⟩ := T1
      dsimp only at hTx hstep
      have hNx := Lib.hid (fun W (h : TK W g TS t1.1 t1.2) => xTk W g TS t1 1 1099511627776 h)
      obtain ⟨T2, hT2⟩ : ∃ T, tk t1 1 1099511627776 = T := ⟨_, rfl⟩
      rw [hT2] at hNx hstep
      obtain ⟨nn, t2⟩ := T2
      dsimp only at hNx hstep
      have HLT2 := Lib.hid (show ∀ b, TS b → b < n0 by rw [← HS.out]; exact HLT.out)
      clear hT hO hF hSS hT1 hT2
      go_wp2_with (first
        | (go_at_call 63; refine hTx.out.mono ?_; rintro e w4 ⟨rfl, ht4, hf4⟩; have HT4 := Lib.hid ht4; have HF4 := Lib.hid (HF.out.trans hf4); have HO4 := Lib.hid (hf4.row HO.out (fun b hb e => by have := (HO.out.lt b hb).1; have := HLT2.out b e; omega)); clear ht4 hf4)
        | (go_at_call 64; refine (hNx.out _ HT4.out).mono ?_; rintro e w5 ⟨rfl, ht5, hf5⟩; have HT5 := Lib.hid ht5; have HF5 := Lib.hid (HF4.out.trans hf5); have HO5 := Lib.hid (hf5.row HO4.out (fun b hb e => by have := (HO4.out.lt b hb).1; have := HLT2.out b e; omega)); clear ht5 hf5)
        | (at_builtin; refine wpList_append_src rfl _ _ 27 rfl n0 65 i0 (.agg #[.string ⟨#[]⟩, .int .i64 0]) 24 Tryz.underlying27 hi' hz0 hz1 hz2 rfl (by decide) (Value.slice oa k oc) k (itCs its) rfl (((Fr.refl (fun _ => False) w5).alloc _).row HO5.out (fun _ _ e => e)) 1 rfl (rd_obj (cs := [vS gd, .int .i64 nn]) (heap_new _ _) rfl) (by intro u hu; simp only [List.mem_cons, List.not_mem_nil, or_false] at hu; rcases hu with rfl | rfl <;> rfl) (by unfold maxLen; omega) (by omega) (by have := HS.out; have := HF5.out.size; simp; omega) ?_; intro v6 w6 hown6 hgrow6 hloc6; have HO6 := Lib.hid hown6; have hfr6 : Fr (fun c => n0 ≤ c) w5 w6 := (((Fr.refl (fun c => n0 ≤ c) w5).alloc _).trans' (Fr.grown (S := fun c => n0 ≤ c) hgrow6 (fun r hr _ => (HO5.out.lt r hr).1)) (fun _ _ e => e)); have HFR6 := Lib.hid hfr6; clear hown6 hgrow6 hloc6 hfr6))
      go_roundw
      case rel =>
        refine ⟨k + 1, by omega, by go_num, ?_, ?_, ?_⟩
        · rw [hstep.out]; exact HT5.out.fr HFR6.out (fun b hb e => by have := HLT2.out b hb; omega)
        · rw [hstep.out]; dsimp only; rw [itCs_snoc]; exact HO6.out
        · exact HF5.out.trans' HFR6.out (fun b hb e => by have := HS.out; have e : n0 ≤ b := e; omega)
      case measure => simp [intOf]; omega
    · obtain rfl : k = N := by omega
      have hkI : ¬ (k : Int) < k := by omega
      have HLEN := Lib.hid (itG_len q2 k)
      have HOKS := Lib.hid (itG_ok q2 k)
      obtain ⟨S, hSS⟩ : ∃ S, itG q2 k = S := ⟨_, rfl⟩
      rw [hSS] at hit HT HO HLEN HOKS
      obtain ⟨t0, its⟩ := S
      dsimp only at hit HT HO HLEN HOKS
      have HO' := HO.out
      rw [← HLEN.out] at HO'
      have HIL := Lib.hid (Il.own HO' HOKS.out)
      have hM := Lib.hid (iMay wr _ its HIL.out.1)
      rw [HLEN.out] at hM HIL
      clear hT hO hF hSS HO'
      obtain ⟨mb, hmb⟩ : ∃ b, mayL its = b := ⟨_, rfl⟩
      rw [hmb] at hM
      have HMB := Lib.hid hmb
      clear hmb
      go_wp2_with (go_at_call 28; refine hM.out.mono ?_; rintro e w2 ⟨rfl, hf2⟩; have HF2 := Lib.hid hf2; clear hf2)
      go_ret2
      rw [hit.out]
      dsimp only
      rw [HMB.out]
      exact ⟨_, rfl, HIL.out.1.fr HF2.out (fun _ e => e.elim), fun b hb => by have := (HIL.out.2 b hb); have := HS.out; have := HF2.out.size; omega, HT.out.fr HF2.out (fun _ _ e => e), HF.out.trans' HF2.out (fun _ _ e => e.elim)⟩
end Go.Proofs.YtogphlnakdnchaaGreat

namespace Go.Proofs.YtogphlnakdnchaaGreat
open Go.RowKit Go.Maps
theorem sGoods (p : Option Addr) (w : World) : Calls Tryz.prog 59 #[.pointer p] w fun e w' =>
    e = .returned (.func (.func 96) #[] #[.pointer (some ⟨w.heap.size, 0, none⟩)]) ∧ w' = w.alloc (.cells #[.pointer p] 58) := by
  go_enter Tryz.func59, Tryz.ntmps59
  go_wp2
  go_ret
  exact ⟨rfl, rfl⟩
def encS (s : Str) : Array Value := #[vS s]
set_option maxRecDepth 100000 in
set_option maxHeartbeats 4000000 in
theorem sGoods1 (S : Nat → Prop) (w : World) (Bt g : Nat) (TS : Nat → Prop) (A : Stk) (hBt : Boxed w Bt 58 (.pointer (some ⟨g, 0, none⟩))) (h : SA w g TS A) (hl : A.length ≤ 1000) (n1 : ¬ S Bt) (n2 : ∀ b, TS b → ¬ S b) :
    ItX 96 #[.pointer (some ⟨Bt, 0, none⟩)] encS (A.map (·.1)) S w := by
  intro lp S' J Jx W hW hS' hJ hY hJx h0
  have hBW := boxed_below hBt hW hBt.lt
  have hAW := h.fr (Fr.below (S := fun _ => False) hW) (fun _ _ h => h)
  obtain ⟨m, hc, hm, hTm⟩ := hAW.cell
  have hkS := keysSorted W m SR.enc A hm (by omega)
  have HK1 := Lib.hid (callsIn_wide.1 hkS.1); have HK2 := Lib.hid (callsIn_wide.1 hkS.2)
  have hcB := hBW.cell
  obtain ⟨N, hN⟩ : ∃ N, A.length = N := ⟨_, rfl⟩
  have HN := Lib.hid hN
  have HS := Lib.hid hS'
  have HX : Hid ((A.map (·.1)).length = N) := Lib.hid (by rw [List.length_map]; exact hN)
  rw [hN] at HK2 hl
  have hfn : ∀ f, Fence.wide.fn f := fun _ => trivial
  have hdp : Fence.wide.depth.isSome = false := rfl
  clear hBt h n1 n2 hS' hBW hW hm hN hkS hAW hTm
  refine (callsIn_wide (n := 0)).1 ?_
  refine callsIn_of_wp Tryz.func96 rfl trivial ?_ rfl
  simp only [Tryz.ntmps96, List.size_toArray, List.length_cons, List.length_nil, Nat.reduceAdd, Nat.reduceSub, Array.replicate_succ, Array.replicate_zero, List.push_toArray, List.append_toArray, List.nil_append, List.cons_append]
  gi_wp2_with (first
    | (gi_at_call 69; refine (callsIn_wide.2 (smade _ g m hc)).mono ?_; rintro e w1 ⟨rfl, rfl⟩)
    | (gi_at_call 98; refine (callsIn_wide.2 HK1.out).mono ?_; rintro e w1 ⟨rfl, rfl⟩)
    | (gi_at_call 97; refine (callsIn_wide.2 HK2.out).mono ?_; rintro e w1 ⟨v, rfl, hown, hb⟩; obtain ⟨a, c, rfl⟩ := row_slice hown))
  have hJ1 := hJ 0 _ _ _ h0 (Fr.below hb)
  have HW1 : Hid (W.heap.size ≤ w1.heap.size) := Lib.hid hb.size
  have HO := Lib.hid hown; have HJ1 := Lib.hid hJ1
  clear h0 hcB hc hown hb hJ1
  gi_loopw [15] (fun i wr => ∃ (k : Nat) (C : Nat → Prop), k ≤ N ∧ i = .int .i64 k ∧ J k C wr ∧ (∀ b, C b → w1.heap.size ≤ b ∧ b < wr.heap.size) ∧ Fr (fun b => S' b ∨ C b) w1 wr) (fun i _ => N - (intOf i).toNat)
  case atStart => exact ⟨0, _, Nat.zero_le _, rfl, HJ1.out, fun _ h => False.elim h, Fr.refl _ _⟩
  case round =>
    obtain ⟨k, C, hk, rfl, hJr, hC, hkp⟩ := hrel
    by_cases hlt : k < N
    · obtain ⟨p, hp⟩ : ∃ p, A[k]? = some p := ⟨A[k]'(by rw [HN.out]; exact hlt), List.getElem?_eq_getElem _⟩
      obtain ⟨g', rfl, hg1, hg2⟩ := row_addr HO.out (by omega)
      have m5 : ¬ (S' g' ∨ C g') := fun e => e.elim (fun e => by have := (HS.out _ e).1; omega) (fun e => by have := hC _ e; omega)
      have hownr := hkp.row HO.out (fun b e => by obtain rfl : g' = b := (by simpa [Value.ownBlock] using e); exact m5)
      have hcx : wr.cell? ⟨g', k, none⟩ = some (vS p.1) := by
        have := hownr.cellAt (g := g') (j := k) (by omega)
        rw [this]; simp [hp]
      have hxx : (A.map (·.1))[k]? = some p.1 := by rw [List.getElem?_map, hp]; rfl
      obtain ⟨fn, tmps, assign, body, hy, hR⟩ := hY k p.1 C wr hxx hJr
      dsimp only [encS] at hy
      have hlI : (k : Int) < N := by omega
      have HC := Lib.hid hC; have HK := Lib.hid hkp
      clear hC hkp hp hJr hownr hxx
      gi_wp2
      refine hR.mono ?_
      rintro e W3 (⟨rfl, hJ3, hk3⟩ | ⟨rfl, hJx3, _⟩)
      · gi_wp2
        go_roundw
        case rel =>
          refine ⟨k + 1, _, by omega, by go_num, hJ3, ?_, ?_⟩
          · have hs3 := hk3.size
            rintro b (e | e)
            · have := HC.out b e; exact ⟨this.1, by omega⟩
            · have := HK.out.size; exact ⟨by omega, e.2⟩
          · exact (HK.out.mono (fun b _ e => e.elim .inl (fun e => .inr (.inl e)))).trans (hk3.mono (fun b _ e => e.elim .inl (fun e => .inr (.inl e))))
        case measure => simp [intOf]; omega
      · gi_wp2
        refine bodyPost_ret (results_none rfl _ _ _) rfl ?_
        refine ⟨⟨_, rfl⟩, .inr ⟨_, _, ?_, hJx3⟩⟩
        have := HX.out
        omega
    · have : k = N := by omega
      subst this
      gi_wp2
      go_end0
      exact ⟨⟨_, rfl⟩, .inl ⟨C, by rw [HX.out]; exact hJr⟩⟩
end Go.Proofs.YtogphlnakdnchaaGreat

