/- Texts of this claim, joined: hold, plainly: a shelf stays as it should be; what is taken for an order, and what is shipped; region, plainly: what is put away, what is free, which news there are; region: a region, its parts named and as one thing; region: Shelf, Hold, Sound, Stuck; no region; region: Hold; Orders where there is no region; append(row, source...) at a step of a region that draws its order; region: New, kindOf, away; strings.Contains at a substring of one byte (the contracts as the shelf's templates have them); ask: Has, within, mayN; ask.May's closures; Arguments: strings, slices of items, opened; Slices of requests, opened; An answer, opened; mail: Has, Answers, mayAnswer, right; entrepotref05.May; entrepotref06: Good, May, Same; entrepotref06: May, Same; slices.Equal at items; ask.Same; ask.May; mail.May; move, plainly: Go; region, plainly: what a region posts, and what it is behind mail. -/
import Derived.Test.YtmflpeklalgibaaGreatRegionGoodsM5
import Derived.Test.YtmflpeklalgibaaGreatRegionGoodsM3
import Derived.Test.YtmflpeklalgibaaGreatRegionGoodsM2
import Derived.Deep.RegionHeld3
import Derived.Test.YtmflpeklalgibaaGreatRegionGoodsM1
import Derived.Test.YtmflpeklalgibaaGreatRows
import Derived.WalkKit
import Derived.Lib.Strings
import Derived.Lib.Slices
import Derived.Lib.Walk
import Derived.Lib.Bytealg
import Derived.Deep.QuietTactic
import Derived.BigQuiet
import Derived.Deep.DeepCutAuto
namespace Go.Proofs.YtmflpeklalgibaaGreat
open Go.RowKit Go.Maps
section
variable {ν : Type}
theorem riseO_ins {n : Int} {v : ν} : ∀ {l : List (Int × ν)}, l.Pairwise (fun p q => p.1 < q.1) → (∀ p ∈ l, p.1 ≠ n) → (insS ktI.lt (n, v) l).Pairwise (fun p q => p.1 < q.1)
  | [], _, _ => by simp [insS]
  | y :: r, h, hx => by
    obtain ⟨h1, h2⟩ := List.pairwise_cons.1 h
    have hy := hx y (by simp)
    show List.Pairwise _ (if ktI.lt n y.1 = true then (n, v) :: y :: r else y :: insS ktI.lt (n, v) r)
    by_cases hlt : n < y.1
    · have e : ktI.lt n y.1 = true := by show decide (n < y.1) = true; simpa using hlt
      rw [if_pos e]
      refine List.pairwise_cons.2 ⟨fun p hp => ?_, h⟩
      rcases List.mem_cons.1 hp with rfl | hp
      · exact hlt
      · have := h1 p hp; show n < p.1; omega
    · have e : ¬ ktI.lt n y.1 = true := by show ¬ decide (n < y.1) = true; simpa using hlt
      rw [if_neg e]
      refine List.pairwise_cons.2 ⟨fun p hp => ?_, riseO_ins h2 (fun p hp => hx p (List.mem_cons_of_mem _ hp))⟩
      rcases List.mem_cons.1 ((insK_perm ktI.lt (n, v) r).mem_iff.1 hp) with rfl | hp
      · show y.1 < n; omega
      · exact h1 p hp
theorem riseO_put {n : Int} {v : ν} {l : List (Int × ν)} (h : l.Pairwise (fun p q => p.1 < q.1)) : (putS ktI.lt l n v).Pairwise (fun p q => p.1 < q.1) :=
  riseO_ins (h.sublist List.filter_sublist) (fun p hp => by simpa [delS] using (List.mem_filter.1 hp).2)
theorem riseO_nd {l : List (Int × ν)} (h : l.Pairwise (fun p q => p.1 < q.1)) : (l.map (·.1)).Nodup := by
  rw [List.Nodup, List.pairwise_map]
  refine List.Pairwise.imp ?_ h
  intro p q e h
  omega
end
theorem HE.empty {x : HE} (h : x.num = 0) : x = ⟨x.o, [], [], []⟩ := by
  obtain ⟨o, a, b, c⟩ := x
  unfold HE.num at h
  dsimp only at h
  rw [List.eq_nil_of_length_eq_zero (show a.length = 0 by omega), List.eq_nil_of_length_eq_zero (show b.length = 0 by omega), List.eq_nil_of_length_eq_zero (show c.length = 0 by omega)]
theorem heOf_set {le : Hes} (h : le.Pairwise (fun p q => p.1 < q.1)) (x : HE) (y : Int) : heOf (setE le x) y = if x.o = y then x else heOf le y := by
  unfold heOf setE
  by_cases hn : x.num = 0
  · rw [if_pos hn, getS_del]
    by_cases e : x.o = y
    · rw [if_pos e, if_pos e, ← e]
      exact (HE.empty hn).symm
    · rw [if_neg e, if_neg e]
  · rw [if_neg hn, getK_put (riseO_nd h)]
    by_cases e : x.o = y
    · rw [if_pos e, if_pos e]; rfl
    · rw [if_neg e, if_neg e]
theorem del_less {le : Hes} {o : Int} (h : (getS le o).isNone = false) : (delS le o).length < le.length := by
  cases e : getS le o with
  | none => rw [e] at h; cases h
  | some x =>
    have hm := getK_mem e
    unfold delS
    refine List.length_filter_lt_length_iff_exists.2 ⟨_, hm, by simp⟩
theorem ShOk.set {A A' : Stk} {le : Hes} {x : HE} (h : ShOk A le) (hA : SOk A') (ho : 1 ≤ x.o ∧ x.o ≤ 1099511627776) (h1 : mayL x.he = true) (h2 : mayL x.pi = true) (h3 : mayL x.sh = true) (hl : (getS le x.o).isNone = true → le.length < 256) : ShOk A' (setE le x) := by
  unfold setE
  by_cases hn : x.num = 0
  · rw [if_pos hn]
    refine ⟨hA, h.rise.sublist List.filter_sublist, fun p hp => h.row p (List.mem_filter.1 hp).1, ?_⟩
    have := List.length_filter_le (fun p : Int × HE => !decide (p.1 = x.o)) le
    have := h.len
    unfold delS
    omega
  · rw [if_neg hn]
    refine ⟨hA, riseO_put h.rise, fun p hp => ?_, ?_⟩
    · rcases mem_putK.1 hp with rfl | ⟨hp, -⟩
      · exact ⟨rfl, ho, h1, h2, h3, hn⟩
      · exact h.row p hp
    · have h4 := h.len
      cases hg : (getS le x.o).isNone with
      | true =>
        have := putK_len ktI.lt le x.o x
        have := hl hg
        omega
      | false =>
        have h5 := del_less hg
        have h6 : (putS ktI.lt le x.o x).length = (delS le x.o).length + 1 := by
          unfold putS
          rw [(insK_perm ktI.lt (x.o, x) _).length_eq, List.length_cons]
        omega
theorem mayO_may {o : Int} (h : ¬ mayO o ≠ 0) : 1 ≤ o ∧ o ≤ 1099511627776 := by
  unfold mayO at h
  split at h
  · rename_i h2; exact h2
  · exact absurd (by decide) h
theorem heOf_o' {A : Stk} {le : Hes} (h : ShOk A le) (o : Int) : (heOf le o).o = o := heOf_o (fun p hp => (h.row p hp).eq.symm)
/-- What a call leaves of what was taken and what was shipped of one good. -/
def HE.of (x : HE) (s : Str) : Int := getI x.he s + getI x.pi s + getI x.sh s
/-- A call's answer is in order, and the shelf behind it; beside the order nothing changes; no more comes than c says. -/
structure StepOk (le : Hes) (o : Int) (R : (Its × Int) × Stk × Hes) : Prop where
  sh : ShOk R.2.1 R.2.2
  out : mayL R.1.1 = true
  same : ∀ y, y ≠ o → heOf R.2.2 y = heOf le y
theorem HE.get0 (x : HE) : x.get 0 = x.he := rfl
theorem HE.get1 (x : HE) : x.get 1 = x.pi := rfl
theorem HE.get2 (x : HE) : x.get 2 = x.sh := rfl
theorem HE.set0 (x : HE) (L : Its) : x.set 0 L = { x with he := L } := rfl
theorem HE.set1 (x : HE) (L : Its) : x.set 1 L = { x with pi := L } := rfl
theorem HE.set2 (x : HE) (L : Its) : x.set 2 L = { x with sh := L } := rfl
theorem StepOk.no {A : Stk} {le : Hes} {o c : Int} (h : ShOk A le) : StepOk le o (([], c), A, le) := ⟨h, rfl, fun y _ => rfl⟩
theorem take_ok {A : Stk} {le : Hes} {o : Int} {L : Its} (h : ShOk A le) : StepOk le o (takeE A le o L) ∧ ∀ s, (heOf (takeE A le o L).2.2 o).of s = (heOf le o).of s + getI (takeE A le o L).1.1 s ∧ (heOf (takeE A le o L).2.2 o).sh = (heOf le o).sh := by
  unfold takeE
  have hz : ∀ c : Int, StepOk le o (([], c), A, le) ∧ ∀ s, (heOf le o).of s = (heOf le o).of s + getI [] s ∧ (heOf le o).sh = (heOf le o).sh := fun c => ⟨StepOk.no h, fun s => ⟨by rw [getI_nil]; omega, rfl⟩⟩
  split
  · exact hz _
  rename_i ho
  split
  · exact hz _
  split
  · exact hz _
  split
  · exact hz _
  split
  · exact hz _
  rename_i hf
  split
  · exact hz _
  rename_i hp
  split
  · exact hz _
  obtain ⟨r, hr⟩ : ∃ r, plusF (heOf le o).he (offerS A L) = (r, 0) := ⟨_, Prod.ext rfl (by simpa using hp)⟩
  obtain ⟨p1, p2, p3, p4⟩ := plusF_ok hr
  rw [hr]
  have hm := heOf_may h.row o
  have hoo := heOf_o' h o
  have hs : ∀ y, heOf (setE le { heOf le o with he := r }) y = if o = y then { heOf le o with he := r } else heOf le y := fun y => by
    rw [heOf_set h.rise]
    show (if (heOf le o).o = y then _ else _) = _
    rw [hoo]
  refine ⟨⟨h.set (doS_ok h.stk) (by show 1 ≤ (heOf le o).o ∧ _; rw [hoo]; exact mayO_may ho) p1 hm.2.1 hm.2.2 (fun e => ?_), p3, fun y hy => ?_⟩, fun s => ?_⟩
  · have e : (getS le (heOf le o).o).isNone = true := e
    rw [hoo] at e
    exact Nat.lt_of_not_le (fun h2 => hf ⟨e, h2⟩)
  · rw [hs, if_neg (fun e => hy e.symm)]
  · rw [hs, if_pos rfl]
    refine ⟨?_, rfl⟩
    show getI r s + getI (heOf le o).pi s + getI (heOf le o).sh s = (getI (heOf le o).he s + getI (heOf le o).pi s + getI (heOf le o).sh s) + getI (offerS A L) s
    rw [p4]; omega
theorem move_cases (A : Stk) (le : Hes) (o k : Int) (i j : Nat) : (∃ c, moveS A le o k i (some j) = (([], c), A, le)) ∨ (¬ mayO o ≠ 0 ∧ (heOf le o).get i ≠ [] ∧ (plusF ((heOf le o).get j) ((heOf le o).get i)).2 = 0 ∧
    moveS A le o k i (some j) = (((heOf le o).get i, 0), (doS A k ((heOf le o).get i)).2, setE le (((heOf le o).set i []).set j (plusF ((heOf le o).get j) ((heOf le o).get i)).1))) := by
  unfold moveS
  split
  · exact .inl ⟨_, rfl⟩
  rename_i h1
  split
  · exact .inl ⟨_, rfl⟩
  rename_i h2
  dsimp only
  split
  · exact .inl ⟨_, rfl⟩
  rename_i h3
  split
  · exact .inl ⟨_, rfl⟩
  exact .inr ⟨h1, h2, by simpa using h3, rfl⟩
theorem move_cases0 (A : Stk) (le : Hes) (o k : Int) (i : Nat) : (∃ c, moveS A le o k i none = (([], c), A, le)) ∨ (¬ mayO o ≠ 0 ∧ (heOf le o).get i ≠ [] ∧
    moveS A le o k i none = (((heOf le o).get i, 0), (doS A k ((heOf le o).get i)).2, setE le ((heOf le o).set i []))) := by
  unfold moveS
  split
  · exact .inl ⟨_, rfl⟩
  rename_i h1
  split
  · exact .inl ⟨_, rfl⟩
  rename_i h2
  dsimp only
  split
  · exact .inl ⟨_, rfl⟩
  exact .inr ⟨h1, h2, rfl⟩
set_option maxRecDepth 10000 in
theorem freeM_ok {A : Stk} {le : Hes} {o : Int} (h : ShOk A le) : StepOk le o (moveS A le o 3 0 none) ∧ ∀ s, (heOf (moveS A le o 3 0 none).2.2 o).of s ≤ (heOf le o).of s ∧ getI (heOf (moveS A le o 3 0 none).2.2 o).sh s = getI (heOf le o).sh s := by
  have hz : ∀ c : Int, StepOk le o (([], c), A, le) ∧ ∀ s, (heOf le o).of s ≤ (heOf le o).of s ∧ getI (heOf le o).sh s = getI (heOf le o).sh s := fun c => ⟨StepOk.no h, fun s => ⟨Int.le_refl _, rfl⟩⟩
  rcases move_cases0 A le o 3 0 with ⟨c, e⟩ | ⟨ho, hne, e⟩
  · rw [e]; exact hz c
  rw [e]
  simp only [HE.get0, HE.get1, HE.get2, HE.set0, HE.set1, HE.set2] at hne ⊢
  have hm := heOf_may h.row o
  have hoo := heOf_o' h o
  have hs : ∀ y, heOf (setE le { heOf le o with he := [] }) y = if o = y then { heOf le o with he := [] } else heOf le y := fun y => by
    rw [heOf_set h.rise]
    show (if (heOf le o).o = y then _ else _) = _
    rw [hoo]
  refine ⟨⟨h.set (doS_ok h.stk) (by show 1 ≤ (heOf le o).o ∧ _; rw [hoo]; exact mayO_may ho) rfl hm.2.1 hm.2.2 (fun e => ?_), hm.1, fun y hy => ?_⟩, fun s => ?_⟩
  · have e : (getS le (heOf le o).o).isNone = true := e
    rw [hoo] at e
    exact absurd (show (heOf le o).he = [] by unfold heOf; cases e2 : getS le o with | none => rfl | some v => rw [e2] at e; cases e) hne
  · show heOf (setE le { heOf le o with he := [] }) y = _
    rw [hs, if_neg (fun e => hy e.symm)]
  · show (heOf (setE le { heOf le o with he := [] }) o).of s ≤ _ ∧ getI (heOf (setE le { heOf le o with he := [] }) o).sh s = _
    rw [hs, if_pos rfl]
    unfold HE.of
    dsimp only
    have n1 := getI_nn s (L := (heOf le o).he) (fun q hq => by have := (mayL_all hm.1).row q hq; omega)
    refine ⟨by rw [getI_nil]; omega, rfl⟩
set_option maxRecDepth 10000 in
theorem pickM_ok {A : Stk} {le : Hes} {o : Int} (h : ShOk A le) : StepOk le o (moveS A le o 4 0 (some 1)) ∧ ∀ s, (heOf (moveS A le o 4 0 (some 1)).2.2 o).of s ≤ (heOf le o).of s ∧ getI (heOf (moveS A le o 4 0 (some 1)).2.2 o).sh s = getI (heOf le o).sh s := by
  have hz : ∀ c : Int, StepOk le o (([], c), A, le) ∧ ∀ s, (heOf le o).of s ≤ (heOf le o).of s ∧ getI (heOf le o).sh s = getI (heOf le o).sh s := fun c => ⟨StepOk.no h, fun s => ⟨Int.le_refl _, rfl⟩⟩
  rcases move_cases A le o 4 0 1 with ⟨c, e⟩ | ⟨ho, hne, hp, e⟩
  · rw [e]; exact hz c
  rw [e]
  simp only [HE.get0, HE.get1, HE.get2, HE.set0, HE.set1, HE.set2] at hne hp ⊢
  obtain ⟨r, hr⟩ : ∃ r, plusF (heOf le o).pi (heOf le o).he = (r, 0) := ⟨_, Prod.ext rfl hp⟩
  obtain ⟨p1, p2, p3, p4⟩ := plusF_ok hr
  rw [hr]
  have hm := heOf_may h.row o
  have hoo := heOf_o' h o
  have hs : ∀ y, heOf (setE le { heOf le o with he := [], pi := r }) y = if o = y then { heOf le o with he := [], pi := r } else heOf le y := fun y => by
    rw [heOf_set h.rise]
    show (if (heOf le o).o = y then _ else _) = _
    rw [hoo]
  refine ⟨⟨h.set (doS_ok h.stk) (by show 1 ≤ (heOf le o).o ∧ _; rw [hoo]; exact mayO_may ho) rfl p1 hm.2.2 (fun e => ?_), hm.1, fun y hy => ?_⟩, fun s => ?_⟩
  · have e : (getS le (heOf le o).o).isNone = true := e
    rw [hoo] at e
    exact absurd (show (heOf le o).he = [] by unfold heOf; cases e2 : getS le o with | none => rfl | some v => rw [e2] at e; cases e) hne
  · show heOf (setE le { heOf le o with he := [], pi := r }) y = _
    rw [hs, if_neg (fun e => hy e.symm)]
  · show (heOf (setE le { heOf le o with he := [], pi := r }) o).of s ≤ _ ∧ getI (heOf (setE le { heOf le o with he := [], pi := r }) o).sh s = _
    rw [hs, if_pos rfl]
    unfold HE.of
    dsimp only
    have n1 := getI_nn s (L := (heOf le o).he) (fun q hq => by have := (mayL_all hm.1).row q hq; omega)
    have p5 := p4 s; rw [getI_nil]; constructor <;> omega
set_option maxRecDepth 10000 in
theorem shipM_ok {A : Stk} {le : Hes} {o : Int} (h : ShOk A le) : StepOk le o (moveS A le o 6 1 (some 2)) ∧ ∀ s, (heOf (moveS A le o 6 1 (some 2)).2.2 o).of s ≤ (heOf le o).of s ∧ getI (heOf (moveS A le o 6 1 (some 2)).2.2 o).sh s = getI (heOf le o).sh s + getI (moveS A le o 6 1 (some 2)).1.1 s := by
  have hz : ∀ c : Int, StepOk le o (([], c), A, le) ∧ ∀ s, (heOf le o).of s ≤ (heOf le o).of s ∧ getI (heOf le o).sh s = getI (heOf le o).sh s + getI [] s := fun c => ⟨StepOk.no h, fun s => ⟨Int.le_refl _, by rw [getI_nil]; omega⟩⟩
  rcases move_cases A le o 6 1 2 with ⟨c, e⟩ | ⟨ho, hne, hp, e⟩
  · rw [e]; exact hz c
  rw [e]
  simp only [HE.get0, HE.get1, HE.get2, HE.set0, HE.set1, HE.set2] at hne hp ⊢
  obtain ⟨r, hr⟩ : ∃ r, plusF (heOf le o).sh (heOf le o).pi = (r, 0) := ⟨_, Prod.ext rfl hp⟩
  obtain ⟨p1, p2, p3, p4⟩ := plusF_ok hr
  rw [hr]
  have hm := heOf_may h.row o
  have hoo := heOf_o' h o
  have hs : ∀ y, heOf (setE le { heOf le o with pi := [], sh := r }) y = if o = y then { heOf le o with pi := [], sh := r } else heOf le y := fun y => by
    rw [heOf_set h.rise]
    show (if (heOf le o).o = y then _ else _) = _
    rw [hoo]
  refine ⟨⟨h.set (doS_ok h.stk) (by show 1 ≤ (heOf le o).o ∧ _; rw [hoo]; exact mayO_may ho) hm.1 rfl p1 (fun e => ?_), hm.2.1, fun y hy => ?_⟩, fun s => ?_⟩
  · have e : (getS le (heOf le o).o).isNone = true := e
    rw [hoo] at e
    exact absurd (show (heOf le o).pi = [] by unfold heOf; cases e2 : getS le o with | none => rfl | some v => rw [e2] at e; cases e) hne
  · show heOf (setE le { heOf le o with pi := [], sh := r }) y = _
    rw [hs, if_neg (fun e => hy e.symm)]
  · show (heOf (setE le { heOf le o with pi := [], sh := r }) o).of s ≤ _ ∧ getI (heOf (setE le { heOf le o with pi := [], sh := r }) o).sh s = _
    rw [hs, if_pos rfl]
    unfold HE.of
    dsimp only
    have n1 := getI_nn s (L := (heOf le o).he) (fun q hq => by have := (mayL_all hm.1).row q hq; omega)
    have p5 := p4 s; rw [getI_nil]; constructor <;> omega
theorem free_ok {A : Stk} {le : Hes} {o : Int} (h : ShOk A le) : StepOk le o (freeE A le o) ∧ ∀ s, (heOf (freeE A le o).2.2 o).of s ≤ (heOf le o).of s ∧ getI (heOf (freeE A le o).2.2 o).sh s = getI (heOf le o).sh s := by
  have hz : ∀ c : Int, StepOk le o (([], c), A, le) ∧ ∀ s, (heOf le o).of s ≤ (heOf le o).of s ∧ getI (heOf le o).sh s = getI (heOf le o).sh s := fun c => ⟨StepOk.no h, fun s => ⟨Int.le_refl _, rfl⟩⟩
  unfold freeE
  split
  · exact hz _
  split
  · exact hz _
  exact freeM_ok h
theorem do_ok {A : Stk} {le : Hes} {k : Int} {L : Its} (h : ShOk A le) : ShOk (doH A k L).2 le := by
  unfold doH
  split
  · exact ⟨doS_ok h.stk, h.rise, h.row, h.len⟩
  · exact h
end Go.Proofs.YtmflpeklalgibaaGreat

namespace Go.Proofs.YtmflpeklalgibaaGreat
open Go.RowKit Go.Maps
/-- A list is put away, or left. -/
def awayS (x : Stk × List Its) (L : Its) : Stk × List Its := if (doH x.1 11 L).1 = 0 then ((doH x.1 11 L).2, x.2) else (x.1, x.2 ++ [L])
def awayF (A : Stk) (S : List Its) : Stk × List Its := S.foldl awayS (A, [])
theorem awayF_snoc (A : Stk) (S : List Its) (L : Its) : awayF A (S ++ [L]) = awayS (awayF A S) L := by unfold awayF; rw [List.foldl_append]; rfl
theorem away_acc : ∀ (S : List Its) (x : Stk × List Its), (S.foldl awayS x).2.length ≤ x.2.length + S.length ∧ ((S.foldl awayS x).2.length = x.2.length + S.length → S.foldl awayS x = (x.1, x.2 ++ S))
  | [], x => ⟨by simp, fun _ => by simp⟩
  | L :: r, x => by
    obtain ⟨h1, h2⟩ := away_acc r (awayS x L)
    rw [List.foldl_cons]
    by_cases h : (doH x.1 11 L).1 = 0
    · have e : awayS x L = ((doH x.1 11 L).2, x.2) := by unfold awayS; rw [if_pos h]
      rw [e] at h1 h2 ⊢
      simp only [List.length_cons] at h1 ⊢
      exact ⟨by omega, fun q => by omega⟩
    · have e : awayS x L = (x.1, x.2 ++ [L]) := by unfold awayS; rw [if_neg h]
      rw [e] at h1 h2 ⊢
      simp only [List.length_append, List.length_cons, List.length_nil] at h1 h2 ⊢
      refine ⟨by omega, fun q => ?_⟩
      rw [h2 (by omega)]
      simp
theorem away_le (A : Stk) (S : List Its) : (awayF A S).2.length ≤ S.length := by have := (away_acc S (A, [])).1; unfold awayF; simpa using this
theorem away_all {A : Stk} {S : List Its} (h : (awayF A S).2.length = S.length) : awayF A S = (A, S) := by
  unfold awayF at h ⊢
  have := (away_acc S (A, [])).2 (by simpa using h)
  simpa using this
theorem away_one (A : Stk) (L : Its) : awayF A [L] = if (doH A 11 L).1 = 0 then ((doH A 11 L).2, []) else (A, [L]) := by
  show awayS (A, []) L = _
  unfold awayS
  split <;> rfl
/-- How many of each good are free. -/
def freeF (A : Stk) : Its := A.map fun p => (p.1, p.2.free)
/-- Is more free than ahead? -/
def moreF (before now : Its) : Bool := now.any fun p => decide ((getS before p.1).getD 0 < p.2)
theorem more_same {A : Stk} (h : RiseS A) : moreF (freeF A) (freeF A) = false := by
  unfold moreF
  rw [List.any_eq_false]
  intro p hp
  have hn : RiseS (freeF A) := by
    unfold freeF RiseS at *
    rw [List.pairwise_map]
    exact h
  have := getK_of (riseS_nd hn) (x := p.1) (v := p.2) hp
  simp [this]
/-- What comes is free. -/
theorem come_free {A B : Stk} {L : Its} (hA : SOk A) (h : doS A 11 L = (0, B)) : ∀ p ∈ L, (rowAt B p.1).free = (rowAt A p.1).free + p.2 := by
  obtain ⟨-, -, hm, -, -, hB, -⟩ := doS_yes hA h
  intro p hp
  have hL := its_all (mayL_iff.1 hm).1
  have hat : getS L p.1 = some p.2 := getK_of (riseS_nd hL.1) hp
  have : getS B p.1 = some ((rowAt A p.1).move 11 p.2) := by rw [hB.2, hat]
  have e : rowAt B p.1 = (rowAt A p.1).move 11 p.2 := by unfold rowAt at *; rw [this]; rfl
  rw [e]
  rfl
end Go.Proofs.YtmflpeklalgibaaGreat

namespace Go.Proofs.YtmflpeklalgibaaGreat
open Go.RowKit Go.Maps
/-- A region at r, its parts named: gs, T0 its shelf's, gm, T1 its moves', vS its stuck lists' row. -/
structure RB (W : World) (r gs gm : Nat) (T0 T1 : Nat → Prop) (vS : Value) (me n : Int) (A : Stk) (le : Hes) (ws : List (Int × WE)) (S : List (Value × Its)) : Prop where
  obj : W.heap[r]? = some (.cells #[.int .i64 me, .int .i64 n, .pointer (some ⟨gs, 0, none⟩), .pointer (some ⟨gm, 0, none⟩), vS] 65)
  sh : SHE W gs T0 A le
  ok : ShOk A le
  mv : WS W gm T1 ws
  row : W.ownsRow 0 23 1 vS S.length (S.map (·.1))
  nr : ¬ T0 r ∧ ¬ T1 r ∧ ∀ b, vS.ownBlock = some b → b ≠ r ∧ ¬ T0 b ∧ ¬ T1 b
  nt : ∀ b, T0 b → ¬ T1 b
  st : ∀ p ∈ S, Il W p.1 p.2 ∧ (p.2 ≠ [] → ∀ b, p.1.ownBlock = some b → b < W.heap.size ∧ b ≠ r ∧ ¬ T0 b ∧ ¬ T1 b ∧ vS.ownBlock ≠ some b)
/-- A region's own blocks. -/
def RB.bl (r : Nat) (T0 T1 : Nat → Prop) (vS : Value) (b : Nat) : Prop := b = r ∨ T0 b ∨ T1 b ∨ vS.ownBlock = some b
section
variable {W W' : World} {r gs gm : Nat} {T0 T1 T0' T1' : Nat → Prop} {vS vS' : Value} {me n : Int} {A A' : Stk} {le le' : Hes} {ws ws' : List (Int × WE)} {S S' : List (Value × Its)}
theorem RB.lt (h : RB W r gs gm T0 T1 vS me n A le ws S) : ∀ b, RB.bl r T0 T1 vS b → b < W.heap.size := fun b hb => by
  rcases hb with rfl | hb | hb | hb
  · exact (Array.getElem?_eq_some_iff.1 h.obj).1
  · exact h.sh.lt b hb
  · exact h.mv.lt b hb
  · exact (h.row.lt b hb).2
theorem RB.keep {K : Nat → Prop} (h : RB W r gs gm T0 T1 vS me n A le ws S) (hf : Fr K W W') (hK : ∀ b, RB.bl r T0 T1 vS b → ¬ K b) (hS : ∀ p ∈ S, p.2 ≠ [] → ∀ b, p.1.ownBlock = some b → ¬ K b) : RB W' r gs gm T0 T1 vS me n A le ws S := by
  obtain ⟨h1, h2, h3, h4, h5, h6, h7, h8⟩ := h
  exact ⟨hf.at_ h1 (hK r (.inl rfl)), h2.keep hf (fun b hb => hK b (.inr (.inl hb))), h3, h4.keep hf (fun b hb => hK b (.inr (.inr (.inl hb)))), hf.row h5 (fun b hb => hK b (.inr (.inr (.inr hb)))), h6, h7, fun p hp => ⟨(h8 p hp).1.keep hf (fun hn b hb => hS p hp hn b hb), fun hn b hb => ⟨Nat.lt_of_lt_of_le ((h8 p hp).2 hn b hb).1 hf.size, ((h8 p hp).2 hn b hb).2⟩⟩⟩
theorem RB.keep0 (h : RB W r gs gm T0 T1 vS me n A le ws S) (hf : Fr (fun _ => False) W W') : RB W' r gs gm T0 T1 vS me n A le ws S := h.keep hf (fun _ _ e => e) (fun _ _ _ _ _ e => e)
/-- The shelf has turned. -/
theorem RB.shelf (h : RB W r gs gm T0 T1 vS me n A le ws S) (hs : SHE W' gs T0' A' le') (hk : ShOk A' le') (st : Stp T0 W W' T0') : RB W' r gs gm T0' T1 vS me n A' le' ws S := by
  have hlt := h.lt
  obtain ⟨h1, h2, h3, h4, h5, h6, h7, h8⟩ := h
  have hn : ∀ b, b < W.heap.size → ¬ T0 b → ¬ T0' b := fun b hb h0 e => (st.2 b e).elim h0 (fun e => by omega)
  refine ⟨st.1.at_ h1 h6.1, hs, hk, h4.keep st.1 (fun b hb e => h7 b e hb), st.1.row h5 (fun b hb => (h6.2.2 b hb).2.1), ⟨hn r (hlt r (.inl rfl)) h6.1, h6.2.1, fun b hb => ⟨(h6.2.2 b hb).1, hn b (hlt b (.inr (.inr (.inr hb)))) (h6.2.2 b hb).2.1, (h6.2.2 b hb).2.2⟩⟩, fun b hb e => (st.2 b hb).elim (fun q => h7 b q e) (fun q => by have := hlt b (.inr (.inr (.inl e))); omega), fun p hp => ⟨(h8 p hp).1.keep st.1 (fun he b hb => ((h8 p hp).2 he b hb).2.2.1), fun he b hb => ?_⟩⟩
  obtain ⟨q1, q2, q3, q4⟩ := (h8 p hp).2 he b hb
  exact ⟨Nat.lt_of_lt_of_le q1 st.1.size, q2, hn b q1 q3, q4⟩
/-- The moves have turned. -/
theorem RB.moves (h : RB W r gs gm T0 T1 vS me n A le ws S) (hs : WS W' gm T1' ws') (st : Stp T1 W W' T1') : RB W' r gs gm T0 T1' vS me n A le ws' S := by
  have hlt := h.lt
  obtain ⟨h1, h2, h3, h4, h5, h6, h7, h8⟩ := h
  have hn : ∀ b, b < W.heap.size → ¬ T1 b → ¬ T1' b := fun b hb h0 e => (st.2 b e).elim h0 (fun e => by omega)
  refine ⟨st.1.at_ h1 h6.2.1, h2.keep st.1 (fun b hb e => h7 b hb e), h3, hs, st.1.row h5 (fun b hb => (h6.2.2 b hb).2.2), ⟨h6.1, hn r (hlt r (.inl rfl)) h6.2.1, fun b hb => ⟨(h6.2.2 b hb).1, (h6.2.2 b hb).2.1, hn b (hlt b (.inr (.inr (.inr hb)))) (h6.2.2 b hb).2.2⟩⟩, fun b hb e => (st.2 b e).elim (fun q => h7 b hb q) (fun q => by have := hlt b (.inr (.inl hb)); omega), fun p hp => ⟨(h8 p hp).1.keep st.1 (fun he b hb => ((h8 p hp).2 he b hb).2.2.2.1), fun he b hb => ?_⟩⟩
  obtain ⟨q1, q2, q3, q4, q5⟩ := (h8 p hp).2 he b hb
  exact ⟨Nat.lt_of_lt_of_le q1 st.1.size, q2, q3, hn b q1 q4, q5⟩
/-- The stuck lists are others: their row lies in new memory, or where it lay. -/
theorem RB.stuck {K : Nat → Prop} (h : RB W r gs gm T0 T1 vS me n A le ws S) (hf : Fr K W W') (hK : ∀ b, K b → ¬ (b = r ∨ T0 b ∨ T1 b)) (ho : W'.ownsRow 0 23 1 vS' S'.length (S'.map (·.1))) (hv : ∀ b, vS'.ownBlock = some b → b ≠ r ∧ ¬ T0 b ∧ ¬ T1 b)
    (hs : ∀ p ∈ S', Il W' p.1 p.2 ∧ (p.2 ≠ [] → ∀ b, p.1.ownBlock = some b → b < W'.heap.size ∧ b ≠ r ∧ ¬ T0 b ∧ ¬ T1 b ∧ vS'.ownBlock ≠ some b)) :
    RB (W'.setCell ⟨r, 4, none⟩ vS') r gs gm T0 T1 vS' me n A le ws S' := by
  have hlt := h.lt
  obtain ⟨h1, h2, h3, h4, h5, h6, h7, h8⟩ := h
  have hF : Fr (fun b => b = r) W' (W'.setCell ⟨r, 4, none⟩ vS') := (Fr.refl (fun b => b = r) W').setCell (p := ⟨r, 4, none⟩) (fun _ => rfl) _
  refine ⟨obj_set (hf.at_ h1 (fun e => hK r e (.inl rfl))) 4 vS', (h2.keep hf (fun b hb e => hK b e (.inr (.inl hb)))).keep hF (fun b hb e => h6.1 (e ▸ hb)), h3, (h4.keep hf (fun b hb e => hK b e (.inr (.inr hb)))).keep hF (fun b hb e => h6.2.1 (e ▸ hb)), hF.row ho (fun b hb e => (hv b hb).1 e), ⟨h6.1, h6.2.1, hv⟩, h7, fun p hp => ⟨(hs p hp).1.keep hF (fun hn b hb e => ((hs p hp).2 hn b hb).2.1 e), fun hn b hb => ?_⟩⟩
  obtain ⟨q1, q2⟩ := (hs p hp).2 hn b hb
  exact ⟨Nat.lt_of_lt_of_le q1 hF.size, q2⟩
theorem RB.cells (h : RB W r gs gm T0 T1 vS me n A le ws S) : W.cell? ⟨r, 0, none⟩ = some (.int .i64 me) ∧ W.cell? ⟨r, 1, none⟩ = some (.int .i64 n) ∧ W.cell? ⟨r, 2, none⟩ = some (.pointer (some ⟨gs, 0, none⟩)) ∧ W.cell? ⟨r, 3, none⟩ = some (.pointer (some ⟨gm, 0, none⟩)) ∧ W.cell? ⟨r, 4, none⟩ = some vS :=
  ⟨cell_obj h.obj 0 _ rfl, cell_obj h.obj 1 _ rfl, cell_obj h.obj 2 _ rfl, cell_obj h.obj 3 _ rfl, cell_obj h.obj 4 _ rfl⟩
end
/-- A region as a thing of its own. -/
def RG (W : World) (r : Nat) (TS : Nat → Prop) (me n : Int) (A : Stk) (le : Hes) (ws : List (Int × WE)) (S : List (Value × Its)) : Prop :=
  ∃ gs gm T0 T1 vS, RB W r gs gm T0 T1 vS me n A le ws S ∧ ∀ b, TS b ↔ RB.bl r T0 T1 vS b
end Go.Proofs.YtmflpeklalgibaaGreat

namespace Go.Proofs.YtmflpeklalgibaaGreat
open Go.RowKit Go.Maps
section
variable {w : World} {r gs gm : Nat} {T0 T1 : Nat → Prop} {vk : Value} {me n : Int} {A : Stk} {le : Hes} {ws : List (Int × WE)} {S : List (Value × Its)}
theorem gShelf (h : RB w r gs gm T0 T1 vk me n A le ws S) : Calls Tryz.prog 10 #[.pointer (some ⟨r, 0, none⟩)] w fun e w' => ∃ g' TS', e = .returned (.pointer (some ⟨g', 0, none⟩)) ∧ SA w' g' TS' A ∧ Fr (fun _ => False) w w' ∧ ∀ b, TS' b → w.heap.size ≤ b := by
  have HS := Lib.hid (eStock h.sh)
  obtain ⟨-, -, c2, -, -⟩ := h.cells
  clear h
  go_enter Tryz.func10, Tryz.ntmps10
  go_wp2_with (go_at_call 33; refine HS.out.mono ?_; rintro e w1 ⟨g', TS', rfl, h1, h2, h3⟩; have H1 := Lib.hid h1; have H2 := Lib.hid h2; have H3 := Lib.hid h3; clear h1 h2 h3)
  go_ret
  exact ⟨g', TS', rfl, H1.out, H2.out, H3.out⟩
theorem gSound (h : RB w r gs gm T0 T1 vk me n A le ws S) : Calls Tryz.prog 15 #[.pointer (some ⟨r, 0, none⟩)] w fun e w' => e = .returned (.bool (soundE A le)) ∧ Fr (fun _ => False) w w' := by
  have HS := Lib.hid (eSound h.sh h.ok)
  obtain ⟨-, -, c2, -, -⟩ := h.cells
  clear h
  obtain ⟨b, hb⟩ : ∃ b, soundE A le = b := ⟨_, rfl⟩
  rw [hb] at HS ⊢
  clear hb
  go_enter Tryz.func15, Tryz.ntmps15
  go_wp2_with (go_at_call 38; refine HS.out.mono ?_; rintro e w1 ⟨rfl, h1⟩; have H1 := Lib.hid h1; clear h1)
  go_ret
  exact ⟨rfl, H1.out⟩
theorem gStuck (h : RB w r gs gm T0 T1 vk me n A le ws S) : Calls Tryz.prog 11 #[.pointer (some ⟨r, 0, none⟩)] w fun e w' => e = .returned (.int .i64 S.length) ∧ w = w' := by
  obtain ⟨a, c, rfl⟩ := row_sl h.row
  obtain ⟨N, hN⟩ : ∃ N, S.length = N := ⟨_, rfl⟩
  rw [hN] at h ⊢
  obtain ⟨-, -, -, -, c4⟩ := h.cells
  clear h hN
  go_enter Tryz.func11, Tryz.ntmps11
  go_wp2_with fail
  go_ret
  exact ⟨rfl, rfl⟩
end
end Go.Proofs.YtmflpeklalgibaaGreat

namespace Go.Proofs.YtmflpeklalgibaaGreat
open Go.RowKit Go.Maps
set_option maxRecDepth 100000 in
theorem gHold {w : World} {r gs gm : Nat} {T0 T1 : Nat → Prop} {vk : Value} {me n : Int} {A : Stk} {le : Hes} {ws : List (Int × WE)} {S : List (Value × Its)} {o : Int} (h : RB w r gs gm T0 T1 vk me n A le ws S) (ho : okI o) : Calls Tryz.prog 14 #[.pointer (some ⟨r, 0, none⟩), .int .i64 o] w fun e w' => ∃ v, e = .returned v ∧ Hd w' w.heap.size v (heOf le o) ∧ Fr (fun _ => False) w w' := by
  obtain ⟨n0, hn0⟩ : ∃ n0, w.heap.size = n0 := ⟨_, rfl⟩
  obtain ⟨W0, hW0⟩ : ∃ W0, w.alloc (.cells #[.int .i64 0, .slice none 0 0, .slice none 0 0, .slice none 0 0] 54) = W0 := ⟨_, rfl⟩
  have hF0 : Fr (fun _ => False) w W0 := by rw [← hW0]; exact (Fr.refl _ w).alloc _
  have hB0 : W0.heap[n0]? = some (.cells #[.int .i64 0, .slice none 0 0, .slice none 0 0, .slice none 0 0] 54) := by rw [← hW0, ← hn0]; exact heap_new _ _
  have hz0 : W0.heap.size = n0 + 1 := by rw [← hW0, ← hn0]; simp
  have h0 := h.keep0 hF0
  have HS := Lib.hid (eHold o h0.sh h0.ok ho)
  obtain ⟨-, -, c2, -, -⟩ := h0.cells
  have HF0 := Lib.hid hF0; have HB0 := Lib.hid hB0; have HZ0 := Lib.hid hz0; have HN0 := Lib.hid hn0
  obtain ⟨HE0, hHE0⟩ : ∃ x, heOf le o = x := ⟨_, rfl⟩
  rw [hHE0] at HS ⊢
  clear h h0 hF0 hB0 hz0 hHE0
  have hfin : ∀ (W : World) (u0 u1 u2 u3 : Value), Fr (fun _ => False) W0 W → ∃ W', (((W.setCell ⟨n0, 0, none⟩ u0).setCell ⟨n0, 1, none⟩ u1).setCell ⟨n0, 2, none⟩ u2).setCell ⟨n0, 3, none⟩ u3 = W' ∧ W'.cell? ⟨n0, 0, none⟩ = some u0 ∧ W'.cell? ⟨n0, 1, none⟩ = some u1 ∧ W'.cell? ⟨n0, 2, none⟩ = some u2 ∧ W'.cell? ⟨n0, 3, none⟩ = some u3 ∧ Fr (fun b => b = n0) W W' := fun W u0 u1 u2 u3 hf => by
    have h4 := obj_set (obj_set (obj_set (obj_set (hf.at_ HB0.out (fun e => e)) 0 u0) 1 u1) 2 u2) 3 u3
    have f1 : Fr (fun x => x = n0) W _ := (Fr.refl (fun x => x = n0) W).setCell (p := ⟨n0, 0, none⟩) (fun _ => rfl) u0
    have f2 : Fr (fun x => x = n0) W _ := f1.setCell (p := ⟨n0, 1, none⟩) (fun _ => rfl) u1
    have f3 : Fr (fun x => x = n0) W _ := f2.setCell (p := ⟨n0, 2, none⟩) (fun _ => rfl) u2
    have f4 : Fr (fun x => x = n0) W _ := f3.setCell (p := ⟨n0, 3, none⟩) (fun _ => rfl) u3
    exact ⟨_, rfl, cell_obj h4 0 _ rfl, cell_obj h4 1 _ rfl, cell_obj h4 2 _ rfl, cell_obj h4 3 _ rfl, f4⟩
  have HFN := Lib.hid hfin
  clear hfin
  go_enter Tryz.func14, Tryz.ntmps14
  go_wp2_with (go_at_call 37; refine HS.out.mono ?_; rintro e w1 ⟨v, rfl, h1, h2⟩; have H1 := Lib.hid h1; have H2 := Lib.hid h2; obtain ⟨y, rfl, hye, hyk⟩ := h1; obtain ⟨d1, f1, p1⟩ := hyk.lh.1.sl; obtain ⟨d2, f2, p2⟩ := hyk.lp.1.sl; obtain ⟨d3, f3, p3⟩ := hyk.ls.1.sl; have henc : y.enc = .agg #[.int .i64 y.o, .slice d1 y.he.length f1, .slice d2 y.pi.length f2, .slice d3 y.sh.length f3] := (by unfold HV.enc; rw [p1, p2, p3]); rw [henc]; have HEN := Lib.hid henc; have HYE := Lib.hid hye; have HYK := Lib.hid hyk; obtain ⟨m1, hm1⟩ : ∃ m, y.he.length = m := ⟨_, rfl⟩; obtain ⟨m2, hm2⟩ : ∃ m, y.pi.length = m := ⟨_, rfl⟩; obtain ⟨m3, hm3⟩ : ∃ m, y.sh.length = m := ⟨_, rfl⟩; rw [hm1, hm2, hm3] at HEN; rw [hm1, hm2, hm3]; have hb1 := h2.at_ HB0.out (fun e => e); have x0 := cell_obj hb1 0 _ rfl; have x1 := cell_obj hb1 1 _ rfl; have x2 := cell_obj hb1 2 _ rfl; have x3 := cell_obj hb1 3 _ rfl; have z0 := obj_frozen hb1 0; have z1 := obj_frozen hb1 1; have z2 := obj_frozen hb1 2; have z3 := obj_frozen hb1 3; clear h2 hye hyk p1 p2 p3 henc hm1 hm2 hm3 hb1)
  obtain ⟨W', hW', e0, e1, e2, e3, hf⟩ := HFN.out w1 (.int .i64 y.o) (.slice d1 m1 f1) (.slice d2 m2 f2) (.slice d3 m3 f3) H2.out
  try rw [hn0]
  rw [hW']
  refine bodyPost_ret (v := y.enc) (by rw [HEN.out]; simp [results, Tryz.results14, go_sem, e0, e1, e2, e3]) rfl ?_
  have hz := HZ0.out
  have hs := H2.out.size
  have hn := HN0.out
  refine ⟨y.enc, rfl, ⟨y, rfl, HYE.out, (HYK.out.keep hf (fun b hb e => by have e : b = n0 := e; omega)).mono (fun b hb => ⟨by omega, Nat.lt_of_lt_of_le hb.2 hf.size⟩)⟩, ((HF0.out.trans H2.out).trans' hf (fun b hb e => by have e : b = n0 := e; omega))⟩
end Go.Proofs.YtmflpeklalgibaaGreat

namespace Go.Proofs.YtmflpeklalgibaaGreat
open Go.RowKit
section
variable {w w' : World} {size m : Nat} {A : Option Addr} {xs : List Value} {P : Program}
theorem rd_obj {w : World} {g : Nat} {cs : List Value} {t : TypeId} {size : Nat} (h : w.heap[g]? = some (.cells cs.toArray t)) (hs : cs.length = size) : Rd w size (some ⟨g, 0, none⟩) 1 cs :=
  ⟨by omega, fun _ => ⟨_, rfl, fun j u hu => by
    have : (⟨g, 0, none⟩ : Addr).add j = ⟨g, j, none⟩ := by unfold Addr.add; split <;> simp_all
    rw [this]
    exact cell_obj h j u (by simpa using hu)⟩⟩
end
end Go.Proofs.YtmflpeklalgibaaGreat

namespace Go.Proofs.YtmflpeklalgibaaGreat
open Go.RowKit Go.Maps
def mayRg (me n : Int) : Bool := decide (1 ≤ n) && decide (n ≤ 8) && decide (0 ≤ me) && decide (me < n)
/-- What New answers. -/
structure RNew (w : World) (me n : Int) (e : Ending) (w' : World) : Prop where
  fr : Fr (fun _ => False) w w'
  no : mayRg me n = false → e = .returned (.tuple #[.pointer none, .int .i64 1])
  yes : mayRg me n = true → ∃ r TS, e = .returned (.tuple #[.pointer (some ⟨r, 0, none⟩), .int .i64 0]) ∧ RG w' r TS me n [] [] [] [] ∧ ∀ b, TS b → w.heap.size ≤ b
set_option maxRecDepth 100000 in
set_option maxHeartbeats 4000000 in
theorem gNew (w : World) (me n : Int) : Calls Tryz.prog 5 #[.int .i64 me, .int .i64 n] w (RNew w me n) := by
  by_cases h : mayRg me n = true
  · have hM := Lib.hid h
    unfold mayRg at h
    simp only [Bool.and_eq_true, decide_eq_true_eq] at h
    obtain ⟨⟨⟨h1, h2⟩, h3⟩, h4⟩ := h
    have g1 : ¬ n < 1 := by omega
    have g2 : ¬ (8 : Int) < n := by omega
    have g3 : ¬ me < 0 := by omega
    have g4 : ¬ n ≤ me := by omega
    clear h1 h2 h3 h4
    go_enter Tryz.func5, Tryz.ntmps5
    go_wp2_with (first
      | (go_at_call 17; refine (eNew _).mono ?_; rintro e w1 ⟨gs, T0, rfl, h1, h2, h3⟩; have H1 := Lib.hid h1; have H2 := Lib.hid h2; have H3 := Lib.hid h3; clear h1 h2 h3)
      | (go_at_call 18; refine (vNew _).mono ?_; rintro e w2 ⟨gm, T1, rfl, h1, h2, h3⟩; have M1 := Lib.hid h1; have M2 := Lib.hid h2; have M3 := Lib.hid h3; clear h1 h2 h3))
    go_returns
    have s1 := H3.out.size
    have s2 := M3.out.size
    have l1 := H1.out.lt
    have l2 := M1.out.lt
    have hf : Fr (fun _ => False) w2 (w2.alloc (.cells #[.int .i64 me, .int .i64 n, .pointer (some ⟨gs, 0, none⟩), .pointer (some ⟨gm, 0, none⟩), .slice none 0 0] 65)) := (Fr.refl _ w2).alloc _
    refine ⟨(H3.out.trans M3.out).trans hf, fun e => (by rw [hM.out] at e; cases e), fun _ => ⟨_, _, rfl, ⟨gs, gm, T0, T1, .slice none 0 0, ⟨heap_new _ _, (H1.out.keep M3.out (fun _ _ e => e)).keep hf (fun _ _ e => e), ⟨⟨List.Pairwise.nil, fun p hp => (by cases hp), fun p hp => (by cases hp), (by simp)⟩, List.Pairwise.nil, fun p hp => (by cases hp), by simp⟩, M1.out.keep hf (fun _ _ e => e), World.ownsRow_nil _ _ _ _, ⟨fun e => by have := l1 _ e; omega, fun e => by have := l2 _ e; omega, fun b hb => (by cases hb)⟩, fun b hb e => by have := l1 b hb; have := M2.out b e; omega, fun p hp => (by cases hp)⟩, fun b => Iff.rfl⟩, fun b hb => ?_⟩⟩
    rcases hb with rfl | hb | hb | hb
    · omega
    · exact H2.out b hb
    · have := M2.out b hb; omega
    · cases hb
  · have hM : Hid (mayRg me n = false) := Lib.hid (by simpa using h)
    have hq : n < 1 ∨ (¬ n < 1 ∧ (8 : Int) < n) ∨ (¬ n < 1 ∧ ¬ (8 : Int) < n ∧ me < 0) ∨ (¬ n < 1 ∧ ¬ (8 : Int) < n ∧ ¬ me < 0 ∧ n ≤ me) := by
      have h2 : ¬ (1 ≤ n ∧ n ≤ 8 ∧ 0 ≤ me ∧ me < n) := fun ⟨a, b, c, d⟩ => h (by unfold mayRg; simp [a, b, c, d])
      omega
    clear h
    rcases hq with q | ⟨q, q2⟩ | ⟨q, q2, q3⟩ | ⟨q, q2, q3, q4⟩
    all_goals
      go_enter Tryz.func5, Tryz.ntmps5
      go_wp2_with fail
      go_returns
      exact ⟨Fr.refl _ _, fun _ => rfl, fun e => (by rw [hM.out] at e; cases e)⟩
/-- What is done with the stock for a request. -/
def kindF (k : Int) : Int × Bool := if k = 6 then (1, true) else if k = 5 then (7, true) else if k = 8 then (8, true) else if k = 9 then (9, true) else (0, false)
theorem gKind (w : World) (k : Int) : Calls Tryz.prog 60 #[.int .i64 k] w fun e w' => e = .returned (.tuple #[.int .i64 (kindF k).1, .bool (kindF k).2]) ∧ w = w' := by
  by_cases hk : k = 6 ∨ k = 5 ∨ k = 8 ∨ k = 9
  · rcases hk with rfl | rfl | rfl | rfl
    all_goals
      go_enter Tryz.func60, Tryz.ntmps60
      go_wp2
      go_returns
      exact ⟨rfl, rfl⟩
  · have hz : kindF k = (0, false) := by unfold kindF; rw [if_neg (by omega), if_neg (by omega), if_neg (by omega), if_neg (by omega)]
    rw [hz]
    have b1 : (k == 6) = false := by simp; omega
    have b2 : (k == 5) = false := by simp; omega
    have b3 : (k == 8) = false := by simp; omega
    have b4 : (k == 9) = false := by simp; omega
    clear hk hz
    go_enter Tryz.func60, Tryz.ntmps60
    go_wp2
    go_returns
    exact ⟨rfl, rfl⟩
end Go.Proofs.YtmflpeklalgibaaGreat

namespace Go.Proofs.YtmflpeklalgibaaGreat
open Go Go.RowKit
set_option maxHeartbeats 1000000 in
set_option maxRecDepth 100000 in
theorem slIndexByte (s : ByteArray) (c : Int) (w : World) :
    Calls Tryz.prog 124 #[.string s, .int .u8 c] w fun e w' => e = .returned (.int .i64 (Lib.indexByte s.data.toList c.toNat.toUInt8)) ∧ w' = w := by
  go_enter Tryz.func124, Tryz.ntmps124
  go_wp2
  rw [run_callFunc_extern Tryz.func136 (by kernel_rfl) (by kernel_rfl) (by kernel_rfl) (e := Extern.BytealgIndexByte.indexByte) (by kernel_rfl), Lib.run_indexByteString]
  simp only [Result.andThen]
  rw [Oper.upon_value]
  go_wp2
  go_ret
  exact ⟨rfl, rfl⟩
set_option maxHeartbeats 2000000 in
set_option maxRecDepth 100000 in
theorem slIndex (s : ByteArray) (c : UInt8) (w : World) :
    Calls Tryz.prog 106 #[.string s, .string ⟨#[c]⟩] w fun e w' => e = .returned (.int .i64 (Lib.indexByte s.data.toList c)) ∧ w' = w := by
  go_enter Tryz.func106, Tryz.ntmps106
  go_wp2_with (go_at_call 124; refine (slIndexByte _ _ _).mono ?_; rintro e w' ⟨rfl, rfl⟩)
  · have h : ([c] == s.toList) = true := by assumption
    go_ret
    refine ⟨?_, rfl⟩
    have e : s.data.toList = [c] := by rw [← Lib.toList_data]; exact (beq_iff_eq.1 h).symm
    rw [e]
    simp [Lib.indexByte]
  · go_ret
    exact ⟨rfl, rfl⟩
set_option maxHeartbeats 1000000 in
theorem stIndex (s : ByteArray) (c : UInt8) (w : World) :
    Calls Tryz.prog 76 #[.string s, .string ⟨#[c]⟩] w fun e w' => e = .returned (.int .i64 (Lib.indexByte s.data.toList c)) ∧ w' = w := by
  go_enter Tryz.func76, Tryz.ntmps76
  go_wp2_with (go_at_call 106; refine (slIndex _ _ _).mono ?_; rintro e w' ⟨rfl, rfl⟩)
  go_ret
  exact ⟨rfl, rfl⟩
set_option maxHeartbeats 1000000 in
theorem stContains (s : ByteArray) (c : UInt8) (w : World) :
    Calls Tryz.prog 43 #[.string s, .string ⟨#[c]⟩] w fun e w' => e = .returned (.bool (decide (0 ≤ Lib.indexByte s.data.toList c))) ∧ w' = w := by
  go_enter Tryz.func43, Tryz.ntmps43
  go_wp2_with (go_at_call 76; refine (stIndex _ _ _).mono ?_; rintro e w' ⟨rfl, rfl⟩)
  go_ret
  exact ⟨rfl, rfl⟩
end Go.Proofs.YtmflpeklalgibaaGreat

namespace Go.Proofs.YtmflpeklalgibaaGreat
open Go.RowKit Go.Maps
/-- A kind's fields. -/
def fldF (k : Int) : Str :=
  if k = 1 then [110, 105] else if k = 2 ∨ k = 3 ∨ k = 4 then [111] else if k = 5 then [111, 114, 105] else if k = 6 ∨ k = 8 ∨ k = 9 then [114, 105] else
  if k = 7 then [114, 110, 103] else if k = 10 then [114, 116, 105] else if k = 11 then [110] else []
theorem fldF_no {k : Int} (h : k < 1 ∨ 11 < k) : fldF k = [] := by
  unfold fldF
  rw [if_neg (by omega), if_neg (by omega), if_neg (by omega), if_neg (by omega), if_neg (by omega), if_neg (by omega), if_neg (by omega)]
set_option maxHeartbeats 2000000 in
theorem kHas (w : World) (k : Int) : Calls Tryz.prog 79 #[.int .i64 k] w fun e w' => e = .returned (vS (fldF k)) ∧ w = w' := by
  by_cases hk : 1 ≤ k ∧ k ≤ 11
  · rcases (by omega : k = 1 ∨ k = 2 ∨ k = 3 ∨ k = 4 ∨ k = 5 ∨ k = 6 ∨ k = 7 ∨ k = 8 ∨ k = 9 ∨ k = 10 ∨ k = 11) with rfl | rfl | rfl | rfl | rfl | rfl | rfl | rfl | rfl | rfl | rfl
    all_goals
      clear hk
      go_enter Tryz.func79, Tryz.ntmps79
      go_wp2
      go_ret
      exact ⟨rfl, rfl⟩
  · rw [fldF_no (by omega)]
    have b1 : (k == 1) = false := by simp; omega
    have b2 : (k == 2) = false := by simp; omega
    have b3 : (k == 3) = false := by simp; omega
    have b4 : (k == 4) = false := by simp; omega
    have b5 : (k == 5) = false := by simp; omega
    have b6 : (k == 6) = false := by simp; omega
    have b7 : (k == 7) = false := by simp; omega
    have b8 : (k == 8) = false := by simp; omega
    have b9 : (k == 9) = false := by simp; omega
    have b10 : (k == 10) = false := by simp; omega
    have b11 : (k == 11) = false := by simp; omega
    clear hk
    go_enter Tryz.func79, Tryz.ntmps79
    go_wp2
    go_ret
    exact ⟨rfl, rfl⟩
def wiB (n a b : Int) : Bool := decide (a ≤ n) && decide (n ≤ b)
theorem kWithin (w : World) (n a b : Int) : Calls Tryz.prog 82 #[.int .i64 n, .int .i64 a, .int .i64 b] w fun e w' => e = .returned (.bool (wiB n a b)) ∧ w = w' := by
  unfold wiB
  by_cases h1 : a ≤ n <;> by_cases h2 : n ≤ b
  all_goals
    simp only [h1, h2, decide_true, decide_false, Bool.and_true, Bool.and_false]
    go_enter Tryz.func82, Tryz.ntmps82
    go_wp2
    go_ret
    exact ⟨rfl, rfl⟩
/-- A request. -/
structure AV where
  c : Int
  n : Int
  k : Int
  o : Int
  r : Int
  t : Int
  m : Int
  g : Str
  l : Value
  its : Its
def AV.cs (a : AV) : Array Value := #[.int .i64 a.c, .int .i64 a.n, .int .i64 a.k, .int .i64 a.o, .int .i64 a.r, .int .i64 a.t, .int .i64 a.m, vS a.g, a.l]
/-- May its N be? -/
def mayN (k m : Int) : Bool := if k = 1 then wiB m 0 1 else if k = 7 then mayI m else if k = 11 then wiB m 1 4294967297 else decide (m = 0)
set_option maxRecDepth 100000 in
set_option maxHeartbeats 2000000 in
theorem kMayN (w : World) (a : AV) : Calls Tryz.prog 83 #[.agg a.cs] w fun e w' => e = .returned (.bool (mayN a.k a.m)) ∧ Fr (fun _ => False) w w' := by
  obtain ⟨c, n, k, o, r, t, m, g, l, its⟩ := a
  unfold AV.cs
  dsimp only
  have h1 := Lib.hid (fun W => kWithin W m 0 1)
  have h2 := Lib.hid (fun W => kMay W m)
  have h3 := Lib.hid (fun W => kWithin W m 1 4294967297)
  rcases (by omega : k = 1 ∨ k = 7 ∨ k = 11 ∨ (k ≠ 1 ∧ k ≠ 7 ∧ k ≠ 11)) with rfl | rfl | rfl | ⟨q1, q2, q3⟩
  · have e : Hid (mayN 1 m = wiB m 0 1) := Lib.hid rfl
    go_enter Tryz.func83, Tryz.ntmps83
    go_wp2_with (go_at_call 82; refine (h1.out _).mono ?_; rintro e w1 ⟨rfl, rfl⟩)
    go_ret
    exact ⟨by rw [e.out]; rfl, (Fr.refl _ _).alloc _⟩
  · have e : Hid (mayN 7 m = mayI m) := Lib.hid rfl
    go_enter Tryz.func83, Tryz.ntmps83
    go_wp2_with (go_at_call 78; refine (h2.out _).mono ?_; rintro e w1 ⟨rfl, rfl⟩)
    go_ret
    exact ⟨by rw [e.out]; rfl, (Fr.refl _ _).alloc _⟩
  · have e : Hid (mayN 11 m = wiB m 1 4294967297) := Lib.hid rfl
    go_enter Tryz.func83, Tryz.ntmps83
    go_wp2_with (go_at_call 82; refine (h3.out _).mono ?_; rintro e w1 ⟨rfl, rfl⟩)
    go_ret
    exact ⟨by rw [e.out]; rfl, (Fr.refl _ _).alloc _⟩
  · have e : Hid (mayN k m = decide (m = 0)) := Lib.hid (by unfold mayN; rw [if_neg q1, if_neg q2, if_neg q3])
    have b1 : (k == 1) = false := by simpa using q1
    have b2 : (k == 7) = false := by simpa using q2
    have b3 : (k == 11) = false := by simpa using q3
    clear q1 q2 q3
    go_enter Tryz.func83, Tryz.ntmps83
    go_wp2_with fail
    go_ret
    exact ⟨by rw [e.out]; exact ret_bool (by rw [Bool.eq_iff_iff]; simp), (Fr.refl _ _).alloc _⟩
end Go.Proofs.YtmflpeklalgibaaGreat

namespace Go.Proofs.YtmflpeklalgibaaGreat
open Go.RowKit Go.Maps
theorem indexByte_has (l : Str) (c : UInt8) : decide (0 ≤ Lib.indexByte l c) = l.contains c := by
  induction l with
  | nil => simp [Lib.indexByte]
  | cons x r ih =>
    have hge := Lib.indexByte_ge r c
    rw [Lib.indexByte, List.contains_cons, ← ih]
    by_cases h : x = c
    · subst h; simp
    · have h1 : (x == c) = false := by simpa using h
      have h2 : (c == x) = false := by simpa using (fun e => h e.symm)
      rw [h1, h2, if_neg (by simp), Bool.false_or]
      by_cases h3 : Lib.indexByte r c = -1
      · rw [h3]; rfl
      · have h4 : (Lib.indexByte r c == -1) = false := by simpa using h3
        rw [h4, if_neg (by simp), Bool.eq_iff_iff]
        simp only [decide_eq_true_eq]
        omega
def rightB (s : Str) (c : UInt8) (may emp : Bool) : Bool := if s.contains c then may else emp
theorem kRight (w : World) (B : Nat) (s : Str) (c : UInt8) (may emp : Bool) (hB : w.cell? ⟨B, 0, none⟩ = some (vS s)) :
    Calls Tryz.prog 80 #[.string ⟨#[c]⟩, .bool may, .bool emp, .pointer (some ⟨B, 0, none⟩)] w fun e w' => e = .returned (.bool (rightB s c may emp)) ∧ w = w' := by
  have hC := Lib.hid (fun W => stContains ⟨s.toArray⟩ c W)
  have hd : Hid (decide (0 ≤ Lib.indexByte s c) = s.contains c) := Lib.hid (indexByte_has s c)
  unfold rightB
  by_cases h : s.contains c = true
  · rw [if_pos h]
    have hd' : Hid (decide (0 ≤ Lib.indexByte s c) = true) := Lib.hid (hd.out.trans h)
    go_enter Tryz.func80, Tryz.ntmps80
    go_wp2_with (go_at_call 43; refine (hC.out _).mono ?_; rintro e w1 ⟨rfl, rfl⟩; have hq := hd'.out)
    all_goals first | (go_ret; exact ⟨rfl, rfl⟩) | skip
  · rw [if_neg h]
    have hd' : Hid (decide (0 ≤ Lib.indexByte s c) = false) := Lib.hid (hd.out.trans (by simpa using h))
    go_enter Tryz.func80, Tryz.ntmps80
    go_wp2_with (go_at_call 43; refine (hC.out _).mono ?_; rintro e w1 ⟨rfl, rfl⟩; have hq := hd'.out)
    all_goals first | (go_ret; exact ⟨rfl, rfl⟩) | skip
theorem kIsRegion (w : World) (n : Int) : Calls Tryz.prog 81 #[.int .i64 n] w fun e w' => e = .returned (.bool (wiB n 0 7)) ∧ w = w' := by
  have hC := Lib.hid (fun W => kWithin W n 0 7)
  go_enter Tryz.func81, Tryz.ntmps81
  go_wp2_with (go_at_call 82; refine (hC.out _).mono ?_; rintro e w1 ⟨rfl, rfl⟩)
  go_ret
  exact ⟨rfl, rfl⟩
end Go.Proofs.YtmflpeklalgibaaGreat

namespace Go.Proofs.YtmflpeklalgibaaGreat
open Go.ChangeShapes Go.WideShapes Go.RowKit Go.Maps
section
variable {H : Type} {enc : TypeId × Value → H} {w : World} {base : Nat} {spare : Nat → Bool} {held : Bool}
theorem leaf_str {P : Program} {t : TypeId} {n : Nat} {v : Value} {y : DataW H × List MemPlace} (ht : P.underlying t = some .string) (h : DataW.trod enc P w base spare held n t [v] = some y) : ∃ s : Str, v = vS s ∧ okS s := by
  obtain ⟨s, e, _, hs⟩ := DataW.trod_string ht h
  injection e with e _
  refine ⟨s.data.toList, e, ?_⟩
  unfold okS
  exact hs
set_option maxRecDepth 100000 in
theorem leaf_items {n : Nat} {v : Value} {y : DataW H × List MemPlace} (h : DataW.trod enc Tryz.prog w base spare held n 23 [v] = some y) : ∃ L, Il w v L := by
  obtain ⟨len, hmax, hs⟩ := leaf_slice (d := 1) Tryz.underlying23 (by kernel_rfl) (by kernel_rfl) h
  have hmax : len ≤ 9223372036854775807 := hmax
  rcases hs with ⟨rfl, rfl⟩ | ⟨a, cap, rfl, hl, hb, hi⟩
  · exact ⟨[], by simp, none, 0, rfl, fun i p hp => by simp at hp⟩
  · have key : ∀ i, i < len → ∃ p : Str × Int, okS p.1 ∧ okI p.2 ∧ w.cell? (a.add (i * 2)) = some (vS p.1) ∧ w.cell? ⟨(a.add (i * 2)).block, (a.add (i * 2)).off + 1, none⟩ = some (.int .i64 p.2) := fun i hil => by
      obtain ⟨u, m, y, hc, ht⟩ := hi i hil 0 9 (by kernel_rfl)
      obtain ⟨u', m', y', hc', ht'⟩ := hi i hil 1 3 (by kernel_rfl)
      obtain ⟨s, rfl, hs⟩ := leaf_str Tryz.underlying9 ht
      obtain ⟨x, rfl, hx⟩ := leaf_i64 Tryz.underlying3 ht'
      have e : (leaves Tryz.prog 1 45).length = 2 := by kernel_rfl
      rw [e] at hc hc'
      exact ⟨(s, x), hs, hx, hc, by rw [← add_field]; exact hc'⟩
    obtain ⟨X, hX⟩ := Go.Deep.choose_lt key
    refine ⟨(List.range len).map X, (by rw [List.length_map, List.length_range]; exact hmax), some a, cap, (by rw [List.length_map, List.length_range]), fun i p hp => ?_⟩
    rw [List.getElem?_map] at hp
    obtain ⟨i', hi', rfl⟩ := Option.map_eq_some_iff.1 hp
    obtain ⟨hlt, e⟩ := List.getElem?_eq_some_iff.1 hi'
    rw [List.getElem_range] at e
    subst e
    obtain ⟨x0, x1, x2, x3⟩ := hX i (by simpa using hlt)
    exact ⟨x0, x1, a, rfl, x2, x3⟩
set_option maxRecDepth 100000 in
theorem open_items {r : Reach} {b0 : Nat} {v : Value} {d : DataW H} {p : List MemPlace} (hv : Value.okWide Tryz.prog w r b0 23 v) (h : DataW.Trod enc Tryz.prog w base spare held 23 v d p) : ∃ L, Il w v L := by
  obtain ⟨fuel, h⟩ := h
  obtain ⟨a0, l0, c0, rfl⟩ := okWide_slice Tryz.underlying23 hv
  have h' := h
  simp only [Value.cells] at h'
  exact leaf_items (n := fuel) (v := .slice a0 l0 c0) h'
end
end Go.Proofs.YtmflpeklalgibaaGreat

namespace Go.Proofs.YtmflpeklalgibaaGreat
open Go.ChangeShapes Go.WideShapes Go.RowKit Go.Maps
/-- What holds of a request in memory. -/
structure AOk (w : World) (a : AV) : Prop where
  c : okI a.c
  n : okI a.n
  k : okI a.k
  o : okI a.o
  r : okI a.r
  t : okI a.t
  m : okI a.m
  g : okS a.g
  l : Il w a.l a.its
/-- A slice of requests. -/
abbrev Al (w : World) (v : Value) (L : List AV) : Prop := Sq 9 AV.cs AOk w v L
section
variable {H : Type} {enc : TypeId × Value → H} {w : World} {base : Nat} {spare : Nat → Bool} {held : Bool}
end
end Go.Proofs.YtmflpeklalgibaaGreat

namespace Go.Proofs.YtmflpeklalgibaaGreat
open Go.ChangeShapes Go.WideShapes Go.RowKit Go.Maps
/-- An answer. -/
structure YV where
  c : Int
  n : Int
  code : Int
  m : Int
def YV.cs (y : YV) : Array Value := #[.int .i64 y.c, .int .i64 y.n, .int .i64 y.code, .int .i64 y.m]
structure YOk (w : World) (y : YV) : Prop where
  c : okI y.c
  n : okI y.n
  code : okI y.code
  m : okI y.m
/-- A slice of answers. -/
abbrev Yl (w : World) (v : Value) (L : List YV) : Prop := Sq 4 YV.cs YOk w v L
section
variable {H : Type} {enc : TypeId × Value → H} {w : World} {base : Nat} {spare : Nat → Bool} {held : Bool}
end
end Go.Proofs.YtmflpeklalgibaaGreat

namespace Go.Proofs.YtmflpeklalgibaaGreat
open Go.RowKit Go.Maps
/-- A kind's fields. -/
def mfldF (k : Int) : Str :=
  if k = 1 ∨ k = 11 then [97] else if k = 2 ∨ k = 12 then [121] else if k = 3 ∨ k = 4 ∨ k = 8 ∨ k = 10 ∨ k = 13 then [111, 105] else if k = 5 ∨ k = 6 ∨ k = 7 ∨ k = 9 then [111] else []
theorem mfldF_no {k : Int} (h : k < 1 ∨ 13 < k) : mfldF k = [] := by
  unfold mfldF
  rw [if_neg (by omega), if_neg (by omega), if_neg (by omega), if_neg (by omega)]
set_option maxHeartbeats 4000000 in
theorem mHas (w : World) (k : Int) : Calls Tryz.prog 41 #[.int .i64 k] w fun e w' => e = .returned (vS (mfldF k)) ∧ w = w' := by
  by_cases hk : 1 ≤ k ∧ k ≤ 13
  · rcases (by omega : k = 1 ∨ k = 2 ∨ k = 3 ∨ k = 4 ∨ k = 5 ∨ k = 6 ∨ k = 7 ∨ k = 8 ∨ k = 9 ∨ k = 10 ∨ k = 11 ∨ k = 12 ∨ k = 13) with rfl | rfl | rfl | rfl | rfl | rfl | rfl | rfl | rfl | rfl | rfl | rfl | rfl
    all_goals
      clear hk
      go_enter Tryz.func41, Tryz.ntmps41
      go_wp2
      go_ret
      exact ⟨rfl, rfl⟩
  · rw [mfldF_no (by omega)]
    have b1 : (k == 1) = false := by simp; omega
    have b2 : (k == 2) = false := by simp; omega
    have b3 : (k == 3) = false := by simp; omega
    have b4 : (k == 4) = false := by simp; omega
    have b5 : (k == 5) = false := by simp; omega
    have b6 : (k == 6) = false := by simp; omega
    have b7 : (k == 7) = false := by simp; omega
    have b8 : (k == 8) = false := by simp; omega
    have b9 : (k == 9) = false := by simp; omega
    have b10 : (k == 10) = false := by simp; omega
    have b11 : (k == 11) = false := by simp; omega
    have b12 : (k == 12) = false := by simp; omega
    have b13 : (k == 13) = false := by simp; omega
    clear hk
    go_enter Tryz.func41, Tryz.ntmps41
    go_wp2
    go_ret
    exact ⟨rfl, rfl⟩
/-- The kind by which one is answered. -/
def ansF (k : Int) : Int := if k = 1 then 2 else if k = 3 then 4 else if k = 5 then 6 else if k = 7 then 8 else if k = 9 then 10 else if k = 11 then 12 else 0
set_option maxHeartbeats 4000000 in
theorem mAns (w : World) (k : Int) : Calls Tryz.prog 23 #[.int .i64 k] w fun e w' => e = .returned (.int .i64 (ansF k)) ∧ w = w' := by
  by_cases hk : k = 1 ∨ k = 3 ∨ k = 5 ∨ k = 7 ∨ k = 9 ∨ k = 11
  · rcases hk with rfl | rfl | rfl | rfl | rfl | rfl
    all_goals
      go_enter Tryz.func23, Tryz.ntmps23
      go_wp2
      go_ret
      exact ⟨rfl, rfl⟩
  · have hz : ansF k = 0 := by unfold ansF; rw [if_neg (by omega), if_neg (by omega), if_neg (by omega), if_neg (by omega), if_neg (by omega), if_neg (by omega)]
    rw [hz]
    have b1 : (k == 1) = false := by simp; omega
    have b3 : (k == 3) = false := by simp; omega
    have b5 : (k == 5) = false := by simp; omega
    have b7 : (k == 7) = false := by simp; omega
    have b9 : (k == 9) = false := by simp; omega
    have b11 : (k == 11) = false := by simp; omega
    clear hk hz
    go_enter Tryz.func23, Tryz.ntmps23
    go_wp2
    go_ret
    exact ⟨rfl, rfl⟩
def mayY (y : YV) : Bool := decide (0 ≤ y.c) && decide (y.c < 64) && decide (1 ≤ y.n) && decide (y.n ≤ 4294967296) && decide (0 ≤ y.code) && decide (y.code ≤ 1000)
set_option maxHeartbeats 4000000 in
theorem mMayY (w : World) (y : YV) : Calls Tryz.prog 47 #[.agg y.cs] w fun e w' => e = .returned (.bool (mayY y)) ∧ Fr (fun _ => False) w w' := by
  obtain ⟨c, n, code, m⟩ := y
  obtain ⟨B, hB⟩ : ∃ B, mayY ⟨c, n, code, m⟩ = B := ⟨_, rfl⟩
  have HB : Hid (B = (decide (0 ≤ c) && decide (c < 64) && decide (1 ≤ n) && decide (n ≤ 4294967296) && decide (0 ≤ code) && decide (code ≤ 1000))) := Lib.hid hB.symm
  rw [hB]
  unfold YV.cs
  dsimp only
  clear hB
  have hq : (¬ 0 ≤ c) ∨ (0 ≤ c ∧ ¬ c < 64) ∨ (0 ≤ c ∧ c < 64 ∧ ¬ 1 ≤ n) ∨ (0 ≤ c ∧ c < 64 ∧ 1 ≤ n ∧ ¬ n ≤ 4294967296) ∨ (0 ≤ c ∧ c < 64 ∧ 1 ≤ n ∧ n ≤ 4294967296 ∧ ¬ 0 ≤ code) ∨ (0 ≤ c ∧ c < 64 ∧ 1 ≤ n ∧ n ≤ 4294967296 ∧ 0 ≤ code ∧ ¬ code ≤ 1000) ∨ (0 ≤ c ∧ c < 64 ∧ 1 ≤ n ∧ n ≤ 4294967296 ∧ 0 ≤ code ∧ code ≤ 1000) := by omega
  rcases hq with h1 | ⟨h1, h2⟩ | ⟨h1, h2, h3⟩ | ⟨h1, h2, h3, h4⟩ | ⟨h1, h2, h3, h4, h5⟩ | ⟨h1, h2, h3, h4, h5, h6⟩ | ⟨h1, h2, h3, h4, h5, h6⟩
  · have HV : Hid (B = false) := Lib.hid (HB.out.trans (by simp only [h1, decide_true, decide_false, Bool.true_and, Bool.false_and, Bool.and_true, Bool.and_false]))
    go_enter Tryz.func47, Tryz.ntmps47
    go_wp2
    go_ret
    exact ⟨by (rw [HV.out] <;> first | rfl | simp [*]), ((Fr.refl _ w).alloc _)⟩
  · have HV : Hid (B = false) := Lib.hid (HB.out.trans (by simp only [h1, h2, decide_true, decide_false, Bool.true_and, Bool.false_and, Bool.and_true, Bool.and_false]))
    go_enter Tryz.func47, Tryz.ntmps47
    go_wp2
    go_ret
    exact ⟨by (rw [HV.out] <;> first | rfl | simp [*]), ((Fr.refl _ w).alloc _)⟩
  · have HV : Hid (B = false) := Lib.hid (HB.out.trans (by simp only [h1, h2, h3, decide_true, decide_false, Bool.true_and, Bool.false_and, Bool.and_true, Bool.and_false]))
    go_enter Tryz.func47, Tryz.ntmps47
    go_wp2
    go_ret
    exact ⟨by (rw [HV.out] <;> first | rfl | simp [*]), ((Fr.refl _ w).alloc _)⟩
  · have HV : Hid (B = false) := Lib.hid (HB.out.trans (by simp only [h1, h2, h3, h4, decide_true, decide_false, Bool.true_and, Bool.false_and, Bool.and_true, Bool.and_false]))
    go_enter Tryz.func47, Tryz.ntmps47
    go_wp2
    go_ret
    exact ⟨by (rw [HV.out] <;> first | rfl | simp [*]), ((Fr.refl _ w).alloc _)⟩
  · have HV : Hid (B = false) := Lib.hid (HB.out.trans (by simp only [h1, h2, h3, h4, h5, decide_true, decide_false, Bool.true_and, Bool.false_and, Bool.and_true, Bool.and_false]))
    go_enter Tryz.func47, Tryz.ntmps47
    go_wp2
    go_ret
    exact ⟨by (rw [HV.out] <;> first | rfl | simp [*]), ((Fr.refl _ w).alloc _)⟩
  · have HV : Hid (B = false) := Lib.hid (HB.out.trans (by simp only [h1, h2, h3, h4, h5, h6, decide_true, decide_false, Bool.true_and, Bool.false_and, Bool.and_true, Bool.and_false]))
    go_enter Tryz.func47, Tryz.ntmps47
    go_wp2
    go_ret
    exact ⟨by (rw [HV.out] <;> first | rfl | simp [*]), ((Fr.refl _ w).alloc _)⟩
  · have HV : Hid (B = true) := Lib.hid (HB.out.trans (by simp only [h1, h2, h3, h4, h5, h6, decide_true, decide_false, Bool.true_and, Bool.false_and, Bool.and_true, Bool.and_false]))
    go_enter Tryz.func47, Tryz.ntmps47
    go_wp2
    go_ret
    exact ⟨by (rw [HV.out] <;> first | rfl | simp [*]), ((Fr.refl _ w).alloc _)⟩
theorem mRight (w : World) (B : Nat) (s : Str) (c : UInt8) (may emp : Bool) (hB : w.cell? ⟨B, 0, none⟩ = some (vS s)) :
    Calls Tryz.prog 42 #[.string ⟨#[c]⟩, .bool may, .bool emp, .pointer (some ⟨B, 0, none⟩)] w fun e w' => e = .returned (.bool (rightB s c may emp)) ∧ w = w' := by
  have hC := Lib.hid (fun W => stContains ⟨s.toArray⟩ c W)
  have hd : Hid (decide (0 ≤ Lib.indexByte s c) = s.contains c) := Lib.hid (indexByte_has s c)
  unfold rightB
  by_cases h : s.contains c = true
  · rw [if_pos h]
    have hd' : Hid (decide (0 ≤ Lib.indexByte s c) = true) := Lib.hid (hd.out.trans h)
    go_enter Tryz.func42, Tryz.ntmps42
    go_wp2_with (go_at_call 43; refine (hC.out _).mono ?_; rintro e w1 ⟨rfl, rfl⟩; have hq := hd'.out)
    all_goals first | (go_ret; exact ⟨rfl, rfl⟩) | skip
  · rw [if_neg h]
    have hd' : Hid (decide (0 ≤ Lib.indexByte s c) = false) := Lib.hid (hd.out.trans (by simpa using h))
    go_enter Tryz.func42, Tryz.ntmps42
    go_wp2_with (go_at_call 43; refine (hC.out _).mono ?_; rintro e w1 ⟨rfl, rfl⟩; have hq := hd'.out)
    all_goals first | (go_ret; exact ⟨rfl, rfl⟩) | skip
end Go.Proofs.YtmflpeklalgibaaGreat

namespace Go.Proofs.YtmflpeklalgibaaGreat
open Go.RowKit Go.Maps
theorem r5May (w : World) (n : Int) : Calls Tryz.prog 21 #[.int .i64 n] w fun e w' => e = .returned (.bool (mayI n)) ∧ w = w' := by
  unfold mayI
  by_cases h1 : 0 ≤ n <;> by_cases h2 : n ≤ 1099511627776
  all_goals
    simp only [h1, h2, decide_true, decide_false, Bool.and_true, Bool.and_false]
    go_enter Tryz.func21, Tryz.ntmps21
    go_wp2
    go_ret
    exact ⟨rfl, rfl⟩
set_option maxRecDepth 100000 in
set_option maxHeartbeats 4000000 in
theorem r6Good (w : World) (s : Str) (hs : okS s) : Calls Tryz.prog 20 #[vS s] w fun e w' => e = .returned (.bool (goodB s)) ∧ w = w' := by
  obtain ⟨G, hG⟩ : ∃ G, goodB s = G := ⟨_, rfl⟩
  rw [hG]
  have HG := Lib.hid hG
  obtain ⟨B, hB⟩ : ∃ B, ByteArray.mk s.toArray = B := ⟨_, rfl⟩
  have hsz : B.size = s.length := by rw [← hB]; simp [ByteArray.size]
  have hge : ∀ k (h : k < B.size) (h' : k < s.length), B[k]'h = s[k]'h' := by subst hB; exact fun k h h' => rfl
  have HSZ := Lib.hid hsz; have HGE := Lib.hid hge; have HBB := Lib.hid hB
  have hs : (s.length : Int) ≤ 9223372036854775807 := by unfold okS maxLen at hs; omega
  rw [← hsz] at hs
  unfold vS
  rw [hB]
  clear hG hB hsz hge
  go_enter Tryz.func20, Tryz.ntmps20
  go_wp2_with fail
  go_loopw [3] (fun i wr => ∃ k : Nat, k ≤ B.size ∧ i = .int .i64 k ∧ wr = w ∧ ∀ j (h : j < s.length), j < k → goodC s[j] = true) (fun i _ => B.size - (intOf i).toNat)
  case atStart => exact ⟨0, Nat.zero_le _, rfl, rfl, fun j _ hj => by omega⟩
  case round =>
    obtain ⟨k, hk, rfl, rfl, hall⟩ := hrel
    have HA := Lib.hid hall
    clear hall
    by_cases hp : k < B.size
    · have hkl : k < s.length := by rw [← HSZ.out]; exact hp
      have hc := HGE.out k hp hkl
      have hpI : (k : Int) < B.size := by omega
      obtain ⟨x, hx⟩ : ∃ x : Nat, (B[k]'hp).toNat = x := ⟨_, rfl⟩
      have hix : ∀ W : World, (Instr.index 9 (.string B) (.int .i64 k)).run Tryz.prog W = .ok (.int .u8 (x : Int)) W := fun W => by
        rw [run_index_string W 9 B .i64 k Tryz.underlying9, dif_pos (by omega)]
        simp only [Int.toNat_natCast, hx]
      have hno : Hid (goodC s[k] = false → G = false) := Lib.hid (fun h => by rw [← HG.out]; exact goodB_bad hkl h)
      have hgc : Hid (goodC s[k] = ((decide (97 ≤ x) && decide (x ≤ 122)) || (decide (48 ≤ x) && decide (x ≤ 57)) || decide (x = 45))) := Lib.hid (by rw [← hx, hc]; rfl)
      have hstep : Hid (goodC s[k] = true → ∀ j (h : j < s.length), j < k + 1 → goodC s[j] = true) := Lib.hid (fun hg j h hj => by
          by_cases e : j = k
          · subst e; exact hg
          · exact HA.out j h (by omega))
      clear hc hx
      rcases (by omega : (97 ≤ x ∧ x ≤ 122) ∨ x < 48 ∧ x ≠ 45 ∨ x = 45 ∨ (48 ≤ x ∧ x ≤ 57) ∨ (57 < x ∧ x < 97) ∨ 122 < x) with h | h | h | h | h | h
      · have hy := Lib.hid (hstep.out (by rw [hgc.out]; simp [h.1, h.2]))
        obtain ⟨h1, h2⟩ := h
        have q1 : (97 : Int) ≤ x := by omega
        have q2 : (x : Int) ≤ 122 := by omega
        go_wp2_with fail
        go_roundw
        case rel => exact ⟨k + 1, by omega, by go_num, trivial, hy.out⟩
        case measure => simp [intOf]; omega
      · have hn := Lib.hid (hno.out (by rw [hgc.out]; simp; omega))
        obtain ⟨h1, h2⟩ := h
        have q1 : ¬ (48 : Int) ≤ x := by omega
        have q2 : ((x : Int) == 45) = false := by simp; omega
        have q3 : ¬ (97 : Int) ≤ x := by omega
        go_wp2_with fail
        go_ret
        exact ⟨by rw [hn.out]; rfl, rfl⟩
      · have hy := Lib.hid (hstep.out (by rw [hgc.out]; simp [h]))
        subst h
        go_wp2_with fail
        go_roundw
        case rel => exact ⟨k + 1, by omega, by go_num, trivial, hy.out⟩
        case measure => simp [intOf]; omega
      · have hy := Lib.hid (hstep.out (by rw [hgc.out]; simp [h.1, h.2]))
        obtain ⟨h1, h2⟩ := h
        have q1 : (48 : Int) ≤ x := by omega
        have q2 : (x : Int) ≤ 57 := by omega
        have q3 : ¬ (97 : Int) ≤ x := by omega
        go_wp2_with fail
        go_roundw
        case rel => exact ⟨k + 1, by omega, by go_num, trivial, hy.out⟩
        case measure => simp [intOf]; omega
      · have hn := Lib.hid (hno.out (by rw [hgc.out]; simp; omega))
        obtain ⟨h1, h2⟩ := h
        have q1 : (48 : Int) ≤ x := by omega
        have q2 : ¬ (x : Int) ≤ 57 := by omega
        have q3 : ¬ (97 : Int) ≤ x := by omega
        have q4 : ((x : Int) == 45) = false := by simp; omega
        go_wp2_with fail
        go_ret
        exact ⟨by rw [hn.out]; rfl, rfl⟩
      · have hn := Lib.hid (hno.out (by rw [hgc.out]; simp; omega))
        have q1 : (48 : Int) ≤ x := by omega
        have q2 : ¬ (x : Int) ≤ 57 := by omega
        have q3 : (97 : Int) ≤ x := by omega
        have q5 : ¬ (x : Int) ≤ 122 := by omega
        have q4 : ((x : Int) == 45) = false := by simp; omega
        go_wp2_with fail
        go_ret
        exact ⟨by rw [hn.out]; rfl, rfl⟩
    · obtain rfl : k = B.size := by omega
      have hg : Hid (G = (decide (0 < B.size) && decide (B.size ≤ 16))) := Lib.hid (by
        rw [← HG.out]
        have : s.all goodC = true := List.all_eq_true.2 (fun c hc => by
          obtain ⟨i, hi, rfl⟩ := List.getElem_of_mem hc
          exact HA.out i hi (by rw [HSZ.out]; exact hi))
        unfold goodB
        rw [this, HSZ.out]; rfl)
      obtain ⟨m, hm⟩ : ∃ m, B.size = m := ⟨_, rfl⟩
      rw [hm] at hg
      rcases (by omega : m < 1 ∨ (1 ≤ m ∧ m ≤ 16) ∨ 16 < m) with h | ⟨h, h'⟩ | h
      · have q1 : ¬ (1 : Int) ≤ m := by omega
        go_wp2_with fail
        go_ret
        exact ⟨by rw [hg.out]; simp; omega, rfl⟩
      · have q1 : (1 : Int) ≤ m := by omega
        have q2 : (m : Int) ≤ 16 := by omega
        go_wp2_with fail
        go_ret
        exact ⟨by rw [hg.out]; simp; omega, rfl⟩
      · have q1 : (1 : Int) ≤ m := by omega
        have q2 : ¬ (m : Int) ≤ 16 := by omega
        go_wp2_with fail
        go_ret
        exact ⟨by rw [hg.out]; simp; omega, rfl⟩
end Go.Proofs.YtmflpeklalgibaaGreat

namespace Go.Proofs.YtmflpeklalgibaaGreat
open Go.RowKit Go.Maps
theorem neq_item (w : World) (p q : Str × Int) : (binOp .neq 45 (.agg #[vS p.1, .int .i64 p.2]) (.agg #[vS q.1, .int .i64 q.2])).run Tryz.prog w = .ok (.bool (!decide (p = q))) w := by
  obtain ⟨a, m⟩ := p
  obtain ⟨b, n⟩ := q
  simp only [Prod.mk.injEq]
  by_cases h1 : a = b <;> by_cases h2 : m = n <;> simp [go_sem, h1, h2]
/-- An item's cells, at its place. -/
theorem Il.at_ {w : World} {a : Option Addr} {n c k : Nat} {L : Its} {p : Str × Int} (h : Il w (.slice a n c) L) (hp : L[k]? = some p) : ∃ ad, a = some ad ∧ okS p.1 ∧ okI p.2 ∧ w.cell? (ad.add (k * 2)) = some (vS p.1) ∧ w.cell? ⟨(ad.add (k * 2)).block, (ad.add (k * 2)).off + 1, none⟩ = some (.int .i64 p.2) := by
  obtain ⟨_, a', c', e, h1⟩ := h
  injection e with e1 _ _
  obtain ⟨x1, x2, ad, x3, x4, x5⟩ := h1 k p hp
  exact ⟨ad, e1.trans x3, x1, x2, x4, x5⟩
set_option maxRecDepth 100000 in
set_option maxHeartbeats 4000000 in
theorem r6Same (w : World) (u v : Value) (A B : Its) (hA : Il w u A) (hB : Il w v B) : Calls Tryz.prog 19 #[u, v] w fun e w' => e = .returned (.bool (decide (A = B))) ∧ ∃ n, w' = w.drewN n := by
  obtain ⟨G, hG⟩ : ∃ G, decide (A = B) = G := ⟨_, rfl⟩
  rw [hG]
  have HG := Lib.hid hG
  clear hG
  obtain ⟨a, c, rfl⟩ := hA.sl
  obtain ⟨b, d, rfl⟩ := hB.sl
  obtain ⟨n, hn⟩ : ∃ n, A.length = n := ⟨_, rfl⟩
  obtain ⟨m, hm⟩ : ∃ m, B.length = m := ⟨_, rfl⟩
  have hnI : (n : Int) ≤ 9223372036854775807 := by have := hA.1; omega
  have hmI : (m : Int) ≤ 9223372036854775807 := by have := hB.1; omega
  have HA := Lib.hid hA; have HB := Lib.hid hB; have HN := Lib.hid hn; have HM := Lib.hid hm
  rw [hn] at HA ⊢
  rw [hm] at HB ⊢
  clear hA hB hn hm
  by_cases hnm : n = m
  · subst hnm
    go_enter Tryz.func19, Tryz.ntmps19
    go_wp2_with fail
    go_loopw [5] (fun i wr => ∃ k e : Nat, k ≤ n ∧ i = .int .i64 k ∧ wr = w.drewN e ∧ ∀ j, j < k → A[j]? = B[j]?) (fun i _ => n - (intOf i).toNat)
    case atStart => exact ⟨0, 0, Nat.zero_le _, rfl, rfl, fun j hj => by omega⟩
    case round =>
      obtain ⟨k, e, hk, rfl, hwr, hall⟩ := hrel
      have HW := Lib.hid hwr; have HALL := Lib.hid hall
      have hAr : Il wr (.slice a n c) A := by rw [hwr]; exact HA.out.fr ((Fr.refl (fun _ => False) w).drewN e) (fun _ h => h.elim)
      have hBr : Il wr (.slice b n d) B := by rw [hwr]; exact HB.out.fr ((Fr.refl (fun _ => False) w).drewN e) (fun _ h => h.elim)
      clear hwr hall
      by_cases hlt : k < n
      · obtain ⟨p, hp⟩ : ∃ p, A[k]? = some p := ⟨A[k]'(by rw [HN.out]; exact hlt), List.getElem?_eq_getElem _⟩
        obtain ⟨q, hq⟩ : ∃ q, B[k]? = some q := ⟨B[k]'(by rw [HM.out]; exact hlt), List.getElem?_eq_getElem _⟩
        obtain ⟨aa, rfl, -, -, p0, p1⟩ := hAr.at_ hp
        obtain ⟨ba, rfl, -, -, q0, q1⟩ := hBr.at_ hq
        have hneq := fun W => neq_item W p q
        have HP := Lib.hid hp; have HQ := Lib.hid hq
        have hltI : (k : Int) < n := by omega
        clear hp hq hAr hBr
        by_cases hpq : p = q
        · rw [decide_eq_true hpq] at hneq
          have HPQ := Lib.hid hpq
          clear hpq
          go_wp2_with fail
          go_quiet (fail)
          go_wp2_with fail
          go_roundw
          case rel => exact ⟨k + 1, _, by omega, by go_num, (by rw [HW.out, World.drewN_drewN]), fun j hj => by
            by_cases e : j = k
            · rw [e, HP.out, HQ.out, HPQ.out]
            · exact HALL.out j (by omega)⟩
          case measure => simp [intOf]; omega
        · rw [decide_eq_false hpq] at hneq
          have hg : Hid (G = false) := Lib.hid (by
            rw [← HG.out]
            refine decide_eq_false (fun e => hpq ?_)
            have := HP.out
            rw [e, HQ.out] at this
            exact (Option.some.inj this).symm)
          clear hpq
          go_wp2_with fail
          go_quiet (fail)
          go_wp2_with fail
          go_ret
          exact ⟨by rw [hg.out]; rfl, _, by rw [HW.out, World.drewN_drewN]⟩
      · obtain rfl : k = n := by omega
        have hg : Hid (G = true) := Lib.hid (by
          rw [← HG.out]
          refine decide_eq_true (List.ext_getElem? (fun j => ?_))
          by_cases h : j < k
          · exact HALL.out j h
          · rw [List.getElem?_eq_none (by rw [HN.out]; omega), List.getElem?_eq_none (by rw [HM.out]; omega)])
        go_wp2_with fail
        go_ret
        exact ⟨by rw [hg.out]; rfl, _, HW.out⟩
  · have hg : Hid (G = false) := Lib.hid (by
      rw [← HG.out]
      refine decide_eq_false (fun e => hnm ?_)
      rw [← HN.out, ← HM.out, e])
    have hne : ((n : Int) != m) = true := by simp; omega
    go_enter Tryz.func19, Tryz.ntmps19
    go_wp2_with fail
    go_ret
    exact ⟨by rw [hg.out]; rfl, 0, rfl⟩
end Go.Proofs.YtmflpeklalgibaaGreat

namespace Go.Proofs.YtmflpeklalgibaaGreat
open Go.RowKit Go.Maps
set_option maxRecDepth 100000 in
set_option maxHeartbeats 4000000 in
theorem iEqual (w : World) (u v : Value) (A B : Its) (hA : Il w u A) (hB : Il w v B) : Calls Tryz.prog 84 #[u, v] w fun e w' => e = .returned (.bool (decide (A = B))) ∧ ∃ n, w' = w.drewN n := by
  obtain ⟨G, hG⟩ : ∃ G, decide (A = B) = G := ⟨_, rfl⟩
  rw [hG]
  have HG := Lib.hid hG
  clear hG
  obtain ⟨a, c, rfl⟩ := hA.sl
  obtain ⟨b, d, rfl⟩ := hB.sl
  obtain ⟨n, hn⟩ : ∃ n, A.length = n := ⟨_, rfl⟩
  obtain ⟨m, hm⟩ : ∃ m, B.length = m := ⟨_, rfl⟩
  have hnI : (n : Int) ≤ 9223372036854775807 := by have := hA.1; omega
  have hmI : (m : Int) ≤ 9223372036854775807 := by have := hB.1; omega
  have HA := Lib.hid hA; have HB := Lib.hid hB; have HN := Lib.hid hn; have HM := Lib.hid hm
  rw [hn] at HA ⊢
  rw [hm] at HB ⊢
  clear hA hB hn hm
  by_cases hnm : n = m
  · subst hnm
    go_enter Tryz.func84, Tryz.ntmps84
    go_wp2_with fail
    go_loopw [13] (fun i wr => ∃ k e : Nat, k ≤ n ∧ i = .int .i64 k ∧ wr = w.drewN e ∧ ∀ j, j < k → A[j]? = B[j]?) (fun i _ => n - (intOf i).toNat)
    case atStart => exact ⟨0, 0, Nat.zero_le _, rfl, rfl, fun j hj => by omega⟩
    case round =>
      obtain ⟨k, e, hk, rfl, hwr, hall⟩ := hrel
      have HW := Lib.hid hwr; have HALL := Lib.hid hall
      have hAr : Il wr (.slice a n c) A := by rw [hwr]; exact HA.out.fr ((Fr.refl (fun _ => False) w).drewN e) (fun _ h => h.elim)
      have hBr : Il wr (.slice b n d) B := by rw [hwr]; exact HB.out.fr ((Fr.refl (fun _ => False) w).drewN e) (fun _ h => h.elim)
      clear hwr hall
      by_cases hlt : k < n
      · obtain ⟨p, hp⟩ : ∃ p, A[k]? = some p := ⟨A[k]'(by rw [HN.out]; exact hlt), List.getElem?_eq_getElem _⟩
        obtain ⟨q, hq⟩ : ∃ q, B[k]? = some q := ⟨B[k]'(by rw [HM.out]; exact hlt), List.getElem?_eq_getElem _⟩
        obtain ⟨aa, rfl, -, -, p0, p1⟩ := hAr.at_ hp
        obtain ⟨ba, rfl, -, -, q0, q1⟩ := hBr.at_ hq
        have hneq := fun W => neq_item W p q
        have HP := Lib.hid hp; have HQ := Lib.hid hq
        have hltI : (k : Int) < n := by omega
        clear hp hq hAr hBr
        by_cases hpq : p = q
        · rw [decide_eq_true hpq] at hneq
          have HPQ := Lib.hid hpq
          clear hpq
          go_wp2_with fail
          go_quiet (fail)
          go_wp2_with fail
          go_roundw
          case rel => exact ⟨k + 1, _, by omega, by go_num, (by rw [HW.out, World.drewN_drewN]), fun j hj => by
            by_cases e : j = k
            · rw [e, HP.out, HQ.out, HPQ.out]
            · exact HALL.out j (by omega)⟩
          case measure => simp [intOf]; omega
        · rw [decide_eq_false hpq] at hneq
          have hg : Hid (G = false) := Lib.hid (by
            rw [← HG.out]
            refine decide_eq_false (fun e => hpq ?_)
            have := HP.out
            rw [e, HQ.out] at this
            exact (Option.some.inj this).symm)
          clear hpq
          go_wp2_with fail
          go_quiet (fail)
          go_wp2_with fail
          go_ret
          exact ⟨by rw [hg.out]; rfl, _, by rw [HW.out, World.drewN_drewN]⟩
      · obtain rfl : k = n := by omega
        have hg : Hid (G = true) := Lib.hid (by
          rw [← HG.out]
          refine decide_eq_true (List.ext_getElem? (fun j => ?_))
          by_cases h : j < k
          · exact HALL.out j h
          · rw [List.getElem?_eq_none (by rw [HN.out]; omega), List.getElem?_eq_none (by rw [HM.out]; omega)])
        go_wp2_with fail
        go_ret
        exact ⟨by rw [hg.out]; rfl, _, HW.out⟩
  · have hg : Hid (G = false) := Lib.hid (by
      rw [← HG.out]
      refine decide_eq_false (fun e => hnm ?_)
      rw [← HN.out, ← HM.out, e])
    have hne : ((n : Int) != m) = true := by simp; omega
    go_enter Tryz.func84, Tryz.ntmps84
    go_wp2_with fail
    go_ret
    exact ⟨by rw [hg.out]; rfl, 0, rfl⟩
/-- Are two requests the same? -/
def sameA (a b : AV) : Bool := (a.c == b.c) && (a.n == b.n) && (a.k == b.k) && (a.o == b.o) && (a.r == b.r) && (a.t == b.t) && (a.m == b.m) && (a.g == b.g) && decide (a.its = b.its)
set_option maxRecDepth 100000 in
set_option maxHeartbeats 16000000 in
theorem kSame (w : World) (a b : AV) (ha : Il w a.l a.its) (hb : Il w b.l b.its) : Calls Tryz.prog 46 #[.agg a.cs, .agg b.cs] w fun e w' => e = .returned (.bool (sameA a b)) ∧ Fr (fun _ => False) w w' := by
  obtain ⟨G, hG⟩ : ∃ G, sameA a b = G := ⟨_, rfl⟩
  obtain ⟨a0, a1, a2, a3, a4, a5, a6, a7, al, ai⟩ := a
  obtain ⟨b0, b1, b2, b3, b4, b5, b6, b7, bl, bi⟩ := b
  dsimp only at ha hb
  obtain ⟨pa, ca, rfl⟩ := ha.sl
  obtain ⟨pb, cb, rfl⟩ := hb.sl
  have HG : Hid (G = ((a0 == b0) && (a1 == b1) && (a2 == b2) && (a3 == b3) && (a4 == b4) && (a5 == b5) && (a6 == b6) && (a7 == b7) && decide (ai = bi))) := Lib.hid hG.symm
  rw [hG]
  unfold AV.cs
  dsimp only
  obtain ⟨na, hna⟩ : ∃ n, ai.length = n := ⟨_, rfl⟩
  obtain ⟨nb, hnb⟩ : ∃ n, bi.length = n := ⟨_, rfl⟩
  rw [hna] at ha ⊢
  rw [hnb] at hb ⊢
  have HA := Lib.hid ha; have HB := Lib.hid hb
  clear hG ha hb hna hnb
  have HE := Lib.hid (fun W (hf : Fr (fun _ => False) w W) => iEqual W _ _ ai bi (HA.out.fr hf (fun _ e => e.elim)) (HB.out.fr hf (fun _ e => e.elim)))
  have hq : (a0 == b0) = false ∨ ((a0 == b0) = true ∧ (a1 == b1) = false) ∨ ((a0 == b0) = true ∧ (a1 == b1) = true ∧ (a2 == b2) = false) ∨ ((a0 == b0) = true ∧ (a1 == b1) = true ∧ (a2 == b2) = true ∧ (a3 == b3) = false) ∨ ((a0 == b0) = true ∧ (a1 == b1) = true ∧ (a2 == b2) = true ∧ (a3 == b3) = true ∧ (a4 == b4) = false) ∨ ((a0 == b0) = true ∧ (a1 == b1) = true ∧ (a2 == b2) = true ∧ (a3 == b3) = true ∧ (a4 == b4) = true ∧ (a5 == b5) = false) ∨ ((a0 == b0) = true ∧ (a1 == b1) = true ∧ (a2 == b2) = true ∧ (a3 == b3) = true ∧ (a4 == b4) = true ∧ (a5 == b5) = true ∧ (a6 == b6) = false) ∨ ((a0 == b0) = true ∧ (a1 == b1) = true ∧ (a2 == b2) = true ∧ (a3 == b3) = true ∧ (a4 == b4) = true ∧ (a5 == b5) = true ∧ (a6 == b6) = true ∧ (a7 == b7) = false) ∨ ((a0 == b0) = true ∧ (a1 == b1) = true ∧ (a2 == b2) = true ∧ (a3 == b3) = true ∧ (a4 == b4) = true ∧ (a5 == b5) = true ∧ (a6 == b6) = true ∧ (a7 == b7) = true) := by
    cases (a0 == b0) <;> cases (a1 == b1) <;> cases (a2 == b2) <;> cases (a3 == b3) <;> cases (a4 == b4) <;> cases (a5 == b5) <;> cases (a6 == b6) <;> cases (a7 == b7) <;> simp
  have hfr : Fr (fun _ => False) w ((w.alloc (.cells #[.int .i64 a0, .int .i64 a1, .int .i64 a2, .int .i64 a3, .int .i64 a4, .int .i64 a5, .int .i64 a6, vS a7, .slice pa na ca] 32)).alloc (.cells #[.int .i64 b0, .int .i64 b1, .int .i64 b2, .int .i64 b3, .int .i64 b4, .int .i64 b5, .int .i64 b6, vS b7, .slice pb nb cb] 32)) := ((Fr.refl _ w).alloc _).alloc _
  have HF := Lib.hid hfr
  clear hfr
  rcases hq with h0 | ⟨h0, h1⟩ | ⟨h0, h1, h2⟩ | ⟨h0, h1, h2, h3⟩ | ⟨h0, h1, h2, h3, h4⟩ | ⟨h0, h1, h2, h3, h4, h5⟩ | ⟨h0, h1, h2, h3, h4, h5, h6⟩ | ⟨h0, h1, h2, h3, h4, h5, h6, h7⟩ | ⟨h0, h1, h2, h3, h4, h5, h6, h7⟩
  rotate_right
  · obtain ⟨d, hd⟩ : ∃ d, decide (ai = bi) = d := ⟨_, rfl⟩
    have hz : Hid (G = d) := Lib.hid (by rw [HG.out, h0, h1, h2, h3, h4, h5, h6, h7, hd]; simp)
    have HD := Lib.hid hd
    clear hd
    go_enter Tryz.func46, Tryz.ntmps46
    go_wp2_with (go_at_call 84; refine (HE.out _ HF.out).mono ?_; rw [HD.out]; rintro e w2 ⟨rfl, nd, rfl⟩)
    go_ret
    exact ⟨by (rw [hz.out] <;> first | rfl | simp [*]), HF.out.drewN _⟩
  all_goals
    have hz : Hid (G = false) := Lib.hid (by rw [HG.out]; first | simp only [h0, h1, h2, h3, h4, h5, h6, h7, Bool.true_and, Bool.false_and, Bool.and_false] | simp only [h0, h1, h2, h3, h4, h5, h6, Bool.true_and, Bool.false_and, Bool.and_false] | simp only [h0, h1, h2, h3, h4, h5, Bool.true_and, Bool.false_and, Bool.and_false] | simp only [h0, h1, h2, h3, h4, Bool.true_and, Bool.false_and, Bool.and_false] | simp only [h0, h1, h2, h3, Bool.true_and, Bool.false_and, Bool.and_false] | simp only [h0, h1, h2, Bool.true_and, Bool.false_and, Bool.and_false] | simp only [h0, h1, Bool.true_and, Bool.false_and, Bool.and_false] | simp only [h0, Bool.true_and, Bool.false_and, Bool.and_false])
    go_enter Tryz.func46, Tryz.ntmps46
    go_wp2_with fail
    go_ret
    exact ⟨by (rw [hz.out] <;> first | rfl | simp [*]), HF.out⟩
end Go.Proofs.YtmflpeklalgibaaGreat

namespace Go.Proofs.YtmflpeklalgibaaGreat
open Go.RowKit Go.Maps
/-- A request's parts within May. -/
def AV.ro (a : AV) : Bool := rightB (fldF a.k) 111 (wiB a.o 1 1099511627776) (decide (a.o = 0))
def AV.rr (a : AV) : Bool := rightB (fldF a.k) 114 (wiB a.r 0 7) (decide (a.r = 0))
def AV.rt (a : AV) : Bool := rightB (fldF a.k) 116 (wiB a.t 0 7 && decide (a.t ≠ a.r)) (decide (a.t = 0))
def AV.rg (a : AV) : Bool := rightB (fldF a.k) 103 (goodB a.g) (decide (a.g = []))
def AV.ri (a : AV) : Bool := rightB (fldF a.k) 105 (decide (0 < (a.its.length : Int)) && mayL a.its) (decide ((a.its.length : Int) = 0))
def AV.may (a : AV) : Bool := decide (fldF a.k ≠ []) && wiB a.c 0 63 && wiB a.n 1 4294967296 && a.ro && a.rr && a.rt && a.rg && a.ri && mayN a.k a.m
structure AskW (w0 W : World) (a : AV) (F : Str) : Prop where
  bx : W.heap[w0.heap.size]? = some (.cells a.cs 32)
  fb : W.heap[w0.heap.size + 1]? = some (.cells #[vS F] 9)
  il : Il W a.l a.its
  fr : Fr (fun _ => False) w0 W
theorem AskW.keep {w0 W W' : World} {a : AV} {F : Str} (h : AskW w0 W a F) (hf : Fr (fun _ => False) W W') : AskW w0 W' a F :=
  ⟨hf.at_ h.bx (fun h => h), hf.at_ h.fb (fun h => h), h.il.fr hf (fun _ h => h.elim), h.fr.trans hf⟩
attribute [local irreducible] rightB wiB
set_option maxRecDepth 100000 in
set_option maxHeartbeats 8000000 in
theorem kMayA (w : World) (a : AV) (hl : Il w a.l a.its) (hg : okS a.g) : Calls Tryz.prog 45 #[.agg a.cs] w fun e w' => e = .returned (.bool a.may) ∧ Fr (fun _ => False) w w' := by
  obtain ⟨c, n, k, o, r, t, m, g, l, its⟩ := a
  dsimp only at hl hg
  obtain ⟨pp, cc, rfl⟩ := hl.sl
  obtain ⟨F, hF⟩ : ∃ F, fldF k = F := ⟨_, rfl⟩
  obtain ⟨A, hA⟩ : ∃ A : AV, A = ⟨c, n, k, o, r, t, m, g, .slice pp its.length cc, its⟩ := ⟨_, rfl⟩
  obtain ⟨N, hN⟩ : ∃ N : Nat, its.length = N := ⟨_, rfl⟩
  have HM : Hid (A.may = (decide (F ≠ []) && wiB c 0 63 && wiB n 1 4294967296 && rightB F 111 (wiB o 1 1099511627776) (decide (o = 0)) && rightB F 114 (wiB r 0 7) (decide (r = 0)) && rightB F 116 (wiB t 0 7 && decide (t ≠ r)) (decide (t = 0)) && rightB F 103 (goodB g) (decide (g = [])) && rightB F 105 (decide (0 < (N : Int)) && mayL its) (decide ((N : Int) = 0)) && mayN k m)) := Lib.hid (by subst hA; rw [← hF, ← hN]; rfl)
  rw [← hA]
  obtain ⟨B, hB⟩ : ∃ B, A.may = B := ⟨_, rfl⟩
  rw [hB] at HM ⊢
  have hH := Lib.hid (fun W => kHas W k)
  rw [hF] at hH
  obtain ⟨b2, hb2⟩ : ∃ b, wiB c 0 63 = b := ⟨_, rfl⟩
  obtain ⟨b3, hb3⟩ : ∃ b, wiB n 1 4294967296 = b := ⟨_, rfl⟩
  have HB2 := Lib.hid hb2
  have HB3 := Lib.hid hb3
  rw [hb2, hb3] at HM
  have hAW : Hid (AskW w ((w.alloc (.cells #[.int .i64 c, .int .i64 n, .int .i64 k, .int .i64 o, .int .i64 r, .int .i64 t, .int .i64 m, vS g, .slice pp N cc] 32)).alloc (.cells #[vS F] 9)) A F) := by
    have hf : Fr (fun _ => False) w ((w.alloc (.cells A.cs 32)).alloc (.cells #[vS F] 9)) := ((Fr.refl _ w).alloc _).alloc _
    rw [← hN]
    subst hA
    exact Lib.hid ⟨heap_keep (heap_at rfl _) _, heap_at (by simp) _, hl.fr hf (fun _ h => h.elim), hf⟩
  have hcs : A.cs = #[.int .i64 c, .int .i64 n, .int .i64 k, .int .i64 o, .int .i64 r, .int .i64 t, .int .i64 m, vS g, .slice pp N cc] := by subst hA; rw [← hN]; rfl
  have HMN : Hid (∀ W, Calls Tryz.prog 83 #[.agg #[.int .i64 c, .int .i64 n, .int .i64 k, .int .i64 o, .int .i64 r, .int .i64 t, .int .i64 m, vS g, .slice pp N cc]] W fun e w' => e = .returned (.bool (mayN k m)) ∧ Fr (fun _ => False) W w') := Lib.hid (fun W => by have := kMayN W A; rw [hcs] at this; subst hA; exact this)
  have HG := Lib.hid hg
  have HCS := Lib.hid hcs
  rw [hcs]
  have HL : Hid (A.l = .slice pp N cc ∧ A.its = its) := Lib.hid (by subst hA; rw [← hN]; exact ⟨rfl, rfl⟩)
  clear hl hg hF hB hA hcs hN hb2 hb3
  by_cases hF0 : F = []
  · have hBf : Hid (B = false) := Lib.hid (by rw [HM.out]; simp [hF0])
    clear HM
    subst hF0
    have h0 : (([] : Str) == []) = true := rfl
    go_enter Tryz.func45, Tryz.ntmps45
    go_wp2_with (first | (go_at_call 79; refine (hH.out _).mono ?_; rintro e w1 ⟨rfl, rfl⟩) | (go_at_call 82; refine (kWithin _ _ _ _).mono ?_; rintro e w2 ⟨rfl, rfl⟩; first | rw [HB2.out] | rw [HB3.out]))
    go_ret
    exact ⟨by rw [hBf.out]; rfl, hAW.out.fr⟩
  have h0 : (F == []) = false := by simpa using hF0
  cases b2 with
  | false =>
    have hBf : Hid (B = false) := Lib.hid (by rw [HM.out]; simp)
    clear HM
    go_enter Tryz.func45, Tryz.ntmps45
    go_wp2_with (first | (go_at_call 79; refine (hH.out _).mono ?_; rintro e w1 ⟨rfl, rfl⟩) | (go_at_call 82; refine (kWithin _ _ _ _).mono ?_; rintro e w2 ⟨rfl, rfl⟩; first | rw [HB2.out] | rw [HB3.out]))
    go_ret
    exact ⟨by rw [hBf.out]; rfl, hAW.out.fr⟩
  | true =>
  cases b3 with
  | false =>
    have hBf : Hid (B = false) := Lib.hid (by rw [HM.out]; simp)
    clear HM
    go_enter Tryz.func45, Tryz.ntmps45
    go_wp2_with (first | (go_at_call 79; refine (hH.out _).mono ?_; rintro e w1 ⟨rfl, rfl⟩) | (go_at_call 82; refine (kWithin _ _ _ _).mono ?_; rintro e w2 ⟨rfl, rfl⟩; first | rw [HB2.out] | rw [HB3.out]))
    go_ret
    exact ⟨by rw [hBf.out]; rfl, hAW.out.fr⟩
  | true =>
  go_enter Tryz.func45, Tryz.ntmps45
  go_upto_region 6 with (first | (go_at_call 79; refine (hH.out _).mono ?_; rintro e w1 ⟨rfl, rfl⟩) | (go_at_call 82; refine (kWithin _ _ _ _).mono ?_; rintro e w2 ⟨rfl, rfl⟩; first | rw [HB2.out] | rw [HB3.out]))
  have hbx := hAW.out.bx
  rw [HCS.out] at hbx
  have p3 := FrW.cell (cell_obj hbx 3 (.int .i64 o) rfl)
  have p4 := FrW.cell (cell_obj hbx 4 (.int .i64 r) rfl)
  have pF := FrW.cell (cell_obj hAW.out.fb 0 (vS F) rfl)
  have hK := Lib.hid (fun X c a b => kRight (FrW.val X) (w.heap.size + 1) F c a b (pF X))
  cases hro : rightB F 111 (wiB o 1 1099511627776) (decide (o = 0)) with
  | false =>
    have hBf : Hid (B = false) := Lib.hid (by rw [HM.out, hro]; simp)
    have HRO := Lib.hid hro
    have HRR := Lib.hid hro
    clear HM hro
    refine wp_region_fr (by kernel_rfl) (by kernel_rfl) ?_
    repeat (go_big_quiet_step (first | (go_at_call 82; rename_i X; refine (kWithin _ _ _ _).mono ?_; rintro e w2 ⟨rfl, rfl⟩; exact ⟨rfl, X, rfl⟩) | (go_at_call 81; rename_i X; refine (kIsRegion _ _).mono ?_; rintro e w2 ⟨rfl, rfl⟩; exact ⟨rfl, X, rfl⟩) | (go_at_call 80; rename_i X; refine (hK.out X _ _ _).mono ?_; rintro e w2 ⟨rfl, rfl⟩; first | exact ⟨congrArg (fun b => Ending.returned (.bool b)) HRO.out, X, rfl⟩ | exact ⟨congrArg (fun b => Ending.returned (.bool b)) HRR.out, X, rfl⟩)))
    refine wpQuiet_nil ?_
    rintro _ ⟨⟨V, hV⟩, rfl⟩
    go_wp2_with fail
    go_ret
    exact ⟨by rw [hBf.out]; rfl, hAW.out.fr.trans hV⟩
  | true =>
  have HRO := Lib.hid hro
  cases hrr : rightB F 114 (wiB r 0 7) (decide (r = 0)) with
  | false =>
    have hBf : Hid (B = false) := Lib.hid (by rw [HM.out, hrr]; simp)
    have HRR := Lib.hid hrr
    clear HM hro hrr
    refine wp_region_fr (by kernel_rfl) (by kernel_rfl) ?_
    repeat (go_big_quiet_step (first | (go_at_call 82; rename_i X; refine (kWithin _ _ _ _).mono ?_; rintro e w2 ⟨rfl, rfl⟩; exact ⟨rfl, X, rfl⟩) | (go_at_call 81; rename_i X; refine (kIsRegion _ _).mono ?_; rintro e w2 ⟨rfl, rfl⟩; exact ⟨rfl, X, rfl⟩) | (go_at_call 80; rename_i X; refine (hK.out X _ _ _).mono ?_; rintro e w2 ⟨rfl, rfl⟩; first | exact ⟨congrArg (fun b => Ending.returned (.bool b)) HRO.out, X, rfl⟩ | exact ⟨congrArg (fun b => Ending.returned (.bool b)) HRR.out, X, rfl⟩)))
    refine wpQuiet_nil ?_
    rintro _ ⟨⟨V, hV⟩, rfl⟩
    go_wp2_with fail
    go_ret
    exact ⟨by rw [hBf.out]; rfl, hAW.out.fr.trans hV⟩
  | true =>
  have HRR := Lib.hid hrr
  rw [hro, hrr] at HM
  clear hro hrr
  refine wp_region_fr (by kernel_rfl) (by kernel_rfl) ?_
  repeat (go_big_quiet_step (first | (go_at_call 82; rename_i X; refine (kWithin _ _ _ _).mono ?_; rintro e w2 ⟨rfl, rfl⟩; exact ⟨rfl, X, rfl⟩) | (go_at_call 81; rename_i X; refine (kIsRegion _ _).mono ?_; rintro e w2 ⟨rfl, rfl⟩; exact ⟨rfl, X, rfl⟩) | (go_at_call 80; rename_i X; refine (hK.out X _ _ _).mono ?_; rintro e w2 ⟨rfl, rfl⟩; first | exact ⟨congrArg (fun b => Ending.returned (.bool b)) HRO.out, X, rfl⟩ | exact ⟨congrArg (fun b => Ending.returned (.bool b)) HRR.out, X, rfl⟩)))
  refine wpQuiet_nil ?_
  rintro _ ⟨⟨V, hV⟩, rfl⟩
  have hA2 := Lib.hid (hAW.out.keep hV)
  clear p3 p4 pF hK hbx hV
  go_upto_region 8 with (fail)
  have hbx := hA2.out.bx
  rw [HCS.out] at hbx
  have p4 := FrW.cell (cell_obj hbx 4 (.int .i64 r) rfl)
  have p5 := FrW.cell (cell_obj hbx 5 (.int .i64 t) rfl)
  have p7 := FrW.cell (cell_obj hbx 7 (vS g) rfl)
  have pF := FrW.cell (cell_obj hA2.out.fb 0 (vS F) rfl)
  have hK := Lib.hid (fun X c a b => kRight (FrW.val X) (w.heap.size + 1) F c a b (pF X))
  have hGd := Lib.hid (fun W => iGood W g HG.out)
  have hgg : decide (g = []) = (g == []) := by rw [Bool.eq_iff_iff]; simp
  have hne : decide (t ≠ r) = (t != r) := by rw [Bool.eq_iff_iff]; simp
  cases hT : wiB t 0 7 with
  | false =>
    rw [hT] at HM
    have HT := Lib.hid hT
    cases hrt : rightB F 116 false (decide (t = 0)) with
    | false =>
      have hBf : Hid (B = false) := Lib.hid (by rw [HM.out]; simp only [Bool.true_and, Bool.false_and]; rw [hrt]; simp)
      have HRT := Lib.hid hrt
      have HRG := Lib.hid hrt
      clear HM hT hrt
      refine wp_region_fr (by kernel_rfl) (by kernel_rfl) ?_
      repeat (go_big_quiet_step (first | (go_at_call 81; rename_i X; refine (kIsRegion _ _).mono ?_; rintro e w2 ⟨rfl, rfl⟩; exact ⟨congrArg (fun b => Ending.returned (.bool b)) HT.out, X, rfl⟩) | (go_at_call 77; rename_i X; refine (hGd.out _).mono ?_; rintro e w2 ⟨rfl, hF⟩; exact ⟨rfl, ⟨w2, X.fr.trans hF⟩, rfl⟩) | (go_at_call 80; rename_i X; refine (hK.out X _ _ _).mono ?_; rintro e w2 ⟨rfl, rfl⟩; first | exact ⟨congrArg (fun b => Ending.returned (.bool b)) HRT.out, X, rfl⟩ | exact ⟨congrArg (fun b => Ending.returned (.bool b)) HRG.out, X, rfl⟩ | exact ⟨congrArg (fun b => Ending.returned (.bool b)) (Eq.trans (congrArg (rightB F 103 (goodB g)) (by first | rfl | simp | (rw [Bool.eq_iff_iff]; simp))) HRG.out), X, rfl⟩)))
      refine wpQuiet_nil ?_
      rintro _ ⟨⟨V2, hV2⟩, rfl⟩
      go_wp2_with fail
      go_ret
      exact ⟨by rw [hBf.out]; rfl, hA2.out.fr.trans hV2⟩
    | true =>
    have HRT := Lib.hid hrt
    cases hrg : rightB F 103 (goodB g) (g == []) with
    | false =>
      have hBf : Hid (B = false) := Lib.hid (by rw [HM.out, hgg, hrg]; simp)
      have HRG := Lib.hid hrg
      clear HM hT hrt hrg
      refine wp_region_fr (by kernel_rfl) (by kernel_rfl) ?_
      repeat (go_big_quiet_step (first | (go_at_call 81; rename_i X; refine (kIsRegion _ _).mono ?_; rintro e w2 ⟨rfl, rfl⟩; exact ⟨congrArg (fun b => Ending.returned (.bool b)) HT.out, X, rfl⟩) | (go_at_call 77; rename_i X; refine (hGd.out _).mono ?_; rintro e w2 ⟨rfl, hF⟩; exact ⟨rfl, ⟨w2, X.fr.trans hF⟩, rfl⟩) | (go_at_call 80; rename_i X; refine (hK.out X _ _ _).mono ?_; rintro e w2 ⟨rfl, rfl⟩; first | exact ⟨congrArg (fun b => Ending.returned (.bool b)) HRT.out, X, rfl⟩ | exact ⟨congrArg (fun b => Ending.returned (.bool b)) HRG.out, X, rfl⟩ | exact ⟨congrArg (fun b => Ending.returned (.bool b)) (Eq.trans (congrArg (rightB F 103 (goodB g)) (by first | rfl | simp | (rw [Bool.eq_iff_iff]; simp))) HRG.out), X, rfl⟩)))
      refine wpQuiet_nil ?_
      rintro _ ⟨⟨V2, hV2⟩, rfl⟩
      go_wp2_with fail
      go_ret
      exact ⟨by rw [hBf.out]; rfl, hA2.out.fr.trans hV2⟩
    | true =>
    have HRG := Lib.hid hrg
    have HM2 : Hid (B = (rightB F 105 (decide (0 < (N : Int)) && mayL its) (decide ((N : Int) = 0)) && mayN k m)) := Lib.hid (by rw [HM.out, hgg, hrg]; simp only [Bool.true_and, Bool.false_and]; rw [hrt]; simp [hF0])
    clear HM hT hrt hrg
    refine wp_region_fr (by kernel_rfl) (by kernel_rfl) ?_
    repeat (go_big_quiet_step (first | (go_at_call 81; rename_i X; refine (kIsRegion _ _).mono ?_; rintro e w2 ⟨rfl, rfl⟩; exact ⟨congrArg (fun b => Ending.returned (.bool b)) HT.out, X, rfl⟩) | (go_at_call 77; rename_i X; refine (hGd.out _).mono ?_; rintro e w2 ⟨rfl, hF⟩; exact ⟨rfl, ⟨w2, X.fr.trans hF⟩, rfl⟩) | (go_at_call 80; rename_i X; refine (hK.out X _ _ _).mono ?_; rintro e w2 ⟨rfl, rfl⟩; first | exact ⟨congrArg (fun b => Ending.returned (.bool b)) HRT.out, X, rfl⟩ | exact ⟨congrArg (fun b => Ending.returned (.bool b)) HRG.out, X, rfl⟩ | exact ⟨congrArg (fun b => Ending.returned (.bool b)) (Eq.trans (congrArg (rightB F 103 (goodB g)) (by first | rfl | simp | (rw [Bool.eq_iff_iff]; simp))) HRG.out), X, rfl⟩)))
    refine wpQuiet_nil ?_
    rintro _ ⟨⟨V2, hV2⟩, rfl⟩
    have hA3 := Lib.hid (hA2.out.keep hV2)
    clear p4 p5 p7 pF hK hbx hV2
    go_upto_region 10 with (fail)
    have hbx := hA3.out.bx
    rw [HCS.out] at hbx
    have p0 := FrW.cell (cell_obj hbx 0 (.int .i64 c) rfl)
    have p1 := FrW.cell (cell_obj hbx 1 (.int .i64 n) rfl)
    have p2 := FrW.cell (cell_obj hbx 2 (.int .i64 k) rfl)
    have p3 := FrW.cell (cell_obj hbx 3 (.int .i64 o) rfl)
    have p4 := FrW.cell (cell_obj hbx 4 (.int .i64 r) rfl)
    have p5 := FrW.cell (cell_obj hbx 5 (.int .i64 t) rfl)
    have p6 := FrW.cell (cell_obj hbx 6 (.int .i64 m) rfl)
    have p7 := FrW.cell (cell_obj hbx 7 (vS g) rfl)
    have p8 := FrW.cell (cell_obj hbx 8 (.slice pp N cc) rfl)
    have pF := FrW.cell (cell_obj hA3.out.fb 0 (vS F) rfl)
    have hK := Lib.hid (fun X c a b => kRight (FrW.val X) (w.heap.size + 1) F c a b (pF X))
    have hIl := hA3.out.il
    rw [HL.out.1, HL.out.2] at hIl
    have hMy := Lib.hid (fun X => iMay (FrW.val X) _ _ (hIl.fr (FrW.fr X) (fun _ h => h.elim)))
    clear hbx hIl
    by_cases hN0 : 0 < N
    · have hN1 : (0 : Int) < (N : Int) := by omega
      have hN2 : ((N : Int) == 0) = false := by simp; omega
      have hN3 : decide ((N : Int) = 0) = false := by simp; omega
      have hN4 : decide ((0 : Int) < (N : Int)) = true := by simpa using hN1
      rw [hN3, hN4, Bool.true_and] at HM2
      cases hri : rightB F 105 (mayL its) false with
      | false =>
        have hBf : Hid (B = false) := Lib.hid (by rw [HM2.out, hri]; rfl)
        have HRI := Lib.hid hri
        have hN5 : decide (0 < N) = true := by simpa using hN0
        clear HM2 hri hN3
        refine wp_region_fr (by kernel_rfl) (by kernel_rfl) ?_
        repeat (go_big_quiet_step (first | (go_at_call 44; rename_i X; refine (hMy.out X).mono ?_; rintro e w2 ⟨rfl, hF⟩; exact ⟨rfl, ⟨w2, X.fr.trans hF⟩, rfl⟩) | (go_at_call 80; rename_i X; refine (hK.out X _ _ _).mono ?_; rintro e w2 ⟨rfl, rfl⟩; exact ⟨congrArg (fun b => Ending.returned (.bool b)) HRI.out, X, rfl⟩) | (go_at_call 83; rename_i X; refine (HMN.out _).mono ?_; rintro e w2 ⟨rfl, hF⟩; exact ⟨rfl, ⟨w2, X.fr.trans hF⟩, rfl⟩)))
        refine wpQuiet_nil ?_
        rintro _ ⟨⟨V3, hV3⟩, rfl⟩
        go_wp2_with fail
        go_ret
        exact ⟨by rw [hBf.out]; rfl, hA3.out.fr.trans hV3⟩
      | true =>
        have hBf : Hid (B = mayN k m) := Lib.hid (by rw [HM2.out, hri]; rfl)
        have HRI := Lib.hid hri
        have hN5 : decide (0 < N) = true := by simpa using hN0
        clear HM2 hri hN3
        refine wp_region_fr (by kernel_rfl) (by kernel_rfl) ?_
        repeat (go_big_quiet_step (first | (go_at_call 44; rename_i X; refine (hMy.out X).mono ?_; rintro e w2 ⟨rfl, hF⟩; exact ⟨rfl, ⟨w2, X.fr.trans hF⟩, rfl⟩) | (go_at_call 80; rename_i X; refine (hK.out X _ _ _).mono ?_; rintro e w2 ⟨rfl, rfl⟩; exact ⟨congrArg (fun b => Ending.returned (.bool b)) HRI.out, X, rfl⟩) | (go_at_call 83; rename_i X; refine (HMN.out _).mono ?_; rintro e w2 ⟨rfl, hF⟩; exact ⟨rfl, ⟨w2, X.fr.trans hF⟩, rfl⟩)))
        refine wpQuiet_nil ?_
        rintro _ ⟨⟨V3, hV3⟩, rfl⟩
        go_wp2_with fail
        go_ret
        exact ⟨by rw [hBf.out]; rfl, hA3.out.fr.trans hV3⟩
    · obtain rfl : N = 0 := by omega
      have HM3 : Hid (B = (rightB F 105 false true && mayN k m)) := Lib.hid (by rw [HM2.out]; rfl)
      clear HM2 hN0
      cases hri : rightB F 105 false true with
      | false =>
        have hBf : Hid (B = false) := Lib.hid (by rw [HM3.out, hri]; rfl)
        have HRI := Lib.hid hri
        clear HM3 hri
        refine wp_region_fr (by kernel_rfl) (by kernel_rfl) ?_
        repeat (go_big_quiet_step (first | (go_at_call 44; rename_i X; refine (hMy.out X).mono ?_; rintro e w2 ⟨rfl, hF⟩; exact ⟨rfl, ⟨w2, X.fr.trans hF⟩, rfl⟩) | (go_at_call 80; rename_i X; refine (hK.out X _ _ _).mono ?_; rintro e w2 ⟨rfl, rfl⟩; exact ⟨congrArg (fun b => Ending.returned (.bool b)) HRI.out, X, rfl⟩) | (go_at_call 83; rename_i X; refine (HMN.out _).mono ?_; rintro e w2 ⟨rfl, hF⟩; exact ⟨rfl, ⟨w2, X.fr.trans hF⟩, rfl⟩)))
        refine wpQuiet_nil ?_
        rintro _ ⟨⟨V3, hV3⟩, rfl⟩
        go_wp2_with fail
        go_ret
        exact ⟨by rw [hBf.out]; rfl, hA3.out.fr.trans hV3⟩
      | true =>
        have hBf : Hid (B = mayN k m) := Lib.hid (by rw [HM3.out, hri]; rfl)
        have HRI := Lib.hid hri
        clear HM3 hri
        refine wp_region_fr (by kernel_rfl) (by kernel_rfl) ?_
        repeat (go_big_quiet_step (first | (go_at_call 44; rename_i X; refine (hMy.out X).mono ?_; rintro e w2 ⟨rfl, hF⟩; exact ⟨rfl, ⟨w2, X.fr.trans hF⟩, rfl⟩) | (go_at_call 80; rename_i X; refine (hK.out X _ _ _).mono ?_; rintro e w2 ⟨rfl, rfl⟩; exact ⟨congrArg (fun b => Ending.returned (.bool b)) HRI.out, X, rfl⟩) | (go_at_call 83; rename_i X; refine (HMN.out _).mono ?_; rintro e w2 ⟨rfl, hF⟩; exact ⟨rfl, ⟨w2, X.fr.trans hF⟩, rfl⟩)))
        refine wpQuiet_nil ?_
        rintro _ ⟨⟨V3, hV3⟩, rfl⟩
        go_wp2_with fail
        go_ret
        exact ⟨by rw [hBf.out]; rfl, hA3.out.fr.trans hV3⟩
  | true =>
    rw [hT] at HM
    have HT := Lib.hid hT
    cases hrt : rightB F 116 (t != r) (decide (t = 0)) with
    | false =>
      have hBf : Hid (B = false) := Lib.hid (by rw [HM.out, hne]; simp only [Bool.true_and, Bool.false_and]; rw [hrt]; simp)
      have HRT := Lib.hid hrt
      have HRG := Lib.hid hrt
      clear HM hT hrt
      refine wp_region_fr (by kernel_rfl) (by kernel_rfl) ?_
      repeat (go_big_quiet_step (first | (go_at_call 81; rename_i X; refine (kIsRegion _ _).mono ?_; rintro e w2 ⟨rfl, rfl⟩; exact ⟨congrArg (fun b => Ending.returned (.bool b)) HT.out, X, rfl⟩) | (go_at_call 77; rename_i X; refine (hGd.out _).mono ?_; rintro e w2 ⟨rfl, hF⟩; exact ⟨rfl, ⟨w2, X.fr.trans hF⟩, rfl⟩) | (go_at_call 80; rename_i X; refine (hK.out X _ _ _).mono ?_; rintro e w2 ⟨rfl, rfl⟩; first | exact ⟨congrArg (fun b => Ending.returned (.bool b)) HRT.out, X, rfl⟩ | exact ⟨congrArg (fun b => Ending.returned (.bool b)) HRG.out, X, rfl⟩ | exact ⟨congrArg (fun b => Ending.returned (.bool b)) (Eq.trans (congrArg (rightB F 103 (goodB g)) (by first | rfl | simp | (rw [Bool.eq_iff_iff]; simp))) HRG.out), X, rfl⟩)))
      refine wpQuiet_nil ?_
      rintro _ ⟨⟨V2, hV2⟩, rfl⟩
      go_wp2_with fail
      go_ret
      exact ⟨by rw [hBf.out]; rfl, hA2.out.fr.trans hV2⟩
    | true =>
    have HRT := Lib.hid hrt
    cases hrg : rightB F 103 (goodB g) (g == []) with
    | false =>
      have hBf : Hid (B = false) := Lib.hid (by rw [HM.out, hgg, hrg]; simp)
      have HRG := Lib.hid hrg
      clear HM hT hrt hrg
      refine wp_region_fr (by kernel_rfl) (by kernel_rfl) ?_
      repeat (go_big_quiet_step (first | (go_at_call 81; rename_i X; refine (kIsRegion _ _).mono ?_; rintro e w2 ⟨rfl, rfl⟩; exact ⟨congrArg (fun b => Ending.returned (.bool b)) HT.out, X, rfl⟩) | (go_at_call 77; rename_i X; refine (hGd.out _).mono ?_; rintro e w2 ⟨rfl, hF⟩; exact ⟨rfl, ⟨w2, X.fr.trans hF⟩, rfl⟩) | (go_at_call 80; rename_i X; refine (hK.out X _ _ _).mono ?_; rintro e w2 ⟨rfl, rfl⟩; first | exact ⟨congrArg (fun b => Ending.returned (.bool b)) HRT.out, X, rfl⟩ | exact ⟨congrArg (fun b => Ending.returned (.bool b)) HRG.out, X, rfl⟩ | exact ⟨congrArg (fun b => Ending.returned (.bool b)) (Eq.trans (congrArg (rightB F 103 (goodB g)) (by first | rfl | simp | (rw [Bool.eq_iff_iff]; simp))) HRG.out), X, rfl⟩)))
      refine wpQuiet_nil ?_
      rintro _ ⟨⟨V2, hV2⟩, rfl⟩
      go_wp2_with fail
      go_ret
      exact ⟨by rw [hBf.out]; rfl, hA2.out.fr.trans hV2⟩
    | true =>
    have HRG := Lib.hid hrg
    have HM2 : Hid (B = (rightB F 105 (decide (0 < (N : Int)) && mayL its) (decide ((N : Int) = 0)) && mayN k m)) := Lib.hid (by rw [HM.out, hgg, hrg, hne]; simp only [Bool.true_and, Bool.false_and]; rw [hrt]; simp [hF0])
    clear HM hT hrt hrg
    refine wp_region_fr (by kernel_rfl) (by kernel_rfl) ?_
    repeat (go_big_quiet_step (first | (go_at_call 81; rename_i X; refine (kIsRegion _ _).mono ?_; rintro e w2 ⟨rfl, rfl⟩; exact ⟨congrArg (fun b => Ending.returned (.bool b)) HT.out, X, rfl⟩) | (go_at_call 77; rename_i X; refine (hGd.out _).mono ?_; rintro e w2 ⟨rfl, hF⟩; exact ⟨rfl, ⟨w2, X.fr.trans hF⟩, rfl⟩) | (go_at_call 80; rename_i X; refine (hK.out X _ _ _).mono ?_; rintro e w2 ⟨rfl, rfl⟩; first | exact ⟨congrArg (fun b => Ending.returned (.bool b)) HRT.out, X, rfl⟩ | exact ⟨congrArg (fun b => Ending.returned (.bool b)) HRG.out, X, rfl⟩ | exact ⟨congrArg (fun b => Ending.returned (.bool b)) (Eq.trans (congrArg (rightB F 103 (goodB g)) (by first | rfl | simp | (rw [Bool.eq_iff_iff]; simp))) HRG.out), X, rfl⟩)))
    refine wpQuiet_nil ?_
    rintro _ ⟨⟨V2, hV2⟩, rfl⟩
    have hA3 := Lib.hid (hA2.out.keep hV2)
    clear p4 p5 p7 pF hK hbx hV2
    go_upto_region 10 with (fail)
    have hbx := hA3.out.bx
    rw [HCS.out] at hbx
    have p0 := FrW.cell (cell_obj hbx 0 (.int .i64 c) rfl)
    have p1 := FrW.cell (cell_obj hbx 1 (.int .i64 n) rfl)
    have p2 := FrW.cell (cell_obj hbx 2 (.int .i64 k) rfl)
    have p3 := FrW.cell (cell_obj hbx 3 (.int .i64 o) rfl)
    have p4 := FrW.cell (cell_obj hbx 4 (.int .i64 r) rfl)
    have p5 := FrW.cell (cell_obj hbx 5 (.int .i64 t) rfl)
    have p6 := FrW.cell (cell_obj hbx 6 (.int .i64 m) rfl)
    have p7 := FrW.cell (cell_obj hbx 7 (vS g) rfl)
    have p8 := FrW.cell (cell_obj hbx 8 (.slice pp N cc) rfl)
    have pF := FrW.cell (cell_obj hA3.out.fb 0 (vS F) rfl)
    have hK := Lib.hid (fun X c a b => kRight (FrW.val X) (w.heap.size + 1) F c a b (pF X))
    have hIl := hA3.out.il
    rw [HL.out.1, HL.out.2] at hIl
    have hMy := Lib.hid (fun X => iMay (FrW.val X) _ _ (hIl.fr (FrW.fr X) (fun _ h => h.elim)))
    clear hbx hIl
    by_cases hN0 : 0 < N
    · have hN1 : (0 : Int) < (N : Int) := by omega
      have hN2 : ((N : Int) == 0) = false := by simp; omega
      have hN3 : decide ((N : Int) = 0) = false := by simp; omega
      have hN4 : decide ((0 : Int) < (N : Int)) = true := by simpa using hN1
      rw [hN3, hN4, Bool.true_and] at HM2
      cases hri : rightB F 105 (mayL its) false with
      | false =>
        have hBf : Hid (B = false) := Lib.hid (by rw [HM2.out, hri]; rfl)
        have HRI := Lib.hid hri
        have hN5 : decide (0 < N) = true := by simpa using hN0
        clear HM2 hri hN3
        refine wp_region_fr (by kernel_rfl) (by kernel_rfl) ?_
        repeat (go_big_quiet_step (first | (go_at_call 44; rename_i X; refine (hMy.out X).mono ?_; rintro e w2 ⟨rfl, hF⟩; exact ⟨rfl, ⟨w2, X.fr.trans hF⟩, rfl⟩) | (go_at_call 80; rename_i X; refine (hK.out X _ _ _).mono ?_; rintro e w2 ⟨rfl, rfl⟩; exact ⟨congrArg (fun b => Ending.returned (.bool b)) HRI.out, X, rfl⟩) | (go_at_call 83; rename_i X; refine (HMN.out _).mono ?_; rintro e w2 ⟨rfl, hF⟩; exact ⟨rfl, ⟨w2, X.fr.trans hF⟩, rfl⟩)))
        refine wpQuiet_nil ?_
        rintro _ ⟨⟨V3, hV3⟩, rfl⟩
        go_wp2_with fail
        go_ret
        exact ⟨by rw [hBf.out]; rfl, hA3.out.fr.trans hV3⟩
      | true =>
        have hBf : Hid (B = mayN k m) := Lib.hid (by rw [HM2.out, hri]; rfl)
        have HRI := Lib.hid hri
        have hN5 : decide (0 < N) = true := by simpa using hN0
        clear HM2 hri hN3
        refine wp_region_fr (by kernel_rfl) (by kernel_rfl) ?_
        repeat (go_big_quiet_step (first | (go_at_call 44; rename_i X; refine (hMy.out X).mono ?_; rintro e w2 ⟨rfl, hF⟩; exact ⟨rfl, ⟨w2, X.fr.trans hF⟩, rfl⟩) | (go_at_call 80; rename_i X; refine (hK.out X _ _ _).mono ?_; rintro e w2 ⟨rfl, rfl⟩; exact ⟨congrArg (fun b => Ending.returned (.bool b)) HRI.out, X, rfl⟩) | (go_at_call 83; rename_i X; refine (HMN.out _).mono ?_; rintro e w2 ⟨rfl, hF⟩; exact ⟨rfl, ⟨w2, X.fr.trans hF⟩, rfl⟩)))
        refine wpQuiet_nil ?_
        rintro _ ⟨⟨V3, hV3⟩, rfl⟩
        go_wp2_with fail
        go_ret
        exact ⟨by rw [hBf.out]; rfl, hA3.out.fr.trans hV3⟩
    · obtain rfl : N = 0 := by omega
      have HM3 : Hid (B = (rightB F 105 false true && mayN k m)) := Lib.hid (by rw [HM2.out]; rfl)
      clear HM2 hN0
      cases hri : rightB F 105 false true with
      | false =>
        have hBf : Hid (B = false) := Lib.hid (by rw [HM3.out, hri]; rfl)
        have HRI := Lib.hid hri
        clear HM3 hri
        refine wp_region_fr (by kernel_rfl) (by kernel_rfl) ?_
        repeat (go_big_quiet_step (first | (go_at_call 44; rename_i X; refine (hMy.out X).mono ?_; rintro e w2 ⟨rfl, hF⟩; exact ⟨rfl, ⟨w2, X.fr.trans hF⟩, rfl⟩) | (go_at_call 80; rename_i X; refine (hK.out X _ _ _).mono ?_; rintro e w2 ⟨rfl, rfl⟩; exact ⟨congrArg (fun b => Ending.returned (.bool b)) HRI.out, X, rfl⟩) | (go_at_call 83; rename_i X; refine (HMN.out _).mono ?_; rintro e w2 ⟨rfl, hF⟩; exact ⟨rfl, ⟨w2, X.fr.trans hF⟩, rfl⟩)))
        refine wpQuiet_nil ?_
        rintro _ ⟨⟨V3, hV3⟩, rfl⟩
        go_wp2_with fail
        go_ret
        exact ⟨by rw [hBf.out]; rfl, hA3.out.fr.trans hV3⟩
      | true =>
        have hBf : Hid (B = mayN k m) := Lib.hid (by rw [HM3.out, hri]; rfl)
        have HRI := Lib.hid hri
        clear HM3 hri
        refine wp_region_fr (by kernel_rfl) (by kernel_rfl) ?_
        repeat (go_big_quiet_step (first | (go_at_call 44; rename_i X; refine (hMy.out X).mono ?_; rintro e w2 ⟨rfl, hF⟩; exact ⟨rfl, ⟨w2, X.fr.trans hF⟩, rfl⟩) | (go_at_call 80; rename_i X; refine (hK.out X _ _ _).mono ?_; rintro e w2 ⟨rfl, rfl⟩; exact ⟨congrArg (fun b => Ending.returned (.bool b)) HRI.out, X, rfl⟩) | (go_at_call 83; rename_i X; refine (HMN.out _).mono ?_; rintro e w2 ⟨rfl, hF⟩; exact ⟨rfl, ⟨w2, X.fr.trans hF⟩, rfl⟩)))
        refine wpQuiet_nil ?_
        rintro _ ⟨⟨V3, hV3⟩, rfl⟩
        go_wp2_with fail
        go_ret
        exact ⟨by rw [hBf.out]; rfl, hA3.out.fr.trans hV3⟩
end Go.Proofs.YtmflpeklalgibaaGreat

namespace Go.Proofs.YtmflpeklalgibaaGreat
open Go.RowKit Go.Maps
/-- A mail. -/
structure MV where
  kd : Int
  od : Int
  l : Value
  its : Its
  a : AV
  y : YV
def MV.cs (m : MV) : Array Value := #[.int .i64 m.kd, .int .i64 m.od, m.l, .int .i64 m.a.c, .int .i64 m.a.n, .int .i64 m.a.k, .int .i64 m.a.o, .int .i64 m.a.r, .int .i64 m.a.t, .int .i64 m.a.m, vS m.a.g, m.a.l, .int .i64 m.y.c, .int .i64 m.y.n, .int .i64 m.y.code, .int .i64 m.y.m]
structure MOk (w : World) (m : MV) : Prop where
  kd : okI m.kd
  od : okI m.od
  l : Il w m.l m.its
  a : AOk w m.a
  y : YOk w m.y
def av0 : AV := ⟨0, 0, 0, 0, 0, 0, 0, [], .slice none 0 0, []⟩
def yv0 : YV := ⟨0, 0, 0, 0⟩
def sameY (x y : YV) : Bool := (x.c == y.c) && (x.n == y.n) && (x.code == y.code) && (x.m == y.m)
theorem eql_y (w : World) (x y : YV) : (binOp .eql 34 (.agg x.cs) (.agg y.cs)).run Tryz.prog w = .ok (.bool (sameY x y)) w := by
  obtain ⟨a, b, c, d⟩ := x
  obtain ⟨e, f, g, h⟩ := y
  unfold sameY YV.cs
  by_cases h1 : a = e <;> by_cases h2 : b = f <;> by_cases h3 : c = g <;> by_cases h4 : d = h <;> simp [go_sem, h1, h2, h3, h4]
def MV.ro (m : MV) : Bool := rightB (mfldF m.kd) 111 (decide (1 ≤ m.od) && decide (m.od ≤ 1099511627776)) (m.od == 0)
def MV.ri (m : MV) : Bool := rightB (mfldF m.kd) 105 (mayL m.its) ((m.its.length : Int) == 0)
def MV.ra (m : MV) : Bool := rightB (mfldF m.kd) 97 m.a.may (sameA m.a av0)
def MV.ry (m : MV) : Bool := rightB (mfldF m.kd) 121 (mayY m.y) (sameY m.y yv0)
def MV.may (m : MV) : Bool := decide (1 ≤ m.kd) && decide (m.kd ≤ 14) && m.ro && m.ri && m.ra && m.ry
structure MayW (w0 W : World) (m : MV) (F : Str) : Prop where
  bx : W.heap[w0.heap.size]? = some (.cells m.cs 36)
  fb : W.heap[w0.heap.size + 1]? = some (.cells #[vS F] 9)
  il : Il W m.l m.its
  ia : Il W m.a.l m.a.its
  fr : Fr (fun _ => False) w0 W
theorem MayW.keep {w0 W W' : World} {m : MV} {F : Str} (h : MayW w0 W m F) (hf : Fr (fun _ => False) W W') : MayW w0 W' m F :=
  ⟨hf.at_ h.bx (fun h => h), hf.at_ h.fb (fun h => h), h.il.fr hf (fun _ h => h.elim), h.ia.fr hf (fun _ h => h.elim), h.fr.trans hf⟩
attribute [local irreducible] rightB
set_option maxRecDepth 100000 in
set_option maxHeartbeats 16000000 in
theorem mMay (w : World) (m : MV) (hm : MOk w m) : Calls Tryz.prog 22 #[.agg m.cs] w fun e w' => e = .returned (.bool m.may) ∧ Fr (fun _ => False) w w' := by
  obtain ⟨B, hB⟩ : ∃ B, m.may = B := ⟨_, rfl⟩
  have hgk := hm.a.g
  have hil := hm.l
  have hia := hm.a.l
  obtain ⟨F, hF⟩ : ∃ F, mfldF m.kd = F := ⟨_, rfl⟩
  obtain ⟨kd, od, l, its, ⟨c, n, k, o, r, t, mm, g, al, ai⟩, ⟨yc, yn, ycd, ym⟩⟩ := m
  dsimp only at hgk hil hia hF
  obtain ⟨pp, cc, rfl⟩ := hil.sl
  obtain ⟨pa, ca, rfl⟩ := hia.sl
  obtain ⟨N, hN⟩ : ∃ N : Nat, its.length = N := ⟨_, rfl⟩
  obtain ⟨M, hM⟩ : ∃ M : Nat, ai.length = M := ⟨_, rfl⟩
  obtain ⟨ma, hma⟩ : ∃ b, AV.may ⟨c, n, k, o, r, t, mm, g, .slice pa M ca, ai⟩ = b := ⟨_, rfl⟩
  obtain ⟨sa, hsa⟩ : ∃ b, sameA ⟨c, n, k, o, r, t, mm, g, .slice pa M ca, ai⟩ av0 = b := ⟨_, rfl⟩
  obtain ⟨my, hmy⟩ : ∃ b, mayY ⟨yc, yn, ycd, ym⟩ = b := ⟨_, rfl⟩
  obtain ⟨sy, hsy⟩ : ∃ b, sameY ⟨yc, yn, ycd, ym⟩ yv0 = b := ⟨_, rfl⟩
  obtain ⟨mi, hmi⟩ : ∃ b, mayL its = b := ⟨_, rfl⟩
  have HM : Hid (B = (decide (1 ≤ kd) && decide (kd ≤ 14) && rightB F 111 (decide (1 ≤ od) && decide (od ≤ 1099511627776)) (od == 0) && rightB F 105 mi ((N : Int) == 0) && rightB F 97 ma sa && rightB F 121 my sy)) := Lib.hid (by
    rw [← hB, ← hmi, ← hma, ← hsa, ← hmy, ← hsy, ← hF, ← hN, ← hM]; rfl)
  rw [hB]
  obtain ⟨W0, hW0⟩ : ∃ W0, ((w.alloc (.cells #[.int .i64 kd, .int .i64 od, .slice pp N cc, .int .i64 c, .int .i64 n, .int .i64 k, .int .i64 o, .int .i64 r, .int .i64 t, .int .i64 mm, vS g, .slice pa M ca, .int .i64 yc, .int .i64 yn, .int .i64 ycd, .int .i64 ym] 36)).alloc (.cells #[vS F] 9)) = W0 := ⟨_, rfl⟩
  have hMW : MayW w W0 ⟨kd, od, .slice pp its.length cc, its, ⟨c, n, k, o, r, t, mm, g, .slice pa ai.length ca, ai⟩, ⟨yc, yn, ycd, ym⟩⟩ F := by
    have hf : Fr (fun _ => False) w W0 := by rw [← hW0]; exact ((Fr.refl _ w).alloc _).alloc _
    refine ⟨?_, by rw [← hW0]; exact heap_at (by simp) _, hil.fr hf (fun _ h => h.elim), hia.fr hf (fun _ h => h.elim), hf⟩
    rw [← hW0, hN, hM]
    exact heap_keep (heap_at rfl _) _
  have HMW := Lib.hid hMW
  have HH := Lib.hid (fun W => mHas W kd)
  have HMY := Lib.hid (fun W => mMayY W ⟨yc, yn, ycd, ym⟩)
  have HMA : Hid (∀ W, Il W (.slice pa ai.length ca) ai → Calls Tryz.prog 45 #[.agg #[.int .i64 c, .int .i64 n, .int .i64 k, .int .i64 o, .int .i64 r, .int .i64 t, .int .i64 mm, vS g, .slice pa ai.length ca]] W fun e w' => e = .returned (.bool ma) ∧ Fr (fun _ => False) W w') := Lib.hid (fun W hi => by
    have := kMayA W ⟨c, n, k, o, r, t, mm, g, .slice pa ai.length ca, ai⟩ hi hgk
    rw [hM] at this ⊢
    rw [hma] at this
    exact this)
  have HSA : Hid (∀ W, Il W (.slice pa ai.length ca) ai → Calls Tryz.prog 46 #[.agg #[.int .i64 c, .int .i64 n, .int .i64 k, .int .i64 o, .int .i64 r, .int .i64 t, .int .i64 mm, vS g, .slice pa ai.length ca], .agg #[.int .i64 0, .int .i64 0, .int .i64 0, .int .i64 0, .int .i64 0, .int .i64 0, .int .i64 0, .string ⟨#[]⟩, .slice none 0 0]] W fun e w' => e = .returned (.bool sa) ∧ Fr (fun _ => False) W w') := Lib.hid (fun W hi => by
    have := kSame W ⟨c, n, k, o, r, t, mm, g, .slice pa ai.length ca, ai⟩ av0 hi ⟨Nat.zero_le _, none, 0, rfl, fun i p hp => by simp [av0] at hp⟩
    rw [hM] at this ⊢
    rw [hsa] at this
    exact this)
  have HEY : Hid (∀ W, (binOp .eql 34 (.agg #[.int .i64 yc, .int .i64 yn, .int .i64 ycd, .int .i64 ym]) (.agg #[.int .i64 0, .int .i64 0, .int .i64 0, .int .i64 0])).run Tryz.prog W = .ok (.bool sy) W) := Lib.hid (fun W => by
    have := eql_y W ⟨yc, yn, ycd, ym⟩ yv0
    rw [hsy] at this
    exact this)
  have HLI := Lib.hid (fun W (hi : Il W (.slice pp its.length cc) its) => iMay W _ its hi)
  rw [hF] at HH
  rw [hmy] at HMY
  rw [hmi] at HLI
  have HNN := Lib.hid hN; have HMM := Lib.hid hM
  unfold MV.cs
  dsimp only
  rw [hN, hM]
  clear hB hgk hil hia hF hma hsa hmy hsy hmi hMW hm
  obtain ⟨ro, hro⟩ : ∃ b, rightB F 111 (decide (1 ≤ od) && decide (od ≤ 1099511627776)) (od == 0) = b := ⟨_, rfl⟩
  obtain ⟨ri, hri⟩ : ∃ b, rightB F 105 mi ((N : Int) == 0) = b := ⟨_, rfl⟩
  obtain ⟨ra, hra⟩ : ∃ b, rightB F 97 ma sa = b := ⟨_, rfl⟩
  obtain ⟨ry, hry⟩ : ∃ b, rightB F 121 my sy = b := ⟨_, rfl⟩
  rw [hro, hri, hra, hry] at HM
  have HRI := Lib.hid hri; have HRA := Lib.hid hra; have HRY := Lib.hid hry
  clear hri hra hry
  have hbx := HMW.out.bx
  unfold MV.cs at hbx
  dsimp only at hbx
  rw [HNN.out, HMM.out] at hbx
  have x0 := cell_obj hbx 0 (.int .i64 kd) rfl
  by_cases k1 : kd < 1
  · have hBf : Hid (B = false) := Lib.hid (by rw [HM.out, decide_eq_false (by omega : ¬ 1 ≤ kd)]; simp)
    clear HM hro
    go_enter Tryz.func22, Tryz.ntmps22
    go_wp2_with (go_at_call 41; refine (HH.out _).mono ?_; rintro e w1 ⟨rfl, rfl⟩)
    go_ret
    exact ⟨by rw [hBf.out]; rfl, HMW.out.fr⟩
  by_cases k2 : 14 < kd
  · have hBf : Hid (B = false) := Lib.hid (by rw [HM.out, decide_eq_false (by omega : ¬ kd ≤ 14)]; simp)
    clear HM hro
    go_enter Tryz.func22, Tryz.ntmps22
    go_wp2_with (go_at_call 41; refine (HH.out _).mono ?_; rintro e w1 ⟨rfl, rfl⟩)
    go_ret
    exact ⟨by rw [hBf.out]; rfl, HMW.out.fr⟩
  have HM3 : Hid (B = (ro && ri && ra && ry)) := Lib.hid (by rw [HM.out, decide_eq_true (by omega : 1 ≤ kd), decide_eq_true (by omega : kd ≤ 14)]; simp)
  clear HM
  go_enter Tryz.func22, Tryz.ntmps22
  go_upto_region 5 with (go_at_call 41; refine (HH.out _).mono ?_; rintro e w1 ⟨rfl, rfl⟩)
  try rw [hW0]
  have p1 := FrW.cell (cell_obj hbx 1 (.int .i64 od) rfl)
  have p2 := FrW.cell (cell_obj hbx 2 (.slice pp N cc) rfl)
  have pF := FrW.cell (cell_obj HMW.out.fb 0 (vS F) rfl)
  have hK := Lib.hid (fun X c a b => mRight (FrW.val X) (w.heap.size + 1) F c a b (pF X))
  have HNI := HNN.out
  rw [HNI] at HLI
  clear HNI hW0
  have hq : (od < 0) ∨ (od = 0) ∨ ((1 : Int) ≤ od ∧ od ≤ 1099511627776) ∨ ((1 : Int) ≤ od ∧ ¬ od ≤ 1099511627776) := by omega
  have hcut : ∀ Q : Prop, (∀ (b1 b2 : Bool), rightB F 111 b1 b2 = ro → Q) → Q := fun Q h => h _ _ hro
  rcases hq with q | q | ⟨q, q'⟩ | ⟨q, q'⟩
  · have e1 : ¬ (1 : Int) ≤ od := by omega
    have e3 : (od == 0) = false := by simp; omega
    rw [decide_eq_false e1, e3] at hro
    rw [Bool.false_and] at hro
    have HRO := Lib.hid hro
    clear hro hcut
    cases ro with
    | false =>
      have hBf : Hid (B = false) := Lib.hid (by rw [HM3.out]; simp)
      clear HM3
      refine wp_region_fr (by kernel_rfl) (by kernel_rfl) ?_
      repeat (go_big_quiet_step (first | (go_at_call 44; rename_i X; refine (HLI.out _ (by have h : Il X.val (.slice pp its.length cc) its := HMW.out.il.fr X.fr (fun _ e => e.elim); rw [HNN.out] at h; exact h)).mono ?_; rintro e w2 ⟨rfl, hf⟩; exact ⟨rfl, ⟨w2, X.fr.trans hf⟩, rfl⟩) | (go_at_call 42; rename_i X; refine (hK.out X _ _ _).mono ?_; rintro e w2 ⟨rfl, rfl⟩; first | exact ⟨congrArg (fun b => Ending.returned (.bool b)) HRO.out, X, rfl⟩)))
      refine wpQuiet_nil ?_
      rintro _ ⟨⟨V, hV⟩, rfl⟩
      go_wp2_with fail
      go_ret
      exact ⟨by rw [hBf.out]; rfl, HMW.out.fr.trans hV⟩
    | true =>
    cases ri with
    | false =>
      have hBf : Hid (B = false) := Lib.hid (by rw [HM3.out]; simp)
      clear HM3
      refine wp_region_fr (by kernel_rfl) (by kernel_rfl) ?_
      repeat (go_big_quiet_step (first | (go_at_call 44; rename_i X; refine (HLI.out _ (by have h : Il X.val (.slice pp its.length cc) its := HMW.out.il.fr X.fr (fun _ e => e.elim); rw [HNN.out] at h; exact h)).mono ?_; rintro e w2 ⟨rfl, hf⟩; exact ⟨rfl, ⟨w2, X.fr.trans hf⟩, rfl⟩) | (go_at_call 42; rename_i X; refine (hK.out X _ _ _).mono ?_; rintro e w2 ⟨rfl, rfl⟩; first | exact ⟨congrArg (fun b => Ending.returned (.bool b)) HRO.out, X, rfl⟩ | exact ⟨congrArg (fun b => Ending.returned (.bool b)) HRI.out, X, rfl⟩)))
      refine wpQuiet_nil ?_
      rintro _ ⟨⟨V, hV⟩, rfl⟩
      go_wp2_with fail
      go_ret
      exact ⟨by rw [hBf.out]; rfl, HMW.out.fr.trans hV⟩
    | true =>
    refine wp_region_fr (by kernel_rfl) (by kernel_rfl) ?_
    repeat (go_big_quiet_step (first | (go_at_call 44; rename_i X; refine (HLI.out _ (by have h : Il X.val (.slice pp its.length cc) its := HMW.out.il.fr X.fr (fun _ e => e.elim); rw [HNN.out] at h; exact h)).mono ?_; rintro e w2 ⟨rfl, hf⟩; exact ⟨rfl, ⟨w2, X.fr.trans hf⟩, rfl⟩) | (go_at_call 42; rename_i X; refine (hK.out X _ _ _).mono ?_; rintro e w2 ⟨rfl, rfl⟩; first | exact ⟨congrArg (fun b => Ending.returned (.bool b)) HRO.out, X, rfl⟩ | exact ⟨congrArg (fun b => Ending.returned (.bool b)) HRI.out, X, rfl⟩)))
    refine wpQuiet_nil ?_
    rintro _ ⟨⟨V, hV⟩, rfl⟩
    have HM2 := Lib.hid (HMW.out.keep hV)
    clear hK p1 p2 pF hbx hV x0
    go_upto_region 7 with (fail)
    have hbx := HM2.out.bx
    unfold MV.cs at hbx
    dsimp only at hbx
    rw [HNN.out, HMM.out] at hbx
    have p3 := FrW.cell (cell_obj hbx 3 (.int .i64 c) rfl)
    have p4 := FrW.cell (cell_obj hbx 4 (.int .i64 n) rfl)
    have p5 := FrW.cell (cell_obj hbx 5 (.int .i64 k) rfl)
    have p6 := FrW.cell (cell_obj hbx 6 (.int .i64 o) rfl)
    have p7 := FrW.cell (cell_obj hbx 7 (.int .i64 r) rfl)
    have p8 := FrW.cell (cell_obj hbx 8 (.int .i64 t) rfl)
    have p9 := FrW.cell (cell_obj hbx 9 (.int .i64 mm) rfl)
    have p10 := FrW.cell (cell_obj hbx 10 (vS g) rfl)
    have p11 := FrW.cell (cell_obj hbx 11 (.slice pa M ca) rfl)
    have p12 := FrW.cell (cell_obj hbx 12 (.int .i64 yc) rfl)
    have p13 := FrW.cell (cell_obj hbx 13 (.int .i64 yn) rfl)
    have p14 := FrW.cell (cell_obj hbx 14 (.int .i64 ycd) rfl)
    have p15 := FrW.cell (cell_obj hbx 15 (.int .i64 ym) rfl)
    have pF := FrW.cell (cell_obj HM2.out.fb 0 (vS F) rfl)
    have hK := Lib.hid (fun X c a b => mRight (FrW.val X) (w.heap.size + 1) F c a b (pF X))
    have hey := HEY.out
    rw [HMM.out] at HMA HSA
    cases ra with
    | false =>
      have hBf : Hid (B = false) := Lib.hid (by rw [HM3.out]; simp)
      clear HM3
      refine wp_region_fr (by kernel_rfl) (by kernel_rfl) ?_
      repeat (go_big_quiet_step (first | (go_at_call 45; rename_i X; refine (HMA.out _ (by have h : Il X.val (.slice pa ai.length ca) ai := HM2.out.ia.fr X.fr (fun _ e => e.elim); rw [HMM.out] at h; exact h)).mono ?_; rintro e w2 ⟨rfl, hf⟩; exact ⟨rfl, ⟨w2, X.fr.trans hf⟩, rfl⟩) | (go_at_call 46; rename_i X; refine (HSA.out _ (by have h : Il X.val (.slice pa ai.length ca) ai := HM2.out.ia.fr X.fr (fun _ e => e.elim); rw [HMM.out] at h; exact h)).mono ?_; rintro e w2 ⟨rfl, hf⟩; exact ⟨rfl, ⟨w2, X.fr.trans hf⟩, rfl⟩) | (go_at_call 47; rename_i X; refine (HMY.out _).mono ?_; rintro e w2 ⟨rfl, hf⟩; exact ⟨rfl, ⟨w2, X.fr.trans hf⟩, rfl⟩) | (go_at_call 42; rename_i X; refine (hK.out X _ _ _).mono ?_; rintro e w2 ⟨rfl, rfl⟩; first | exact ⟨congrArg (fun b => Ending.returned (.bool b)) HRA.out, X, rfl⟩ | exact ⟨congrArg (fun b => Ending.returned (.bool b)) HRY.out, X, rfl⟩)))
      refine wpQuiet_nil ?_
      rintro _ ⟨⟨V2, hV2⟩, rfl⟩
      go_wp2_with fail
      go_ret
      exact ⟨by rw [hBf.out]; rfl, HM2.out.fr.trans hV2⟩
    | true =>
      have hBf : Hid (B = ry) := Lib.hid (by rw [HM3.out]; simp)
      clear HM3
      refine wp_region_fr (by kernel_rfl) (by kernel_rfl) ?_
      repeat (go_big_quiet_step (first | (go_at_call 45; rename_i X; refine (HMA.out _ (by have h : Il X.val (.slice pa ai.length ca) ai := HM2.out.ia.fr X.fr (fun _ e => e.elim); rw [HMM.out] at h; exact h)).mono ?_; rintro e w2 ⟨rfl, hf⟩; exact ⟨rfl, ⟨w2, X.fr.trans hf⟩, rfl⟩) | (go_at_call 46; rename_i X; refine (HSA.out _ (by have h : Il X.val (.slice pa ai.length ca) ai := HM2.out.ia.fr X.fr (fun _ e => e.elim); rw [HMM.out] at h; exact h)).mono ?_; rintro e w2 ⟨rfl, hf⟩; exact ⟨rfl, ⟨w2, X.fr.trans hf⟩, rfl⟩) | (go_at_call 47; rename_i X; refine (HMY.out _).mono ?_; rintro e w2 ⟨rfl, hf⟩; exact ⟨rfl, ⟨w2, X.fr.trans hf⟩, rfl⟩) | (go_at_call 42; rename_i X; refine (hK.out X _ _ _).mono ?_; rintro e w2 ⟨rfl, rfl⟩; first | exact ⟨congrArg (fun b => Ending.returned (.bool b)) HRA.out, X, rfl⟩ | exact ⟨congrArg (fun b => Ending.returned (.bool b)) HRY.out, X, rfl⟩)))
      refine wpQuiet_nil ?_
      rintro _ ⟨⟨V2, hV2⟩, rfl⟩
      go_wp2_with fail
      go_ret
      exact ⟨by (rw [hBf.out] <;> first | rfl | simp), HM2.out.fr.trans hV2⟩
  · subst q
    have hro : rightB F 111 false true = ro := hro
    have HRO := Lib.hid hro
    clear hro hcut
    cases ro with
    | false =>
      have hBf : Hid (B = false) := Lib.hid (by rw [HM3.out]; simp)
      clear HM3
      refine wp_region_fr (by kernel_rfl) (by kernel_rfl) ?_
      repeat (go_big_quiet_step (first | (go_at_call 44; rename_i X; refine (HLI.out _ (by have h : Il X.val (.slice pp its.length cc) its := HMW.out.il.fr X.fr (fun _ e => e.elim); rw [HNN.out] at h; exact h)).mono ?_; rintro e w2 ⟨rfl, hf⟩; exact ⟨rfl, ⟨w2, X.fr.trans hf⟩, rfl⟩) | (go_at_call 42; rename_i X; refine (hK.out X _ _ _).mono ?_; rintro e w2 ⟨rfl, rfl⟩; first | exact ⟨congrArg (fun b => Ending.returned (.bool b)) HRO.out, X, rfl⟩)))
      refine wpQuiet_nil ?_
      rintro _ ⟨⟨V, hV⟩, rfl⟩
      go_wp2_with fail
      go_ret
      exact ⟨by rw [hBf.out]; rfl, HMW.out.fr.trans hV⟩
    | true =>
    cases ri with
    | false =>
      have hBf : Hid (B = false) := Lib.hid (by rw [HM3.out]; simp)
      clear HM3
      refine wp_region_fr (by kernel_rfl) (by kernel_rfl) ?_
      repeat (go_big_quiet_step (first | (go_at_call 44; rename_i X; refine (HLI.out _ (by have h : Il X.val (.slice pp its.length cc) its := HMW.out.il.fr X.fr (fun _ e => e.elim); rw [HNN.out] at h; exact h)).mono ?_; rintro e w2 ⟨rfl, hf⟩; exact ⟨rfl, ⟨w2, X.fr.trans hf⟩, rfl⟩) | (go_at_call 42; rename_i X; refine (hK.out X _ _ _).mono ?_; rintro e w2 ⟨rfl, rfl⟩; first | exact ⟨congrArg (fun b => Ending.returned (.bool b)) HRO.out, X, rfl⟩ | exact ⟨congrArg (fun b => Ending.returned (.bool b)) HRI.out, X, rfl⟩)))
      refine wpQuiet_nil ?_
      rintro _ ⟨⟨V, hV⟩, rfl⟩
      go_wp2_with fail
      go_ret
      exact ⟨by rw [hBf.out]; rfl, HMW.out.fr.trans hV⟩
    | true =>
    refine wp_region_fr (by kernel_rfl) (by kernel_rfl) ?_
    repeat (go_big_quiet_step (first | (go_at_call 44; rename_i X; refine (HLI.out _ (by have h : Il X.val (.slice pp its.length cc) its := HMW.out.il.fr X.fr (fun _ e => e.elim); rw [HNN.out] at h; exact h)).mono ?_; rintro e w2 ⟨rfl, hf⟩; exact ⟨rfl, ⟨w2, X.fr.trans hf⟩, rfl⟩) | (go_at_call 42; rename_i X; refine (hK.out X _ _ _).mono ?_; rintro e w2 ⟨rfl, rfl⟩; first | exact ⟨congrArg (fun b => Ending.returned (.bool b)) HRO.out, X, rfl⟩ | exact ⟨congrArg (fun b => Ending.returned (.bool b)) HRI.out, X, rfl⟩)))
    refine wpQuiet_nil ?_
    rintro _ ⟨⟨V, hV⟩, rfl⟩
    have HM2 := Lib.hid (HMW.out.keep hV)
    clear hK p1 p2 pF hbx hV x0
    go_upto_region 7 with (fail)
    have hbx := HM2.out.bx
    unfold MV.cs at hbx
    dsimp only at hbx
    rw [HNN.out, HMM.out] at hbx
    have p3 := FrW.cell (cell_obj hbx 3 (.int .i64 c) rfl)
    have p4 := FrW.cell (cell_obj hbx 4 (.int .i64 n) rfl)
    have p5 := FrW.cell (cell_obj hbx 5 (.int .i64 k) rfl)
    have p6 := FrW.cell (cell_obj hbx 6 (.int .i64 o) rfl)
    have p7 := FrW.cell (cell_obj hbx 7 (.int .i64 r) rfl)
    have p8 := FrW.cell (cell_obj hbx 8 (.int .i64 t) rfl)
    have p9 := FrW.cell (cell_obj hbx 9 (.int .i64 mm) rfl)
    have p10 := FrW.cell (cell_obj hbx 10 (vS g) rfl)
    have p11 := FrW.cell (cell_obj hbx 11 (.slice pa M ca) rfl)
    have p12 := FrW.cell (cell_obj hbx 12 (.int .i64 yc) rfl)
    have p13 := FrW.cell (cell_obj hbx 13 (.int .i64 yn) rfl)
    have p14 := FrW.cell (cell_obj hbx 14 (.int .i64 ycd) rfl)
    have p15 := FrW.cell (cell_obj hbx 15 (.int .i64 ym) rfl)
    have pF := FrW.cell (cell_obj HM2.out.fb 0 (vS F) rfl)
    have hK := Lib.hid (fun X c a b => mRight (FrW.val X) (w.heap.size + 1) F c a b (pF X))
    have hey := HEY.out
    rw [HMM.out] at HMA HSA
    cases ra with
    | false =>
      have hBf : Hid (B = false) := Lib.hid (by rw [HM3.out]; simp)
      clear HM3
      refine wp_region_fr (by kernel_rfl) (by kernel_rfl) ?_
      repeat (go_big_quiet_step (first | (go_at_call 45; rename_i X; refine (HMA.out _ (by have h : Il X.val (.slice pa ai.length ca) ai := HM2.out.ia.fr X.fr (fun _ e => e.elim); rw [HMM.out] at h; exact h)).mono ?_; rintro e w2 ⟨rfl, hf⟩; exact ⟨rfl, ⟨w2, X.fr.trans hf⟩, rfl⟩) | (go_at_call 46; rename_i X; refine (HSA.out _ (by have h : Il X.val (.slice pa ai.length ca) ai := HM2.out.ia.fr X.fr (fun _ e => e.elim); rw [HMM.out] at h; exact h)).mono ?_; rintro e w2 ⟨rfl, hf⟩; exact ⟨rfl, ⟨w2, X.fr.trans hf⟩, rfl⟩) | (go_at_call 47; rename_i X; refine (HMY.out _).mono ?_; rintro e w2 ⟨rfl, hf⟩; exact ⟨rfl, ⟨w2, X.fr.trans hf⟩, rfl⟩) | (go_at_call 42; rename_i X; refine (hK.out X _ _ _).mono ?_; rintro e w2 ⟨rfl, rfl⟩; first | exact ⟨congrArg (fun b => Ending.returned (.bool b)) HRA.out, X, rfl⟩ | exact ⟨congrArg (fun b => Ending.returned (.bool b)) HRY.out, X, rfl⟩)))
      refine wpQuiet_nil ?_
      rintro _ ⟨⟨V2, hV2⟩, rfl⟩
      go_wp2_with fail
      go_ret
      exact ⟨by rw [hBf.out]; rfl, HM2.out.fr.trans hV2⟩
    | true =>
      have hBf : Hid (B = ry) := Lib.hid (by rw [HM3.out]; simp)
      clear HM3
      refine wp_region_fr (by kernel_rfl) (by kernel_rfl) ?_
      repeat (go_big_quiet_step (first | (go_at_call 45; rename_i X; refine (HMA.out _ (by have h : Il X.val (.slice pa ai.length ca) ai := HM2.out.ia.fr X.fr (fun _ e => e.elim); rw [HMM.out] at h; exact h)).mono ?_; rintro e w2 ⟨rfl, hf⟩; exact ⟨rfl, ⟨w2, X.fr.trans hf⟩, rfl⟩) | (go_at_call 46; rename_i X; refine (HSA.out _ (by have h : Il X.val (.slice pa ai.length ca) ai := HM2.out.ia.fr X.fr (fun _ e => e.elim); rw [HMM.out] at h; exact h)).mono ?_; rintro e w2 ⟨rfl, hf⟩; exact ⟨rfl, ⟨w2, X.fr.trans hf⟩, rfl⟩) | (go_at_call 47; rename_i X; refine (HMY.out _).mono ?_; rintro e w2 ⟨rfl, hf⟩; exact ⟨rfl, ⟨w2, X.fr.trans hf⟩, rfl⟩) | (go_at_call 42; rename_i X; refine (hK.out X _ _ _).mono ?_; rintro e w2 ⟨rfl, rfl⟩; first | exact ⟨congrArg (fun b => Ending.returned (.bool b)) HRA.out, X, rfl⟩ | exact ⟨congrArg (fun b => Ending.returned (.bool b)) HRY.out, X, rfl⟩)))
      refine wpQuiet_nil ?_
      rintro _ ⟨⟨V2, hV2⟩, rfl⟩
      go_wp2_with fail
      go_ret
      exact ⟨by (rw [hBf.out] <;> first | rfl | simp), HM2.out.fr.trans hV2⟩
  · have e3 : (od == 0) = false := by simp; omega
    rw [decide_eq_true q, decide_eq_true q', e3] at hro
    rw [Bool.true_and] at hro
    have HRO := Lib.hid hro
    clear hro hcut
    cases ro with
    | false =>
      have hBf : Hid (B = false) := Lib.hid (by rw [HM3.out]; simp)
      clear HM3
      refine wp_region_fr (by kernel_rfl) (by kernel_rfl) ?_
      repeat (go_big_quiet_step (first | (go_at_call 44; rename_i X; refine (HLI.out _ (by have h : Il X.val (.slice pp its.length cc) its := HMW.out.il.fr X.fr (fun _ e => e.elim); rw [HNN.out] at h; exact h)).mono ?_; rintro e w2 ⟨rfl, hf⟩; exact ⟨rfl, ⟨w2, X.fr.trans hf⟩, rfl⟩) | (go_at_call 42; rename_i X; refine (hK.out X _ _ _).mono ?_; rintro e w2 ⟨rfl, rfl⟩; first | exact ⟨congrArg (fun b => Ending.returned (.bool b)) HRO.out, X, rfl⟩)))
      refine wpQuiet_nil ?_
      rintro _ ⟨⟨V, hV⟩, rfl⟩
      go_wp2_with fail
      go_ret
      exact ⟨by rw [hBf.out]; rfl, HMW.out.fr.trans hV⟩
    | true =>
    cases ri with
    | false =>
      have hBf : Hid (B = false) := Lib.hid (by rw [HM3.out]; simp)
      clear HM3
      refine wp_region_fr (by kernel_rfl) (by kernel_rfl) ?_
      repeat (go_big_quiet_step (first | (go_at_call 44; rename_i X; refine (HLI.out _ (by have h : Il X.val (.slice pp its.length cc) its := HMW.out.il.fr X.fr (fun _ e => e.elim); rw [HNN.out] at h; exact h)).mono ?_; rintro e w2 ⟨rfl, hf⟩; exact ⟨rfl, ⟨w2, X.fr.trans hf⟩, rfl⟩) | (go_at_call 42; rename_i X; refine (hK.out X _ _ _).mono ?_; rintro e w2 ⟨rfl, rfl⟩; first | exact ⟨congrArg (fun b => Ending.returned (.bool b)) HRO.out, X, rfl⟩ | exact ⟨congrArg (fun b => Ending.returned (.bool b)) HRI.out, X, rfl⟩)))
      refine wpQuiet_nil ?_
      rintro _ ⟨⟨V, hV⟩, rfl⟩
      go_wp2_with fail
      go_ret
      exact ⟨by rw [hBf.out]; rfl, HMW.out.fr.trans hV⟩
    | true =>
    refine wp_region_fr (by kernel_rfl) (by kernel_rfl) ?_
    repeat (go_big_quiet_step (first | (go_at_call 44; rename_i X; refine (HLI.out _ (by have h : Il X.val (.slice pp its.length cc) its := HMW.out.il.fr X.fr (fun _ e => e.elim); rw [HNN.out] at h; exact h)).mono ?_; rintro e w2 ⟨rfl, hf⟩; exact ⟨rfl, ⟨w2, X.fr.trans hf⟩, rfl⟩) | (go_at_call 42; rename_i X; refine (hK.out X _ _ _).mono ?_; rintro e w2 ⟨rfl, rfl⟩; first | exact ⟨congrArg (fun b => Ending.returned (.bool b)) HRO.out, X, rfl⟩ | exact ⟨congrArg (fun b => Ending.returned (.bool b)) HRI.out, X, rfl⟩)))
    refine wpQuiet_nil ?_
    rintro _ ⟨⟨V, hV⟩, rfl⟩
    have HM2 := Lib.hid (HMW.out.keep hV)
    clear hK p1 p2 pF hbx hV x0
    go_upto_region 7 with (fail)
    have hbx := HM2.out.bx
    unfold MV.cs at hbx
    dsimp only at hbx
    rw [HNN.out, HMM.out] at hbx
    have p3 := FrW.cell (cell_obj hbx 3 (.int .i64 c) rfl)
    have p4 := FrW.cell (cell_obj hbx 4 (.int .i64 n) rfl)
    have p5 := FrW.cell (cell_obj hbx 5 (.int .i64 k) rfl)
    have p6 := FrW.cell (cell_obj hbx 6 (.int .i64 o) rfl)
    have p7 := FrW.cell (cell_obj hbx 7 (.int .i64 r) rfl)
    have p8 := FrW.cell (cell_obj hbx 8 (.int .i64 t) rfl)
    have p9 := FrW.cell (cell_obj hbx 9 (.int .i64 mm) rfl)
    have p10 := FrW.cell (cell_obj hbx 10 (vS g) rfl)
    have p11 := FrW.cell (cell_obj hbx 11 (.slice pa M ca) rfl)
    have p12 := FrW.cell (cell_obj hbx 12 (.int .i64 yc) rfl)
    have p13 := FrW.cell (cell_obj hbx 13 (.int .i64 yn) rfl)
    have p14 := FrW.cell (cell_obj hbx 14 (.int .i64 ycd) rfl)
    have p15 := FrW.cell (cell_obj hbx 15 (.int .i64 ym) rfl)
    have pF := FrW.cell (cell_obj HM2.out.fb 0 (vS F) rfl)
    have hK := Lib.hid (fun X c a b => mRight (FrW.val X) (w.heap.size + 1) F c a b (pF X))
    have hey := HEY.out
    rw [HMM.out] at HMA HSA
    cases ra with
    | false =>
      have hBf : Hid (B = false) := Lib.hid (by rw [HM3.out]; simp)
      clear HM3
      refine wp_region_fr (by kernel_rfl) (by kernel_rfl) ?_
      repeat (go_big_quiet_step (first | (go_at_call 45; rename_i X; refine (HMA.out _ (by have h : Il X.val (.slice pa ai.length ca) ai := HM2.out.ia.fr X.fr (fun _ e => e.elim); rw [HMM.out] at h; exact h)).mono ?_; rintro e w2 ⟨rfl, hf⟩; exact ⟨rfl, ⟨w2, X.fr.trans hf⟩, rfl⟩) | (go_at_call 46; rename_i X; refine (HSA.out _ (by have h : Il X.val (.slice pa ai.length ca) ai := HM2.out.ia.fr X.fr (fun _ e => e.elim); rw [HMM.out] at h; exact h)).mono ?_; rintro e w2 ⟨rfl, hf⟩; exact ⟨rfl, ⟨w2, X.fr.trans hf⟩, rfl⟩) | (go_at_call 47; rename_i X; refine (HMY.out _).mono ?_; rintro e w2 ⟨rfl, hf⟩; exact ⟨rfl, ⟨w2, X.fr.trans hf⟩, rfl⟩) | (go_at_call 42; rename_i X; refine (hK.out X _ _ _).mono ?_; rintro e w2 ⟨rfl, rfl⟩; first | exact ⟨congrArg (fun b => Ending.returned (.bool b)) HRA.out, X, rfl⟩ | exact ⟨congrArg (fun b => Ending.returned (.bool b)) HRY.out, X, rfl⟩)))
      refine wpQuiet_nil ?_
      rintro _ ⟨⟨V2, hV2⟩, rfl⟩
      go_wp2_with fail
      go_ret
      exact ⟨by rw [hBf.out]; rfl, HM2.out.fr.trans hV2⟩
    | true =>
      have hBf : Hid (B = ry) := Lib.hid (by rw [HM3.out]; simp)
      clear HM3
      refine wp_region_fr (by kernel_rfl) (by kernel_rfl) ?_
      repeat (go_big_quiet_step (first | (go_at_call 45; rename_i X; refine (HMA.out _ (by have h : Il X.val (.slice pa ai.length ca) ai := HM2.out.ia.fr X.fr (fun _ e => e.elim); rw [HMM.out] at h; exact h)).mono ?_; rintro e w2 ⟨rfl, hf⟩; exact ⟨rfl, ⟨w2, X.fr.trans hf⟩, rfl⟩) | (go_at_call 46; rename_i X; refine (HSA.out _ (by have h : Il X.val (.slice pa ai.length ca) ai := HM2.out.ia.fr X.fr (fun _ e => e.elim); rw [HMM.out] at h; exact h)).mono ?_; rintro e w2 ⟨rfl, hf⟩; exact ⟨rfl, ⟨w2, X.fr.trans hf⟩, rfl⟩) | (go_at_call 47; rename_i X; refine (HMY.out _).mono ?_; rintro e w2 ⟨rfl, hf⟩; exact ⟨rfl, ⟨w2, X.fr.trans hf⟩, rfl⟩) | (go_at_call 42; rename_i X; refine (hK.out X _ _ _).mono ?_; rintro e w2 ⟨rfl, rfl⟩; first | exact ⟨congrArg (fun b => Ending.returned (.bool b)) HRA.out, X, rfl⟩ | exact ⟨congrArg (fun b => Ending.returned (.bool b)) HRY.out, X, rfl⟩)))
      refine wpQuiet_nil ?_
      rintro _ ⟨⟨V2, hV2⟩, rfl⟩
      go_wp2_with fail
      go_ret
      exact ⟨by (rw [hBf.out] <;> first | rfl | simp), HM2.out.fr.trans hV2⟩
  · have e3 : (od == 0) = false := by simp; omega
    rw [decide_eq_true q, decide_eq_false q', e3] at hro
    rw [Bool.true_and] at hro
    have HRO := Lib.hid hro
    clear hro hcut
    cases ro with
    | false =>
      have hBf : Hid (B = false) := Lib.hid (by rw [HM3.out]; simp)
      clear HM3
      refine wp_region_fr (by kernel_rfl) (by kernel_rfl) ?_
      repeat (go_big_quiet_step (first | (go_at_call 44; rename_i X; refine (HLI.out _ (by have h : Il X.val (.slice pp its.length cc) its := HMW.out.il.fr X.fr (fun _ e => e.elim); rw [HNN.out] at h; exact h)).mono ?_; rintro e w2 ⟨rfl, hf⟩; exact ⟨rfl, ⟨w2, X.fr.trans hf⟩, rfl⟩) | (go_at_call 42; rename_i X; refine (hK.out X _ _ _).mono ?_; rintro e w2 ⟨rfl, rfl⟩; first | exact ⟨congrArg (fun b => Ending.returned (.bool b)) HRO.out, X, rfl⟩)))
      refine wpQuiet_nil ?_
      rintro _ ⟨⟨V, hV⟩, rfl⟩
      go_wp2_with fail
      go_ret
      exact ⟨by rw [hBf.out]; rfl, HMW.out.fr.trans hV⟩
    | true =>
    cases ri with
    | false =>
      have hBf : Hid (B = false) := Lib.hid (by rw [HM3.out]; simp)
      clear HM3
      refine wp_region_fr (by kernel_rfl) (by kernel_rfl) ?_
      repeat (go_big_quiet_step (first | (go_at_call 44; rename_i X; refine (HLI.out _ (by have h : Il X.val (.slice pp its.length cc) its := HMW.out.il.fr X.fr (fun _ e => e.elim); rw [HNN.out] at h; exact h)).mono ?_; rintro e w2 ⟨rfl, hf⟩; exact ⟨rfl, ⟨w2, X.fr.trans hf⟩, rfl⟩) | (go_at_call 42; rename_i X; refine (hK.out X _ _ _).mono ?_; rintro e w2 ⟨rfl, rfl⟩; first | exact ⟨congrArg (fun b => Ending.returned (.bool b)) HRO.out, X, rfl⟩ | exact ⟨congrArg (fun b => Ending.returned (.bool b)) HRI.out, X, rfl⟩)))
      refine wpQuiet_nil ?_
      rintro _ ⟨⟨V, hV⟩, rfl⟩
      go_wp2_with fail
      go_ret
      exact ⟨by rw [hBf.out]; rfl, HMW.out.fr.trans hV⟩
    | true =>
    refine wp_region_fr (by kernel_rfl) (by kernel_rfl) ?_
    repeat (go_big_quiet_step (first | (go_at_call 44; rename_i X; refine (HLI.out _ (by have h : Il X.val (.slice pp its.length cc) its := HMW.out.il.fr X.fr (fun _ e => e.elim); rw [HNN.out] at h; exact h)).mono ?_; rintro e w2 ⟨rfl, hf⟩; exact ⟨rfl, ⟨w2, X.fr.trans hf⟩, rfl⟩) | (go_at_call 42; rename_i X; refine (hK.out X _ _ _).mono ?_; rintro e w2 ⟨rfl, rfl⟩; first | exact ⟨congrArg (fun b => Ending.returned (.bool b)) HRO.out, X, rfl⟩ | exact ⟨congrArg (fun b => Ending.returned (.bool b)) HRI.out, X, rfl⟩)))
    refine wpQuiet_nil ?_
    rintro _ ⟨⟨V, hV⟩, rfl⟩
    have HM2 := Lib.hid (HMW.out.keep hV)
    clear hK p1 p2 pF hbx hV x0
    go_upto_region 7 with (fail)
    have hbx := HM2.out.bx
    unfold MV.cs at hbx
    dsimp only at hbx
    rw [HNN.out, HMM.out] at hbx
    have p3 := FrW.cell (cell_obj hbx 3 (.int .i64 c) rfl)
    have p4 := FrW.cell (cell_obj hbx 4 (.int .i64 n) rfl)
    have p5 := FrW.cell (cell_obj hbx 5 (.int .i64 k) rfl)
    have p6 := FrW.cell (cell_obj hbx 6 (.int .i64 o) rfl)
    have p7 := FrW.cell (cell_obj hbx 7 (.int .i64 r) rfl)
    have p8 := FrW.cell (cell_obj hbx 8 (.int .i64 t) rfl)
    have p9 := FrW.cell (cell_obj hbx 9 (.int .i64 mm) rfl)
    have p10 := FrW.cell (cell_obj hbx 10 (vS g) rfl)
    have p11 := FrW.cell (cell_obj hbx 11 (.slice pa M ca) rfl)
    have p12 := FrW.cell (cell_obj hbx 12 (.int .i64 yc) rfl)
    have p13 := FrW.cell (cell_obj hbx 13 (.int .i64 yn) rfl)
    have p14 := FrW.cell (cell_obj hbx 14 (.int .i64 ycd) rfl)
    have p15 := FrW.cell (cell_obj hbx 15 (.int .i64 ym) rfl)
    have pF := FrW.cell (cell_obj HM2.out.fb 0 (vS F) rfl)
    have hK := Lib.hid (fun X c a b => mRight (FrW.val X) (w.heap.size + 1) F c a b (pF X))
    have hey := HEY.out
    rw [HMM.out] at HMA HSA
    cases ra with
    | false =>
      have hBf : Hid (B = false) := Lib.hid (by rw [HM3.out]; simp)
      clear HM3
      refine wp_region_fr (by kernel_rfl) (by kernel_rfl) ?_
      repeat (go_big_quiet_step (first | (go_at_call 45; rename_i X; refine (HMA.out _ (by have h : Il X.val (.slice pa ai.length ca) ai := HM2.out.ia.fr X.fr (fun _ e => e.elim); rw [HMM.out] at h; exact h)).mono ?_; rintro e w2 ⟨rfl, hf⟩; exact ⟨rfl, ⟨w2, X.fr.trans hf⟩, rfl⟩) | (go_at_call 46; rename_i X; refine (HSA.out _ (by have h : Il X.val (.slice pa ai.length ca) ai := HM2.out.ia.fr X.fr (fun _ e => e.elim); rw [HMM.out] at h; exact h)).mono ?_; rintro e w2 ⟨rfl, hf⟩; exact ⟨rfl, ⟨w2, X.fr.trans hf⟩, rfl⟩) | (go_at_call 47; rename_i X; refine (HMY.out _).mono ?_; rintro e w2 ⟨rfl, hf⟩; exact ⟨rfl, ⟨w2, X.fr.trans hf⟩, rfl⟩) | (go_at_call 42; rename_i X; refine (hK.out X _ _ _).mono ?_; rintro e w2 ⟨rfl, rfl⟩; first | exact ⟨congrArg (fun b => Ending.returned (.bool b)) HRA.out, X, rfl⟩ | exact ⟨congrArg (fun b => Ending.returned (.bool b)) HRY.out, X, rfl⟩)))
      refine wpQuiet_nil ?_
      rintro _ ⟨⟨V2, hV2⟩, rfl⟩
      go_wp2_with fail
      go_ret
      exact ⟨by rw [hBf.out]; rfl, HM2.out.fr.trans hV2⟩
    | true =>
      have hBf : Hid (B = ry) := Lib.hid (by rw [HM3.out]; simp)
      clear HM3
      refine wp_region_fr (by kernel_rfl) (by kernel_rfl) ?_
      repeat (go_big_quiet_step (first | (go_at_call 45; rename_i X; refine (HMA.out _ (by have h : Il X.val (.slice pa ai.length ca) ai := HM2.out.ia.fr X.fr (fun _ e => e.elim); rw [HMM.out] at h; exact h)).mono ?_; rintro e w2 ⟨rfl, hf⟩; exact ⟨rfl, ⟨w2, X.fr.trans hf⟩, rfl⟩) | (go_at_call 46; rename_i X; refine (HSA.out _ (by have h : Il X.val (.slice pa ai.length ca) ai := HM2.out.ia.fr X.fr (fun _ e => e.elim); rw [HMM.out] at h; exact h)).mono ?_; rintro e w2 ⟨rfl, hf⟩; exact ⟨rfl, ⟨w2, X.fr.trans hf⟩, rfl⟩) | (go_at_call 47; rename_i X; refine (HMY.out _).mono ?_; rintro e w2 ⟨rfl, hf⟩; exact ⟨rfl, ⟨w2, X.fr.trans hf⟩, rfl⟩) | (go_at_call 42; rename_i X; refine (hK.out X _ _ _).mono ?_; rintro e w2 ⟨rfl, rfl⟩; first | exact ⟨congrArg (fun b => Ending.returned (.bool b)) HRA.out, X, rfl⟩ | exact ⟨congrArg (fun b => Ending.returned (.bool b)) HRY.out, X, rfl⟩)))
      refine wpQuiet_nil ?_
      rintro _ ⟨⟨V2, hV2⟩, rfl⟩
      go_wp2_with fail
      go_ret
      exact ⟨by (rw [hBf.out] <;> first | rfl | simp), HM2.out.fr.trans hV2⟩
end Go.Proofs.YtmflpeklalgibaaGreat

namespace Go.Proofs.YtmflpeklalgibaaGreat
open Go.RowKit Go.Maps
/-- What Go answers, and the moves behind it. -/
def goF (ws : List (Int × WE)) (mv fr tt : Int) (L : Its) : Int × List (Int × WE) :=
  if mv < 1 ∨ 1099511627776 < mv ∨ isR fr = false ∨ isR tt = false ∨ fr = tt then (1, ws)
  else if mayL L = false ∨ L = [] then (60, ws)
  else if (getS ws mv).isSome = true then (5, ws)
  else if 256 ≤ ws.length then (2, ws)
  else (0, putS ktI.lt ws mv ⟨mv, fr, tt, L, false⟩)
theorem goF_no {ws : List (Int × WE)} {mv fr tt : Int} {L : Its} (h : (goF ws mv fr tt L).1 ≠ 0) : (goF ws mv fr tt L).2 = ws := by
  unfold goF at h ⊢
  split <;> (try rfl)
  split <;> (try rfl)
  split <;> (try rfl)
  split <;> (try rfl)
  rename_i h1 h2 h3 h4
  rw [if_neg h1, if_neg h2, if_neg h3, if_neg h4] at h
  exact absurd rfl h
end Go.Proofs.YtmflpeklalgibaaGreat

namespace Go.Proofs.YtmflpeklalgibaaGreat
open Go.RowKit Go.Maps
def niv : Value := .slice none 0 0
/-- Mail, wherever its lists lie. -/
def MV.nf (m : MV) : MV := { m with l := niv, a := { m.a with l := niv } }
def goodsM (o : Int) (L : Its) : MV := ⟨13, o, niv, L, av0, yv0⟩
def doneM (y : YV) : MV := ⟨12, 0, niv, [], av0, y⟩
def newsM : MV := ⟨14, 0, niv, [], av0, yv0⟩
def backM (k o : Int) (L : Its) : MV := ⟨ansF k, o, niv, L, av0, yv0⟩
/-- What is posted: to whom, which mail. -/
abbrev PEs := List (Int × MV)
/-- What a region says: its stock, its holds, its moves, what is stuck. -/
structure RSt where
  A : Stk
  le : Hes
  ws : List (Int × WE)
  S : List Its
def sendR (me : Int) (x : RSt) (a : AV) : (PEs × Int) × RSt :=
  if (goF x.ws (64 * a.n + a.c) me a.t a.its).1 ≠ 0 then (([], (goF x.ws (64 * a.n + a.c) me a.t a.its).1), x)
  else if (doH x.A 10 a.its).1 ≠ 0 then (([], (doH x.A 10 a.its).1), x)
  else (([(a.t, goodsM (64 * a.n + a.c) a.its)], 0), { x with A := (doH x.A 10 a.its).2, ws := (goF x.ws (64 * a.n + a.c) me a.t a.its).2 })
def doR (me : Int) (x : RSt) (a : AV) (fr : Int) : PEs × RSt :=
  if (kindF a.k).2 = true then ([(fr, doneM ⟨a.c, a.n, (doH x.A (kindF a.k).1 a.its).1, 0⟩)], { x with A := (doH x.A (kindF a.k).1 a.its).2 })
  else if a.k = 7 then ([(fr, doneM ⟨a.c, a.n, (countS x.A a.g a.m).2.1, (countS x.A a.g a.m).1⟩)], { x with A := (countS x.A a.g a.m).2.2 })
  else if a.k = 10 then ((sendR me x a).1.1 ++ [(fr, doneM ⟨a.c, a.n, (sendR me x a).1.2, 0⟩)], (sendR me x a).2)
  else ([(fr, doneM ⟨a.c, a.n, 1, 0⟩)], x)
def newsR (n : Int) (b c : Its) : PEs := if moreF b c = true then (List.range n.toNat).map (fun (i : Nat) => ((i : Int), newsM)) else []
def awayR (x : RSt) : RSt := { x with A := (awayF x.A x.S).1, S := (awayF x.A x.S).2 }
/-- What a region posts for mail, and what it is behind it. -/
def mailR (me n : Int) (x : RSt) (m : MV) (fr : Int) : PEs × RSt :=
  if ¬ (m.may = true ∧ 0 ≤ fr ∧ fr < n) then ([], x)
  else if m.kd = 3 then ([(fr, backM 3 m.od (takeE x.A x.le m.od m.its).1.1)], { x with A := (takeE x.A x.le m.od m.its).2.1, le := (takeE x.A x.le m.od m.its).2.2 })
  else if m.kd = 5 then ([(fr, backM 5 m.od [])], { x with A := (freeE x.A x.le m.od).2.1, le := (freeE x.A x.le m.od).2.2 })
  else if m.kd = 7 then ([(fr, backM 7 m.od (pickE x.A x.le m.od).1.1)], { x with A := (pickE x.A x.le m.od).2.1, le := (pickE x.A x.le m.od).2.2 })
  else if m.kd = 9 then ([(fr, backM 9 m.od (shipE x.A x.le m.od).1.1)], { x with A := (shipE x.A x.le m.od).2.1, le := (shipE x.A x.le m.od).2.2 })
  else if m.kd = 11 then ((doR me x m.a fr).1 ++ newsR n (freeF x.A) (freeF (awayR (doR me x m.a fr).2).A), awayR (doR me x m.a fr).2)
  else if m.kd = 13 then (newsR n (freeF x.A) (freeF (awayR { x with S := x.S ++ [m.its] }).A), awayR { x with S := x.S ++ [m.its] })
  else ([], x)
/-- A region that may be. -/
structure ROk (x : RSt) : Prop where
  sh : ShOk x.A x.le
  ws : x.ws.length ≤ 256
end Go.Proofs.YtmflpeklalgibaaGreat

