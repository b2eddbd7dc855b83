/- Texts of this claim, joined: hold: a shelf of the law's own, beside lists that are kept (written by wip/tools/bkC8.py); hold, plainly: what was taken for a new order, picked, put back and freed leaves all as it was. -/
import Derived.Test.YtogphlnakdnchaaGreatHoldBackM14
import Derived.Test.YtogphlnakdnchaaGreatHoldBackM13
import Derived.Test.YtogphlnakdnchaaGreatHoldBackM9
namespace Go.Proofs.YtogphlnakdnchaaGreat
open Go.RowKit Go.Maps
/-- A shelf of the law's own, and lists that are kept. -/
structure LvB (w W : World) (g : Nat) (A : Stk) (le : Hes) (Ls : List (Value × Its)) : Prop where
  ex : ∃ TS, SHE W g TS A le ∧ (∀ b, TS b → w.heap.size ≤ b) ∧ ∀ p ∈ Ls, ∀ b, p.1.ownBlock = some b → ¬ TS b ∧ b < W.heap.size
  il : ∀ p ∈ Ls, Il W p.1 p.2
  ok : ShOk A le
  fr : Fr (fun _ => False) w W
section
variable {w W W' : World} {g gx k n1 : Nat} {A A' : Stk} {le le' : Hes} {ob : Option Obj} {u : Value} {M : Its} {o : Int} {Ls : List (Value × Its)}
theorem Tw.lvb (h : Tw w W g gx A le k n1 ob u M) : LvB w W g A le [] := by
  obtain ⟨⟨TS, TX, h1, h2, h3, h4, h5, h6, h7⟩, q1, q2, q3, q4, q5⟩ := h
  exact ⟨⟨TS, h1, h3, fun p hp => by cases hp⟩, fun p hp => (by cases hp), q1, q2⟩
theorem LvB.keep (h : LvB w W g A le Ls) (hf : Fr (fun _ => False) W W') : LvB w W' g A le Ls := by
  obtain ⟨⟨TS, h1, h2, h3⟩, h4, h5, h6⟩ := h
  exact ⟨⟨TS, h1.keep hf (fun _ _ e => e), h2, fun p hp b hb => ⟨(h3 p hp b hb).1, Nat.lt_of_lt_of_le (h3 p hp b hb).2 hf.size⟩⟩, fun p hp => (h4 p hp).keep hf (fun _ _ _ e => e), h5, h6.trans hf⟩
theorem LvB.ans (h : LvB w W g A le Ls) {TS : Nat → Prop} (h1 : SHE W g TS A le) (h2 : ∀ b, TS b → w.heap.size ≤ b) (h3 : ∀ p ∈ Ls, ∀ b, p.1.ownBlock = some b → ¬ TS b ∧ b < W.heap.size) {R : (Its × Int) × Stk × Hes} (hR : ShOk R.2.1 R.2.2) {e : Ending} (q : Ans W g TS R e W') :
    ∃ v', e = .returned (.tuple #[v', .int .i64 R.1.2]) ∧ LvB w W' g R.2.1 R.2.2 ((v', R.1.1) :: Ls) := by
  obtain ⟨v', TS', rfl, q1, q2, q3, q4⟩ := q
  have s1 := h.fr.size
  have s2 := q4.1.size
  refine ⟨v', rfl, ⟨TS', q1, fun b hb => (q4.2 b hb).elim (h2 b) (fun e => Nat.le_trans s1 e), fun p hp b hb => ?_⟩, fun p hp => ?_, hR, h.fr.trans' q4.1 (fun b hl e => by have := h2 b e; omega)⟩
  · rcases List.mem_cons.1 hp with rfl | hp
    · exact ⟨(q3 b hb).2.2, (q3 b hb).2.1⟩
    · have := h3 p hp b hb
      exact ⟨fun e => (q4.2 b e).elim this.1 (fun e => by omega), by omega⟩
  · rcases List.mem_cons.1 hp with rfl | hp
    · exact q2
    · exact (h.il p hp).keep q4.1 (fun _ b hb => (h3 p hp b hb).1)
/-- The string that a shelf packs to. -/
def packHStr (A : Stk) (le : Hes) : ByteArray := strOfNums (packH A le)
theorem LvB.pack (h : LvB w W g A le Ls) : Calls Tryz.prog 17 #[.pointer (some ⟨g, 0, none⟩)] W fun e w' => ∃ v, e = .returned v ∧ (convert 48 9 v).run Tryz.prog w' = .ok (.string (packHStr A le)) w' ∧ LvB w w' g A le Ls := by
  obtain ⟨TS, h1, h2, h3⟩ := h.ex
  refine (ePack h1 h.ok).mono ?_
  rintro e w' ⟨v, rfl, hb, -, hf⟩
  exact ⟨v, rfl, hb.string, h.keep hf⟩
theorem LvB.hold (h : LvB w W g A le Ls) (ho : okI o) : Calls Tryz.prog 15 #[.pointer (some ⟨g, 0, none⟩), .int .i64 o] W fun e w' => ∃ v, e = .returned v ∧ Hd w' W.heap.size v (heOf le o) ∧ LvB w w' g A le Ls := by
  obtain ⟨TS, h1, h2, h3⟩ := h.ex
  refine (eHold o h1 h.ok ho).mono ?_
  rintro e w' ⟨v, rfl, hb, hf⟩
  exact ⟨v, rfl, hb, h.keep hf⟩
theorem LvB.take {v : Value} {L : Its} {L' : Its} {c : Int} (h : LvB w W g A le Ls) (ho : okI o) (hv : Il W v L) (hk : ShOk A' le') (e : takeE A le o L = ((L', c), A', le')) : Calls Tryz.prog 8 #[.pointer (some ⟨g, 0, none⟩), .int .i64 o, v] W fun e w' => ∃ v', e = .returned (.tuple #[v', .int .i64 c]) ∧ LvB w w' g A' le' ((v', L') :: Ls) := by
  obtain ⟨TS, h1, h2, h3⟩ := h.ex
  refine (eTake o v L h1 h.ok ho hv).mono ?_
  intro e2 w' q
  rw [e] at q
  exact h.ans h1 h2 h3 hk q
theorem LvB.free {L' : Its} {c : Int} (h : LvB w W g A le Ls) (ho : okI o) (hk : ShOk A' le') (e : freeE A le o = ((L', c), A', le')) : Calls Tryz.prog 10 #[.pointer (some ⟨g, 0, none⟩), .int .i64 o] W fun e w' => ∃ v', e = .returned (.tuple #[v', .int .i64 c]) ∧ LvB w w' g A' le' ((v', L') :: Ls) := by
  obtain ⟨TS, h1, h2, h3⟩ := h.ex
  refine (eFree o h1 h.ok ho).mono ?_
  intro e2 w' q
  rw [e] at q
  exact h.ans h1 h2 h3 hk q
theorem LvB.pick {L' : Its} {c : Int} (h : LvB w W g A le Ls) (ho : okI o) (hk : ShOk A' le') (e : pickE A le o = ((L', c), A', le')) : Calls Tryz.prog 11 #[.pointer (some ⟨g, 0, none⟩), .int .i64 o] W fun e w' => ∃ v', e = .returned (.tuple #[v', .int .i64 c]) ∧ LvB w w' g A' le' ((v', L') :: Ls) := by
  obtain ⟨TS, h1, h2, h3⟩ := h.ex
  refine (ePick o h1 h.ok ho).mono ?_
  intro e2 w' q
  rw [e] at q
  exact h.ans h1 h2 h3 hk q
theorem LvB.unpick {L' : Its} {c : Int} (h : LvB w W g A le Ls) (ho : okI o) (hk : ShOk A' le') (e : unpickE A le o = ((L', c), A', le')) : Calls Tryz.prog 12 #[.pointer (some ⟨g, 0, none⟩), .int .i64 o] W fun e w' => ∃ v', e = .returned (.tuple #[v', .int .i64 c]) ∧ LvB w w' g A' le' ((v', L') :: Ls) := by
  obtain ⟨TS, h1, h2, h3⟩ := h.ex
  refine (eUnpick o h1 h.ok ho).mono ?_
  intro e2 w' q
  rw [e] at q
  exact h.ans h1 h2 h3 hk q
end
end Go.Proofs.YtogphlnakdnchaaGreat

namespace Go.Proofs.YtogphlnakdnchaaGreat
open Go.RowKit Go.Maps
section
variable {ν : Type}
theorem delS_ins (k : Int) (v : ν) : ∀ l : List (Int × ν), delS (insS ktI.lt (k, v) l) k = delS l k
  | [] => by simp [insS, delS]
  | y :: r => by
    show delS (if ktI.lt k y.1 = true then (k, v) :: y :: r else y :: insS ktI.lt (k, v) r) k = _
    split
    · simp [delS]
    · have ih := delS_ins k v r
      unfold delS at ih ⊢
      rw [List.filter_cons, List.filter_cons, ih]
theorem delS_del (k : Int) (l : List (Int × ν)) : delS (delS l k) k = delS l k := by
  unfold delS
  rw [List.filter_filter]
  congr 1
  funext a
  simp
theorem delS_put (k : Int) (v : ν) (l : List (Int × ν)) : delS (putS ktI.lt l k v) k = delS l k := by
  unfold putS
  rw [delS_ins, delS_del]
theorem putS_put (k : Int) (v v' : ν) (l : List (Int × ν)) : putS ktI.lt (putS ktI.lt l k v) k v' = putS ktI.lt l k v' := by
  show insS ktI.lt (k, v') (delS (putS ktI.lt l k v) k) = insS ktI.lt (k, v') (delS l k)
  rw [delS_put]
theorem delS_none (k : Int) : ∀ l : List (Int × ν), getS l k = none → delS l k = l
  | [], _ => rfl
  | y :: r, h => by
    unfold getS at h
    split at h
    · cases h
    · rename_i e
      have ih := delS_none k r h
      unfold delS at ih ⊢
      rw [List.filter_cons, if_pos (by simpa using e), ih]
end
theorem setE_pos {le : Hes} {x : HE} (h : x.num ≠ 0) : setE le x = putS ktI.lt le x.o x := by unfold setE; rw [if_neg h]
theorem move_yes {A B : Stk} {le : Hes} {o k : Int} {i j : Nat} {F G r : Its} (ho : ¬ mayO o ≠ 0) (hi : (heOf le o).get i = F) (hne : F ≠ []) (hj : (heOf le o).get j = G) (hp : plusF G F = (r, 0)) (hd : doS A k F = (0, B)) :
    moveS A le o k i (some j) = ((F, 0), B, setE le (((heOf le o).set i []).set j r)) := by
  unfold moveS
  rw [if_neg ho, if_neg (by rw [hi]; exact hne)]
  dsimp only
  rw [if_neg (by rw [hj, hi, hp]; simp), if_neg (by rw [hi, hd]; simp), hi, hj, hp, hd]
theorem move_yes0 {A B : Stk} {le : Hes} {o k : Int} {i : Nat} {F : Its} (ho : ¬ mayO o ≠ 0) (hi : (heOf le o).get i = F) (hne : F ≠ []) (hd : doS A k F = (0, B)) :
    moveS A le o k i none = ((F, 0), B, setE le ((heOf le o).set i [])) := by
  unfold moveS
  rw [if_neg ho, if_neg (by rw [hi]; exact hne)]
  dsimp only
  rw [if_neg (by rw [hi, hd]; simp), hi, hd]
theorem back_plain {A A1 : Stk} {le le1 : Hes} {o c : Int} {want L : Its} (h : ShOk A le) (h0 : (heOf le o).num = 0) (e : takeE A le o want = ((L, c), A1, le1)) :
    ((c ≠ 0 ∨ L = []) → A1 = A ∧ le1 = le) ∧ (c = 0 → L ≠ [] → ShOk A1 le1 ∧ ∃ A2 le2, pickE A1 le1 o = ((L, 0), A2, le2) ∧ ShOk A2 le2 ∧ freeE A2 le2 o = (([], 80), A2, le2) ∧ unpickE A2 le2 o = ((L, 0), A1, le1) ∧ freeE A1 le1 o = ((L, 0), A, le)) := by
  have hok1 : ShOk A1 le1 := by have := (take_ok (o := o) (L := want) h).1.sh; rw [e] at this; exact this
  have hz : ∀ c' : Int, (([], c'), A, le) = ((L, c), A1, le1) → ((c ≠ 0 ∨ L = []) → A1 = A ∧ le1 = le) ∧ (c = 0 → L ≠ [] → ShOk A1 le1 ∧ ∃ A2 le2, pickE A1 le1 o = ((L, 0), A2, le2) ∧ ShOk A2 le2 ∧ freeE A2 le2 o = (([], 80), A2, le2) ∧ unpickE A2 le2 o = ((L, 0), A1, le1) ∧ freeE A1 le1 o = ((L, 0), A, le)) := fun c' e => by
    simp only [Prod.mk.injEq] at e
    obtain ⟨⟨rfl, rfl⟩, rfl, rfl⟩ := e
    exact ⟨fun _ => ⟨rfl, rfl⟩, fun _ h => absurd rfl h⟩
  unfold takeE at e
  split at e
  · exact hz _ e
  rename_i ho
  split at e
  · exact hz _ e
  split at e
  · exact hz _ e
  split at e
  · exact hz _ e
  rename_i hne
  split at e
  · exact hz _ e
  split at e
  · exact hz _ e
  rename_i hp
  split at e
  · exact hz _ e
  rename_i hd
  have hoo := heOf_o' h o
  have he0 : heOf le o = ⟨o, [], [], []⟩ := by have := HE.empty h0; rw [hoo] at this; exact this
  have hgn : getS le o = none := by
    cases hg : getS le o with
    | none => rfl
    | some x =>
      have hr := (h.row _ (getK_mem hg)).num
      have : heOf le o = x := by unfold heOf; rw [hg]; rfl
      rw [this] at h0
      exact absurd h0 hr
  rw [he0] at e hp
  obtain ⟨F, hF⟩ : ∃ F, offerS A want = F := ⟨_, rfl⟩
  rw [hF] at e hp hd hne
  obtain ⟨B, hB⟩ : ∃ B, doS A 2 F = (0, B) := ⟨_, Prod.ext (by simpa using hd) rfl⟩
  have hmF : mayL F = true := (doS_yes h.stk hB).2.2.1
  have hpl := plusF_nil hmF
  dsimp only at e hp
  rw [hB, hpl] at e
  simp only [Prod.mk.injEq] at e
  obtain ⟨⟨rfl, rfl⟩, rfl, rfl⟩ := e
  obtain ⟨C, c4, c5, c3⟩ := back_S h.stk hB
  have hFn : F.length ≠ 0 := fun e => hne (List.length_eq_zero_iff.1 e)
  have n1 : (⟨o, F, [], []⟩ : HE).num ≠ 0 := by unfold HE.num; simpa using hFn
  have n2 : (⟨o, [], F, []⟩ : HE).num ≠ 0 := by unfold HE.num; simpa using hFn
  have g1 : heOf (setE le ⟨o, F, [], []⟩) o = ⟨o, F, [], []⟩ := by rw [heOf_set h.rise, if_pos rfl]
  have s12 : setE (setE le ⟨o, F, [], []⟩) ⟨o, [], F, []⟩ = setE le ⟨o, [], F, []⟩ := by rw [setE_pos n1, setE_pos n2, setE_pos n2]; exact putS_put _ _ _ _
  have s21 : setE (setE le ⟨o, [], F, []⟩) ⟨o, F, [], []⟩ = setE le ⟨o, F, [], []⟩ := by rw [setE_pos n2, setE_pos n1, setE_pos n1]; exact putS_put _ _ _ _
  have s10 : setE (setE le ⟨o, F, [], []⟩) ⟨o, [], [], []⟩ = le := by
    rw [setE_pos n1]
    show delS (putS ktI.lt le o _) o = le
    rw [delS_put, delS_none _ _ hgn]
  have g2 : heOf (setE le ⟨o, [], F, []⟩) o = ⟨o, [], F, []⟩ := by rw [heOf_set h.rise, if_pos rfl]
  refine ⟨fun hc => hc.elim (fun e => absurd rfl e) (fun e => absurd e hne), fun _ _ => ⟨hok1, C, setE le ⟨o, [], F, []⟩, ?_, ?_, ?_, ?_, ?_⟩⟩
  · show moveS B _ o 4 0 (some 1) = _
    rw [move_yes ho (congrArg (fun x => x.get 0) g1) hne (congrArg (fun x => x.get 1) g1) hpl c4, g1]
    show ((F, (0 : Int)), C, setE (setE le ⟨o, F, [], []⟩) ⟨o, [], F, []⟩) = _
    rw [s12]
  · have := (pickM_ok (o := o) hok1).1.sh
    rw [move_yes ho (congrArg (fun x => x.get 0) g1) hne (congrArg (fun x => x.get 1) g1) hpl c4, g1] at this
    have e3 : ShOk C (setE (setE le ⟨o, F, [], []⟩) ⟨o, [], F, []⟩) := this
    rw [s12] at e3
    exact e3
  · unfold freeE
    rw [if_neg ho, g2, if_pos (by show 0 < F.length; omega)]
  · show moveS C _ o 5 1 (some 0) = _
    rw [move_yes ho (congrArg (fun x => x.get 1) g2) hne (congrArg (fun x => x.get 0) g2) hpl c5, g2]
    show ((F, (0 : Int)), B, setE (setE le ⟨o, [], F, []⟩) ⟨o, F, [], []⟩) = _
    rw [s21]
  · unfold freeE
    rw [if_neg ho, if_neg (by rw [g1]; simp), move_yes0 ho (congrArg (fun x => x.get 0) g1) hne c3, g1]
    show ((F, (0 : Int)), A, setE (setE le ⟨o, F, [], []⟩) ⟨o, [], [], []⟩) = _
    rw [s10]
end Go.Proofs.YtogphlnakdnchaaGreat

