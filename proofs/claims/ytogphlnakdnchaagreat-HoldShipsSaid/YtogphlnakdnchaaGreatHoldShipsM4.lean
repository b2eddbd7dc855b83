/- Texts of this claim, joined: Goods' lengths, plainly; cells.Maker, as long as it is not too long; stock: Pack: what it packs, plainly; stock: Unpack: what any bytes are, plainly; stock: what is packed is unpacked, and the other way round: plainly; stock: what is unpacked was packed so: plainly; hold: Unpack, plainly; hold: put; Plain: the first place where a test holds; count: none, Add (slices.IndexFunc, ContainsFunc at numbers); A region that draws its order, whose operations only read and whose calls may lay blocks, within a round of a range over a function: one walk in the text's order serves (the library's theorem on quiet regions asks for no round); items: sums; slices.Grow, slices.Concat at items; The keys of map[string]int, in order; items: Norm, Plus; items: Plus; slices.Clone on items; stock: Offer. -/
import Derived.Test.YtogphlnakdnchaaGreatHoldShipsM1
import Derived.Test.YtogphlnakdnchaaGreatHoldShipsM3
import Derived.Test.YtogphlnakdnchaaGreatHoldShipsM2
import Derived.Shelf.Abstract
import Derived.Lib.Hide
import Derived.Deep.QuietTactic
import Derived.Sort.QuietIn
import Derived.Deep.LoopGhost
import Derived.Test.YtogphlnakdnchaaGreatShelfN
import Derived.Lib.SliceRun
import Derived.Handy
namespace Go.Proofs.YtogphlnakdnchaaGreat
open Go.RowKit Go.Maps
theorem goodB_len {s : Str} (h : goodB s = true) : s.length ≤ 16 := by
  unfold goodB at h
  simp at h
  omega
theorem textB_len {s : Str} (h : s.length ≤ 16) : (textB s).length ≤ 25 := by
  unfold textB
  rw [List.length_append, sB_len]
  have := (numB_len (n := (s.length : Int)) (by unfold okI; omega)).2
  omega
end Go.Proofs.YtogphlnakdnchaaGreat

namespace Go.Proofs.YtogphlnakdnchaaGreat
open Go.RowKit Go.Maps
theorem put_ok {bs c : List Int} (h : bs.length + c.length ≤ 262144) : putB bs false c = bs ++ c ∧ putL bs false c = false := by
  unfold putB putL
  have : ¬ 262144 < bs.length + c.length := by omega
  simp [this]
theorem MK.fa {B : Nat} {w w' : World} {g : Nat} {TS : Nat → Prop} {bs : List Int} {long : Bool} (h : MK w g TS bs long) (hf : Fa B w w') : MK w' g TS bs long := by
  obtain ⟨⟨v, h1, h2, h3⟩, h4, h5, h6⟩ := h
  exact ⟨⟨v, Fa.cells hf h1, Fa.row hf h2, h3⟩, h4, fun b hb => Nat.lt_of_lt_of_le (h5 b hb) hf.size, h6⟩
theorem mNum {w : World} {g : Nat} {TS : Nat → Prop} {bs : List Int} (n : Int) (h : MK w g TS bs false) (hn : okI n) (hl : bs.length ≤ 262100) :
    Calls Tryz.prog 51 #[.pointer (some ⟨g, 0, none⟩), .int .i64 n] w fun e w' => e = .returned (.pointer (some ⟨g, 0, none⟩)) ∧ ∃ TS', MK w' g TS' (bs ++ numB n) false ∧ Stp TS w w' TS' := by
  have hp := put_ok (bs := bs) (c := numB n) (by have := (numB_len hn).2; omega)
  have := cMNum w g TS bs false n h hn
  rw [hp.1, hp.2] at this
  exact this
theorem mText {w : World} {g : Nat} {TS : Nat → Prop} {bs : List Int} (s : Str) (h : MK w g TS bs false) (hs : s.length ≤ 16) (hl : bs.length ≤ 262100) :
    Calls Tryz.prog 49 #[.pointer (some ⟨g, 0, none⟩), vS s] w fun e w' => e = .returned (.pointer (some ⟨g, 0, none⟩)) ∧ ∃ TS', MK w' g TS' (bs ++ textB s) false ∧ Stp TS w w' TS' := by
  have hp := put_ok (bs := bs) (c := textB s) (by have := textB_len hs; omega)
  have := cMText w g TS bs false s h (by omega)
  rw [hp.1, hp.2] at this
  exact this
theorem xMN (w : World) : Calls Tryz.prog 48 #[] w fun e w' => ∃ gm TS, e = .returned (.pointer (some ⟨gm, 0, none⟩)) ∧ MK w' gm TS [] false ∧ (∀ b, TS b → w.heap.size ≤ b) ∧ Fr (fun _ => False) w w' := by
  refine (cMNew w).mono ?_
  rintro e w' ⟨rfl, h1, h2⟩
  exact ⟨_, _, rfl, h1, fun b hb => by omega, h2⟩
end Go.Proofs.YtogphlnakdnchaaGreat

namespace Go.Proofs.YtogphlnakdnchaaGreat
open Go.RowKit Go.Maps
def numsB (r : SR) (k : Nat) : List Int := (List.range k).flatMap fun j => numB (r.get j)
def rowB (p : Str × SR) : List Int := textB p.1 ++ numsB p.2 11
def packS (A : Stk) : List Int := numB (A.length : Int) ++ A.flatMap rowB
theorem numsB_succ (r : SR) (k : Nat) : numsB r (k + 1) = numsB r k ++ numB (r.get k) := by simp [numsB, List.range_succ]
theorem SRok.get {r : SR} (h : SRok r) (j : Nat) : okI (r.get j) := by
  have hc := h.counted
  obtain ⟨⟨a0, a1, a2, a3, b0, b1, b2, b3, b4, b5⟩, -, -⟩ := h
  unfold okI SR.get
  split <;> omega
theorem numsB_len {r : SR} (h : SRok r) (k : Nat) : (numsB r k).length ≤ 9 * k := by
  induction k with
  | zero => simp [numsB]
  | succ k ih =>
    rw [numsB_succ, List.length_append]
    have := (numB_len (h.get k)).2
    omega
theorem rowB_len {p : Str × SR} (h1 : goodB p.1 = true) (h2 : SRok p.2) : (rowB p).length ≤ 124 := by
  unfold rowB
  rw [List.length_append]
  have := textB_len (goodB_len h1)
  have := numsB_len h2 11
  omega
theorem rows_len : ∀ {L : Stk}, (∀ p ∈ L, goodB p.1 = true ∧ SRok p.2) → (L.flatMap rowB).length ≤ 124 * L.length
  | [], _ => by simp
  | p :: r, h => by
    rw [List.flatMap_cons, List.length_append, List.length_cons]
    have := rowB_len (h p (by simp)).1 (h p (by simp)).2
    have := rows_len (L := r) (fun q hq => h q (by simp [hq]))
    omega
theorem rowsB_byt {L : Stk} (h : ∀ p ∈ L, goodB p.1 = true ∧ SRok p.2) : Byt (L.flatMap rowB) := by
  intro x hx
  obtain ⟨p, hp, hx⟩ := List.mem_flatMap.1 hx
  unfold rowB textB numsB at hx
  obtain ⟨h1, h2⟩ := h p hp
  simp only [List.mem_append, List.mem_flatMap] at hx
  rcases hx with (hx | hx) | ⟨j, _, hx⟩
  · exact numB_mem (by have := goodB_len h1; unfold okI; omega) hx
  · exact sB_byt _ x hx
  · exact numB_mem (h2.get j) hx
theorem packS_byt {A : Stk} (h : SOk A) : Byt (packS A) := by
  intro x hx
  rcases List.mem_append.1 hx with hx | hx
  · exact numB_mem (by have := h.len; unfold okI; omega) hx
  · exact rowsB_byt (fun p hp => ⟨h.good p hp, h.row p hp⟩) x hx
theorem packS_len {A : Stk} (h : SOk A) : (packS A).length ≤ 7945 := by
  unfold packS
  rw [List.length_append]
  have := (numB_len (n := (A.length : Int)) (by have := h.len; unfold okI; omega)).2
  have := rows_len (fun p hp => ⟨h.good p hp, h.row p hp⟩)
  have := h.len
  omega
end Go.Proofs.YtogphlnakdnchaaGreat

namespace Go.Proofs.YtogphlnakdnchaaGreat
open Go.RowKit Go.Maps
abbrev minI : Int := -9223372036854775808
abbrev maxI : Int := 9223372036854775807
/-- The first k of a row's numbers, taken. -/
def tkNums (t : Tst) : Nat → SR × Tst
  | 0 => (SR.zero, t)
  | k + 1 => ((tkNums t k).1.set k (tk (tkNums t k).2 minI maxI).1, (tk (tkNums t k).2 minI maxI).2)
/-- A row, taken. -/
def tkRow (t : Tst) : Str × SR × Tst := ((tkT t 16).1, tkNums (tkT t 16).2 11)
def rowMay (last : Str) (g : Str) (r : SR) : Bool := goodB g && decide (last < g) && r.bal && r.right
/-- n rows, taken. -/
def unpL : Nat → Tst → Str → Stk → Option (Stk × Tst)
  | 0, t, _, A => some (A, t)
  | n + 1, t, last, A => if rowMay last (tkRow t).1 (tkRow t).2.1 = true then unpL n (tkRow t).2.2 (tkRow t).1 (putS ktS.lt A (tkRow t).1 (tkRow t).2.1) else none
def unpS (bs : List Int) : Option Stk :=
  match unpL (tk (bs, false) 0 64).1.toNat (tk (bs, false) 0 64).2 [] [] with
  | none => none
  | some (A, t) => if doneT t.1 t.2 = 0 then some A else none
end Go.Proofs.YtogphlnakdnchaaGreat

namespace Go.Proofs.YtogphlnakdnchaaGreat
open Go.RowKit Go.Maps
theorem ins_end {ν : Type} {g : Str} {r : ν} : ∀ {B : List (Str × ν)}, (∀ p ∈ B, p.1 < g) → insS ktS.lt (g, r) B = B ++ [(g, r)]
  | [], _ => rfl
  | y :: t, h => by
    have hy := h y (by simp)
    have e : ktS.lt g y.1 = false := by rw [ktS_lt]; simpa using str_asym hy
    show (if ktS.lt g y.1 = true then (g, r) :: y :: t else y :: insS ktS.lt (g, r) t) = _
    rw [e]
    simp only [Bool.false_eq_true, if_false]
    rw [ins_end (fun p hp => h p (by simp [hp]))]
    rfl
theorem put_end {ν : Type} {g : Str} {r : ν} {B : List (Str × ν)} (h : ∀ p ∈ B, p.1 < g) : putS ktS.lt B g r = B ++ [(g, r)] := by
  unfold putS
  have e : delS B g = B := by
    unfold delS
    rw [List.filter_eq_self]
    intro p hp
    have := h p hp
    simp only [Bool.not_eq_true', decide_eq_false_iff_not]
    rintro rfl
    exact str_irr _ this
  rw [e]
  exact ins_end h
end Go.Proofs.YtogphlnakdnchaaGreat

namespace Go.Proofs.YtogphlnakdnchaaGreat
open Go.RowKit Go.Maps
theorem tkT_take {t : Tst} {m : Int} (hb : Byt t.1) (h : (tkT t m).2.2 = false) : t.1 = textB (tkT t m).1 ++ (tkT t m).2.1 ∧ t.2 = false ∧ Byt (tkT t m).2.1 := by
  obtain ⟨q, hq⟩ : ∃ q, tk t 0 m = q := ⟨_, rfl⟩
  unfold tkT at *
  rw [hq] at h ⊢
  dsimp only at h ⊢
  by_cases h1 : q.2.2 = true
  · rw [if_pos h1] at h
    dsimp only at h
    rw [h1] at h
    cases h
  · rw [if_neg h1] at h ⊢
    have h1 : q.2.2 = false := by simpa using h1
    by_cases h2 : (q.2.1.length : Int) < q.1
    · rw [if_pos h2] at h; cases h
    · rw [if_neg h2]
      dsimp only
      have := tk_take hb (a := 0) (b := m) (by rw [hq]; exact h1)
      rw [hq] at this
      obtain ⟨h3, h4, ⟨h5, h6⟩, h7, h8⟩ := this
      refine ⟨?_, h7, fun x hx => h8 x (List.mem_of_mem_drop hx)⟩
      have hl : (q.2.1.take q.1.toNat).length = q.1.toNat := by rw [List.length_take]; omega
      unfold textB
      rw [sB_bS (fun x hx => h8 x (List.mem_of_mem_take hx))]
      have : ((bS (q.2.1.take q.1.toNat)).length : Int) = q.1 := by unfold bS; rw [List.length_map, hl]; omega
      rw [this, List.append_assoc, List.take_append_drop]
      exact h4
theorem get_set (r : SR) {k : Nat} (h : k < 11) (x : Int) : (r.set k x).get k = x := by
  match k, h with
  | 0, _ => rfl
  | 1, _ => rfl
  | 2, _ => rfl
  | 3, _ => rfl
  | 4, _ => rfl
  | 5, _ => rfl
  | 6, _ => rfl
  | 7, _ => rfl
  | 8, _ => rfl
  | 9, _ => rfl
  | 10, _ => rfl
theorem get_set_ne (r : SR) {j k : Nat} (h : k < 11) (hj : j < k) (x : Int) : (r.set k x).get j = r.get j := by
  match k, h, j, hj with
  | 1, _, 0, _ => rfl
  | 1, _, j + 1, hj => exact absurd hj (by omega)
  | 2, _, 0, _ => rfl
  | 2, _, 1, _ => rfl
  | 2, _, j + 2, hj => exact absurd hj (by omega)
  | 3, _, 0, _ => rfl
  | 3, _, 1, _ => rfl
  | 3, _, 2, _ => rfl
  | 3, _, j + 3, hj => exact absurd hj (by omega)
  | 4, _, 0, _ => rfl
  | 4, _, 1, _ => rfl
  | 4, _, 2, _ => rfl
  | 4, _, 3, _ => rfl
  | 4, _, j + 4, hj => exact absurd hj (by omega)
  | 5, _, 0, _ => rfl
  | 5, _, 1, _ => rfl
  | 5, _, 2, _ => rfl
  | 5, _, 3, _ => rfl
  | 5, _, 4, _ => rfl
  | 5, _, j + 5, hj => exact absurd hj (by omega)
  | 6, _, 0, _ => rfl
  | 6, _, 1, _ => rfl
  | 6, _, 2, _ => rfl
  | 6, _, 3, _ => rfl
  | 6, _, 4, _ => rfl
  | 6, _, 5, _ => rfl
  | 6, _, j + 6, hj => exact absurd hj (by omega)
  | 7, _, 0, _ => rfl
  | 7, _, 1, _ => rfl
  | 7, _, 2, _ => rfl
  | 7, _, 3, _ => rfl
  | 7, _, 4, _ => rfl
  | 7, _, 5, _ => rfl
  | 7, _, 6, _ => rfl
  | 7, _, j + 7, hj => exact absurd hj (by omega)
  | 8, _, 0, _ => rfl
  | 8, _, 1, _ => rfl
  | 8, _, 2, _ => rfl
  | 8, _, 3, _ => rfl
  | 8, _, 4, _ => rfl
  | 8, _, 5, _ => rfl
  | 8, _, 6, _ => rfl
  | 8, _, 7, _ => rfl
  | 8, _, j + 8, hj => exact absurd hj (by omega)
  | 9, _, 0, _ => rfl
  | 9, _, 1, _ => rfl
  | 9, _, 2, _ => rfl
  | 9, _, 3, _ => rfl
  | 9, _, 4, _ => rfl
  | 9, _, 5, _ => rfl
  | 9, _, 6, _ => rfl
  | 9, _, 7, _ => rfl
  | 9, _, 8, _ => rfl
  | 9, _, j + 9, hj => exact absurd hj (by omega)
  | 10, _, 0, _ => rfl
  | 10, _, 1, _ => rfl
  | 10, _, 2, _ => rfl
  | 10, _, 3, _ => rfl
  | 10, _, 4, _ => rfl
  | 10, _, 5, _ => rfl
  | 10, _, 6, _ => rfl
  | 10, _, 7, _ => rfl
  | 10, _, 8, _ => rfl
  | 10, _, 9, _ => rfl
  | 10, _, j + 10, hj => exact absurd hj (by omega)
  | 0, _, j, hj => exact absurd hj (by omega)
theorem numsB_set (r : SR) {k : Nat} (h : k < 11) (x : Int) : ∀ n, n ≤ k → numsB (r.set k x) n = numsB r n
  | 0, _ => rfl
  | n + 1, hn => by rw [numsB_succ, numsB_succ, numsB_set r h x n (by omega), get_set_ne r h (by omega)]
theorem tkNums_take {t : Tst} (hb : Byt t.1) : ∀ k, k ≤ 11 → (tkNums t k).2.2 = false → t.1 = numsB (tkNums t k).1 k ++ (tkNums t k).2.1 ∧ t.2 = false ∧ Byt (tkNums t k).2.1
  | 0, _, h => ⟨rfl, h, hb⟩
  | k + 1, hk, h => by
    have h0 : (tk (tkNums t k).2 minI maxI).2.2 = false := h
    have h1 : (tkNums t k).2.2 = false := (tk_ok h0).1
    obtain ⟨e1, e2, e3⟩ := tkNums_take hb k (by omega) h1
    obtain ⟨a1, a2, a3, a4, a5⟩ := tk_take e3 h0
    refine ⟨?_, e2, a5⟩
    show t.1 = numsB ((tkNums t k).1.set k (tk (tkNums t k).2 minI maxI).1) (k + 1) ++ (tk (tkNums t k).2 minI maxI).2.1
    rw [numsB_succ, numsB_set _ (by omega) _ _ (Nat.le_refl _), get_set _ (by omega), List.append_assoc, ← a2]
    exact e1
theorem tkRow_take {t : Tst} (hb : Byt t.1) (h : (tkRow t).2.2.2 = false) : t.1 = rowB ((tkRow t).1, (tkRow t).2.1) ++ (tkRow t).2.2.1 ∧ t.2 = false ∧ Byt (tkRow t).2.2.1 := by
  obtain ⟨q, hq⟩ : ∃ q, tkT t 16 = q := ⟨_, rfl⟩
  unfold tkRow at *
  rw [hq] at h ⊢
  dsimp only at h ⊢
  have h1 : q.2.2 = false := by
    cases e : q.2.2 with
    | false => rfl
    | true =>
      have : ∀ k, (tkNums q.2 k).2.2 = true := fun k => by
        induction k with
        | zero => exact e
        | succ k ih =>
          show (tk (tkNums q.2 k).2 minI maxI).2.2 = true
          rw [tk_bad ih]
          exact ih
      rw [this 11] at h
      cases h
  obtain ⟨e1, e2, e3⟩ := tkT_take (t := t) (m := 16) hb (by rw [hq]; exact h1)
  rw [hq] at e1 e3
  obtain ⟨a1, a2, a3⟩ := tkNums_take e3 11 (by omega) h
  refine ⟨?_, e2, a3⟩
  unfold rowB
  dsimp only
  rw [List.append_assoc, ← a1]
  exact e1
theorem unpL_take : ∀ {n : Nat} {t : Tst} {last : Str} {B A : Stk} {t' : Tst}, unpL n t last B = some (A, t') → t'.2 = false → Byt t.1 → (∀ q ∈ B, q.1 = last ∨ q.1 < last) →
    ∃ C, A = B ++ C ∧ C.length = n ∧ t.1 = C.flatMap rowB ++ t'.1 ∧ t.2 = false ∧ (∀ p ∈ C, goodB p.1 = true ∧ SRok p.2) ∧ RiseS C ∧ ∀ p ∈ C, last < p.1
  | 0, t, last, B, A, t', h, h1, hb, hB => by
    unfold unpL at h
    injection h with h
    injection h with h2 h3
    subst h2 h3
    exact ⟨[], by simp, rfl, by simp, h1, by simp, List.Pairwise.nil, by simp⟩
  | n + 1, t, last, B, A, t', h, h1, hb, hB => by
    unfold unpL at h
    by_cases hm : rowMay last (tkRow t).1 (tkRow t).2.1 = true
    · rw [if_pos hm] at h
      unfold rowMay at hm
      simp only [Bool.and_eq_true, decide_eq_true_eq] at hm
      obtain ⟨⟨⟨m1, m2⟩, m3⟩, m4⟩ := hm
      have hlt : ∀ q ∈ B, q.1 < (tkRow t).1 := fun q hq => (hB q hq).elim (fun e => e ▸ m2) (fun e => str_trans e m2)
      rw [put_end hlt] at h
      have hbad : (tkRow t).2.2.2 = false ∨ (tkRow t).2.2.2 = true := by cases (tkRow t).2.2.2 <;> simp
      rcases hbad with hbf | hbt
      · obtain ⟨e1, e2, e3⟩ := tkRow_take hb hbf
        obtain ⟨C, c1, c2, c3, c4, c5, c6, c7⟩ := unpL_take h h1 e3 (fun q hq => by
          rcases List.mem_append.1 hq with e | e
          · exact .inr (hlt q e)
          · have : q = ((tkRow t).1, (tkRow t).2.1) := by simpa using e
            subst this
            exact .inl rfl)
        refine ⟨((tkRow t).1, (tkRow t).2.1) :: C, by rw [c1]; simp, by simp [c2], ?_, e2, ?_, ?_, ?_⟩
        · rw [List.flatMap_cons, List.append_assoc, ← c3]; exact e1
        · intro p hp
          rcases List.mem_cons.1 hp with rfl | hp
          · exact ⟨m1, SRok.of m4 m3⟩
          · exact c5 p hp
        · exact List.pairwise_cons.2 ⟨fun q hq => c7 q hq, c6⟩
        · intro p hp
          rcases List.mem_cons.1 hp with rfl | hp
          · exact m2
          · exact str_trans m2 (c7 p hp)
      · exfalso
        have hstay : ∀ (n : Nat) (s : Tst) (l : Str) (B' : Stk), s.2 = true → unpL n s l B' = some (A, t') → t'.2 = true := by
          intro n
          induction n with
          | zero => intro s l B' hs e; unfold unpL at e; injection e with e; injection e with e1 e2; rw [← e2]; exact hs
          | succ n ih =>
            intro s l B' hs e
            unfold unpL at e
            split at e
            · refine ih _ _ _ ?_ e
              cases hx : (tkRow s).2.2.2 with
              | true => rfl
              | false =>
                have hT : tkT s 16 = ([], s) := by unfold tkT; rw [tk_bad hs]; simp [hs]
                have : ∀ k, (tkNums s k).2.2 = true := fun k => by
                  induction k with
                  | zero => exact hs
                  | succ k ih =>
                    show (tk (tkNums s k).2 minI maxI).2.2 = true
                    rw [tk_bad ih]
                    exact ih
                have h9 := this 11
                unfold tkRow at hx
                rw [hT] at hx
                dsimp only at hx
                rw [h9] at hx
                cases hx
            · cases e
        rw [hstay _ _ _ _ hbt h] at h1
        cases h1
    · rw [if_neg hm] at h; cases h
theorem unpS_take {bs : List Int} {A : Stk} (hb : Byt bs) (h : unpS bs = some A) : SOk A ∧ packS A = bs := by
  unfold unpS at h
  obtain ⟨q, hq⟩ : ∃ q, tk (bs, false) 0 64 = q := ⟨_, rfl⟩
  rw [hq] at h
  cases e : unpL q.1.toNat q.2 [] [] with
  | none => rw [e] at h; cases h
  | some p =>
    obtain ⟨A', t'⟩ := p
    rw [e] at h
    dsimp only at h
    by_cases hd : doneT t'.1 t'.2 = 0
    · rw [if_pos hd] at h
      injection h with h
      subst h
      have hd2 : t'.2 = false ∧ t'.1 = [] := by
        unfold doneT at hd
        split at hd
        · cases hd
        · rename_i hn
          simp only [not_or, Decidable.not_not] at hn
          exact ⟨by simpa using hn.1, by simpa using hn.2⟩
      by_cases hqb : q.2.2 = false
      · have hbt := tk_take (t := (bs, false)) (a := 0) (b := 64) hb (by rw [hq]; exact hqb)
        rw [hq] at hbt
        obtain ⟨b1, b2, ⟨b3, b4⟩, b5, b6⟩ := hbt
        obtain ⟨C, c1, c2, c3, c4, c5, c6, c7⟩ := unpL_take e hd2.1 b6 (fun q hq => by cases hq)
        rw [List.nil_append] at c1
        subst c1
        refine ⟨⟨c6, fun p hp => (c5 p hp).1, fun p hp => (c5 p hp).2, by omega⟩, ?_⟩
        unfold packS
        rw [c2, show ((q.1.toNat : Nat) : Int) = q.1 by omega]
        rw [hd2.2, List.append_nil] at c3
        rw [← c3]
        exact b2.symm
      · exfalso
        have hqb : q.2.2 = true := by simpa using hqb
        have h0 := tk_bad0 (bs, false) 0 64 (by rw [hq]; exact hqb)
        rw [hq] at h0
        rw [h0] at e
        unfold unpL at e
        simp only [Int.toNat_zero] at e
        injection e with e
        injection e with e1 e2
        rw [← e2, hqb] at hd2
        cases hd2.1
    · rw [if_neg hd] at h; cases h
end Go.Proofs.YtogphlnakdnchaaGreat

namespace Go.Proofs.YtogphlnakdnchaaGreat
open Go.RowKit Go.Maps
/-- Lists that are read one behind the other. -/
def rdF (t : Tst) : Nat → Tst × List Its
  | 0 => (t, [])
  | j + 1 => ((readT (rdF t j).1).2, (rdF t j).2 ++ [(readT (rdF t j).1).1])
def rdG (g : Bool) (t : Tst) : Nat → Bool
  | 0 => g
  | j + 1 => rdG g t j && mayL (readT (rdF t j).1).1
/-- One order's hold: what is read, whether it is good, what is left. -/
def unh1 (t : Tst) (last : Int) : HE × Bool × Tst :=
  let o := tk t 1 1099511627776
  (⟨o.1, (readT (rdF o.2 0).1).1, (readT (rdF o.2 1).1).1, (readT (rdF o.2 2).1).1⟩, rdG (decide (last < o.1)) o.2 3, (rdF o.2 3).1)
def unhL : Nat → Tst → Int → Hes → Option (Hes × Tst)
  | 0, t, _, le => some (le, t)
  | n + 1, t, last, le => if (unh1 t last).2.1 = true ∧ (unh1 t last).1.num ≠ 0 then unhL n (unh1 t last).2.2 (unh1 t last).1.o (putS ktI.lt le (unh1 t last).1.o (unh1 t last).1) else none
def unpackH (bs : List Int) : Option (Stk × Hes) :=
  match unpS (sB (tkT (bs, false) 262144).1) with
  | none => none
  | some A => match unhL (tk (tkT (bs, false) 262144).2 0 256).1.toNat (tk (tkT (bs, false) 262144).2 0 256).2 0 [] with
    | none => none
    | some (le, t) => if doneT t.1 t.2 = 0 ∧ soundE A le = true then some (A, le) else none
/-- What has been read so far is as it should be. -/
structure LeOk (le : Hes) (last : Int) : Prop where
  rise : le.Pairwise (fun p q => p.1 < q.1)
  row : ∀ p ∈ le, HEok p.1 p.2
  top : ∀ p ∈ le, p.1 ≤ last
  pos : 0 ≤ last
theorem LeOk.nil : LeOk [] 0 := ⟨List.Pairwise.nil, fun p hp => (by cases hp), fun p hp => (by cases hp), Int.le_refl _⟩
theorem putS_last {le : Hes} {o : Int} {x : HE} (h : ∀ p ∈ le, p.1 < o) : putS ktI.lt le o x = le ++ [(o, x)] := by
  unfold putS
  have h1 : delS le o = le := List.filter_eq_self.2 (fun p hp => by have := h p hp; simp; omega)
  rw [h1]
  induction le with
  | nil => rfl
  | cons p r ih =>
    have hp := h p (by simp)
    show (if ktI.lt o p.1 = true then _ else _) = _
    have : ktI.lt o p.1 = false := by
      show decide (o < p.1) = false
      simp; omega
    rw [this]
    simp only [Bool.false_eq_true, if_false]
    rw [ih (fun q hq => h q (by simp [hq])) (List.filter_eq_self.2 (fun q hq => by have := h q (by simp [hq]); simp; omega))]
    rfl
theorem LeOk.step {le : Hes} {last : Int} {x : HE} (h : LeOk le last) (hl : last < x.o) (hm : x.o ≤ 1099511627776) (h1 : mayL x.he = true) (h2 : mayL x.pi = true) (h3 : mayL x.sh = true) (hn : x.num ≠ 0) : LeOk (putS ktI.lt le x.o x) x.o := by
  rw [putS_last (fun p hp => by have := h.top p hp; omega)]
  have hp := h.pos
  refine ⟨List.pairwise_append.2 ⟨h.rise, by simp, fun p hp q hq => ?_⟩, fun p hp => ?_, fun p hp => ?_, by omega⟩
  · simp only [List.mem_cons, List.not_mem_nil, or_false] at hq
    subst hq
    have := h.top p hp
    show p.1 < x.o
    omega
  · rcases List.mem_append.1 hp with hp | hp
    · exact h.row p hp
    · simp only [List.mem_cons, List.not_mem_nil, or_false] at hp
      subst hp
      exact ⟨rfl, ⟨by show 1 ≤ x.o; omega, hm⟩, h1, h2, h3, hn⟩
  · rcases List.mem_append.1 hp with hp | hp
    · have := h.top p hp; omega
    · simp only [List.mem_cons, List.not_mem_nil, or_false] at hp
      subst hp
      exact Int.le_refl _
theorem rdG_all {g : Bool} {t : Tst} : ∀ {j : Nat}, rdG g t j = true → g = true ∧ ∀ i, i < j → mayL (readT (rdF t i).1).1 = true
  | 0, h => ⟨h, fun i hi => by omega⟩
  | j + 1, h => by
    unfold rdG at h
    rw [Bool.and_eq_true] at h
    obtain ⟨h1, h2⟩ := rdG_all h.1
    exact ⟨h1, fun i hi => by
      by_cases e : i = j
      · rw [e]; exact h.2
      · exact h2 i (by omega)⟩
theorem unh1_ok {t : Tst} {last : Int} (h : (unh1 t last).2.1 = true) : last < (unh1 t last).1.o ∧ (unh1 t last).1.o ≤ 1099511627776 ∧ mayL (unh1 t last).1.he = true ∧ mayL (unh1 t last).1.pi = true ∧ mayL (unh1 t last).1.sh = true := by
  have h2 : rdG (decide (last < (tk t 1 1099511627776).1)) (tk t 1 1099511627776).2 3 = true := h
  obtain ⟨h3, h4⟩ := rdG_all h2
  have h5 := tk_in1 t (b := 1099511627776) (by omega)
  exact ⟨of_decide_eq_true h3, h5.2, h4 0 (by omega), h4 1 (by omega), h4 2 (by omega)⟩
theorem unhL_ok : ∀ (n : Nat) (t : Tst) (last : Int) (le : Hes) (le' : Hes) (t' : Tst), LeOk le last → unhL n t last le = some (le', t') → (∃ last', LeOk le' last') ∧ le'.length ≤ le.length + n
  | 0, t, last, le, le', t', h, e => by
    unfold unhL at e
    cases e
    exact ⟨⟨last, h⟩, by omega⟩
  | n + 1, t, last, le, le', t', h, e => by
    unfold unhL at e
    split at e
    · rename_i hg
      obtain ⟨g1, g2, g3, g4, g5⟩ := unh1_ok hg.1
      have h1 := unhL_ok n _ _ _ le' t' (h.step g1 g2 g3 g4 g5 hg.2) e
      have h2 := putK_len ktI.lt le (unh1 t last).1.o (unh1 t last).1
      exact ⟨h1.1, by omega⟩
    · cases e
theorem unpackH_ok {bs : List Int} {A : Stk} {le : Hes} (h : unpackH bs = some (A, le)) : ShOk A le := by
  unfold unpackH at h
  split at h
  · cases h
  · rename_i A' hA
    split at h
    · cases h
    · rename_i le' t' hle
      split at h
      · cases h
        obtain ⟨⟨last', h1⟩, h2⟩ := unhL_ok _ _ _ _ _ _ LeOk.nil hle
        have h3 := tk_in (tkT (bs, false) 262144).2 (a := 0) (b := 256) (by omega) (by omega)
        exact ⟨(unpS_take (sB_byt _) hA).1, h1.rise, h1.row, by simp only [List.length_nil] at h2; omega⟩
      · cases h
end Go.Proofs.YtogphlnakdnchaaGreat

namespace Go.Proofs.YtogphlnakdnchaaGreat
open Go.RowKit Go.Maps
attribute [local go_sem] Oper.semAt_some
theorem mk_fa {B : Nat} {w w' : World} {g : Nat} {TS : Nat → Prop} {bs : List Int} {long : Bool} (h : MK w g TS bs long) (hf : Fa B w w') : MK w' g TS bs long := by
  obtain ⟨⟨v, h1, h2, h3⟩, h4, h5, h6⟩ := h
  exact ⟨⟨v, Fa.cells hf h1, Fa.row hf h2, h3⟩, h4, fun b hb => Nat.lt_of_lt_of_le (h5 b hb) hf.size, h6⟩
theorem mkAll_app (s : Mst) (a b : List (List Int)) : mkAll s (a ++ b) = mkAll (mkAll s a) b := List.foldl_append
/-- Items' cells. -/
def itC (L : Its) : List (List Int) := L.flatMap fun p => [textB p.1, numB p.2]
theorem itC_take {L : Its} {j : Nat} {p : Str × Int} (h : L[j]? = some p) : itC (L.take (j + 1)) = itC (L.take j) ++ [textB p.1, numB p.2] := by
  unfold itC
  rw [List.take_add_one, h, List.flatMap_append]
  simp
/-- A list's cells. -/
def liC (L : Its) : List (List Int) := numB (L.length : Int) :: itC L
structure PmS (w : World) (TS0 : Nat → Prop) (n0 : Nat) (W : World) (g : Nat) (TM : Nat → Prop) (s : Mst) : Prop where
  mkr : MK W g TM s.1 s.2
  box : W.heap[n0]? = some (.cells #[.pointer (some ⟨g, 0, none⟩)] 79)
  nb : ¬ TM n0
  st : Stp TS0 w W TM
section
variable {W0 W W' : World} {TS0 TM TM' : Nat → Prop} {n0 g : Nat} {s s' : Mst}
theorem PmS.fa {B : Nat} (h : PmS W0 TS0 n0 W g TM s) (hf : Fa B W W') (hB : W0.heap.size ≤ B) : PmS W0 TS0 n0 W' g TM s :=
  ⟨mk_fa h.mkr hf, Fa.cells hf h.box, h.nb, Fa.old hf h.st.1 hB, h.st.2⟩
theorem PmS.step (h : PmS W0 TS0 n0 W g TM s) (hm : MK W' g TM' s'.1 s'.2) (hs : Stp TM W W' TM') : PmS W0 TS0 n0 W' g TM' s' :=
  have hl := (Array.getElem?_eq_some_iff.1 h.box).1
  ⟨hm, hs.1.at_ h.box h.nb, fun e => (hs.2 _ e).elim h.nb (fun e => by omega), h.st.trans hs⟩
theorem PmS.keep (h : PmS W0 TS0 n0 W g TM s) (hf : Fr (fun _ => False) W W') : PmS W0 TS0 n0 W' g TM s :=
  ⟨h.mkr.fr hf (fun _ _ e => e), hf.at_ h.box (fun e => e), h.nb, h.st.trans (Stp.refl hf)⟩
theorem PmS.num (h : PmS W0 TS0 n0 W g TM s) (n : Int) (hn : okI n) : Calls Tryz.prog 51 #[.pointer (some ⟨g, 0, none⟩), .int .i64 n] W fun e w' => e = .returned (.pointer (some ⟨g, 0, none⟩)) ∧ ∃ TM', PmS W0 TS0 n0 w' g TM' (mkP s (numB n)) ∧ Stp TM W w' TM' := by
  refine (cMNum W g TM s.1 s.2 n h.mkr hn).mono ?_
  rintro e w' ⟨rfl, TM', h1, h2⟩
  exact ⟨rfl, TM', h.step h1 h2, h2⟩
theorem PmS.text (h : PmS W0 TS0 n0 W g TM s) (t : Str) (ht : t.length ≤ 65536) : Calls Tryz.prog 49 #[.pointer (some ⟨g, 0, none⟩), vS t] W fun e w' => e = .returned (.pointer (some ⟨g, 0, none⟩)) ∧ ∃ TM', PmS W0 TS0 n0 w' g TM' (mkP s (textB t)) ∧ Stp TM W w' TM' := by
  refine (cMText W g TM s.1 s.2 t h.mkr ht).mono ?_
  rintro e w' ⟨rfl, TM', h1, h2⟩
  exact ⟨rfl, TM', h.step h1 h2, h2⟩
end
def PmI (W0 : World) (TS0 : Nat → Prop) (n0 g : Nat) (TM0 : Nat → Prop) (s : Mst) (L : Its) (k : Nat) (C : Nat → Prop) (W : World) : Prop :=
  ∃ TM, PmS W0 TS0 n0 W g TM (mkAll s (itC (L.take k))) ∧ ∀ b, TM b → TM0 b ∨ C b
set_option maxRecDepth 100000 in
set_option maxHeartbeats 8000000 in
theorem hPut (w : World) (g : Nat) (TS : Nat → Prop) (s : Mst) (v : Value) (its : Its) (h : MK w g TS s.1 s.2) (hi : Il w v its) (hT : its ≠ [] → ∀ b, v.ownBlock = some b → ¬ TS b) (hits : ∀ p ∈ its, p.1.length ≤ 16 ∧ okI p.2) :
    Calls Tryz.prog 52 #[.pointer (some ⟨g, 0, none⟩), v] w fun e w' => (∃ v, e = .returned v) ∧ ∃ TS', MK w' g TS' (mkAll s (liC its)).1 (mkAll s (liC its)).2 ∧ Stp TS w w' TS' := by
  obtain ⟨n0, hn0⟩ : ∃ n0, w.heap.size = n0 := ⟨_, rfl⟩
  have okN : Hid (okI (its.length : Int)) := Lib.hid (by have := hi.1; unfold okI; omega)
  obtain ⟨la, lc, rfl⟩ := hi.sl
  obtain ⟨N, hN⟩ : ∃ N : Nat, its.length = N := ⟨_, rfl⟩
  obtain ⟨W0, hW0⟩ : ∃ W0, w.alloc (.cells #[.pointer (some ⟨g, 0, none⟩)] 79) = W0 := ⟨_, rfl⟩
  have hF0 : Fr (fun _ => False) w W0 := by rw [← hW0]; exact (Fr.refl _ w).alloc _
  have hb0 : W0.heap[n0]? = some (.cells #[.pointer (some ⟨g, 0, none⟩)] 79) := by rw [← hW0]; exact heap_at hn0.symm _
  have hP0 : PmS w TS n0 W0 g TS s := ⟨h.fr hF0 (fun _ _ e => e), hb0, fun e => by have := h.lt _ e; omega, Stp.refl hF0⟩
  have HIL := Lib.hid hi; have HOB := Lib.hid hi.lt; have HT := Lib.hid hT
  have hits := Lib.hid hits
  have HN := Lib.hid hN; have HS := Lib.hid hn0; have HP0 := Lib.hid hP0; have HF0 := Lib.hid hF0
  have hTlt := Lib.hid h.lt
  have hfin : Hid (mkAll s (liC its) = mkAll (mkP s (numB (N : Int))) (itC its)) := Lib.hid (by unfold liC; rw [hN]; rfl)
  rw [hN] at HIL HOB HT okN ⊢
  have c0 := cell_obj hb0 0 (.pointer (some ⟨g, 0, none⟩)) rfl
  clear h hi hT hN hP0 hb0
  refine (callsIn_wide (n := 0)).1 ?_
  refine callsIn_of_wp_marks Tryz.func52 rfl trivial ?_ rfl
  simp only [Tryz.ntmps52, List.size_toArray, List.length_cons, List.length_nil, Nat.reduceAdd, Nat.reduceSub, Array.replicate_succ, Array.replicate_zero, List.push_toArray, List.append_toArray, List.nil_append, List.cons_append]
  have hfn : ∀ f, Fence.wide.fn f := fun _ => trivial
  have hdp : Fence.wide.depth.isSome = false := rfl
  gi_wp2_with (first
    | (gi_at_call 51; refine (callsIn_wide.2 (HP0.out.num _ okN.out)).mono ?_; rintro e w1 ⟨rfl, TS1, hP1, hs1⟩; have HP1 := Lib.hid hP1; clear hP1 hs1)
    | (gi_at_call 58; refine (callsIn_wide.2 (iAll _ _ _ _)).mono ?_; rintro e w2 ⟨rfl, rfl⟩))
  obtain ⟨s1, hs1⟩ : ∃ s1, mkP s (numB (N : Int)) = s1 := ⟨_, rfl⟩
  rw [hs1] at hfin HP1
  have hPs := HP1.out
  obtain ⟨z1, hz1⟩ : ∃ z1, w1.heap.size = z1 := ⟨_, rfl⟩
  clear hs1 c0 hW0 HP1 HP0
  have hF2 : Fr (fun _ => False) w1 (w1.alloc (.cells #[.slice la N lc] 27)) := (Fr.refl _ _).alloc _
  have hBx : Boxed (w1.alloc (.cells #[.slice la N lc] 27)) w1.heap.size 27 (.slice la N lc) := heap_new _ _
  have hs2 : (w1.alloc (.cells #[.slice la N lc] 27)).heap.size = w1.heap.size + 1 := by simp
  obtain ⟨W2, hW2⟩ : ∃ W2, w1.alloc (.cells #[.slice la N lc] 27) = W2 := ⟨_, rfl⟩
  rw [hW2] at hF2 hBx hs2 ⊢
  rw [hz1] at hBx hs2 ⊢
  have hn1 : n0 < z1 := by rw [← hz1]; exact (Array.getElem?_eq_some_iff.1 hPs.box).1
  have hT1 : Hid (∀ b, TS1 b → b < z1) := Lib.hid (fun b hb => by rw [← hz1]; exact hPs.mkr.lt b hb)
  have hne : Hid (its ≠ [] → ∀ b, la.map (·.block) = some b → ¬ TS1 b) := Lib.hid (fun hne b hb e => by
    have h2 : (Value.slice la N lc).ownBlock = some b := by cases la <;> simp_all [Value.ownBlock]
    have h3 := HOB.out hne b h2
    have hs := HS.out
    rcases hPs.st.2 b e with e | e
    · exact HT.out hne b h2 e
    · omega)
  have hP2 := hPs.keep hF2
  have hIL2 : Il W2 (.slice la N lc) its := HIL.out.keep hP2.st.1 (fun hne b hb => HT.out hne b hb)
  have HP2 := Lib.hid hP2; have HS2 := Lib.hid hs2
  have hz0 : Hid (w.heap.size ≤ W2.heap.size) := Lib.hid hP2.st.1.size
  have HN1 := Lib.hid hn1
  clear hPs hP2 hF2 hz1 hW2 hn1
  refine rangeX (w0 := W2) (X := its) (S := TS1) rfl (enters_of Tryz.func95 (by kernel_rfl) rfl)
    (iAll1 _ W2 z1 _ its hBx hIL2 (fun e => by have := hT1.out _ e; omega) (fun hne' b hb e => hne.out hne' b (by cases la <;> simp_all [Value.ownBlock]) hb)) (Below.refl _ _) (fun b hb => by have := HS2.out; have := hT1.out b hb; omega) (fun _ => rfl)
    (PmI w TS n0 g TS1 s1 its) (fun _ _ _ _ => False)
    (fun k C W W' hs hf => hs.elim fun TM h => ⟨TM, h.1.fa hf hz0.out, h.2⟩) (fun c k C W W' hs hf => hs)
    ⟨TS1, by simpa [itC, mkAll] using HP2.out, fun b hb => .inl hb⟩ ?round ?done ?stop
  case stop => intro D c k C W hD hk hX; exact hX.elim
  case round =>
    rintro lp j x C W hx hlp hi hr
    dsimp only [encIt]
    gi_wp2
    refine Took.mk (Fr.refl _ _) hi ?_
    rintro Wb ⟨TM, hPb, hTC⟩ hrb hf hsz hsw hCC _
    obtain ⟨ok1, ok2⟩ := hits.out x (List.mem_of_getElem? hx)
    have hcm := cell_obj hPb.box 0 (.pointer (some ⟨g, 0, none⟩)) rfl
    have HX := Lib.hid (itC_take hx)
    obtain ⟨gx, nx⟩ := x
    dsimp only at ok1 ok2 HX
    have ok1' : gx.length ≤ 65536 := by omega
    have HPB := Lib.hid hPb; have HTC := Lib.hid hTC; have HCC := Lib.hid hCC; have HSZ := Lib.hid hsz
    have OK1 := Lib.hid ok1'; have OK2 := Lib.hid ok2
    clear hi hr hf hrb hx hPb hTC hCC ok1 ok2 ok1'
    gi_wp2_with (first
      | (gi_at_call 49; refine (callsIn_wide.2 (HPB.out.text gx OK1.out)).mono ?_; rintro e w8 ⟨rfl, TM8, hM8, hS8⟩; have HM8 := Lib.hid hM8; have HS8 := Lib.hid hS8; clear hM8 hS8)
      | (gi_at_call 51; refine (callsIn_wide.2 (HM8.out.num nx OK2.out)).mono ?_; rintro e w9 ⟨rfl, TM9, hM9, hS9⟩; have HM9 := Lib.hid hM9; have HS9 := Lib.hid hS9; clear hM9 hS9))
    have hst := HS8.out.trans HS9.out
    refine ⟨hst.1.mono (fun b hb e => (HTC.out b e).elim .inl (fun e => .inr (.inl e))), TM9, ?_, ?_⟩
    · rw [HX.out, mkAll_app]
      exact HM9.out
    · intro b hb
      rcases hst.2 b hb with e | e
      · exact (HTC.out b e).elim .inl (fun e => .inr (.inl e))
      · exact .inr (.inr ⟨by have := HSZ.out; omega, HM9.out.mkr.lt b hb⟩)
  case done =>
    rintro D C W hD ⟨TM, hPS, -⟩ hr hK
    rw [List.take_length] at hPS
    have HPS := Lib.hid hPS; have HKK := Lib.hid hK
    clear hPS hK hr
    gi_wp2_with fail
    have hz := hz0.out
    have hs := HS.out
    refine ⟨by simp, .inl ⟨_, _, rfl, run_takeDeferred HKK.out, ?_⟩⟩
    refine ⟨_, results_none rfl _ _ _, ⟨_, rfl⟩, TM, ?_, ?_⟩
    · rw [hfin.out]
      exact mk_fa HPS.out.mkr (frPut (B := n0) (.deferred none) (by omega) HKK.out rfl)
    · exact ⟨HPS.out.st.1.trans' ((Fr.refl (fun b => b = D) W).putObj (l := D) (fun _ => rfl) _) (fun b hb e => by omega), HPS.out.st.2⟩
end Go.Proofs.YtogphlnakdnchaaGreat

namespace Go.Proofs.YtogphlnakdnchaaGreat
/-- The place of the first that is so; -1: none. -/
def idxOf {α : Type} (p : α → Bool) (L : List α) : Int := match L.findIdx? p with | some i => (i : Int) | none => -1
theorem idxOf_at {α : Type} {p : α → Bool} {L : List α} {j : Nat} {x : α} (h : L[j]? = some x) (hp : p x = true) (hno : ∀ q y, q < j → L[q]? = some y → p y = false) : idxOf p L = j := by
  have : L.findIdx? p = some j := by
    rw [List.findIdx?_eq_some_iff_getElem]
    obtain ⟨hj, e⟩ := List.getElem?_eq_some_iff.1 h
    refine ⟨hj, by rw [e]; exact hp, fun q hq => ?_⟩
    have := hno q _ hq (List.getElem?_eq_getElem (by omega))
    simp [this]
  unfold idxOf
  rw [this]
theorem idxOf_no {α : Type} {p : α → Bool} {L : List α} (h : ∀ (q : Nat) (y : α), L[q]? = some y → p y = false) : idxOf p L = -1 := by
  have : L.findIdx? p = none := by
    rw [List.findIdx?_eq_none_iff]
    intro x hx
    obtain ⟨q, hq⟩ := List.getElem?_of_mem hx
    exact h q x hq
  unfold idxOf
  rw [this]
end Go.Proofs.YtogphlnakdnchaaGreat

namespace Go.Proofs.YtogphlnakdnchaaGreat
open Go.RowKit Go.Maps
def nuC (n : Int) : Array Value := #[.int .i64 n]
def okNu (_ : World) (n : Int) : Prop := okI n
theorem okNuKeeps : Keeps okNu := fun _ _ _ _ h _ _ => h
theorem kNone1 (w : World) (n : Int) : Calls Tryz.prog 152 #[.int .i64 n] w fun e w' => e = .returned (.bool (!mayI n)) ∧ w = w' := by
  obtain ⟨b, hb⟩ : ∃ b, mayI n = b := ⟨_, rfl⟩
  have hm := kMay w n
  rw [hb] at hm ⊢
  have HM := Lib.hid hm
  clear hm
  go_enter Tryz.func152, Tryz.ntmps152
  go_wp2_with (go_at_call 68; refine HM.out.mono ?_; rintro e w' ⟨rfl, rfl⟩)
  go_ret
  exact ⟨rfl, rfl⟩
set_option maxRecDepth 100000 in
set_option maxHeartbeats 4000000 in
theorem ixNum (w : World) (v : Value) (L : List Int) (h : Sq 1 nuC okNu w v L) :
    Calls Tryz.prog 163 #[v, .func (.func 152) #[] #[]] w fun e w' => e = .returned (.int .i64 (idxOf (fun n => !mayI n) L)) ∧ Fr (fun _ => False) w w' := by
  obtain ⟨a, c, rfl⟩ := h.sl
  obtain ⟨N, hN⟩ : ∃ N, L.length = N := ⟨_, rfl⟩
  have hNb : (N : Int) ≤ 9223372036854775807 := by have := h.len; omega
  have HL := Lib.hid h; have HN := Lib.hid hN
  rw [hN] at HL ⊢
  obtain ⟨R, hR⟩ : ∃ R, idxOf (fun n => !mayI n) L = R := ⟨_, rfl⟩
  have HR := Lib.hid hR
  rw [hR]
  clear h hN hR
  go_enter Tryz.func163, Tryz.ntmps163
  go_wp2_with fail
  go_loopw [5, 8] (fun _ i wr => ∃ j : Nat, j ≤ N ∧ i = .int .i64 j ∧ Fr (fun _ => False) w wr ∧ ∀ q x, q < j → L[q]? = some x → (!mayI x) = false) (fun _ i _ => N - (intOf i).toNat)
  case atStart => exact ⟨0, Nat.zero_le _, rfl, Fr.refl _ _, fun q x hq => by omega⟩
  case round =>
    obtain ⟨j, hj, rfl, hfr, hno⟩ := hrel
    have HFR := Lib.hid hfr; have HNO := Lib.hid hno
    clear hno
    by_cases hlt : j < N
    · obtain ⟨x, hx⟩ : ∃ x, L[j]? = some x := ⟨L[j]'(by rw [HN.out]; exact hlt), List.getElem?_eq_getElem _⟩
      obtain ⟨ad, rfl, hok, z0, zs⟩ := (HL.out.fr0 okNuKeeps hfr).at_ hx
      have hC := kNone1 wr x
      obtain ⟨b, hb⟩ : ∃ b, (!mayI x) = b := ⟨_, rfl⟩
      rw [hb] at hC
      have HB := Lib.hid hb; have HX := Lib.hid hx
      have hjI : (j : Int) < N := by omega
      have x0 := z0 (.int .i64 x) rfl
      rw [Nat.mul_one] at x0
      have HC := Lib.hid hC
      clear hC hb hx hok z0 zs hfr
      cases b with
      | true =>
        have hres : Hid (R = (j : Int)) := Lib.hid (by rw [← HR.out]; exact idxOf_at HX.out HB.out HNO.out)
        go_wp2_with (go_at_call 152; refine HC.out.mono ?_; rintro e w1 ⟨rfl, rfl⟩)
        go_ret
        exact ⟨by rw [hres.out]; rfl, HFR.out⟩
      | false =>
        go_wp2_with (go_at_call 152; refine HC.out.mono ?_; rintro e w1 ⟨rfl, rfl⟩)
        go_roundw
        case rel =>
          refine ⟨j + 1, by omega, by go_num, HFR.out, fun q y hq hy => ?_⟩
          by_cases e : q = j
          · subst e
            have := HX.out
            rw [this] at hy
            injection hy with hy
            rw [← hy]
            exact HB.out
          · exact HNO.out q y (by omega) hy
        case measure => simp [intOf]; omega
    · obtain rfl : j = N := by omega
      have hres : Hid (R = -1) := Lib.hid (by rw [← HR.out]; exact idxOf_no (fun q x hx => HNO.out q x (by have := (List.getElem?_eq_some_iff.1 hx).1; have := HN.out; omega) hx))
      have hjI : ¬ (j : Int) < j := by omega
      clear hfr
      go_wp2_with fail
      go_ret
      exact ⟨by rw [hres.out]; rfl, HFR.out⟩
theorem kNone (w : World) (v : Value) (L : List Int) (h : Sq 1 nuC okNu w v L) : Calls Tryz.prog 131 #[v] w fun e w' => e = .returned (.bool (decide (0 ≤ idxOf (fun n => !mayI n) L))) ∧ Fr (fun _ => False) w w' := by
  have hI := ixNum w v L h
  obtain ⟨R, hR⟩ : ∃ R, idxOf (fun n => !mayI n) L = R := ⟨_, rfl⟩
  rw [hR] at hI ⊢
  have HI := Lib.hid hI
  have hC : Calls Tryz.prog 151 #[v, .func (.func 152) #[] #[]] w fun e w' => e = .returned (.bool (decide (0 ≤ R))) ∧ Fr (fun _ => False) w w' := by
    go_enter Tryz.func151, Tryz.ntmps151
    go_wp2_with (go_at_call 163; refine HI.out.mono ?_; rintro e w' ⟨rfl, hf⟩)
    go_ret
    exact ⟨rfl, hf⟩
  have HC := Lib.hid hC
  clear hC hI hR h
  go_enter Tryz.func131, Tryz.ntmps131
  go_wp2_with (go_at_call 151; refine HC.out.mono ?_; rintro e w' ⟨rfl, hf⟩)
  go_ret
  exact ⟨rfl, hf⟩
/-- A sum of counts. -/
def addK (a b : Int) : Int × Int := if mayI a = true ∧ mayI b = true then (if 1099511627776 < a + b then (0, 50) else (a + b, 0)) else (0, 1)
set_option maxRecDepth 100000 in
set_option maxHeartbeats 4000000 in
theorem kAdd (w : World) (a b : Int) (ha : okI a) (hb : okI b) : Calls Tryz.prog 122 #[.int .i64 a, .int .i64 b] w fun e w' => e = .returned (.tuple #[.int .i64 (addK a b).1, .int .i64 (addK a b).2]) ∧ Fr (fun _ => False) w w' := by
  obtain ⟨n0, hn0⟩ : ∃ n0, w.heap.size = n0 := ⟨_, rfl⟩
  have hsq : Sq 1 nuC okNu (w.alloc (.cells #[.int .i64 a, .int .i64 b] 3)) (.slice (some ⟨n0, 0, none⟩) 2 2) [a, b] := by
    refine ⟨by simp [maxLen], some ⟨n0, 0, none⟩, 2, rfl, fun i r hr => ?_⟩
    have h0 : (w.alloc (.cells #[.int .i64 a, .int .i64 b] 3)).heap[n0]? = some (.cells #[.int .i64 a, .int .i64 b] 3) := heap_at hn0.symm _
    match i, hr with
    | 0, hr => cases hr; exact ⟨ha, _, rfl, fun j u hu => by match j, hu with | 0, hu => cases hu; exact cell_obj h0 0 _ rfl⟩
    | 1, hr => cases hr; exact ⟨hb, _, rfl, fun j u hu => by match j, hu with | 0, hu => cases hu; exact cell_obj h0 1 _ rfl⟩
  have hN := kNone _ _ _ hsq
  have hid : decide (0 ≤ idxOf (fun n => !mayI n) [a, b]) = !(mayI a && mayI b) := by
    unfold idxOf
    cases h1 : mayI a <;> cases h2 : mayI b <;> simp [List.findIdx?_cons, h1, h2]
  rw [hid] at hN
  subst hn0
  unfold addK
  by_cases hm : mayI a = true ∧ mayI b = true
  · rw [if_pos hm]
    obtain ⟨a0, a1⟩ := mayI_iff.1 hm.1
    obtain ⟨b0, b1⟩ := mayI_iff.1 hm.2
    rw [hm.1, hm.2] at hN
    have HN := Lib.hid hN
    have hw : IntKind.i64.wrap (1099511627776 - a) = 1099511627776 - a := IntWalk.i64_in _ ⟨by omega, by omega⟩
    have hw2 : IntKind.i64.wrap (a + b) = a + b := IntWalk.i64_in _ ⟨by omega, by omega⟩
    clear hN hid hsq hm
    by_cases ho : 1099511627776 < a + b
    · rw [if_pos ho]
      have ho2 : 1099511627776 - a < b := by omega
      go_enter Tryz.func122, Tryz.ntmps122
      go_wp2_with (go_at_call 131; refine HN.out.mono ?_; rintro e w2 ⟨rfl, hf⟩)
      go_ret2
      exact ⟨rfl, ((Fr.refl _ w).alloc _).trans hf⟩
    · rw [if_neg ho]
      have ho2 : ¬ 1099511627776 - a < b := by omega
      go_enter Tryz.func122, Tryz.ntmps122
      go_wp2_with (go_at_call 131; refine HN.out.mono ?_; rintro e w2 ⟨rfl, hf⟩)
      go_ret2
      exact ⟨rfl, ((Fr.refl _ w).alloc _).trans hf⟩
  · rw [if_neg hm]
    have hf : (!(mayI a && mayI b)) = true := by
      cases h1 : mayI a <;> cases h2 : mayI b <;> simp_all
    rw [hf] at hN
    have HN := Lib.hid hN
    clear hN hid hsq hm hf
    go_enter Tryz.func122, Tryz.ntmps122
    go_wp2_with (go_at_call 131; refine HN.out.mono ?_; rintro e w2 ⟨rfl, hf⟩)
    go_ret2
    exact ⟨rfl, ((Fr.refl _ w).alloc _).trans hf⟩
end Go.Proofs.YtogphlnakdnchaaGreat

namespace Go.Proofs.YtogphlnakdnchaaGreat
open Go.RowKit
section
variable {F : Fence} {n : Nat} {P : Program} {ops : Array Oper} {Q : Exit → Act → World → Prop} {md : Region.Mode}
end
end Go.Proofs.YtogphlnakdnchaaGreat

namespace Go.Proofs.YtogphlnakdnchaaGreat
open Go.RowKit Go.Maps
attribute [local go_sem] Oper.semAt_some
theorem kSN : KO Tryz.prog 9 ktS := koS Tryz.underlying9
abbrev encN : Int → Value := .int .i64
/-- The call's own blocks: its two results, its map (block n0 + 2), the map's variable. -/
structure SmI (w0 W : World) (n0 : Nat) (rv : Value) (e : Int) (m : Its) : Prop where
  res : W.heap[n0]? = some (.cells #[rv] 90)
  err : W.heap[n0 + 1]? = some (.cells #[.int .i64 e] 30)
  out : W.heap[n0 + 3]? = some (.cells #[.map (some (n0 + 2))] 90)
  mp : Mp Tryz.prog W 9 ktS encN (n0 + 2) m
  fr : Fr (fun b => n0 ≤ b) w0 W
section
variable {w0 W W' : World} {n0 B : Nat} {rv : Value} {e : Int} {m : Its}
theorem SmI.fa (h : SmI w0 W n0 rv e m) (hf : Fa B W W') (hB : w0.heap.size ≤ B) : SmI w0 W' n0 rv e m :=
  ⟨Fa.cells hf h.res, Fa.cells hf h.err, Fa.cells hf h.out, Fa.mp hf h.mp, h.fr.trans' hf (fun b hb e => by have := e.1; omega)⟩
theorem SmI.keep (h : SmI w0 W n0 rv e m) (hf : Fr (fun _ => False) W W') : SmI w0 W' n0 rv e m :=
  ⟨hf.at_ h.res (fun h => h), hf.at_ h.err (fun h => h), hf.at_ h.out (fun h => h), hf.mp h.mp (fun h => h), h.fr.trans' hf (fun _ _ e => e.elim)⟩
theorem SmI.set (h : SmI w0 W n0 rv e m) (u : Value) (x : Int) : SmI w0 ((W.setCell ⟨n0, 0, none⟩ u).setCell ⟨n0 + 1, 0, none⟩ (.int .i64 x)) n0 u x m := by
  have hF : Fr (fun b => b = n0 ∨ b = n0 + 1) W ((W.setCell ⟨n0, 0, none⟩ u).setCell ⟨n0 + 1, 0, none⟩ (.int .i64 x)) := ((Fr.refl _ W).setCell (p := ⟨n0, 0, none⟩) (fun _ => .inl rfl) _).setCell (p := ⟨n0 + 1, 0, none⟩) (fun _ => .inr rfl) _
  have hF1 : Fr (fun b => b = n0) W (W.setCell ⟨n0, 0, none⟩ u) := (Fr.refl (fun b => b = n0) W).setCell (p := ⟨n0, 0, none⟩) (fun _ => rfl) _
  have hF2 : Fr (fun b => b = n0 + 1) (W.setCell ⟨n0, 0, none⟩ u) ((W.setCell ⟨n0, 0, none⟩ u).setCell ⟨n0 + 1, 0, none⟩ (.int .i64 x)) := (Fr.refl (fun b => b = n0 + 1) _).setCell (p := ⟨n0 + 1, 0, none⟩) (fun _ => rfl) _
  exact ⟨hF2.at_ (obj_set h.res 0 u) (by omega), obj_set (hF1.at_ h.err (by omega)) 0 _, hF.at_ h.out (by omega), hF.mp h.mp (by omega), h.fr.trans' hF (fun b _ e => by omega)⟩
theorem SmI.put {m' : Its} (h : SmI w0 W n0 rv e m) (hm : Mp Tryz.prog W' 9 ktS encN (n0 + 2) m') (ht : W.mapTurned W' (n0 + 2)) : SmI w0 W' n0 rv e m' := by
  have hF : Fr (fun b => b = n0 + 2) W W' := Fr.turned ht rfl
  exact ⟨hF.at_ h.res (by omega), hF.at_ h.err (by omega), hF.at_ h.out (by omega), hm, h.fr.trans' hF (fun b _ e => by omega)⟩
end
def Si1 (w : World) (n0 : Nat) (L : Its) (j : Nat) (_ : Nat → Prop) (W : World) : Prop := SmI w W n0 (.map none) 0 [] ∧ ∀ (i : Nat) (p : Str × Int), i < j → L[i]? = some p → badIt p = false
def Sx1 (w : World) (n0 : Nat) (L : Its) (c : Code) (_ : Nat) (_ : Nat → Prop) (W : World) : Prop := c = .ret ∧ (sumsF L).1 = 60 ∧ SmI w W n0 (.map none) 60 []
def Si2 (w : World) (n0 D : Nat) (L : Its) (j : Nat) (_ : Nat → Prop) (W : World) : Prop := ∃ m, SmI w W n0 (.map none) 0 m ∧ sumsM (L.take j) = some m ∧ W.heap[D]? = some (.deferred (some []))
def Sx2 (w : World) (n0 D : Nat) (L : Its) (c : Code) (_ : Nat) (_ : Nat → Prop) (W : World) : Prop := c = .ret ∧ (sumsF L).1 = 50 ∧ ∃ m, SmI w W n0 (.map none) 50 m ∧ W.heap[D]? = some (.deferred (some []))
theorem def_keep {B D : Nat} {W W' : World} (h : W.heap[D]? = some (.deferred (some []))) (hf : Fa B W W') (hD : D < B) : W'.heap[D]? = some (.deferred (some [])) :=
  hf.at_ h (fun e => by have := e.1; omega)
theorem sums_bad {L : Its} {j : Nat} {p : Str × Int} (h : L[j]? = some p) (hb : badIt p = true) : (sumsF L).1 = 60 := by
  unfold sumsF
  rw [if_pos (List.any_eq_true.2 ⟨p, List.mem_of_getElem? h, hb⟩)]
theorem sums_good {L : Its} (h : ∀ (i : Nat) (p : Str × Int), i < L.length → L[i]? = some p → badIt p = false) : sumsF L = match sumsM L with | some m => (0, m) | none => (50, []) := by
  unfold sumsF
  have : L.any badIt = false := List.any_eq_false.2 (fun p hp => by
    obtain ⟨i, hi, rfl⟩ := List.getElem_of_mem hp
    rw [h i _ hi (List.getElem?_eq_getElem hi)]; simp)
  rw [this, if_neg (by simp)]
  cases sumsM L <;> rfl
theorem sumStep_at {m L : Its} {p : Str × Int} (h : SumOk m L) (hp : badIt p = false) : sumStep (some m) p = (if (addK ((getS m p.1).getD 0) p.2).2 = 0 then some (putS ktS.lt m p.1 (addK ((getS m p.1).getD 0) p.2).1) else none) ∧ ((addK ((getS m p.1).getD 0) p.2).2 = 0 ∨ (addK ((getS m p.1).getD 0) p.2).2 = 50) := by
  have h1 := h.at_ p.1
  have hm : mayI ((getS m p.1).getD 0) = true := mayI_iff.2 h1
  have hp2 : mayI p.2 = true := by
    unfold badIt at hp
    have h3 : (goodB p.1 && mayI p.2) = true := by simpa using hp
    rw [Bool.and_eq_true] at h3
    exact h3.2
  have ha : addK ((getS m p.1).getD 0) p.2 = if 1099511627776 < (getS m p.1).getD 0 + p.2 then (0, 50) else ((getS m p.1).getD 0 + p.2, 0) := by
    unfold addK
    rw [if_pos ⟨hm, hp2⟩]
  rw [ha]
  show ((if 1099511627776 < (getS m p.1).getD 0 + p.2 then none else some (putS ktS.lt m p.1 ((getS m p.1).getD 0 + p.2))) = _) ∧ _
  by_cases hs : 1099511627776 < (getS m p.1).getD 0 + p.2
  · rw [if_pos hs, if_pos hs]
    exact ⟨rfl, .inr rfl⟩
  · rw [if_neg hs, if_neg hs]
    exact ⟨rfl, .inl rfl⟩
theorem sumsM_len : ∀ (B m m' : Its), B.foldl sumStep (some m) = some m' → m'.length ≤ m.length + B.length
  | [], m, m', e => by
    obtain rfl : m = m' := Option.some.inj e
    omega
  | p :: r, m, m', e => by
    rw [List.foldl_cons] at e
    by_cases hs : 1099511627776 < sumAt m p
    · have : sumStep (some m) p = none := by simp only [sumStep, if_pos hs]
      rw [this, sumStep_none] at e; cases e
    · have h1 : sumStep (some m) p = some (putS ktS.lt m p.1 (sumAt m p)) := by simp only [sumStep, if_neg hs]
      rw [h1] at e
      have h2 := sumsM_len r _ m' e
      have h3 := putK_len ktS.lt m p.1 (sumAt m p)
      rw [List.length_cons]
      omega
theorem lookN {m : Its} {W : World} {b : Nat} {g : Str} (h : Mp Tryz.prog W 9 ktS encN b m) (hg : okS g) : (Instr.lookup 90 (.map (some b)) (vS g) false).run Tryz.prog W = .ok (.int .i64 ((getS m g).getD 0)) W := by
  have h0 : (zeroValue 3).run Tryz.prog W = .ok (.int .i64 0) W := by kernel_rfl
  have := h.look kSN Tryz.underlying90 h0 (x := g) hg
  rw [show ktS.enc g = vS g from rfl] at this
  rw [this]
  cases getS m g <;> rfl
set_option maxRecDepth 100000 in
set_option maxHeartbeats 8000000 in
theorem iSums (w : World) (v : Value) (L : Its) (h : Il w v L) : Calls Tryz.prog 103 #[v] w fun e w' => ∃ mv, e = .returned (.tuple #[mv, .int .i64 (sumsF L).1]) ∧ ((sumsF L).1 ≠ 0 → mv = .map none) ∧
    ((sumsF L).1 = 0 → mv = .map (some (w.heap.size + 2)) ∧ Mp Tryz.prog w' 9 ktS encN (w.heap.size + 2) (sumsF L).2) ∧ Fr (fun _ => False) w w' := by
  obtain ⟨n0, hn0⟩ : ∃ n0, w.heap.size = n0 := ⟨_, rfl⟩
  have HS := Lib.hid hn0
  have HL := Lib.hid h
  have hob := h.lt
  have HOB := Lib.hid hob
  have hokl : Hid (∀ (j : Nat) (p : Str × Int), L[j]? = some p → okS p.1 ∧ okI p.2) := Lib.hid (fun j p hp => by obtain ⟨_, _, _, _, hx⟩ := h; exact ⟨(hx j p hp).1, (hx j p hp).2.1⟩)
  have hLb : (L.length : Int) ≤ 9223372036854775807 := by have := h.1; omega
  obtain ⟨a, c, rfl⟩ := h.sl
  obtain ⟨N, hN⟩ : ∃ N, L.length = N := ⟨_, rfl⟩
  have HN := Lib.hid hN
  rw [hN] at HL HOB hLb ⊢
  have HLB := Lib.hid hLb
  clear h hob hN hLb
  refine (callsIn_wide (n := 0)).1 ?_
  refine callsIn_of_wp_marks Tryz.func103 rfl trivial ?_ rfl
  simp only [Tryz.ntmps103, List.size_toArray, List.length_cons, List.length_nil, Nat.reduceAdd, Nat.reduceSub, Array.replicate_succ, Array.replicate_zero, List.push_toArray, List.append_toArray, List.nil_append, List.cons_append]
  have hfn : ∀ f, Fence.wide.fn f := fun _ => trivial
  have hmm := @run_makeMap Tryz.prog
  have hdp : Fence.wide.depth.isSome = false := rfl
  gi_wp2_with (gi_at_call 58; refine (callsIn_wide.2 (iAll _ _ _ _)).mono ?_; rintro e w1 ⟨rfl, rfl⟩)
  clear hmm
  rw [show n0 + 1 + 1 + 1 + 1 = n0 + 4 from rfl, show n0 + 1 + 1 + 1 = n0 + 3 from rfl, show n0 + 1 + 1 = n0 + 2 from rfl]
  obtain ⟨W0, hW0⟩ : ∃ W0, (((((w.alloc (.cells #[.map none] 90)).alloc (.cells #[.int .i64 0] 30)).alloc (.map #[] 0)).alloc (.cells #[.map (some (n0 + 2))] 90)).alloc (.cells #[.slice a N c] 27)) = W0 := ⟨_, rfl⟩
  have hI0 : SmI w W0 n0 (.map none) 0 [] := by
    have hm := Mp.made (κ := Str) (ν := Int) Tryz.prog ((w.alloc (.cells #[.map none] 90)).alloc (.cells #[.int .i64 0] 30)) 9 ktS encN
    rw [show ((w.alloc (.cells #[.map none] 90)).alloc (.cells #[.int .i64 0] 30)).heap.size = n0 + 2 by simp; omega] at hm
    rw [← hW0]
    exact ⟨heap_keep (heap_keep (heap_keep (heap_keep (heap_at hn0.symm _) _) _) _) _, heap_keep (heap_keep (heap_keep (heap_at (by simp; omega) _) _) _) _, heap_keep (heap_at (by simp; omega) _) _, (hm.alloc _).alloc _, (((((Fr.refl _ w).alloc _).alloc _).alloc _).alloc _).alloc _⟩
  have hB0 : Boxed W0 (n0 + 4) 27 (.slice a N c) := by rw [← hW0]; exact heap_at (by simp; omega) _
  have hs0 : W0.heap.size = n0 + 5 := by rw [← hW0]; simp; omega
  rw [hW0]
  have hL0 := HL.out.fr hI0.fr (fun b hb => by omega)
  have HI0 := Lib.hid hI0; have HS0 := Lib.hid hs0
  clear hW0 hI0
  refine rangeX (w0 := W0) (X := L) (S := fun b => b = n0 ∨ b = n0 + 1) rfl (enters_of Tryz.func95 (by kernel_rfl) rfl)
    (iAll1 _ W0 (n0 + 4) _ L hB0 hL0 (by omega) (fun hl b hb e => by have := HOB.out hl b e; omega)) (Below.refl _ _) (fun b hb => by omega) (fun _ => rfl)
    (Si1 w n0 L) (Sx1 w n0 L)
    (fun k C W W' hs hf => ⟨hs.1.fa hf (by omega), hs.2⟩) (fun c k C W W' hs hf => ⟨hs.1, hs.2.1, hs.2.2.fa hf (by omega)⟩)
    ⟨HI0.out, fun i p hi => by omega⟩ ?round ?done ?stop
  case round =>
    rintro lp j x C W hx hlp hi hr
    dsimp only [encIt]
    gi_wp2
    refine Took.mk (Fr.refl _ _) hi ?_
    rintro Wb ⟨hQ, hkn⟩ hrb hf hsz hsw hCC _
    have hok := hokl.out j x hx
    have hbad : Hid (badIt x = true → (sumsF L).1 = 60) := Lib.hid (fun e => sums_bad hx e)
    have hgood : Hid (badIt x = false → ∀ (i : Nat) (p : Str × Int), i < j + 1 → L[i]? = some p → badIt p = false) := Lib.hid (fun e i p hi hp => by
      by_cases e2 : i = j
      · subst e2
        rw [hx] at hp
        cases hp
        exact e
      · exact hkn i p (by omega) hp)
    obtain ⟨gd, n⟩ := x
    dsimp only at hok ⊢
    unfold badIt at hbad hgood
    dsimp only at hbad hgood
    have HQ := Lib.hid hQ; have HOK := Lib.hid hok
    clear hi hr hf hrb hx hQ hkn hok
    cases hg : goodB gd with
    | false =>
      rw [hg] at hbad
      have h60 := Lib.hid (hbad.out rfl)
      gi_wp2_with (first
        | (gi_at_call 67; refine (callsIn_wide.2 (iGood _ gd HOK.out.1)).mono ?_; rw [hg]; rintro e w2 ⟨rfl, hf2⟩; have hM2 := HQ.out.keep hf2; have HM2 := Lib.hid hM2; have HF2 := Lib.hid hf2; have c0 := cell_obj hM2.res 0 (.map none) rfl; have f0 := obj_frozen hM2.res 0; have c1 := cell_obj hM2.err 0 (.int .i64 0) rfl; have f1 := obj_frozen hM2.err 0; clear hM2 hf2))
      exact ⟨((HF2.out.mono (fun _ _ e => e.elim)).setCell (p := ⟨n0, 0, none⟩) (fun _ => .inl (.inl rfl)) _).setCell (p := ⟨n0 + 1, 0, none⟩) (fun _ => .inl (.inr rfl)) _, rfl, h60.out, HM2.out.set _ _⟩
    | true =>
      rw [hg] at hbad hgood
      cases hm : mayI n with
      | false =>
        rw [hm] at hbad
        have h60 := Lib.hid (hbad.out rfl)
        gi_wp2_with (first
          | (gi_at_call 67; refine (callsIn_wide.2 (iGood _ gd HOK.out.1)).mono ?_; rw [hg]; rintro e w2 ⟨rfl, hf2⟩; have hM2 := HQ.out.keep hf2; have HM2 := Lib.hid hM2; have HF2 := Lib.hid hf2; have c0 := cell_obj hM2.res 0 (.map none) rfl; have f0 := obj_frozen hM2.res 0; have c1 := cell_obj hM2.err 0 (.int .i64 0) rfl; have f1 := obj_frozen hM2.err 0; clear hM2 hf2)
          | (gi_at_call 68; refine (callsIn_wide.2 (kMay _ n)).mono ?_; rw [hm]; rintro e w3 ⟨rfl, rfl⟩))
        exact ⟨((HF2.out.mono (fun _ _ e => e.elim)).setCell (p := ⟨n0, 0, none⟩) (fun _ => .inl (.inl rfl)) _).setCell (p := ⟨n0 + 1, 0, none⟩) (fun _ => .inl (.inr rfl)) _, rfl, h60.out, HM2.out.set _ _⟩
      | true =>
        rw [hm] at hgood
        have hok := Lib.hid (hgood.out rfl)
        gi_wp2_with (first
          | (gi_at_call 67; refine (callsIn_wide.2 (iGood _ gd HOK.out.1)).mono ?_; rw [hg]; rintro e w2 ⟨rfl, hf2⟩; have hM2 := HQ.out.keep hf2; have HM2 := Lib.hid hM2; have HF2 := Lib.hid hf2; clear hM2 hf2)
          | (gi_at_call 68; refine (callsIn_wide.2 (kMay _ n)).mono ?_; rw [hm]; rintro e w3 ⟨rfl, rfl⟩))
        exact ⟨HF2.out.mono (fun _ _ e => e.elim), HM2.out, hok.out⟩
  case stop =>
    rintro D c j C W hD hk ⟨rfl, h60, hQ⟩ hr hK
    have HQ := Lib.hid hQ; have H60 := Lib.hid h60
    have c0 := cell_obj (Fa.cells (frPut (B := n0) (.deferred none) (by omega) hK rfl) hQ.res) 0 (.map none) rfl
    have c1 := cell_obj (Fa.cells (frPut (B := n0) (.deferred none) (by omega) hK rfl) hQ.err) 0 (.int .i64 60) rfl
    clear hQ h60 hr
    gi_wp2_with fail
    refine ⟨by simp, .inl ⟨_, _, rfl, run_takeDeferred hK, ?_⟩⟩
    refine ⟨.tuple #[.map none, .int .i64 60], by simp [results, Tryz.results103, go_sem, c0, c1], ?_⟩
    rw [H60.out]
    exact ⟨_, rfl, fun _ => rfl, fun e => absurd e (by omega), (HQ.out.fr.putObj (l := D) (fun _ => by omega) _).mono (fun b hb e => by omega)⟩
  case done =>
    rintro D C W hD ⟨hQ, hkn⟩ hr hK
    have hsg := sums_good (L := L) (fun i p hi hp => hkn i p hi hp)
    have HSG := Lib.hid hsg; have HKN := Lib.hid hkn; have HQ := Lib.hid hQ
    have hDl := (Array.getElem?_eq_some_iff.1 hK).1
    clear hsg hkn hQ hr hB0 hL0
    gi_wp2_with (gi_at_call 58; refine (callsIn_wide.2 (iAll _ _ _ _)).mono ?_; rintro e w2 ⟨rfl, rfl⟩)
    have hQ2 := HQ.out.keep ((Fr.refl (fun _ => False) W).alloc (.cells #[.slice a N c] 27))
    have hB2 := Boxed.new W 27 (.slice a N c)
    have hK2 := heap_keep hK (.cells #[.slice a N c] 27)
    obtain ⟨W2, hW2⟩ : ∃ W2, W.alloc (.cells #[.slice a N c] 27) = W2 := ⟨_, rfl⟩
    have hs2 : W2.heap.size = W.heap.size + 1 := by rw [← hW2]; simp
    rw [hW2] at hQ2 hB2 hK2 ⊢
    have hL2 := HL.out.fr hQ2.fr (fun b hb => by omega)
    have HQ2 := Lib.hid hQ2; have HK2 := Lib.hid hK2
    have hnD : n0 + 5 ≤ D := by have := HS0.out; omega
    clear hW2 hQ2 hK2 HQ hK
    refine rangeX (w0 := W2) (X := L) (S := fun b => b = n0 ∨ b = n0 + 1 ∨ b = n0 + 2) rfl (enters_of Tryz.func95 (by kernel_rfl) rfl)
      (iAll1 _ W2 _ _ L hB2 hL2 (by omega) (fun hl b hb e => by have := HOB.out hl b e; omega)) (Below.refl _ _) (fun b hb => by omega) (fun _ => rfl)
      (Si2 w n0 D L) (Sx2 w n0 D L)
      (fun k C W W' hs hf => by obtain ⟨m, h1, h2, h3⟩ := hs; exact ⟨m, h1.fa hf (by omega), h2, def_keep h3 hf (by omega)⟩) (fun c k C W W' hs hf => by obtain ⟨e1, e2, m, h1, h3⟩ := hs; exact ⟨e1, e2, m, h1.fa hf (by omega), def_keep h3 hf (by omega)⟩)
      ⟨[], HQ2.out, rfl, HK2.out⟩ ?round2 ?done2 ?stop2
    case round2 =>
      rintro lp j x C3 W3 hx hlp hi hr
      dsimp only [encIt]
      gi_wp2
      refine Took.mk (Fr.refl _ _) hi ?_
      rintro Wb ⟨m, hQ, hm, hKb⟩ hrb hf hsz hsw hCC _
      have hok := hokl.out j x hx
      have hjl := (List.getElem?_eq_some_iff.1 hx).1
      have hb := HKN.out j x hjl hx
      have hsum := sumsM_ok (L.take j) [] [] m SumOk.nil (fun p hp => by
        obtain ⟨i, hi, rfl⟩ := List.getElem_of_mem hp
        rw [List.length_take] at hi
        exact HKN.out i _ (by omega) (by rw [List.getElem_take]; exact List.getElem?_eq_getElem _)) hm
      have hst := sumStep_at hsum hb
      have hat := hsum.at_ x.1
      have hml : m.length < 9223372036854775807 := by
        have h1 := sumsM_len (L.take j) [] m hm
        rw [List.length_take] at h1
        have := HLB.out; have := HN.out
        simp only [List.length_nil] at h1
        omega
      have htk := sumsM_take hx
      rw [hm] at htk
      obtain ⟨gd, n⟩ := x
      dsimp only at hok hst hat ⊢
      obtain ⟨u, hu⟩ : ∃ u, (getS m gd).getD 0 = u := ⟨_, rfl⟩
      rw [hu] at hst hat
      have hlk := lookN hQ.mp hok.1
      rw [hu] at hlk
      obtain ⟨⟨s, e⟩, hR⟩ : ∃ R, addK u n = R := ⟨_, rfl⟩
      rw [hR] at hst
      have hA := fun W => kAdd W u n (by unfold okI; omega) hok.2
      rw [hR] at hA
      have co := cell_obj hQ.out 0 (.map (some (n0 + 2))) rfl
      have HQ := Lib.hid hQ; have HOK := Lib.hid hok; have HKB := Lib.hid hKb; have HST := Lib.hid hst; have HTK := Lib.hid htk; have HA := Lib.hid hA; have HX := Lib.hid hx; have HML := Lib.hid hml
      clear hi hr hf hrb hx hQ hok hKb hst htk hA hsum hb hR hu hat hm hml hjl
      by_cases he : e = 0
      · have hst := HST.out.1
        dsimp only at hst
        rw [if_pos he] at hst
        have HST2 := Lib.hid hst
        have HE := Lib.hid he
        have hsto : Hid (∀ W, Fr (fun _ => False) Wb W → ∃ w', (Instr.mapUpdate 90 (.map (some (n0 + 2))) (vS gd) (.int .i64 s)).run Tryz.prog W = .ok () w' ∧ Mp Tryz.prog w' 9 ktS encN (n0 + 2) (putS ktS.lt m gd s) ∧ W.mapTurned w' (n0 + 2)) := Lib.hid (fun W hf => (hf.mp HQ.out.mp (fun e => e)).store kSN Tryz.underlying90 HML.out HOK.out.1 s)
        subst he
        clear hst
        gi_wp2_with (gi_at_call 122; refine (callsIn_wide.2 (HA.out _)).mono ?_; rintro e w4 ⟨rfl, hf4⟩; have HF4 := Lib.hid hf4; obtain ⟨w5, hst5, hm5, ht5⟩ := hsto.out w4 hf4; have HM5 := Lib.hid hm5; have HT5 := Lib.hid ht5; have co2 := hf4.cell co (fun e => e); clear hf4 hm5 ht5)
        refine ⟨(HF4.out.mono (fun _ _ e => e.elim)).trans (Fr.turned HT5.out (.inl (.inr (.inr rfl)))), _, (HQ.out.keep HF4.out).put HM5.out HT5.out, ?_, ?_⟩
        · rw [HTK.out]; exact HST2.out
        · exact (Fr.turned (S := fun b => b = n0 + 2) HT5.out rfl).at_ (HF4.out.at_ HKB.out (fun e => e)) (by omega)
      · have hst := HST.out
        dsimp only at hst
        rw [if_neg he] at hst
        have he50 : e = 50 := hst.2.elim (fun h => absurd h he) id
        have hno := HTK.out.trans hst.1
        have H50 : Hid ((sumsF L).1 = 50) := Lib.hid (by rw [HSG.out, sumsM_no hno])
        subst he50
        have hns : ((50 : Int) != 0) = true := rfl
        clear hst hno he
        gi_wp2_with (gi_at_call 122; refine (callsIn_wide.2 (HA.out _)).mono ?_; rintro e w4 ⟨rfl, hf4⟩; have HF4 := Lib.hid hf4; have hM2 := HQ.out.keep hf4; have HM2 := Lib.hid hM2; have c0 := cell_obj hM2.res 0 (.map none) rfl; have f0 := obj_frozen hM2.res 0; have c1 := cell_obj hM2.err 0 (.int .i64 0) rfl; have f1 := obj_frozen hM2.err 0; clear hf4 hM2)
        have hF5 : Fr (fun b => b = n0 ∨ b = n0 + 1) Wb ((w4.setCell ⟨n0, 0, none⟩ (.map none)).setCell ⟨n0 + 1, 0, none⟩ (.int .i64 50)) := ((HF4.out.mono (fun _ _ e => e.elim)).setCell (p := ⟨n0, 0, none⟩) (fun _ => .inl rfl) _).setCell (p := ⟨n0 + 1, 0, none⟩) (fun _ => .inr rfl) _
        exact ⟨hF5.mono (fun b _ e => .inl (e.elim .inl (fun e => .inr (.inl e)))), rfl, H50.out, m, HM2.out.set _ _, hF5.at_ HKB.out (by omega)⟩
    case stop2 =>
      rintro D2 c j C3 W3 hD2 hk ⟨rfl, h50, m, hQ, hK1⟩ hr hK
      have HQ := Lib.hid hQ; have H50 := Lib.hid h50
      have hK1' := (World.putObj_heap_other (w := W3) (r := D2) (o := .deferred none) (k := D) (by omega)).trans hK1
      have hFx : Fa n0 W3 ((W3.putObj D2 (.deferred none)).putObj D (.deferred none)) := (frPut (B := n0) (.deferred none) (by omega) hK rfl).trans' (frPut (B := n0) (.deferred none) (by omega) hK1' rfl) (fun b hb e => ⟨e.1, by
        obtain ⟨-, o, ho, hx⟩ := e
        by_cases hbD : b = D2
        · subst hbD; exact ⟨_, hK, rfl⟩
        · exact ⟨o, (World.putObj_heap_other hbD).symm.trans ho, hx⟩⟩)
      have c0 := cell_obj (Fa.cells hFx hQ.res) 0 (.map none) rfl
      have c1 := cell_obj (Fa.cells hFx hQ.err) 0 (.int .i64 50) rfl
      clear hQ h50 hr
      gi_wp2_with fail
      refine ⟨by simp, .inl ⟨_, _, rfl, run_takeDeferred hK, ?_⟩⟩
      refine ⟨by simp, .inl ⟨_, _, rfl, run_takeDeferred hK1', ?_⟩⟩
      refine ⟨.tuple #[.map none, .int .i64 50], by simp [results, Tryz.results103, go_sem, c0, c1], ?_⟩
      rw [H50.out]
      exact ⟨_, rfl, fun _ => rfl, fun e => absurd e (by omega), ((HQ.out.fr.putObj (l := D2) (fun _ => by omega) _).putObj (l := D) (fun _ => by omega) _).mono (fun b hb e => by omega)⟩
    case done2 =>
      rintro D2 C3 W3 hD2 ⟨m, hQ, hm, hK1⟩ hr hK
      have hsm : Hid (sumsF L = (0, m)) := Lib.hid (by rw [List.take_length] at hm; rw [HSG.out, hm])
      have HQ := Lib.hid hQ
      have co := cell_obj hQ.out 0 (.map (some (n0 + 2))) rfl
      have c0 := cell_obj hQ.res 0 (.map none) rfl
      have f0 := obj_frozen hQ.res 0
      have c1 := cell_obj hQ.err 0 (.int .i64 0) rfl
      have f1 := obj_frozen hQ.err 0
      clear hQ hm hr
      have hQs := (HQ.out.set (.map (some (n0 + 2))) 0)
      obtain ⟨W4, hW4⟩ : ∃ W4, (W3.setCell ⟨n0, 0, none⟩ (.map (some (n0 + 2)))).setCell ⟨n0 + 1, 0, none⟩ (.int .i64 0) = W4 := ⟨_, rfl⟩
      have hFs : Fr (fun b => b = n0 ∨ b = n0 + 1) W3 W4 := by rw [← hW4]; exact ((Fr.refl _ _).setCell (p := ⟨n0, 0, none⟩) (fun _ => .inl rfl) _).setCell (p := ⟨n0 + 1, 0, none⟩) (fun _ => .inr rfl) _
      have hKs := hFs.at_ hK (by omega)
      have hK1s := hFs.at_ hK1 (by omega)
      gi_wp2_with fail
      rw [hW4] at hQs
      (try rw [hW4])
      have hK1' := (World.putObj_heap_other (w := W4) (r := D2) (o := .deferred none) (k := D) (by omega)).trans hK1s
      have hFx : Fa n0 W4 ((W4.putObj D2 (.deferred none)).putObj D (.deferred none)) := (frPut (B := n0) (.deferred none) (by omega) hKs rfl).trans' (frPut (B := n0) (.deferred none) (by omega) hK1' rfl) (fun b hb e => ⟨e.1, by
        obtain ⟨-, o, ho, hx⟩ := e
        by_cases hbD : b = D2
        · subst hbD; exact ⟨_, hKs, rfl⟩
        · exact ⟨o, (World.putObj_heap_other hbD).symm.trans ho, hx⟩⟩)
      have d0 := cell_obj (Fa.cells hFx hQs.res) 0 (.map (some (n0 + 2))) rfl
      have d1 := cell_obj (Fa.cells hFx hQs.err) 0 (.int .i64 0) rfl
      refine ⟨by simp, .inl ⟨_, _, rfl, run_takeDeferred hKs, ?_⟩⟩
      refine ⟨by simp, .inl ⟨_, _, rfl, run_takeDeferred hK1', ?_⟩⟩
      refine ⟨.tuple #[.map (some (n0 + 2)), .int .i64 0], by simp [results, Tryz.results103, go_sem, d0, d1], ?_⟩
      rw [hsm.out]
      refine ⟨_, rfl, fun e => absurd rfl e, fun _ => ⟨by rw [HS.out], ?_⟩, ((hQs.fr.putObj (l := D2) (fun _ => by omega) _).putObj (l := D) (fun _ => by omega) _).mono (fun b hb e => by omega)⟩
      rw [HS.out]
      exact Fa.mp hFx hQs.mp
end Go.Proofs.YtogphlnakdnchaaGreat

namespace Go.Proofs.YtogphlnakdnchaaGreat
open Go.RowKit Go.Maps
theorem run_append_zeros2 {P : Program} (w : World) (t ty e ti : TypeId) (i : TypeInfo) (z : Value) (ht : P.underlying t = some (.slice e)) (hti : P.underlying ti = some (.int .i64)) (hi : P.info? e = some i) (hz : i.zero = some z) (hby : i.bytes = 24) (hsz : i.size = 2)
    (n : Nat) (h0 : 0 < n) (h63 : n ≤ 1000000) :
    (Builtin.append_ #[t, ti] ty #[.slice none 0 0, .int .i64 n]).run P w =
      .ok (.slice (some ⟨w.heap.size, 0, none⟩) n (grownCap w n 0 e)) (w.drew.alloc (.cells (Builtin.zeroCells z.cells n ++ Builtin.zeroCells z.cells (grownCap w n 0 e - n)) e)) := by
  have hn : n ≠ 0 := by omega
  have h63' : ¬ (9223372036854775807 < (n : Int)) := by omega
  have h48' : ¬ (281474976710656 < Builtin.nextslicecap n 0 * 24) := by rw [nextslicecap_zero h0]; omega
  have hw : IntKind.i64.wrap (n : Int) = n := by rw [IntKind.wrap_i64]; omega
  have hl : ¬ ((n : Int) < 0) := by omega
  have hl2 : ¬ (281474976710656 < (n : Int) * 24) := by omega
  simp [Builtin.append_, run_underlying ht, run_underlying hti, sizeOf, typeInfo, zeroValue, hi, hz, hby, hsz, asInt, asIntOf, hw, hl, hl2, hn, h63', h48', Question.forced, run_firstCells_none, newRow, grownCap]
  intro h; omega
theorem wpList_append_zeros2 {P : Program} (w : World) {ops : Array Oper} {rest : List Oper} {o : Oper} {a : Act} {Q : Exit → Act → World → Prop} (hgd : o.guard = none) (s x : Operand) (t e ti : TypeId)
    (ho : o.op = .call { callee := .builtin .append, args := #[s, x], argTypes := #[t, ti] }) (i : TypeInfo) (z : Value) (ht : P.underlying t = some (.slice e)) (hti : P.underlying ti = some (.int .i64)) (hi : P.info? e = some i) (hz : i.zero = some z) (hby : i.bytes = 24) (hsz : i.size = 2)
    (n : Nat) (h0 : 0 < n) (h63 : n ≤ 1000000) (hs : a.eval s = .slice none 0 0) (hx : a.eval x = .int .i64 n)
    (h : wpList P ops Q rest (a.put o.dst (.slice (some ⟨w.heap.size, 0, none⟩) n (grownCap w n 0 e))) (w.drew.alloc (.cells (Builtin.zeroCells z.cells n ++ Builtin.zeroCells z.cells (grownCap w n 0 e - n)) e))) :
    wpList P ops Q (o :: rest) a w := by
  refine wpList_plain hgd fun K hK => ?_
  have hr := run_append_zeros2 (P := P) w t o.type e ti i z ht hti hi hz hby hsz n h0 h63
  unfold Oper.wp execOp
  simp only [ho, resolve, invoke, builtin, Sem.run_bind, Sem.run_pure, Result.andThen_ok, List.map_toArray, List.map_cons, List.map_nil, hs, hx, hr]
  exact hK _ _ h
theorem zeroCells_size2 (z : Array Value) (hz : z.size = 2) (n : Nat) : (Builtin.zeroCells z n).size = n * 2 := by simp [Builtin.zeroCells, hz]
set_option maxRecDepth 100000 in
theorem iGrow (w : World) (n : Nat) (hn : (n : Int) ≤ 1000000) : Calls Tryz.prog 105 #[.slice none 0 0, .int .i64 n] w fun e w' =>
    ∃ v, e = .returned v ∧ w'.ownsRow w.heap.size 65 2 v 0 [] ∧ Fr (fun _ => False) w w' := by
  obtain ⟨i0, hi', hz0, hz1, hz2⟩ := info_parts infoItem
  by_cases h0 : n = 0
  · subst h0
    go_enter Tryz.func105, Tryz.ntmps105
    go_wp2
    go_ret
    exact ⟨_, rfl, World.ownsRow_nil _ _ _ _, Fr.refl _ _⟩
  · have hpos : 0 < n := by omega
    have hcap := Lib.hid (grownCap_ge w n 0 65)
    have hcm := Lib.hid (grownCap_le_maxLen w n 0 65 (by unfold maxLen; omega))
    go_enter Tryz.func105, Tryz.ntmps105
    go_wp2_with (at_builtin; refine wpList_append_zeros2 _ rfl _ _ 27 65 3 rfl i0 (.agg #[.string ⟨#[]⟩, .int .i64 0]) Tryz.underlying27 Tryz.underlying3 hi' hz0 hz2 hz1 n hpos (by omega) rfl rfl ?_)
    go_ret
    refine ⟨_, rfl, World.ownsRow_made (w := w.drew) _ _ (Nat.le_refl _) hcm.out ?_, (Fr.refl _ w).drew.alloc _⟩
    rw [Array.size_append, zeroCells_size2 _ rfl, zeroCells_size2 _ rfl]
    have := hcap.out
    omega
/-- Slices of items, side by side. -/
def PartsI (w : World) (v : Value) (L : List (Value × Its)) : Prop := ∃ a c, v = .slice (some a) L.length c ∧ ∀ i p, L[i]? = some p → w.cell? (a.add i) = some p.1 ∧ Il w p.1 p.2
def catI (L : List (Value × Its)) : Its := L.flatMap (·.2)
theorem catI_take {L : List (Value × Its)} {k : Nat} {p : Value × Its} (h : L[k]? = some p) : catI (L.take (k + 1)) = catI (L.take k) ++ p.2 := by
  unfold catI
  rw [List.take_add_one, h]; simp
theorem catI_le (L : List (Value × Its)) (k : Nat) : (catI (L.take k)).length ≤ (catI L).length := by
  have : catI L = catI (L.take k) ++ catI (L.drop k) := by
    unfold catI
    rw [← List.flatMap_append, List.take_append_drop]
  rw [this, List.length_append]; omega
theorem il_rd {w : World} {a : Option Addr} {n c : Nat} {L : Its} (h : Il w (.slice a n c) L) : Rd w 2 a L.length (itCs L) := by
  obtain ⟨_, a', c', e, h1⟩ := h
  injection e with e1 _ _
  refine ⟨itCs_len L, fun hm => ?_⟩
  obtain ⟨p0, hp0⟩ : ∃ p, L[0]? = some p := ⟨L[0], List.getElem?_eq_getElem hm⟩
  obtain ⟨-, -, ad, ha, -, -⟩ := h1 0 p0 hp0
  refine ⟨ad, by rw [e1, ha], fun j u hu => ?_⟩
  have hj := (List.getElem?_eq_some_iff.1 hu).1
  rw [itCs_len] at hj
  obtain ⟨i, hi⟩ : ∃ i, j = i * 2 ∨ j = i * 2 + 1 := ⟨j / 2, by omega⟩
  have hil : i < L.length := by omega
  obtain ⟨p, hp⟩ : ∃ p, L[i]? = some p := ⟨L[i], List.getElem?_eq_getElem hil⟩
  obtain ⟨-, -, ad', ha', k0, k1⟩ := h1 i p hp
  have : ad' = ad := by rw [ha] at ha'; exact (Option.some.inj ha').symm
  subst this
  obtain ⟨c0, c1⟩ := itCs_at hp
  rcases hi with rfl | rfl
  · rw [c0] at hu; cases hu; exact k0
  · rw [c1] at hu; cases hu
    rw [show (ad'.add (i * 2 + 1)) = ⟨(ad'.add (i * 2)).block, (ad'.add (i * 2)).off + 1, none⟩ from add_field ad' (i * 2) 0]
    exact k1
set_option maxRecDepth 100000 in
set_option maxHeartbeats 2000000 in
theorem iConcat (w : World) (v : Value) (L : List (Value × Its)) (h : PartsI w v L) (hl : (L.length : Int) ≤ 1000) (hn : ((catI L).length : Int) ≤ 1000000) : Calls Tryz.prog 71 #[v] w fun e w' =>
    ∃ v', e = .returned v' ∧ w'.ownsRow w.heap.size 65 2 v' (catI L).length (itCs (catI L)) ∧ Fr (fun _ => False) w w' := by
  obtain ⟨i0, hi', hz0, hz1, hz2⟩ := info_parts infoItem
  obtain ⟨a, c, rfl, -⟩ := id h
  have HP := Lib.hid h
  clear h
  obtain ⟨ln, hln⟩ : ∃ ln, L.length = ln := ⟨_, rfl⟩
  have HLN := Lib.hid hln
  rw [hln] at hl HP ⊢
  clear hln
  have hle := fun k => catI_le L k
  obtain ⟨tot, htot⟩ : ∃ t, (catI L).length = t := ⟨_, rfl⟩
  have HTOT := Lib.hid htot
  rw [htot] at hn hle ⊢
  have HLE := Lib.hid hle
  clear htot hle
  go_enter Tryz.func71, Tryz.ntmps71
  go_wp2
  go_loopw [3, 11] (fun z i wr => ∃ k : Nat, (k : Int) ≤ ln ∧ z = .int .i64 ((catI (L.take k)).length : Nat) ∧ i = .int .i64 k ∧ wr = w) (fun _ i _ => ln - (intOf i).toNat)
  case atStart => exact ⟨0, by omega, by simp [catI], rfl, rfl⟩
  case round =>
    obtain ⟨k, hk, rfl, rfl, rfl⟩ := hrel
    by_cases hkl : (k : Int) < ln
    · obtain ⟨p, hp⟩ : ∃ p, L[k]? = some p := ⟨L[k]'(by have := HLN.out; omega), List.getElem?_eq_getElem _⟩
      obtain ⟨a', c', e, h1⟩ := HP.out
      have hc := (h1 k p hp).1
      obtain ⟨ba, bc, hbe⟩ := (h1 k p hp).2.sl
      injection e with e1 e2 e3
      cases e1
      have e3 := e3.symm
      subst e3
      have HT := Lib.hid (congrArg List.length (catI_take hp))
      have HLE1 := HLE.out (k + 1)
      rw [HT.out, List.length_append] at HLE1
      rw [hbe] at hc
      obtain ⟨pl, hpl⟩ : ∃ n, p.2.length = n := ⟨_, rfl⟩
      rw [hpl] at hc HLE1
      obtain ⟨z, hz⟩ : ∃ z, (catI (L.take k)).length = z := ⟨_, rfl⟩
      rw [hz] at HLE1 ⊢
      have HZ := Lib.hid hz; have HPL := Lib.hid hpl
      clear h1 hp hz hpl e2 hbe
      go_wp2
      go_roundw
      case rel => exact ⟨k + 1, by omega, val_int (by rw [HT.out, List.length_append, HZ.out, HPL.out]; omega), by go_num, by trivial⟩
      case measure => simp [intOf]; omega
    · have hke : k = ln := by omega
      have hz : (catI (L.take k)).length = tot := by rw [List.take_of_length_le (by have := HLN.out; omega)]; exact HTOT.out
      rw [hz]
      subst hke
      clear hz
      go_wp2_with fail
      refine (iGrow _ _ hn).mono ?_
      rintro e w1 ⟨v1, rfl, hown, hB⟩
      have HOW := Lib.hid hown; have HBB := Lib.hid hB
      clear hown hB
      go_wp2_with fail
      obtain ⟨W0, rfl⟩ : ∃ W0 : World, W0 = wr := ⟨_, rfl⟩
      go_loopw [6, 27] (fun o i w2 => ∃ j : Nat, (j : Int) ≤ k ∧ i = .int .i64 j ∧ w2.ownsRow W0.heap.size 65 2 o (catI (L.take j)).length (itCs (catI (L.take j))) ∧ Fr (fun _ => False) W0 w2) (fun _ i _ => k - (intOf i).toNat)
      case atStart => exact ⟨0, by omega, rfl, HOW.out, HBB.out⟩
      case round =>
        obtain ⟨j, hj, rfl, hown2, hB2⟩ := hrel
        by_cases hjl : (j : Int) < k
        · obtain ⟨p, hp⟩ : ∃ p, L[j]? = some p := ⟨L[j]'(by have := HLN.out; omega), List.getElem?_eq_getElem _⟩
          obtain ⟨a', c', e, h1⟩ := HP.out
          have hc := (h1 j p hp).1
          have hil := (h1 j p hp).2
          obtain ⟨ba, bc, hbe⟩ := hil.sl
          have hil2 := hil.keep hB2 (fun _ _ _ e => e)
          injection e with e1 e2 e3
          cases e1
          have e3 := e3.symm
          subst e3
          rw [hbe] at hc hil2
          have hc2 := hB2.cell hc (fun e => e)
          have hrd := il_rd hil2
          have hT := catI_take hp
          have hLE1 := HLE.out (j + 1)
          rw [hT, List.length_append] at hLE1
          have hall : ∀ u ∈ itCs p.2, u.oneCell' = true := fun u hu => itCs_one hu
          have HALL := Lib.hid hall; have HT := Lib.hid hT; have HO2 := Lib.hid hown2; have HB2 := Lib.hid hB2
          obtain ⟨pl, hpl⟩ : ∃ n, p.2.length = n := ⟨_, rfl⟩
          obtain ⟨z, hz⟩ : ∃ z, (catI (L.take j)).length = z := ⟨_, rfl⟩
          have hBs := hB2.size
          rw [hpl] at hc2 hLE1 hrd
          rw [hz] at hLE1 HO2
          have HPL := Lib.hid hpl; have HZ := Lib.hid hz; have HRD := Lib.hid hrd
          clear hall hT hown2 hB2 h1 hp hc e2 hpl hz hbe hil hil2 hrd
          go_wp2_with (at_builtin; refine wpList_append_src rfl _ _ 27 rfl W0.heap.size 65 i0 _ 24 Tryz.underlying27 hi' hz0 hz1 hz2 rfl (by decide) _ z _ rfl HO2.out _ rfl HRD.out HALL.out (by unfold maxLen; omega) (by omega) hBs ?_; intro v' w5 hown' hgrow _)
          go_roundw
          case rel =>
            refine ⟨j + 1, by omega, by go_num, ?_, HB2.out.trans' (Fr.grown (S := fun b => W0.heap.size ≤ b) hgrow (fun r hr _ => (HO2.out.lt r hr).1)) (fun b hb e => by have e : W0.heap.size ≤ b := e; omega)⟩
            rw [HT.out, List.length_append, HZ.out, HPL.out, itCs_app]
            exact hown'
          case measure => simp [intOf]; omega
        · have hje : j = k := by omega
          subst hje
          rw [List.take_of_length_le (by have := HLN.out; omega), HTOT.out] at hown2
          go_wp2_with fail
          go_ret
          exact ⟨_, rfl, hown2, hB2⟩
end Go.Proofs.YtogphlnakdnchaaGreat

namespace Go.Proofs.YtogphlnakdnchaaGreat
open Go.RowKit Go.Maps Go.Sort Go.Shelf Go.Proofs
theorem sortsN (m : Nat) : AnyZ.SortsIn Tryz.prog Tryz.laysSortedN_ren Fence.wide m :=
  ⟨fun blk off cap ss W hH hblk hsz => callsIn_wide.2 (AnyM.slices_Sort_string Tryz.laysSortN blk off cap ss W hH hblk hsz),
   fun p cap W => callsIn_wide.2 (AnyM.slices_Sort_string_none Tryz.laysSortN p cap W)⟩
/-- A map's keys as an iterator, and its sorted row: both contracts, at a map of strings. -/
theorem keysSortedN {ν : Type} (w : World) (b : Nat) (enc : ν → Value) (l : List (Str × ν)) (h : Mp Tryz.prog w 9 ktS enc b l) (hl : (l.length : Int) ≤ 1099511627776) :
    CallsIn Fence.wide 5 Tryz.prog 104 #[.map (some b)] w (fun e w' => e = .returned (.func (.func 123) #[] #[.pointer (some ⟨w.heap.size, 0, none⟩)]) ∧ w' = w.alloc (.cells #[.map (some b)] 90)) ∧
    CallsIn Fence.wide 5 Tryz.prog 97 #[.func (.func 123) #[] #[.pointer (some ⟨w.heap.size, 0, none⟩)]] (w.alloc (.cells #[.map (some b)] 90)) (fun e w' => ∃ v, e = .returned v ∧ w'.ownsRow w.heap.size 9 1 v l.length (l.map fun p => vS p.1) ∧ Below w.heap.size w w') := by
  obtain ⟨nn, hown⟩ := id h
  have hord := riseS_of (h.ok (koS Tryz.underlying9)).2
  have hsz : Maps.size (ktS.dat enc l) = l.length := dat_size ktS enc l
  have hk : strKeys (ktS.dat enc l) = l.map (·.1) := strKeys_dat enc l
  have hsort : ∀ ss : List Str, ss.Perm (l.map (·.1)) → ss.mergeSort (fun x y => decide (x ≤ y)) = l.map (·.1) := fun ss hp => strs_sorted hord hp
  have hbl := hown.lt
  have hseq : SeqGives Fence.wide 2 Tryz.prog 123 #[.pointer (some ⟨w.heap.size, 0, none⟩)] encStr (fun ss => ss.Perm (strKeys (ktS.dat enc l))) (Maps.size (ktS.dat enc l)) (w.alloc (.cells #[.map (some b)] 90)) :=
    AnyZ.keys_gives (ρ := Tryz.laysKeysN_ren) { Tryz.laysKeysN with } Fence.wide _ trivial rfl (by omega) w.heap.size b nn _ _ (by simp) (by simp) (by
      obtain ⟨es, clock, hb, Ft, hs, hD⟩ := hown
      exact ⟨es, clock, (Below.heap_alloc _ _ b hbl).trans hb, Ft, hs, hD⟩)
  refine ⟨AnyZ.keys_in Tryz.laysKeysN Fence.wide 5 trivial rfl (some b) w, ?_⟩
  have cS := AnyZ.sorted_in Tryz.laysSortedN Fence.wide 5 trivial trivial trivial trivial rfl (by omega) (sortsN _) (enters_of Tryz.func120 (by kernel_rfl) rfl) 123 #[.pointer (some ⟨w.heap.size, 0, none⟩)] trivial (enters_of Tryz.func123 (by kernel_rfl) rfl) _ _ (by rw [hsz]; unfold maxLen; omega) (by rw [hsz]; omega) _ hseq
  change CallsIn _ _ Tryz.prog 97 _ _ _ at cS
  refine cS.mono ?_
  rintro e w' ⟨v, ss, rfl, hS, hrow, hnil, hb⟩
  rw [hk] at hS
  rw [hsort ss hS] at hrow
  have hlen : ss.length = l.length := by rw [hS.length_eq]; simp
  rw [hlen, List.map_map] at hrow
  exact ⟨v, rfl, ownsRow_base_a hrow (by simp), ((Below.refl _ w).alloc (Nat.le_refl _) _).trans (hb.mono (by simp))⟩
end Go.Proofs.YtogphlnakdnchaaGreat

namespace Go.Proofs.YtogphlnakdnchaaGreat
open Go.RowKit Go.Maps
theorem il_okm' {w : World} {v : Value} {L : Its} (h : Il w v L) {p : Str × Int} (hp : p ∈ L) : okS p.1 ∧ okI p.2 := by
  obtain ⟨i, hi⟩ := List.getElem?_of_mem hp
  obtain ⟨_, _, _, _, hx⟩ := h
  exact ⟨(hx i p hi).1, (hx i p hi).2.1⟩
theorem cell_two' (w : World) (x y : Value) (t : TypeId) : ∀ j u, [x, y][j]? = some u → (w.alloc (.cells #[x, y] t)).cell? ((⟨w.heap.size, 0, none⟩ : Addr).add j) = some u := by
  intro j u h
  have h0 : (w.alloc (.cells #[x, y] t)).heap[w.heap.size]? = some (.cells #[x, y] t) := heap_at rfl _
  match j, h with
  | 0, h => cases h; exact cell_obj h0 0 _ rfl
  | 1, h => cases h; exact cell_obj h0 1 _ rfl
theorem posF_take {m : Its} {k : Nat} {p : Str × Int} (h : m[k]? = some p) : posF (m.take (k + 1)) = posF (m.take k) ++ (if 0 < p.2 then [p] else []) := by
  unfold posF
  rw [List.take_add_one, h, List.filter_append]
  congr 1
  by_cases e : 0 < p.2
  · rw [if_pos e]; simp [e]
  · rw [if_neg e]; simp [e]
theorem posF_le (m : Its) (k : Nat) : (posF (m.take k)).length ≤ k := by
  unfold posF
  refine Nat.le_trans (List.length_filter_le _ _) ?_
  rw [List.length_take]; omega
set_option maxRecDepth 100000 in
set_option maxHeartbeats 8000000 in
theorem iNorm (w : World) (v : Value) (L : Its) (h : Il w v L) (hl : L.length ≤ 100000) : Calls Tryz.prog 70 #[v] w fun e w' => ∃ v', e = .returned (.tuple #[v', .int .i64 (normF L).2]) ∧ w'.ownsRow w.heap.size 65 2 v' (normF L).1.length (itCs (normF L).1) ∧ Fr (fun _ => False) w w' := by
  obtain ⟨i0, hi', hz0, hz1, hz2⟩ := info_parts infoItem
  obtain ⟨n0, hn0⟩ : ∃ n0, w.heap.size = n0 := ⟨_, rfl⟩
  have HN0 := Lib.hid hn0
  have hS := iSums w v L h
  obtain ⟨⟨E, m⟩, hR⟩ : ∃ R, sumsF L = R := ⟨_, rfl⟩
  have hnf : normF L = if E = 0 then (if 16 < (posF m).length then ([], 3) else (posF m, 0)) else ([], E) := by unfold normF; rw [hR]
  obtain ⟨NF, hNF⟩ : ∃ R, normF L = R := ⟨_, rfl⟩
  rw [hNF] at hnf ⊢
  have HNF := Lib.hid hnf
  rw [hR] at hS
  obtain ⟨a, c, rfl⟩ := h.sl
  by_cases hE : E = 0
  · subst hE
    rw [if_pos rfl] at hnf
    have HNF2 := Lib.hid hnf
    have hso := sumsF_ok hR
    have hml : m.length ≤ 100000 := by
      have h1 : sumsM L = some m := by
        unfold sumsF at hR
        split at hR
        · cases hR
        · split at hR
          · rename_i m' hm
            injection hR with _ hR
            rw [hm, hR]
          · cases hR
      have h2 := sumsM_len L [] m h1
      simp only [List.length_nil] at h2
      omega
    have hrow : Hid (∀ p ∈ m, okS p.1 ∧ okI p.2) := Lib.hid (fun p hp => by
      have h1 := hso.row p hp
      have h2 := h1.1
      unfold goodB at h2
      simp only [Bool.and_eq_true, decide_eq_true_eq] at h2
      exact ⟨by unfold okS maxLen; omega, by unfold okI; omega⟩)
    have hnd := Lib.hid hso.nd
    have hS2 : Calls Tryz.prog 103 #[.slice a L.length c] w fun e w' => e = .returned (.tuple #[.map (some (n0 + 2)), .int .i64 0]) ∧ Mp Tryz.prog w' 9 ktS encN (n0 + 2) m ∧ Fr (fun _ => False) w w' := by
      refine hS.mono ?_
      rintro e w' ⟨mv, rfl, -, h2, h3⟩
      obtain ⟨rfl, h4⟩ := h2 rfl
      rw [hn0] at h4 ⊢
      exact ⟨rfl, h4, h3⟩
    have HS2 := Lib.hid hS2
    obtain ⟨N, hN⟩ : ∃ N, m.length = N := ⟨_, rfl⟩
    have HN := Lib.hid hN
    have hkeys : Hid (∀ W, Mp Tryz.prog W 9 ktS encN (n0 + 2) m → _ ∧ _) := Lib.hid (fun W hm => (⟨callsIn_wide.1 (keysSortedN W (n0 + 2) encN m hm (by omega)).1, callsIn_wide.1 (keysSortedN W (n0 + 2) encN m hm (by omega)).2⟩))
    clear h hS hnf hR hso hS2 hNF
    rw [hN] at hml
    clear hN
    go_enter Tryz.func70, Tryz.ntmps70
    go_wp2_with (first
      | (go_at_call 103; refine HS2.out.mono ?_; rintro e w1 ⟨rfl, hm1, hf1⟩; have HM1 := Lib.hid hm1; have HF1 := Lib.hid hf1; have hK := hkeys.out w1 hm1; have HK1 := Lib.hid hK.1; have HK2 := Lib.hid hK.2; clear hm1 hf1 hK)
      | (go_at_call 104; refine HK1.out.mono ?_; rintro e w2 ⟨rfl, rfl⟩)
      | (go_at_call 97; refine HK2.out.mono ?_; rintro e w3 ⟨v3, rfl, ho3, hb3⟩; rw [HN.out] at ho3; obtain ⟨ra, rc, rfl⟩ := row_slice ho3; have HO3 := Lib.hid ho3; have HB3 := Lib.hid hb3; clear ho3 hb3))
    have hf3 : Fr (fun _ => False) w w3 := HF1.out.trans' (Fr.below (S := fun _ => False) HB3.out) (fun _ _ e => e)
    have hm3 := (Fr.below (S := fun _ => False) HB3.out).mp HM1.out (fun e => e)
    have HF3 := Lib.hid hf3; have HM3 := Lib.hid hm3
    clear hf3 hm3
    have hNl : Hid (m.length = N) := HN
    go_loopw [6, 22] (fun o i wr => ∃ k : Nat, k ≤ N ∧ i = .int .i64 k ∧ wr.ownsRow w3.heap.size 65 2 o (posF (m.take k)).length (itCs (posF (m.take k))) ∧ Fr (fun _ => False) w3 wr) (fun _ i _ => N - (intOf i).toNat)
    case atStart => exact ⟨0, Nat.zero_le _, rfl, World.ownsRow_nil _ _ _ _, Fr.refl _ _⟩
    case round =>
      obtain ⟨k, hk, rfl, ho, hfr⟩ := hrel
      have hple := posF_le m k
      obtain ⟨g1, hg1⟩ : ∃ x, posF (m.take k) = x := ⟨_, rfl⟩
      rw [hg1] at ho hple
      have HO := Lib.hid ho; have HFR := Lib.hid hfr; have HG1 := Lib.hid hg1
      obtain ⟨oa, oc, rfl⟩ := row_slice ho
      clear ho hg1
      by_cases hlt : k < N
      · obtain ⟨p, hp⟩ : ∃ p, m[k]? = some p := ⟨m[k]'(by rw [HN.out]; exact hlt), List.getElem?_eq_getElem _⟩
        obtain ⟨g', rfl, hg1, hg2⟩ := row_addr HO3.out (by omega)
        have hcx : wr.cell? ⟨g', k, none⟩ = some (vS p.1) := by
          have := (hfr.row HO3.out (fun b _ e => e)).cellAt (g := g') (j := k) (by omega)
          rw [this]; simp [hp]
        have hok := hrow.out p (List.mem_of_getElem? hp)
        have hlk := lookN (hfr.mp HM3.out (fun e => e)) hok.1
        have hget : getS m p.1 = some p.2 := getK_of hnd.out (x := p.1) (v := p.2) (List.mem_of_getElem? hp)
        rw [hget] at hlk
        have HT := Lib.hid (posF_take hp)
        rw [HG1.out] at HT
        have hlI : (k : Int) < N := by omega
        have HOK := Lib.hid hok
        have hws := hfr.size
        obtain ⟨gd, n⟩ := p
        dsimp only [Option.getD] at hcx hlk HT
        clear hp hok hget hg1 hg2
        by_cases hn : 0 < n
        · go_wp2_with (at_builtin; refine wpList_append_own_at _ rfl _ _ 27 rfl w3.heap.size 65 i0 (.agg #[.string ⟨#[]⟩, .int .i64 0]) 2 24 Tryz.underlying27 hi' hz0 hz1 hz2 rfl (by decide) _ _ _ rfl (((Fr.refl (fun _ => False) _).alloc _).row HO.out (fun _ _ e => e)) ⟨wr.heap.size, 0, none⟩ 1 1 [vS gd, .int .i64 n] rfl rfl (cell_two' _ _ _ _) (by intro u hu; simp only [List.mem_cons, List.not_mem_nil, or_false] at hu; rcases hu with rfl | rfl <;> rfl) (by unfold maxLen; omega) (by omega) (by simp; omega) ?_; intro v' w5 hown' hgrow _ hat; obtain ⟨na, nc, rfl⟩ := row_slice hown'; have HOWN := Lib.hid hown'; have HGR := Lib.hid hgrow; clear hown' hgrow hat)
          go_roundw
          case rel =>
            refine ⟨k + 1, by omega, by go_num, ?_, ?_⟩
            · rw [HT.out, if_pos hn, List.length_append, itCs_app]
              exact HOWN.out
            · exact (HFR.out.alloc _).trans' (Fr.grown (S := fun b => w3.heap.size ≤ b) HGR.out (fun r hr _ => (HO.out.lt r hr).1)) (fun b hb e => by have e : w3.heap.size ≤ b := e; omega)
          case measure => simp [intOf]; omega
        · go_wp2_with fail
          go_roundw
          case rel =>
            refine ⟨k + 1, by omega, by go_num, ?_, HFR.out⟩
            rw [HT.out, if_neg hn, List.append_nil]
            exact HO.out
          case measure => simp [intOf]; omega
      · obtain rfl : k = N := by omega
        have hpm : Hid (g1 = posF m) := Lib.hid (by rw [← HG1.out, List.take_of_length_le (by have := HN.out; omega)])
        have hlI : ¬ (k : Int) < k := by omega
        obtain ⟨M, hM⟩ : ∃ M, List.length g1 = M := ⟨_, rfl⟩
        have HMM := Lib.hid hM
        rw [hM]
        have hfin : Hid (Fr (fun _ => False) w wr) := Lib.hid (HF3.out.trans HFR.out)
        have hsz := HF3.out.size
        have HSZ := Lib.hid hsz
        clear hfr hM hple hsz
        by_cases h16 : 16 < M
        · have hI : (16 : Int) < M := by omega
          go_wp2_with fail
          go_ret2
          have e : NF = ([], 3) := by rw [HNF2.out, ← hpm.out, if_pos (by rw [HMM.out]; exact h16)]
          rw [e]
          exact ⟨_, rfl, World.ownsRow_nil _ _ _ _, hfin.out⟩
        · have hI : ¬ (16 : Int) < M := by omega
          go_wp2_with fail
          go_ret2
          have e : NF = (g1, 0) := by rw [HNF2.out, ← hpm.out, if_neg (by rw [HMM.out]; exact h16)]
          rw [e]
          refine ⟨_, rfl, ?_, hfin.out⟩
          have := HO.out
          have hsz := HSZ.out
          rw [HMM.out] at this ⊢
          have hn := HN0.out
          exact own_base this (by omega)
  · rw [if_neg hE] at hnf
    have hS2 : Calls Tryz.prog 103 #[.slice a L.length c] w fun e w' => e = .returned (.tuple #[.map none, .int .i64 E]) ∧ Fr (fun _ => False) w w' := by
      refine hS.mono ?_
      rintro e w' ⟨mv, rfl, h1, -, h3⟩
      obtain rfl := h1 hE
      exact ⟨rfl, h3⟩
    have HS2 := Lib.hid hS2
    have hE2 : (E != 0) = true := by simpa using hE
    clear h hS hR hS2 hNF hE
    go_enter Tryz.func70, Tryz.ntmps70
    go_wp2_with (go_at_call 103; refine HS2.out.mono ?_; rintro e w1 ⟨rfl, hf1⟩; have HF1 := Lib.hid hf1; clear hf1)
    go_ret2
    rw [hnf]
    exact ⟨_, rfl, World.ownsRow_nil _ _ _ _, HF1.out⟩
end Go.Proofs.YtogphlnakdnchaaGreat

namespace Go.Proofs.YtogphlnakdnchaaGreat
open Go.RowKit Go.Maps
set_option maxRecDepth 100000 in
set_option maxHeartbeats 8000000 in
theorem iPlus (w : World) (va vb : Value) (A B : Its) (hA : Il w va A) (hB : Il w vb B) : Calls Tryz.prog 30 #[va, vb] w fun e w' => ∃ v', e = .returned (.tuple #[v', .int .i64 (plusF A B).2]) ∧ w'.ownsRow w.heap.size 65 2 v' (plusF A B).1.length (itCs (plusF A B).1) ∧ Fr (fun _ => False) w w' := by
  obtain ⟨P, hP⟩ : ∃ P, plusF A B = P := ⟨_, rfl⟩
  have hPd : P = if mayL A = true ∧ mayL B = true then normF (A ++ B) else ([], 60) := by rw [← hP]; rfl
  rw [hP]
  obtain ⟨a1, c1, rfl⟩ := hA.sl
  obtain ⟨a2, c2, rfl⟩ := hB.sl
  have hMA := Lib.hid (fun W (hf : Fr (fun _ => False) w W) => iMay W _ A (hA.keep hf (fun _ _ _ e => e)))
  have hMB := Lib.hid (fun W (hf : Fr (fun _ => False) w W) => iMay W _ B (hB.keep hf (fun _ _ _ e => e)))
  have HA := Lib.hid hA; have HB := Lib.hid hB
  clear hP
  cases hm1 : mayL A with
  | false =>
    rw [hm1, if_neg (by simp)] at hPd
    rw [hm1] at hMA
    have HP := Lib.hid hPd
    clear hA hB hm1 hPd
    go_enter Tryz.func30, Tryz.ntmps30
    go_wp2_with (go_at_call 28; refine (hMA.out _ (Fr.refl _ _)).mono ?_; rintro e w1 ⟨rfl, hf1⟩; have HF1 := Lib.hid hf1; clear hf1)
    go_ret2
    rw [HP.out]
    exact ⟨_, rfl, World.ownsRow_nil _ _ _ _, HF1.out⟩
  | true =>
    rw [hm1] at hMA
    cases hm2 : mayL B with
    | false =>
      rw [hm1, hm2, if_neg (by simp)] at hPd
      rw [hm2] at hMB
      have HP := Lib.hid hPd
      have hnx : True := trivial
      clear hA hB hm1 hm2 hPd
      go_enter Tryz.func30, Tryz.ntmps30
      go_wp2_with (first
        | (go_at_call 28; refine (hMB.out _ HF1.out).mono ?_; rintro e w2 ⟨rfl, hf2⟩; have HF2 := Lib.hid hf2; clear hf2)
        | (go_at_call 28; refine (hMA.out _ (Fr.refl _ _)).mono ?_; rintro e w1 ⟨rfl, hf1⟩; have HF1 := Lib.hid hf1; clear hf1))
      go_ret2
      rw [HP.out]
      exact ⟨_, rfl, World.ownsRow_nil _ _ _ _, HF1.out.trans HF2.out⟩
    | true =>
      rw [hm1, hm2, if_pos ⟨rfl, rfl⟩] at hPd
      rw [hm2] at hMB
      have HP := Lib.hid hPd
      have hl1 := (mayL_all hm1).len; have hl2 := (mayL_all hm2).len
      have hcat : ∀ W : World, Fr (fun _ => False) w W → Calls Tryz.prog 71 #[.slice (some ⟨W.heap.size, 0, none⟩) 2 2] (W.alloc (.cells #[.slice a1 A.length c1, .slice a2 B.length c2] 27)) fun e w' => ∃ v', e = .returned v' ∧ Il w' v' (A ++ B) ∧ Fr (fun _ => False) w w' := fun W hf => by
        have hf2 := hf.alloc (.cells #[.slice a1 A.length c1, .slice a2 B.length c2] 27)
        have hh := heap_at (w := W) rfl (.cells #[.slice a1 A.length c1, .slice a2 B.length c2] 27)
        have := iConcat _ _ [(.slice a1 A.length c1, A), (.slice a2 B.length c2, B)] ⟨⟨W.heap.size, 0, none⟩, 2, rfl, fun i p hp => by
          match i, hp with
          | 0, hp => cases hp; exact ⟨cell_obj hh 0 _ rfl, HA.out.keep hf2 (fun _ _ _ e => e)⟩
          | 1, hp => cases hp; exact ⟨cell_obj hh 1 _ rfl, HB.out.keep hf2 (fun _ _ _ e => e)⟩⟩ (by simp) (by simp [catI]; omega)
        refine this.mono ?_
        rintro e w' ⟨v', rfl, h1, h2⟩
        rw [show catI [(Value.slice a1 A.length c1, A), (.slice a2 B.length c2, B)] = A ++ B by simp [catI]] at h1
        refine ⟨v', rfl, (Il.own h1 (fun p hp => ?_)).1, hf2.trans h2⟩
        rcases List.mem_append.1 hp with hp | hp
        · exact il_okm' HA.out hp
        · exact il_okm' HB.out hp
      have HCAT := Lib.hid hcat
      have hll : (A ++ B).length ≤ 100000 := by rw [List.length_append]; omega
      have HLL := Lib.hid hll
      clear hA hB hm1 hm2 hPd hcat hll hl1 hl2
      obtain ⟨LL, hLL⟩ : ∃ l, A ++ B = l := ⟨_, rfl⟩
      rw [hLL] at HCAT HLL HP
      clear hLL
      obtain ⟨NF, hNF⟩ : ∃ R, normF LL = R := ⟨_, rfl⟩
      rw [hNF] at HP
      have hno := Lib.hid (fun W v h => iNorm W v LL h HLL.out)
      rw [hNF] at hno
      obtain ⟨n1, hn1⟩ : ∃ n, A.length = n := ⟨_, rfl⟩
      obtain ⟨n2, hn2⟩ : ∃ n, B.length = n := ⟨_, rfl⟩
      rw [hn1, hn2] at HCAT
      rw [hn1] at hMA ⊢
      rw [hn2] at hMB ⊢
      clear hNF hn1 hn2 HA HB
      go_enter Tryz.func30, Tryz.ntmps30
      go_wp2_with (first
        | (go_at_call 70; refine (hno.out _ _ HI3.out).mono ?_; rintro e w4 ⟨v4, rfl, ho4, hf4⟩; obtain ⟨ra, rc, rfl⟩ := row_slice ho4; have HO4 := Lib.hid ho4; have HF4 := Lib.hid hf4; clear ho4 hf4)
        | (go_at_call 71; refine (HCAT.out _ (HF1.out.trans HF2.out)).mono ?_; rintro e w3 ⟨v3, rfl, hi3, hf3⟩; have HI3 := Lib.hid hi3; obtain ⟨sa, sc, rfl⟩ := hi3.sl; have HF3 := Lib.hid hf3; clear hi3 hf3)
        | (go_at_call 28; refine (hMB.out _ HF1.out).mono ?_; rintro e w2 ⟨rfl, hf2⟩; have HF2 := Lib.hid hf2; clear hf2)
        | (go_at_call 28; refine (hMA.out _ (Fr.refl _ _)).mono ?_; rintro e w1 ⟨rfl, hf1⟩; have HF1 := Lib.hid hf1; clear hf1))
      go_ret2
      rw [HP.out]
      exact ⟨_, rfl, own_base HO4.out HF3.out.size, HF3.out.trans HF4.out⟩
end Go.Proofs.YtogphlnakdnchaaGreat

namespace Go.Proofs.YtogphlnakdnchaaGreat
open Go.RowKit Go.Maps
set_option maxRecDepth 100000 in
theorem itClone (w : World) (v : Value) (bs : Its) (h : Il w v bs) (hl : (bs.length : Int) ≤ 1000) : Calls Tryz.prog 33 #[v] w fun e w' =>
    ∃ v', e = .returned v' ∧ w'.ownsRow w.heap.size 65 2 v' bs.length (itCs bs) ∧ Fr (fun _ => False) w w' := by
  obtain ⟨i0, hi', hz0, hz1, hz2⟩ := info_parts infoItem
  obtain ⟨hb1, a, c, rfl, hbx⟩ := id h
  obtain ⟨n, hn⟩ : ∃ n, bs.length = n := ⟨_, rfl⟩
  have HN := Lib.hid hn
  rw [hn] at hl hb1 ⊢
  clear hn
  have hq := fun (w : World) (a : Option Addr) (n c n' c' : Nat) => Lib.run_eql_slice_nil (P := Tryz.prog) w 27 _ a n c n' c' Tryz.underlying27
  cases a with
  | none =>
    have h0 : n = 0 := by
      rcases Nat.eq_zero_or_pos n with h0 | h0
      · exact h0
      · obtain ⟨x, hx⟩ : ∃ x, bs[0]? = some x := ⟨bs[0]'(by have := HN.out; omega), List.getElem?_eq_getElem _⟩
        obtain ⟨-, -, ad', e, -⟩ := hbx 0 x hx
        cases e
    subst h0
    have hbe : bs = [] := List.eq_nil_of_length_eq_zero HN.out
    subst hbe
    clear h hbx
    go_enter Tryz.func33, Tryz.ntmps33
    go_wp2_with fail
    go_ret
    exact ⟨_, rfl, World.ownsRow_nil _ _ _ _, Fr.refl _ _⟩
  | some ad =>
    have hown : (w.alloc (.cells #[] 65)).ownsRow w.heap.size 65 2 (.slice (some ⟨w.heap.size, 0, none⟩) 0 0) 0 [] := World.ownsRow_made w #[] 0 (Nat.le_refl _) (Nat.zero_le _) rfl
    have hnews : ∀ (i : Nat) (u : Value), (itCs bs)[i]? = some u → (w.alloc (.cells #[] 65)).cell? (ad.add i) = some u := fun i u hu => by
      have hi := (List.getElem?_eq_some_iff.1 hu).1
      rw [itCs_len] at hi
      obtain ⟨x, hx⟩ : ∃ x, bs[i / 2]? = some x := ⟨bs[i / 2]'(by omega), List.getElem?_eq_getElem _⟩
      obtain ⟨-, -, ad', e, c0, c1⟩ := hbx (i / 2) x hx
      cases e
      obtain ⟨d0, d1⟩ := itCs_at hx
      rcases (by omega : i = i / 2 * 2 ∨ i = i / 2 * 2 + 1) with e | e
      · rw [e] at hu ⊢
        rw [d0] at hu
        rw [← hu]
        exact ((Fr.refl (fun _ => False) w).alloc _).cell c0 (fun h => h)
      · rw [e] at hu ⊢
        rw [d1] at hu
        rw [← hu, add_field]
        exact ((Fr.refl (fun _ => False) w).alloc _).cell c1 (fun h => h)
    have hall : ∀ u ∈ itCs bs, u.oneCell' = true := fun u hu => itCs_one hu
    have hul : (itCs bs).length = n * 2 := by have := HN.out; rw [itCs_len, this]
    have HNEWS := Lib.hid hnews; have HALL := Lib.hid hall; have HUL := Lib.hid hul; have HO := Lib.hid hown
    clear hnews hall hul hown hbx h
    go_enter Tryz.func33, Tryz.ntmps33
    go_wp2_with (at_builtin; refine wpList_append_own_at _ rfl _ _ 27 rfl w.heap.size 65 i0 _ 2 24 Tryz.underlying27 hi' hz0 hz1 hz2 rfl (by decide) (.slice (some ⟨w.heap.size, 0, none⟩) 0 0) 0 [] rfl HO.out ad n _ (itCs bs) rfl HUL.out HNEWS.out HALL.out (by unfold maxLen; omega) (by omega) (by simp) ?_; intro v' w5 hown' hgrow _ hat)
    go_ret
    refine ⟨_, rfl, by simpa using hown', ((Fr.refl (fun _ => False) w).alloc _).trans' (Fr.grown (S := fun b => b = w.heap.size) hgrow (fun r hr _ => by cases hr; rfl)) (fun b hb e => by omega)⟩
end Go.Proofs.YtogphlnakdnchaaGreat

namespace Go.Proofs.YtogphlnakdnchaaGreat
open Go.RowKit Go.Maps
attribute [local go_sem] Oper.semAt_some
theorem offerS_app (A : Stk) (L M : Its) : offerS A (L ++ M) = offerS A L ++ offerS A M := by simp [offerS]
theorem offerS_len (A : Stk) (L : Its) : (offerS A L).length ≤ L.length := List.length_filterMap_le _ _
theorem offerS_ok {A : Stk} {L : Its} (hL : ∀ p ∈ L, okS p.1 ∧ 0 ≤ p.2 ∧ p.2 ≤ 1099511627776) : ∀ p ∈ offerS A L, okS p.1 ∧ okI p.2 := by
  intro p hp
  unfold offerS at hp
  obtain ⟨q, hq, e⟩ := List.mem_filterMap.1 hp
  have := hL q hq
  split at e
  · injection e with e
    subst e
    refine ⟨this.1, ?_⟩
    unfold okI
    dsimp only
    omega
  · cases e
theorem cell_two (w : World) (x y : Value) (t : TypeId) : ∀ j u, [x, y][j]? = some u → (w.alloc (.cells #[x, y] t)).cell? ((⟨w.heap.size, 0, none⟩ : Addr).add j) = some u := by
  intro j u hj
  match j, hj with
  | 0, hj => simp at hj; subst hj; simp [Addr.add]
  | 1, hj => simp at hj; subst hj; simp [Addr.add]
  | (j + 2), hj => simp at hj
theorem Col.congr {W : World} {base B : Nat} {t e : TypeId} {size : Nat} {C : Nat → Prop} {v : Value} {n n' : Nat} {xs xs' : List Value} (h : Col W base B t e size C v n xs) (h1 : n = n') (h2 : xs = xs') : Col W base B t e size C v n' xs' := h1 ▸ h2 ▸ h
def OfJ (w w5 : World) (n0 ob g : Nat) (A : Stk) (L : Its) (k : Nat) (C : Nat → Prop) (W : World) : Prop :=
  W.heap[n0]? = some (.cells #[.pointer (some ⟨g, 0, none⟩)] 58) ∧ (∃ v, Col W (ob + 2) ob 27 65 2 C v (offerS A (L.take k)).length (itCs (offerS A (L.take k)))) ∧ Fr (fun b => n0 ≤ b) w W ∧ Fr (fun b => b = ob) w5 W
theorem OfJ.fa {B : Nat} {w w5 W W' : World} {n0 ob g k : Nat} {C : Nat → Prop} {A : Stk} {L : Its} (h : OfJ w w5 n0 ob g A L k C W) (hf : Fa B W W') (hB : w.heap.size ≤ B ∧ w5.heap.size ≤ B) : OfJ w w5 n0 ob g A L k C W' :=
  ⟨Fa.cells hf h.1, h.2.1.elim fun v hv => ⟨v, hv.fa hf⟩, h.2.2.1.trans' hf (fun b hb e => by have := e.1; omega), h.2.2.2.trans' hf (fun b hb e => by have := e.1; omega)⟩
set_option maxRecDepth 100000 in
set_option maxHeartbeats 8000000 in
theorem sOffer (w : World) (g : Nat) (TS : Nat → Prop) (A : Stk) (v : Value) (L : Its) (h : SA w g TS A) (hA : SOk A) (hv : Il w v L) :
    Calls Tryz.prog 29 #[.pointer (some ⟨g, 0, none⟩), v] w fun e w' => ∃ v', e = .returned v' ∧ Il w' v' (if mayL L = true then offerS A L else []) ∧ (∀ b, v'.ownBlock = some b → w.heap.size ≤ b ∧ b < w'.heap.size) ∧ Fr (fun _ => False) w w' := by
  obtain ⟨i0, hi', hz0, hz1, hz2⟩ := info_parts infoItem
  obtain ⟨n0, hn0⟩ : ∃ n0, w.heap.size = n0 := ⟨_, rfl⟩
  have HS := Lib.hid hn0
  have HL := Lib.hid hv
  have hob := hv.lt
  have HOB := Lib.hid hob
  have hokl : Hid (∀ (j : Nat) (p : Str × Int), L[j]? = some p → okS p.1) := Lib.hid (fun j p hp => by obtain ⟨_, _, _, _, hx⟩ := hv; exact (hx j p hp).1)
  obtain ⟨a, c, rfl⟩ := hv.sl
  obtain ⟨N, hN⟩ : ∃ N, L.length = N := ⟨_, rfl⟩
  have HN := Lib.hid hN
  rw [hN] at HL HOB ⊢
  have HSA := Lib.hid h
  have HAA := Lib.hid hA
  have HGL : Hid (g < w.heap.size) := Lib.hid (h.lt g h.own)
  obtain ⟨m, hc, hm, hTm⟩ := h.cell
  obtain ⟨W0, hW0⟩ : ∃ W0, w.alloc (.cells #[.pointer (some ⟨g, 0, none⟩)] 58) = W0 := ⟨_, rfl⟩
  have hF0 : Fr (fun _ => False) w W0 := by rw [← hW0]; exact (Fr.refl _ w).alloc _
  have hs0 : W0.heap.size = n0 + 1 := by rw [← hW0]; simp; omega
  have hb0 : W0.heap[n0]? = some (.cells #[.pointer (some ⟨g, 0, none⟩)] 58) := by rw [← hW0]; exact heap_at hn0.symm _
  have HF0 := Lib.hid hF0; have HS0 := Lib.hid hs0; have HB0 := Lib.hid hb0
  have hmd := Lib.hid (callsIn_wide (n := 0) |>.2 (smade W0 g m (hF0.cell hc (fun h => h))))
  have hIM := Lib.hid (callsIn_wide (n := 0) |>.2 (iMay W0 (.slice a N c) L (HL.out.fr hF0 (fun b hb => hb.elim))))
  have hcs := cell_obj hb0 0 (.pointer (some ⟨g, 0, none⟩)) rfl
  clear hv hob hN h hm hTm hA hF0 hb0 hc
  refine (callsIn_wide (n := 0)).1 ?_
  refine callsIn_of_wp_marks Tryz.func29 rfl trivial ?_ rfl
  simp only [Tryz.ntmps29, List.size_toArray, List.length_cons, List.length_nil, Nat.reduceAdd, Nat.reduceSub, Array.replicate_succ, Array.replicate_zero, List.push_toArray, List.append_toArray, List.nil_append, List.cons_append]
  have hfn : ∀ f, Fence.wide.fn f := fun _ => trivial
  have hdp : Fence.wide.depth.isSome = false := rfl
  cases hml : mayL L with
  | false =>
    rw [hml] at hIM
    simp only [Bool.false_eq_true, if_false]
    gi_wp2_with (first
      | (gi_at_call 69; refine hmd.out.mono ?_; rintro e w1 ⟨rfl, rfl⟩)
      | (gi_at_call 28; refine hIM.out.mono ?_; rintro e w2 ⟨rfl, hf2⟩; have HF2 := Lib.hid (HF0.out.trans hf2); clear hf2))
    refine ⟨.slice none 0 0, by simp [results, Tryz.results29, go_sem], _, rfl, ⟨by simp, none, 0, rfl, fun i p hp => by simp at hp⟩, (fun b hb => by cases hb), HF2.out⟩
  | true =>
    rw [hml] at hIM
    simp only [if_true]
    have hpos : Hid (∀ p ∈ L, 0 ≤ p.2 ∧ p.2 ≤ 1099511627776) := Lib.hid (mayL_pos hml)
    have h16 : Hid (L.length ≤ 16) := Lib.hid (by unfold mayL at hml; simp at hml; exact hml.2)
    clear hml
    gi_wp2_with (first
      | (gi_at_call 69; refine hmd.out.mono ?_; rintro e w1 ⟨rfl, rfl⟩)
      | (gi_at_call 28; refine hIM.out.mono ?_; rintro e w2 ⟨rfl, hf2⟩; have HF2 := Lib.hid (HF0.out.trans hf2); have HB2 := Lib.hid (hf2.at_ HB0.out (fun h => h)); clear hf2)
      | (gi_at_call 58; refine (callsIn_wide.2 (iAll _ _ _ _)).mono ?_; rintro e w5 ⟨rfl, rfl⟩))
    have hsz2 := HF2.out.size
    obtain ⟨ob, hob⟩ : ∃ ob, w2.heap.size = ob := ⟨_, rfl⟩
    have hcb : Boxed ((w2.alloc (.cells #[.slice none 0 0] 27)).alloc (.cells #[.slice a N c] 27)) ob 27 (.slice none 0 0) := heap_keep (heap_at hob.symm _) _
    have hBx : Boxed ((w2.alloc (.cells #[.slice none 0 0] 27)).alloc (.cells #[.slice a N c] 27)) (ob + 1) 27 (.slice a N c) := heap_at (by simp; omega) _
    have hsb : ((w2.alloc (.cells #[.slice none 0 0] 27)).alloc (.cells #[.slice a N c] 27)).heap[n0]? = some (.cells #[.pointer (some ⟨g, 0, none⟩)] 58) := heap_keep (heap_keep HB2.out _) _
    have hF5 : Fr (fun _ => False) w ((w2.alloc (.cells #[.slice none 0 0] 27)).alloc (.cells #[.slice a N c] 27)) := (HF2.out.alloc _).alloc _
    have hs5 : ((w2.alloc (.cells #[.slice none 0 0] 27)).alloc (.cells #[.slice a N c] 27)).heap.size = ob + 2 := by simp; omega
    have hnob : n0 < ob := by have := (Array.getElem?_eq_some_iff.1 HB2.out).1; omega
    obtain ⟨W5, hW5⟩ : ∃ W5, (w2.alloc (.cells #[.slice none 0 0] 27)).alloc (.cells #[.slice a N c] 27) = W5 := ⟨_, rfl⟩
    rw [hW5] at hcb hBx hsb hF5 hs5 ⊢
    rw [hob]
    have hL5 := HL.out.fr hF5 (fun b hb => hb.elim)
    have HCB := Lib.hid hcb; have HSB := Lib.hid hsb; have HF5 := Lib.hid hF5; have HS5 := Lib.hid hs5
    clear hW5 hob hsz2 hF5 hcb hsb HF2 HB2
    refine rangeX (w0 := W5) (X := L) (S := fun b => b = ob) rfl (enters_of Tryz.func95 (by kernel_rfl) rfl)
      (iAll1 _ W5 _ _ L hBx hL5 (by omega) (fun hl b hb e => by have := HOB.out hl b e; omega)) (Below.refl _ _) (fun b hb => by omega) (fun _ => rfl)
      (OfJ w W5 n0 ob g A L) (fun _ _ _ _ => False)
      (fun k C W W' hs hf => hs.fa hf (by omega)) (fun c k C W W' hs hf => hs)
      ⟨HSB.out, ⟨_, HCB.out, World.ownsRow_nil _ _ _ _, fun b hb => by cases hb⟩, HF5.out.mono (fun _ _ h => h.elim), Fr.refl _ _⟩ ?round ?done ?stop
    case stop => intro D c k C W hD hk hX; exact hX.elim
    case round =>
      rintro lp j x C W hx hlp hi hr
      dsimp only [encIt]
      gi_wp2
      refine Took.mk (Fr.refl _ _) hi ?_
      rintro Wb ⟨hQ, ⟨v, hcol⟩, hFw, hF5w⟩ hrb hf hsz hsw hCC _
      have hok := hokl.out j x hx
      have hpos := hpos.out x (List.mem_of_getElem? hx)
      have hjl := (List.getElem?_eq_some_iff.1 hx).1
      have htk : offerS A (L.take (j + 1)) = offerS A (L.take j) ++ offerS A [x] := by rw [List.take_add_one, hx, offerS_app]; rfl
      have hol : (offerS A (L.take j)).length ≤ 16 := by have h1 := offerS_len A (L.take j); have h2 := h16.out; rw [List.length_take] at h1; omega
      obtain ⟨gd, n⟩ := x
      dsimp only at hok hpos ⊢
      have cs := cell_obj hQ 0 (.pointer (some ⟨g, 0, none⟩)) rfl
      have hSW : SA Wb g TS A := HSA.out.fr hFw (fun b hb e => by have := HSA.out.lt b hb; omega)
      have hLv := Lib.hid (callsIn_wide (n := 0) |>.2 (sLevel Wb g TS A gd hSW hok))
      have hRok := (HAA.out.at_ gd).b.a0
      obtain ⟨R, hRR⟩ : ∃ R, rowAt A gd = R := ⟨_, rfl⟩
      rw [hRR] at hLv hRok
      have hof : Hid (offerS A [(gd, n)] = if 0 < min n R.free then [(gd, min n R.free)] else []) := Lib.hid (by
        unfold offerS
        simp only [List.filterMap_cons, List.filterMap_nil, hRR]
        split <;> split <;> simp_all)
      unfold SR.lev at hLv
      clear hRR
      obtain ⟨f0, f1, f2, f3, f4, f5, f6, f7, f8, f9, f10⟩ := R
      dsimp only at hLv hRok hof
      have hfl : ∀ W, (Instr.field 98 (.agg #[.int .i64 f0, .int .i64 f1, .int .i64 f2, .int .i64 f3]) 0).run Tryz.prog W = .ok (.int .i64 f0) W := fun W => by kernel_rfl
      have HQ := Lib.hid hQ; have HFW := Lib.hid hFw; have HF5W := Lib.hid hF5w; have HCOL := Lib.hid hcol; have HTK := Lib.hid htk; have HCC := Lib.hid hCC; have HX := Lib.hid hx; have HOK := Lib.hid hok
      clear hi hr hf hrb hQ hFw hF5w htk hx hok hSW hCC
      have hIG : okI (min n f0) := by unfold okI; have := hRok; omega
      have hIG := Lib.hid hIG
      by_cases hpm : 0 < min n f0
      · obtain ⟨M, hM⟩ : ∃ M, min n f0 = M := ⟨_, rfl⟩
        have HM := Lib.hid hM
        have hof1 : Hid (offerS A [(gd, n)] = [(gd, M)]) := Lib.hid (by rw [hof.out, if_pos hpm, hM])
        clear hof
        gi_wp2_with (first
          | (gi_at_call 60; refine hLv.out.mono ?_; rintro e w6 ⟨rfl, hf6⟩; have HF6 := Lib.hid hf6; have hcol6 : Col w6 (ob + 2) ob 27 65 2 C v _ _ := ⟨hf6.box HCOL.out.box (fun h => h), hf6.row HCOL.out.row (fun _ _ h => h), HCOL.out.mine⟩; have hco := hcol6.box.cell; clear hf6)
          | (gi_at_builtin; refine wpListIn_append_own_at _ rfl _ _ 27 rfl (ob + 2) 65 i0 (.agg #[.string ⟨#[]⟩, .int .i64 0]) 2 24 Tryz.underlying27 hi' hz0 hz1 hz2 rfl (by decide) _ _ _ rfl (hcol6.row.alloc _) ⟨w6.heap.size, 0, none⟩ 1 1 [vS gd, .int .i64 M] rfl rfl (cell_two _ _ _ _) (by intro u hu; simp only [List.mem_cons, List.not_mem_nil, or_false] at hu; rcases hu with rfl | rfl <;> rfl) (by unfold maxLen; omega) (by omega) (by have := HF6.out.size; simp; omega) ?_; intro v' w1 hown' hgrow _ hat; obtain ⟨g', cap', rfl⟩ := ownsRow_succ hown'; obtain ⟨hv1, hc1, hf1⟩ := hcol6.appended (W0 := W) (S := fun b => b = ob) (by decide) rfl (Nat.le_trans hsz HF6.out.size) hown' hgrow hat; have hcc := hv1.cell; have hcf := hv1.frozen; have HC1 := Lib.hid hc1; have HF1 := Lib.hid hf1; clear hc1 hf1 hat hgrow hown' hcol6))
        have hfA := (HF6.out.mono (fun _ _ e => e.elim)).trans HF1.out
        have hsz0 := HF5W.out.size
        have hcc0 : ∀ b, b < Wb.heap.size → (b = ob ∨ CC C W w6 b) → b = ob ∨ ob + 2 ≤ b := by
          rintro b hb (e | e | e)
          · exact .inl e
          · have := HCC.out b e; omega
          · have := e.1; omega
        have eLn : (offerS A (L.take j)).length + 1 = (offerS A (L.take (j + 1))).length := by rw [HTK.out, hof1.out, List.length_append]; rfl
        have eCs : itCs (offerS A (L.take j)) ++ [vS gd, .int .i64 M] = itCs (offerS A (L.take (j + 1))) := by rw [HTK.out, hof1.out, itCs_app]; rfl
        refine ⟨hfA.mono (fun b hb e => e.imp_right (fun e => e.elim .inl (fun e => .inr ⟨e.1, hb⟩))), hfA.at_ HQ.out (fun e => ?_), ⟨_, HC1.out.congr eLn eCs⟩, HFW.out.trans' hfA (fun b hb e => ?_), HF5W.out.trans' hfA (fun b hb e => ?_)⟩
        · have := hcc0 _ (Array.getElem?_eq_some_iff.1 HQ.out).1 e; omega
        · have := HFW.out.size; have := hcc0 _ (by omega) e; have := HS.out; omega
        · have := hcc0 _ (by omega) e; omega
      · have hof1 : Hid (offerS A [(gd, n)] = []) := Lib.hid (by rw [hof.out, if_neg hpm])
        clear hof
        gi_wp2_with (gi_at_call 60; refine hLv.out.mono ?_; rintro e w6 ⟨rfl, hf6⟩; have HF6 := Lib.hid hf6; clear hf6)
        have h6 := HF6.out
        refine ⟨h6.mono (fun _ _ e => e.elim), h6.at_ HQ.out (fun e => e), ⟨v, ?_⟩, HFW.out.trans (h6.mono fun _ _ e => e.elim), HF5W.out.trans (h6.mono fun _ _ e => e.elim)⟩
        rw [HTK.out, hof1.out, List.append_nil]
        exact ⟨h6.box HCOL.out.box (fun h => h), h6.row HCOL.out.row (fun _ _ h => h), fun b hb => .inl (HCOL.out.mine b hb)⟩
    case done =>
      rintro D C W hD ⟨hQ, ⟨v, hcol⟩, hFw, hF5w⟩ hr hK
      have hco := hcol.box.cell
      rw [show L.take L.length = L from List.take_length] at hcol
      have hown := hcol.row
      have HFW := Lib.hid hFw; have HCOL := Lib.hid hcol; have HKK := Lib.hid hK; have HR := Lib.hid hr; have HD := Lib.hid hD
      clear hcol hFw hK hF5w hQ hr hD hown
      gi_wp2
      refine ⟨by simp, .inl ⟨_, _, rfl, run_takeDeferred HKK.out, ?_⟩⟩
      refine ⟨_, results_tmp rfl _ _ _, v, rfl, ?_, ?_, ?_⟩
      · exact (Il.own (ownsRow_putObj HCOL.out.row _ HKK.out rfl) (offerS_ok fun p hp => ⟨by obtain ⟨i, hi⟩ := List.mem_iff_getElem?.1 hp; exact hokl.out i p hi, hpos.out p hp⟩)).1
      · intro b hb
        have := HCOL.out.row.lt b hb
        have e2 : (W.putObj D (.deferred none)).heap.size = W.heap.size := by simp
        omega
      · have := HS.out; have := HS5.out
        exact (HFW.out.putObj (l := D) (fun h => by have := HD.out; omega) _).mono (fun b hb e => by omega)
end Go.Proofs.YtogphlnakdnchaaGreat

