/- stock: Pack: what it packs, plainly. -/
import Derived.Test.YtclgmnobockfnaaStkUnpacksM2
import Derived.Test.YtclgmnobockfnaaStkUnpacksM9
namespace Go.Proofs.Ytclgmnobockfnaa
open Go.RowKit Go.Maps
def numsB (r : SR) (k : Nat) : List Int := (List.range k).flatMap fun j => numB (r.get j)
def rowB (p : Str × SR) : List Int := textB p.1 ++ numsB p.2 11
def packS (A : Stk) : List Int := numB (A.length : Int) ++ A.flatMap rowB
theorem numsB_succ (r : SR) (k : Nat) : numsB r (k + 1) = numsB r k ++ numB (r.get k) := by simp [numsB, List.range_succ]
theorem SRok.get {r : SR} (h : SRok r) (j : Nat) : okI (r.get j) := by
  have hc := h.counted
  obtain ⟨⟨a0, a1, a2, a3, b0, b1, b2, b3, b4, b5⟩, -, -⟩ := h
  unfold okI SR.get
  split <;> omega
theorem numsB_len {r : SR} (h : SRok r) (k : Nat) : (numsB r k).length ≤ 9 * k := by
  induction k with
  | zero => simp [numsB]
  | succ k ih =>
    rw [numsB_succ, List.length_append]
    have := (numB_len (h.get k)).2
    omega
theorem goodB_len {s : Str} (h : goodB s = true) : s.length ≤ 16 := by
  unfold goodB at h
  simp at h
  omega
theorem textB_len {s : Str} (h : s.length ≤ 16) : (textB s).length ≤ 25 := by
  unfold textB
  rw [List.length_append, sB_len]
  have := (numB_len (n := (s.length : Int)) (by unfold okI; omega)).2
  omega
theorem rowB_len {p : Str × SR} (h1 : goodB p.1 = true) (h2 : SRok p.2) : (rowB p).length ≤ 124 := by
  unfold rowB
  rw [List.length_append]
  have := textB_len (goodB_len h1)
  have := numsB_len h2 11
  omega
theorem rows_len : ∀ {L : Stk}, (∀ p ∈ L, goodB p.1 = true ∧ SRok p.2) → (L.flatMap rowB).length ≤ 124 * L.length
  | [], _ => by simp
  | p :: r, h => by
    rw [List.flatMap_cons, List.length_append, List.length_cons]
    have := rowB_len (h p (by simp)).1 (h p (by simp)).2
    have := rows_len (L := r) (fun q hq => h q (by simp [hq]))
    omega
theorem rowsB_byt {L : Stk} (h : ∀ p ∈ L, goodB p.1 = true ∧ SRok p.2) : Byt (L.flatMap rowB) := by
  intro x hx
  obtain ⟨p, hp, hx⟩ := List.mem_flatMap.1 hx
  unfold rowB textB numsB at hx
  obtain ⟨h1, h2⟩ := h p hp
  simp only [List.mem_append, List.mem_flatMap] at hx
  rcases hx with (hx | hx) | ⟨j, _, hx⟩
  · exact numB_mem (by have := goodB_len h1; unfold okI; omega) hx
  · exact sB_byt _ x hx
  · exact numB_mem (h2.get j) hx
theorem packS_byt {A : Stk} (h : SOk A) : Byt (packS A) := by
  intro x hx
  rcases List.mem_append.1 hx with hx | hx
  · exact numB_mem (by have := h.len; unfold okI; omega) hx
  · exact rowsB_byt (fun p hp => ⟨h.good p hp, h.row p hp⟩) x hx
theorem packS_len {A : Stk} (h : SOk A) : (packS A).length ≤ 7945 := by
  unfold packS
  rw [List.length_append]
  have := (numB_len (n := (A.length : Int)) (by have := h.len; unfold okI; omega)).2
  have := rows_len (fun p hp => ⟨h.good p hp, h.row p hp⟩)
  have := h.len
  omega
theorem put_ok {bs c : List Int} (h : bs.length + c.length ≤ 262144) : putB bs false c = bs ++ c ∧ putL bs false c = false := by
  unfold putB putL
  have : ¬ 262144 < bs.length + c.length := by omega
  simp [this]
theorem MK.fa {B : Nat} {w w' : World} {g : Nat} {TS : Nat → Prop} {bs : List Int} {long : Bool} (h : MK w g TS bs long) (hf : Fa B w w') : MK w' g TS bs long := by
  obtain ⟨⟨v, h1, h2, h3⟩, h4, h5, h6⟩ := h
  exact ⟨⟨v, Fa.cells hf h1, Fa.row hf h2, h3⟩, h4, fun b hb => Nat.lt_of_lt_of_le (h5 b hb) hf.size, h6⟩
theorem mNum {w : World} {g : Nat} {TS : Nat → Prop} {bs : List Int} (n : Int) (h : MK w g TS bs false) (hn : okI n) (hl : bs.length ≤ 262100) :
    Calls Try.prog 40 #[.pointer (some ⟨g, 0, none⟩), .int .i64 n] w fun e w' => e = .returned (.pointer (some ⟨g, 0, none⟩)) ∧ ∃ TS', MK w' g TS' (bs ++ numB n) false ∧ Stp TS w w' TS' := by
  have hp := put_ok (bs := bs) (c := numB n) (by have := (numB_len hn).2; omega)
  have := cMNum w g TS bs false n h hn
  rw [hp.1, hp.2] at this
  exact this
theorem mText {w : World} {g : Nat} {TS : Nat → Prop} {bs : List Int} (s : Str) (h : MK w g TS bs false) (hs : s.length ≤ 16) (hl : bs.length ≤ 262100) :
    Calls Try.prog 41 #[.pointer (some ⟨g, 0, none⟩), vS s] w fun e w' => e = .returned (.pointer (some ⟨g, 0, none⟩)) ∧ ∃ TS', MK w' g TS' (bs ++ textB s) false ∧ Stp TS w w' TS' := by
  have hp := put_ok (bs := bs) (c := textB s) (by have := textB_len hs; omega)
  have := cMText w g TS bs false s h (by omega)
  rw [hp.1, hp.2] at this
  exact this
end Go.Proofs.Ytclgmnobockfnaa
