/- cells.Maker, as long as it is not too long. -/
import Derived.Test.YtlniekobijcanaaGreatBinsRoutesM1
import Derived.Test.YtlniekobijcanaaGreatBinsRoutesM13
namespace Go.Proofs.YtlniekobijcanaaGreat
open Go.RowKit Go.Maps
theorem put_ok {bs c : List Int} (h : bs.length + c.length ≤ 262144) : putB bs false c = bs ++ c ∧ putL bs false c = false := by
  unfold putB putL
  have : ¬ 262144 < bs.length + c.length := by omega
  simp [this]
theorem MK.fa {B : Nat} {w w' : World} {g : Nat} {TS : Nat → Prop} {bs : List Int} {long : Bool} (h : MK w g TS bs long) (hf : Fa B w w') : MK w' g TS bs long := by
  obtain ⟨⟨v, h1, h2, h3⟩, h4, h5, h6⟩ := h
  exact ⟨⟨v, Fa.cells hf h1, Fa.row hf h2, h3⟩, h4, fun b hb => Nat.lt_of_lt_of_le (h5 b hb) hf.size, h6⟩
theorem mNum {w : World} {g : Nat} {TS : Nat → Prop} {bs : List Int} (n : Int) (h : MK w g TS bs false) (hn : okI n) (hl : bs.length ≤ 262100) :
    Calls Tryz.prog 72 #[.pointer (some ⟨g, 0, none⟩), .int .i64 n] w fun e w' => e = .returned (.pointer (some ⟨g, 0, none⟩)) ∧ ∃ TS', MK w' g TS' (bs ++ numB n) false ∧ Stp TS w w' TS' := by
  have hp := put_ok (bs := bs) (c := numB n) (by have := (numB_len hn).2; omega)
  have := cMNum w g TS bs false n h hn
  rw [hp.1, hp.2] at this
  exact this
theorem mText {w : World} {g : Nat} {TS : Nat → Prop} {bs : List Int} (s : Str) (h : MK w g TS bs false) (hs : s.length ≤ 16) (hl : bs.length ≤ 262100) :
    Calls Tryz.prog 115 #[.pointer (some ⟨g, 0, none⟩), vS s] w fun e w' => e = .returned (.pointer (some ⟨g, 0, none⟩)) ∧ ∃ TS', MK w' g TS' (bs ++ textB s) false ∧ Stp TS w w' TS' := by
  have hp := put_ok (bs := bs) (c := textB s) (by have := textB_len hs; omega)
  have := cMText w g TS bs false s h (by omega)
  rw [hp.1, hp.2] at this
  exact this
theorem xMN (w : World) : Calls Tryz.prog 71 #[] w fun e w' => ∃ gm TS, e = .returned (.pointer (some ⟨gm, 0, none⟩)) ∧ MK w' gm TS [] false ∧ (∀ b, TS b → w.heap.size ≤ b) ∧ Fr (fun _ => False) w w' := by
  refine (cMNew w).mono ?_
  rintro e w' ⟨rfl, h1, h2⟩
  exact ⟨_, _, rfl, h1, fun b hb => by omega, h2⟩
end Go.Proofs.YtlniekobijcanaaGreat
