/- What makers put and takers take, as states: plainly. -/
import Derived.Test.YtclgmnobockfnaaStkUnpacksM7
namespace Go.Proofs.Ytclgmnobockfnaa
open Go.RowKit Go.Maps
abbrev Mst := List Int × Bool
def mkP (s : Mst) (c : List Int) : Mst := (putB s.1 s.2 c, putL s.1 s.2 c)
def mkAll (s : Mst) (cs : List (List Int)) : Mst := cs.foldl mkP s
abbrev Tst := List Int × Bool
def tk (t : Tst) (a b : Int) : Int × Tst := ((numT t.1 t.2 a b).1, (numT t.1 t.2 a b).2)
theorem firstB_i64 {bs : List Int} {n : Int} {k : Nat} (h : firstB bs = some (n, k)) : n < 128 ∨ okI n := by
  cases bs with
  | nil => cases h
  | cons a r =>
    simp only [firstB] at h
    split at h
    · cases h; exact .inl (by assumption)
    · split at h
      · cases h
      · split at h
        · injection h with h
          injection h with h1 h2
          right; rw [← h1]; unfold dN wrap64 okI; omega
        · cases h
theorem tk_in (t : Tst) {a b : Int} (h0 : a ≤ 0) (h1 : 0 ≤ b) : a ≤ (tk t a b).1 ∧ (tk t a b).1 ≤ b := by
  unfold tk numT
  dsimp only
  split
  · exact ⟨h0, h1⟩
  · split
    · split
      · exact ⟨h0, h1⟩
      · dsimp only; omega
    · exact ⟨h0, h1⟩
theorem tk_in1 (t : Tst) {b : Int} (h1 : 0 ≤ b) : 0 ≤ (tk t 1 b).1 ∧ (tk t 1 b).1 ≤ b := by
  unfold tk numT
  dsimp only
  split
  · exact ⟨by omega, h1⟩
  · split
    · split
      · exact ⟨by omega, h1⟩
      · dsimp only; omega
    · exact ⟨by omega, h1⟩
theorem xTk (w : World) (g : Nat) (TS : Nat → Prop) (t : Tst) (a b : Int) (h : TK w g TS t.1 t.2) :
    Calls Try.prog 45 #[.pointer (some ⟨g, 0, none⟩), .int .i64 a, .int .i64 b] w fun e w' => e = .returned (.int .i64 (tk t a b).1) ∧ TK w' g TS (tk t a b).2.1 (tk t a b).2.2 ∧ Fr TS w w' := cTNum w g TS t.1 t.2 a b h
def Byt (l : List Int) : Prop := ∀ x ∈ l, 0 ≤ x ∧ x < 256
theorem tk_bad {t : Tst} (h : t.2 = true) (a b : Int) : tk t a b = (0, t) := by
  obtain ⟨bs, bad⟩ := t
  dsimp only at h
  subst h
  simp [tk, numT]
theorem tk_bad0 (t : Tst) (a b : Int) (h : (tk t a b).2.2 = true) : (tk t a b).1 = 0 := by
  unfold tk numT at *
  dsimp only at *
  split at h
  · simp_all
  · split at h
    · split at h
      · simp_all
      · cases h
    · simp_all
theorem tk_ok {t : Tst} {a b : Int} (h : (tk t a b).2.2 = false) : t.2 = false ∧ a ≤ (tk t a b).1 ∧ (tk t a b).1 ≤ b := by
  obtain ⟨bs, bad⟩ := t
  unfold tk numT at *
  dsimp only at *
  cases bad with
  | true => simp at h
  | false =>
    cases e : firstB bs with
    | none => rw [e] at h; simp at h
    | some p =>
      obtain ⟨n, k⟩ := p
      rw [e] at h
      simp only [Bool.false_eq_true, if_false] at h ⊢
      by_cases hr : n < a ∨ b < n
      · rw [if_pos hr] at h; cases h
      · rw [if_neg hr]
        refine ⟨by first | rfl | trivial, ?_⟩
        dsimp only; omega
theorem tk_take {t : Tst} {a b : Int} (hb : Byt t.1) (h : (tk t a b).2.2 = false) : okI (tk t a b).1 ∧ t.1 = numB (tk t a b).1 ++ (tk t a b).2.1 ∧ (a ≤ (tk t a b).1 ∧ (tk t a b).1 ≤ b) ∧ t.2 = false ∧ Byt (tk t a b).2.1 := by
  obtain ⟨bs, bad⟩ := t
  unfold tk numT at *
  dsimp only at *
  cases bad with
  | true => simp at h
  | false =>
    cases e : firstB bs with
    | none => rw [e] at h; simp at h
    | some p =>
      obtain ⟨n, k⟩ := p
      rw [e] at h
      simp only [Bool.false_eq_true, if_false] at h ⊢
      by_cases hr : n < a ∨ b < n
      · rw [if_pos hr] at h; cases h
      · rw [if_neg hr]
        obtain ⟨h1, h2, h3⟩ := firstB_of e hb
        exact ⟨h1, h3, by dsimp only; omega, by first | rfl | trivial, fun x hx => hb x (List.mem_of_mem_drop hx)⟩
theorem tk_give {n a b : Int} (h : okI n) (h1 : a ≤ n) (h2 : n ≤ b) (r : List Int) : tk (numB n ++ r, false) a b = (n, (r, false)) := by
  unfold tk numT
  simp only [Bool.false_eq_true, if_false, firstB_num h]
  rw [if_neg (by omega)]
  simp
theorem numB_one : numB 1 = [1] := by simp [numB]
theorem numB_zero : numB 0 = [0] := by simp [numB]
theorem nSz_of' {u k : Nat} (hk : k ≤ 8) (h : u < 256 ^ k) : nSz u ≤ k := by
  have h2 : u < 2 ^ (8 * k) := by rw [Nat.pow_mul]; exact h
  have := Lib.bitLen_le u (8 * k) (by omega) h2
  unfold nSz; omega
theorem numB_le {n : Int} {k : Nat} (hk : k ≤ 8) (h0 : 0 ≤ n) (h : n < ((256 ^ k : Nat) : Int)) : (numB n).length ≤ k + 1 := by
  by_cases hs : 0 ≤ n ∧ n < 128
  · unfold numB; rw [if_pos hs]; simp
  · rw [numB_big hs]
    have hu : numU n = n.toNat := by unfold numU; rw [if_neg (by omega)]
    have := nSz_of' (u := numU n) hk (by rw [hu]; omega)
    simp [beB_len]; exact this
theorem mkAll_flat : ∀ {cs : List (List Int)} {bs : List Int}, bs.length + cs.flatten.length ≤ 262144 → mkAll (bs, false) cs = (bs ++ cs.flatten, false)
  | [], bs, _ => by simp [mkAll]
  | c :: r, bs, h => by
    rw [List.flatten_cons, List.length_append] at h
    have e : mkP (bs, false) c = (bs ++ c, false) := by
      unfold mkP putB putL
      have : ¬ 262144 < bs.length + c.length := by omega
      simp [this]
    have := mkAll_flat (cs := r) (bs := bs ++ c) (by rw [List.length_append]; omega)
    unfold mkAll at *
    rw [List.foldl_cons, e, this]
    simp
end Go.Proofs.Ytclgmnobockfnaa
