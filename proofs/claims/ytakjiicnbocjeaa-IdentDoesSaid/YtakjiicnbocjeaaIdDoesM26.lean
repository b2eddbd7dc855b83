/- ident: what is packed is what is unpacked, and the other way round: plainly. -/
import Derived.Test.YtakjiicnbocjeaaIdDoesM14
import Derived.Test.YtakjiicnbocjeaaIdDoesM25
namespace Go.Proofs.Ytakjiicnbocjeaa
open Go.RowKit Go.Maps
structure GoodR (c : Int) (q : Int × RowV) : Prop where
  nu : 1 ≤ q.1 ∧ q.1 ≤ 4294967296
  ok : RowOk q.2
  code : 0 ≤ q.2.a.code ∧ q.2.a.code ≤ 1000
  ans : if q.2.done = true then q.2.a.c = c ∧ q.2.a.n = q.1 else q.2.a = Ans.zero
structure GoodC (p : Int × (Int × Rows)) : Prop where
  key : 0 ≤ p.1 ∧ p.1 ≤ 63
  mark : 1 ≤ p.2.1 ∧ p.2.1 ≤ 4294967297
  len : p.2.2.length ≤ 128
  rows : ∀ q ∈ p.2.2, GoodR p.1 q
  pres : 1 < p.2.1 ∨ 0 < p.2.2.length
  rise : Rise p.2.2
  low : ∀ q ∈ p.2.2, p.2.1 ≤ q.1
structure Good (A : Tbl) : Prop where
  all : ∀ p ∈ A, GoodC p
  rise : Rise A
theorem Good.tok {A : Tbl} (h : Good A) : TOk A where
  keys p hp := by have := (h.all p hp).key; unfold isCl; simp; omega
  marks p hp := (h.all p hp).mark
  lens p hp := (h.all p hp).len
  nums p hp q hq := by have := ((h.all p hp).rows q hq).nu; unfold isNu; simp; omega
  rows p hp q hq := ⟨((h.all p hp).rows q hq).ok, ((h.all p hp).rows q hq).code⟩
theorem Good.len {A : Tbl} (h : Good A) : A.length ≤ 64 := by
  have h2 : (A.map (·.1)).Pairwise (fun x y : Int => x < y) := by rw [List.pairwise_map]; exact h.rise
  have := rise_len (lo := 0) (hi := 64) h2 (fun x hx => by
    obtain ⟨p, hp, rfl⟩ := List.mem_map.1 hx
    have := (h.all p hp).key; omega) (by omega)
  simp at this; omega
set_option maxRecDepth 100000 in
theorem mixOf_eq {h l : Int} (h0 : 0 ≤ h) (h1 : h ≤ 4294967295) (l0 : 0 ≤ l) (l1 : l ≤ 4294967295) : mixOf h l = h * 4294967296 + l := by
  obtain ⟨x, rfl⟩ : ∃ x : Nat, h = x := ⟨h.toNat, by omega⟩
  obtain ⟨y, rfl⟩ : ∃ y : Nat, l = y := ⟨l.toNat, by omega⟩
  unfold mixOf
  rw [show ((x : Int) * 4294967296) = ((x * 4294967296 : Nat) : Int) by omega, u64_or_nat _ _ (by omega) (by omega)]
  have := Nat.two_pow_add_eq_or_of_lt (i := 32) (b := y) (by omega) x
  rw [Nat.mul_comm x 4294967296]
  rw [show (4294967296 : Nat) = 2 ^ 32 from rfl, ← this]
  omega
set_option maxRecDepth 100000 in
theorem mixMod {x : Int} (h0 : 0 ≤ x) (h1 : x < 18446744073709551616) : bits .and .u64 x 4294967295 = x % 4294967296 := by
  obtain ⟨n, rfl⟩ : ∃ n : Nat, x = n := ⟨x.toNat, by omega⟩
  rw [show (4294967295 : Int) = ((4294967295 : Nat) : Int) from rfl, u64_and_nat _ _ (by omega) (by omega)]
  have := Nat.and_two_pow_sub_one_eq_mod n 32
  rw [show (4294967295 : Nat) = 2 ^ 32 - 1 from rfl, this]
  omega
set_option maxRecDepth 100000 in
theorem readT_take {t : Tst} {c : Int} (hb : Byt t.1) (h : (readT t c).2.2 = false) :
    t.1 = (rowCs (readT t c).1.1 (readT t c).1.2).flatten ++ (readT t c).2.1 ∧ t.2 = false ∧ GoodR c (readT t c).1 ∧ Byt (readT t c).2.1 := by
  obtain ⟨n, hn⟩ : ∃ n, tk t 1 4294967296 = n := ⟨_, rfl⟩
  obtain ⟨hi, hhi⟩ : ∃ x, tk n.2 0 4294967295 = x := ⟨_, rfl⟩
  obtain ⟨lo, hlo⟩ : ∃ x, tk hi.2 0 4294967295 = x := ⟨_, rfl⟩
  obtain ⟨f, hf⟩ : ∃ x, tk lo.2 0 1 = x := ⟨_, rfl⟩
  have hrd : readT t c = if (f.1 == 1) = true then ((n.1, ⟨mixOf hi.1 lo.1, true, ⟨c, n.1, (tk f.2 0 1000).1, (tk (tk f.2 0 1000).2 (-9223372036854775808) 9223372036854775807).1⟩⟩), (tk (tk f.2 0 1000).2 (-9223372036854775808) 9223372036854775807).2) else ((n.1, ⟨mixOf hi.1 lo.1, false, Ans.zero⟩), f.2) := by
    subst hn hhi hlo hf; rfl
  have hback : f.2.2 = false → Byt f.2.1 ∧ t.1 = numB n.1 ++ (numB hi.1 ++ (numB lo.1 ++ (numB f.1 ++ f.2.1))) ∧ t.2 = false ∧ (1 ≤ n.1 ∧ n.1 ≤ 4294967296) ∧ (0 ≤ hi.1 ∧ hi.1 ≤ 4294967295) ∧ (0 ≤ lo.1 ∧ lo.1 ≤ 4294967295) ∧ (0 ≤ f.1 ∧ f.1 ≤ 1) := by
    intro hf2
    have b0 : lo.2.2 = false := by
      have : lo.2.2 ≠ true := fun e => by rw [← hf, show tk lo.2 0 1 = (0, lo.2) by obtain ⟨x, y⟩ := lo; obtain ⟨y, z⟩ := y; dsimp only at e; subst e; simp [tk, numT]] at hf2; rw [e] at hf2; cases hf2
      simpa using this
    have b1 : hi.2.2 = false := by
      have : hi.2.2 ≠ true := fun e => by rw [← hlo, show tk hi.2 0 4294967295 = (0, hi.2) by obtain ⟨x, y⟩ := hi; obtain ⟨y, z⟩ := y; dsimp only at e; subst e; simp [tk, numT]] at b0; rw [e] at b0; cases b0
      simpa using this
    have b2 : n.2.2 = false := by
      have : n.2.2 ≠ true := fun e => by rw [← hhi, show tk n.2 0 4294967295 = (0, n.2) by obtain ⟨x, y⟩ := n; obtain ⟨y, z⟩ := y; dsimp only at e; subst e; simp [tk, numT]] at b1; rw [e] at b1; cases b1
      simpa using this
    obtain ⟨_, a1, a2, a3, a4⟩ := tk_take hb (by rw [hn]; exact b2)
    rw [hn] at a1 a2 a4
    obtain ⟨_, c1, c2, c3, c4⟩ := tk_take a4 (by rw [hhi]; exact b1)
    rw [hhi] at c1 c2 c4
    obtain ⟨_, d1, d2, d3, d4⟩ := tk_take c4 (by rw [hlo]; exact b0)
    rw [hlo] at d1 d2 d4
    obtain ⟨_, e1, e2, e3, e4⟩ := tk_take d4 (by rw [hf]; exact hf2)
    rw [hf] at e1 e2 e4
    exact ⟨e4, by rw [a1, c1, d1, e1], a3, a2, c2, d2, e2⟩
  rw [hrd] at h ⊢
  by_cases hd : (f.1 == 1) = true
  · rw [if_pos hd] at h ⊢
    dsimp only at h ⊢
    have hf1 : f.1 = 1 := by simpa using hd
    have b4 : (tk f.2 0 1000).2.2 = false := by
      have : (tk f.2 0 1000).2.2 ≠ true := fun e => by
        obtain ⟨x, hx⟩ : ∃ x, tk f.2 0 1000 = x := ⟨_, rfl⟩
        rw [hx] at e h
        rw [show tk x.2 (-9223372036854775808) 9223372036854775807 = (0, x.2) by obtain ⟨x, y⟩ := x; obtain ⟨y, z⟩ := y; dsimp only at e; subst e; simp [tk, numT]] at h
        rw [e] at h; cases h
      simpa using this
    have b3 : f.2.2 = false := by
      have : f.2.2 ≠ true := fun e => by
        rw [show tk f.2 0 1000 = (0, f.2) by obtain ⟨x, y⟩ := f; obtain ⟨y, z⟩ := y; dsimp only at e; subst e; simp [tk, numT]] at b4
        rw [e] at b4; cases b4
      simpa using this
    obtain ⟨hby, ht, ht2, hn2, hh2, hl2, -⟩ := hback b3
    obtain ⟨o1, a1, a2, a3, a4⟩ := tk_take hby b4
    obtain ⟨o2, c1, c2, c3, c4⟩ := tk_take a4 h
    have hm := mixOf_eq hh2.1 hh2.2 hl2.1 hl2.2
    have hand := mixMod (x := mixOf hi.1 lo.1) (by omega) (by omega)
    refine ⟨?_, ht2, ⟨hn2, ⟨by dsimp only; omega, by dsimp only; omega, o1, o2⟩, a2, by simp⟩, c4⟩
    rw [ht, a1, c1]
    unfold rowCs
    dsimp only
    rw [hand, hm, show (hi.1 * 4294967296 + lo.1) / 4294967296 = hi.1 by omega, show (hi.1 * 4294967296 + lo.1) % 4294967296 = lo.1 by omega, hf1, numB_one]
    simp
  · rw [if_neg hd] at h ⊢
    dsimp only at h ⊢
    obtain ⟨hby, ht, ht2, hn2, hh2, hl2, hf2⟩ := hback h
    have hf0 : f.1 = 0 := by
      have : f.1 ≠ 1 := by simpa using hd
      omega
    have hm := mixOf_eq hh2.1 hh2.2 hl2.1 hl2.2
    have hand := mixMod (x := mixOf hi.1 lo.1) (by omega) (by omega)
    refine ⟨?_, ht2, ⟨hn2, ⟨by dsimp only; omega, by dsimp only; omega, by dsimp only [Ans.zero]; unfold okI; omega, by dsimp only [Ans.zero]; unfold okI; omega⟩, by dsimp only [Ans.zero]; omega, by simp⟩, hby⟩
    rw [ht]
    unfold rowCs
    dsimp only
    rw [hand, hm, show (hi.1 * 4294967296 + lo.1) / 4294967296 = hi.1 by omega, show (hi.1 * 4294967296 + lo.1) % 4294967296 = lo.1 by omega, hf0, numB_zero]
    simp
set_option maxRecDepth 100000 in
theorem readT_give {c : Int} {q : Int × RowV} (h : GoodR c q) (r : List Int) : readT ((rowCs q.1 q.2).flatten ++ r, false) c = (q, (r, false)) := by
  obtain ⟨n, ⟨mix, dn, a⟩⟩ := q
  obtain ⟨nu, ⟨m0, m1, o1, o2⟩, co, an⟩ := h
  dsimp only at nu m0 m1 o1 o2 co an
  have hand := mixMod m0 m1
  have k1 : okI n := by unfold okI; omega
  have k2 : okI (mix / 4294967296) := okHi m0 m1
  have k3 : okI (mix % 4294967296) := by unfold okI; omega
  have hmx : mixOf (mix / 4294967296) (mix % 4294967296) = mix := by rw [mixOf_eq (by omega) (by omega) (by omega) (by omega)]; omega
  cases dn with
  | true =>
    have e : (rowCs n ⟨mix, true, a⟩).flatten ++ r = numB n ++ (numB (mix / 4294967296) ++ (numB (mix % 4294967296) ++ (numB 1 ++ (numB a.code ++ (numB a.k ++ r))))) := by
      unfold rowCs; dsimp only; rw [hand, numB_one]; simp
    dsimp only
    rw [e]
    unfold readT
    have o2' : -9223372036854775808 ≤ a.k ∧ a.k ≤ 9223372036854775807 := o2
    simp only [tk_give k1 nu.1 nu.2, tk_give k2 (show 0 ≤ mix / 4294967296 by omega) (show mix / 4294967296 ≤ 4294967295 by omega), tk_give k3 (show 0 ≤ mix % 4294967296 by omega) (show mix % 4294967296 ≤ 4294967295 by omega),
      tk_give (show okI 1 by unfold okI; omega) (show (0 : Int) ≤ 1 by omega) (show (1 : Int) ≤ 1 by omega), tk_give o1 co.1 co.2, tk_give o2 o2'.1 o2'.2, hmx]
    simp only [if_true] at an
    obtain ⟨ac, an', acode, ak⟩ := a
    dsimp only at an
    obtain ⟨rfl, rfl⟩ := an
    simp
  | false =>
    have e : (rowCs n ⟨mix, false, a⟩).flatten ++ r = numB n ++ (numB (mix / 4294967296) ++ (numB (mix % 4294967296) ++ (numB 0 ++ r))) := by
      unfold rowCs; dsimp only; rw [hand, numB_zero]; simp
    dsimp only
    rw [e]
    unfold readT
    simp only [tk_give k1 nu.1 nu.2, tk_give k2 (show 0 ≤ mix / 4294967296 by omega) (show mix / 4294967296 ≤ 4294967295 by omega), tk_give k3 (show 0 ≤ mix % 4294967296 by omega) (show mix % 4294967296 ≤ 4294967295 by omega),
      tk_give (show okI 0 by unfold okI; omega) (show (0 : Int) ≤ 0 by omega) (show (0 : Int) ≤ 1 by omega), hmx]
    have an : a = Ans.zero := by simpa using an
    subst an
    simp
end Go.Proofs.Ytakjiicnbocjeaa
