/- ident's laws: slices of Op opened; marks, plainly. -/
import Derived.Test.YtakjiicnbocjeaaIdDoesM2
import Derived.Test.YtakjiicnbocjeaaIdDoesM40
namespace Go.Proofs.Ytakjiicnbocjeaa
open Go.ChangeShapes Go.WideShapes Go.RowKit Go.Maps
structure OpV where
  kd : Int
  c : Int
  n : Int
  body : Value
  bs : List Int
  a : Ans
instance : Inhabited OpV := ⟨⟨0, 0, 0, .slice none 0 0, [], Ans.zero⟩⟩
def OpV.cs (r : OpV) : Array Value := #[.int .i64 r.kd, .int .i64 r.c, .int .i64 r.n, r.body, .int .i64 r.a.c, .int .i64 r.a.n, .int .i64 r.a.code, .int .i64 r.a.k]
structure OpOk (w : World) (r : OpV) : Prop where
  c : okI r.c
  n : okI r.n
  bs : Bs w r.body r.bs
  ac : okI r.a.c
  an : okI r.a.n
def Ops (w : World) (v : Value) (L : List OpV) : Prop := L.length ≤ maxLen ∧ ∃ a cap, v = .slice a L.length cap ∧ ∀ i r, L[i]? = some r → ∃ ad, a = some ad ∧ OpOk w r ∧ ∀ (j : Nat) (u : Value), r.cs[j]? = some u → w.cell? (ad.add (i * 8 + j)) = some u
theorem OpOk.fr {S : Nat → Prop} {w w' : World} {r : OpV} (h : OpOk w r) (hf : Fr S w w') (hS : ∀ b, S b → w.heap.size ≤ b) : OpOk w' r := ⟨h.c, h.n, h.bs.fr hf hS, h.ac, h.an⟩
theorem Ops.fr {S : Nat → Prop} {w w' : World} {v : Value} {L : List OpV} (h : Ops w v L) (hf : Fr S w w') (hS : ∀ b, S b → w.heap.size ≤ b) : Ops w' v L := by
  obtain ⟨h0, a, cap, e, h1⟩ := h
  refine ⟨h0, a, cap, e, fun i r hr => ?_⟩
  obtain ⟨ad, e2, hk, hc⟩ := h1 i r hr
  refine ⟨ad, e2, hk.fr hf hS, fun j u hu => ?_⟩
  have := hc j u hu
  exact hf.cell this (fun hs => by have := hS _ hs; have := World.block_lt_of_cell? w _ ‹w.cell? _ = _›; omega)
theorem Ops.at_ {w : World} {a : Option Addr} {n c i : Nat} {L : List OpV} {r : OpV} (h : Ops w (.slice a n c) L) (hr : L[i]? = some r) : ∃ ad, a = some ad ∧ OpOk w r ∧
    w.cell? (ad.add (i * 8)) = some (.int .i64 r.kd) ∧ w.cell? ⟨(ad.add (i * 8)).block, (ad.add (i * 8)).off + 1, none⟩ = some (.int .i64 r.c) ∧ w.cell? ⟨(ad.add (i * 8)).block, (ad.add (i * 8)).off + 2, none⟩ = some (.int .i64 r.n) ∧ w.cell? ⟨(ad.add (i * 8)).block, (ad.add (i * 8)).off + 3, none⟩ = some (r.body) ∧ w.cell? ⟨(ad.add (i * 8)).block, (ad.add (i * 8)).off + 4, none⟩ = some (.int .i64 r.a.c) ∧ w.cell? ⟨(ad.add (i * 8)).block, (ad.add (i * 8)).off + 5, none⟩ = some (.int .i64 r.a.n) ∧ w.cell? ⟨(ad.add (i * 8)).block, (ad.add (i * 8)).off + 6, none⟩ = some (.int .i64 r.a.code) ∧ w.cell? ⟨(ad.add (i * 8)).block, (ad.add (i * 8)).off + 7, none⟩ = some (.int .i64 r.a.k) := by
  obtain ⟨h0, a', cap, e, h1⟩ := h
  injection e with e1 _ _
  obtain ⟨ad, e2, hk, hc⟩ := h1 i r hr
  have hq : ∀ (j : Nat) (u : Value), r.cs[j + 1]? = some u → w.cell? ⟨(ad.add (i * 8)).block, (ad.add (i * 8)).off + (j + 1), none⟩ = some u := fun j u hu => by rw [← add_field]; exact hc (j + 1) u hu
  exact ⟨ad, e1.trans e2, hk, hc 0 _ rfl, hq 0 _ rfl, hq 1 _ rfl, hq 2 _ rfl, hq 3 _ rfl, hq 4 _ rfl, hq 5 _ rfl, hq 6 _ rfl⟩
section
variable {H : Type} {enc : TypeId × Value → H} {w : World} {base : Nat} {spare : Nat → Bool} {held : Bool}
theorem leaf_bytes {n : Nat} {v : Value} {y : DataW H × List MemPlace} (h : DataW.trod enc Try.prog w base spare held n 28 [v] = some y) : ∃ bs, Bs w v bs := by
  obtain ⟨len, hmax, hs⟩ := leaf_slice (d := 0) Try.underlying28 (by kernel_rfl) (by kernel_rfl) h
  have hmax : len ≤ 9223372036854775807 := hmax
  rcases hs with ⟨rfl, rfl⟩ | ⟨a, cap, rfl, hl, hb, hi⟩
  · exact ⟨[], Bs.nil w⟩
  · have key : ∀ i, i < len → ∃ x : Int, 0 ≤ x ∧ x < 256 ∧ w.cell? (a.add i) = some (.int .u8 x) := fun i hil => by
      obtain ⟨u, m, y, hc, ht⟩ := hi i hil 0 5 rfl
      obtain ⟨x, rfl, hw⟩ := leaf_int Try.underlying5 ht
      simp [Lit.wf, IntKind.min, IntKind.max, IntKind.signed, IntKind.bits] at hw
      refine ⟨x, by omega, by omega, ?_⟩
      have e : (leaves Try.prog 0 5).length = 1 := rfl
      rw [e, Nat.mul_one, Nat.add_zero] at hc
      exact hc
    obtain ⟨X, hX⟩ := Go.Deep.choose_lt key
    refine ⟨(List.range len).map X, ⟨(by rw [List.length_map, List.length_range]; exact hmax), some a, cap, (by rw [List.length_map, List.length_range]), fun i x hx => ?_⟩⟩
    rw [List.getElem?_map] at hx
    obtain ⟨i', hi', rfl⟩ := Option.map_eq_some_iff.1 hx
    obtain ⟨hlt, e⟩ := List.getElem?_eq_some_iff.1 hi'
    rw [List.getElem_range] at e
    subst e
    obtain ⟨x0, x1, x2⟩ := hX i (by simpa using hlt)
    exact ⟨x0, x1, a, rfl, x2⟩
theorem open_op {cell : Nat → Option Value} (h : ∀ (j : Nat) (t : TypeId), (leaves Try.prog 3 33)[j]? = some t → ∃ (u : Value) (m : Nat) (y : DataW H × List MemPlace), cell j = some u ∧ DataW.trod enc Try.prog w base spare held m t [u] = some y) :
    ∃ r : OpV, OpOk w r ∧ ∀ (j : Nat) (u : Value), r.cs[j]? = some u → cell j = some u := by
  obtain ⟨u0, m0, y0, c0, t0⟩ := h 0 3 (by kernel_rfl)
  obtain ⟨u1, m1, y1, c1, t1⟩ := h 1 3 (by kernel_rfl)
  obtain ⟨u2, m2, y2, c2, t2⟩ := h 2 3 (by kernel_rfl)
  obtain ⟨u3, m3, y3, c3, t3⟩ := h 3 28 (by kernel_rfl)
  obtain ⟨u4, m4, y4, c4, t4⟩ := h 4 3 (by kernel_rfl)
  obtain ⟨u5, m5, y5, c5, t5⟩ := h 5 3 (by kernel_rfl)
  obtain ⟨u6, m6, y6, c6, t6⟩ := h 6 29 (by kernel_rfl)
  obtain ⟨u7, m7, y7, c7, t7⟩ := h 7 3 (by kernel_rfl)
  obtain ⟨x0, rfl, k0⟩ := leaf_i64 Try.underlying3 t0
  obtain ⟨x1, rfl, k1⟩ := leaf_i64 Try.underlying3 t1
  obtain ⟨x2, rfl, k2⟩ := leaf_i64 Try.underlying3 t2
  obtain ⟨bs, hbs⟩ := leaf_bytes t3
  obtain ⟨x4, rfl, k4⟩ := leaf_i64 Try.underlying3 t4
  obtain ⟨x5, rfl, k5⟩ := leaf_i64 Try.underlying3 t5
  obtain ⟨x6, rfl, k6⟩ := leaf_i64 Try.underlying29 t6
  obtain ⟨x7, rfl, k7⟩ := leaf_i64 Try.underlying3 t7
  refine ⟨⟨x0, x1, x2, u3, bs, ⟨x4, x5, x6, x7⟩⟩, ⟨k1, k2, hbs, k4, k5⟩, fun j u hu => ?_⟩
  match j, hu with
  | 0, hu => cases hu; exact c0
  | 1, hu => cases hu; exact c1
  | 2, hu => cases hu; exact c2
  | 3, hu => cases hu; exact c3
  | 4, hu => cases hu; exact c4
  | 5, hu => cases hu; exact c5
  | 6, hu => cases hu; exact c6
  | 7, hu => cases hu; exact c7
  | j + 8, hu => simp [OpV.cs] at hu
set_option maxRecDepth 100000 in
theorem open_ops {r : Reach} {b0 : Nat} {v : Value} {d : DataW H} {p : List MemPlace} (hv : Value.okWide Try.prog w r b0 22 v) (h : DataW.Trod enc Try.prog w base spare held 22 v d p) : ∃ L, Ops w v L := by
  obtain ⟨fuel, h⟩ := h
  obtain ⟨a0, l0, c0, rfl⟩ := okWide_slice Try.underlying22 hv
  obtain ⟨len, hmax, hs⟩ := leaf_slice (d := 3) Try.underlying22 (by kernel_rfl) (by kernel_rfl) h
  rcases hs with ⟨e, rfl⟩ | ⟨a, cap, e, hl, hb, hi⟩
  · exact ⟨[], Nat.zero_le _, none, 0, e, fun i r hr => by simp at hr⟩
  · have key : ∀ i, i < len → ∃ r : OpV, OpOk w r ∧ ∀ (j : Nat) (u : Value), r.cs[j]? = some u → w.cell? (a.add (i * 8 + j)) = some u := fun i hil =>
      open_op (cell := fun j => w.cell? (a.add (i * 8 + j))) (fun j t ht => hi i hil j t ht)
    obtain ⟨X, hX⟩ := Go.Deep.choose_lt key
    refine ⟨(List.range len).map X, (by rw [List.length_map, List.length_range]; exact hmax), some a, cap, (by rw [e, List.length_map, List.length_range]), fun i r hr => ?_⟩
    rw [List.getElem?_map] at hr
    obtain ⟨i', hi', rfl⟩ := Option.map_eq_some_iff.1 hr
    obtain ⟨hlt, e⟩ := List.getElem?_eq_some_iff.1 hi'
    rw [List.getElem_range] at e
    subst e
    have := hX i (by simpa using hlt)
    exact ⟨a, rfl, this.1, this.2⟩
set_option maxRecDepth 100000 in
/-- An Op by value. -/
theorem open_op1 {r : Reach} {b0 : Nat} {v : Value} {d : DataW H} {p : List MemPlace} (hv : Value.okWide Try.prog w r b0 33 v) (h : DataW.Trod enc Try.prog w base spare held 33 v d p) : ∃ r : OpV, v = .agg r.cs ∧ OpOk w r := by
  obtain ⟨fuel, h⟩ := h
  obtain ⟨cs, rfl, hsz⟩ := okWide_struct Try.underlying33 hv
  have hc : Try.prog.cellsOf 33 = 8 := by kernel_rfl
  rw [hc] at hsz
  have hl := leafs_of (n := 3) (t := 33) (by kernel_rfl) (by rw [hc]; simpa [Value.cells] using hsz) h
  obtain ⟨r, hr, hcell⟩ := open_op (cell := fun j => (Value.agg cs).cells.toList[j]?) (fun j t ht => hl j t ht)
  refine ⟨r, ?_, hr⟩
  congr 1
  apply Array.ext
  · rw [hsz]; rfl
  · intro i h1 h2
    have := hcell i r.cs[i] (by simp)
    simpa [Value.cells, h1] using this
end
/-! ### Marks -/
def MkOk (A : Tbl) : Prop := ∀ c, 1 ≤ (cli A c).1 ∧ (cli A c).1 ≤ 4294967297
theorem MkOk.nil : MkOk [] := fun _ => by simp [cli, getS]
theorem MkOk.ask {A : Tbl} (h : MkOk A) (c n M : Int) : MkOk (askT A c n M) := fun d => by
  rw [cli_ask]; split
  · exact h c
  · exact h d
theorem MkOk.tell {A : Tbl} (h : MkOk A) (a : Ans) : MkOk (tellT A a) := fun d => by
  rw [cli_tell]; split
  · exact h a.c
  · exact h d
theorem MkOk.low {A : Tbl} (h : MkOk A) (c n : Int) : MkOk (lowT A c n) := fun d => by
  rw [cli_low]; split
  · rename_i hh
    have := hh.2
    simp only [Bool.and_eq_true, lowOk, decide_eq_true_eq] at this
    exact ⟨this.1.1.1.2, this.1.1.2⟩
  · exact h d
theorem mark_ask (A : Tbl) (c n M d : Int) : markM (askT A c n M) d = markM A d := by
  unfold markM
  rw [cli_ask]
  split
  · split
    · rename_i h; rw [h.1]
    · rfl
  · rfl
theorem mark_tell (A : Tbl) (a : Ans) (d : Int) : markM (tellT A a) d = markM A d := by
  unfold markM
  rw [cli_tell]
  split
  · split
    · rename_i h; rw [h.1]
    · rfl
  · rfl
theorem mark_low (A : Tbl) (c n d : Int) : markM A d ≤ markM (lowT A c n) d := by
  unfold markM
  rw [cli_low]
  split
  · split
    · rename_i h
      have := h.2
      simp only [Bool.and_eq_true, decide_eq_true_eq] at this
      rw [← h.1]
      show (cli A c).1 ≤ n
      omega
    · exact Int.le_refl _
  · exact Int.le_refl _
theorem mark_low_ok {A : Tbl} {c n : Int} (h : lowA A c n = 0) : n ≤ markM (lowT A c n) c := by
  unfold lowA at h
  split at h
  · rename_i hok
    split at h
    · cases h
    · rename_i hb
      have hc : isCl c = true := by unfold lowOk at hok; simp only [Bool.and_eq_true] at hok; exact hok.1.1
      unfold markM
      rw [cli_low, if_pos hc]
      split
      · exact Int.le_refl _
      · rename_i hn
        simp only [hok, hb, Bool.true_and, Bool.not_false, decide_eq_true_eq, true_and] at hn
        simp at hn
        omega
  · cases h
theorem ask_stale {A : Tbl} (h : MkOk A) (c n M : Int) : (0 < markM A c → 1 ≤ n → n < markM A c → (askA A c n M).1 = 5) ∧ ((askA A c n M).1 = 5 → 0 < markM A c ∧ 1 ≤ n ∧ n < markM A c) := by
  have hk := h c
  unfold markM askA
  constructor
  · intro h0 h1 h2
    by_cases hc : isCl c = true
    · rw [if_pos hc] at h0 h2
      have hn : isNu n = true := by unfold isNu; simp; omega
      simp only [hc, hn, Bool.and_self, if_true]
      unfold askM
      rw [if_pos h2]
    · rw [if_neg hc] at h0; omega
  · intro h5
    by_cases hcn : (isCl c && isNu n) = true
    · rw [if_pos hcn] at h5
      rw [Bool.and_eq_true] at hcn
      rw [if_pos hcn.1]
      have hn := hcn.2
      unfold isNu at hn; simp at hn
      unfold askM at h5
      split at h5
      · rename_i hlt; exact ⟨by omega, hn.1, hlt⟩
      · split at h5
        · split at h5
          · cases h5
          · split at h5 <;> cases h5
        · split at h5 <;> cases h5
    · rw [if_neg hcn] at h5; cases h5
end Go.Proofs.Ytakjiicnbocjeaa
