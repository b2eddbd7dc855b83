/- Answers; model.State, entrepotref25.State (slices.IndexFunc by wip/tools/idxf.py). -/
import Derived.Test.YtbeikkkmobbnkaaGreatModMoreM2
namespace Go.Proofs.YtbeikkkmobbnkaaGreat
open Go.ChangeShapes Go.WideShapes Go.RowKit Go.Maps
/-- The place of the first that is so; -1: none. -/
def idxOf {α : Type} (p : α → Bool) (L : List α) : Int := match L.findIdx? p with | some i => (i : Int) | none => -1
theorem idxOf_at {α : Type} {p : α → Bool} {L : List α} {j : Nat} {x : α} (h : L[j]? = some x) (hp : p x = true) (hno : ∀ q y, q < j → L[q]? = some y → p y = false) : idxOf p L = j := by
  have : L.findIdx? p = some j := by
    rw [List.findIdx?_eq_some_iff_getElem]
    obtain ⟨hj, e⟩ := List.getElem?_eq_some_iff.1 h
    refine ⟨hj, by rw [e]; exact hp, fun q hq => ?_⟩
    have := hno q _ hq (List.getElem?_eq_getElem (by omega))
    simp [this]
  unfold idxOf
  rw [this]
theorem idxOf_no {α : Type} {p : α → Bool} {L : List α} (h : ∀ (q : Nat) (y : α), L[q]? = some y → p y = false) : idxOf p L = -1 := by
  have : L.findIdx? p = none := by
    rw [List.findIdx?_eq_none_iff]
    intro x hx
    obtain ⟨q, hq⟩ := List.getElem?_of_mem hx
    exact h q x hq
  unfold idxOf
  rw [this]
theorem idxOf_cases {α : Type} (p : α → Bool) (L : List α) : (idxOf p L = -1 ∧ L.find? p = none ∧ ∀ x ∈ L, p x = false) ∨ ∃ (j : Nat) (x : α), L[j]? = some x ∧ p x = true ∧ idxOf p L = j ∧ L.find? p = some x := by
  cases h : L.findIdx? p with
  | none =>
    left
    have h2 := List.findIdx?_eq_none_iff.1 h
    exact ⟨by unfold idxOf; rw [h], List.find?_eq_none.2 (fun x hx => by simp [h2 x hx]), h2⟩
  | some j =>
    right
    obtain ⟨hj, hp, hno⟩ := List.findIdx?_eq_some_iff_getElem.1 h
    refine ⟨j, L[j], List.getElem?_eq_getElem hj, hp, by unfold idxOf; rw [h], ?_⟩
    rw [List.find?_eq_some_iff_getElem]
    exact ⟨hp, j, hj, rfl, fun q hq => by simpa using hno q hq⟩
/-- An answer. -/
structure YV where
  c : Int
  n : Int
  code : Int
  m : Int
def YV.cs (y : YV) : Array Value := #[.int .i64 y.c, .int .i64 y.n, .int .i64 y.code, .int .i64 y.m]
structure YOk (w : World) (y : YV) : Prop where
  c : okI y.c
  n : okI y.n
  code : okI y.code
  m : okI y.m
theorem yokKeeps : Keeps YOk := fun _ _ _ _ h _ _ => ⟨h.c, h.n, h.code, h.m⟩
/-- A slice of answers. -/
abbrev Yl (w : World) (v : Value) (L : List YV) : Prop := Sq 4 YV.cs YOk w v L
section
variable {H : Type} {enc : TypeId × Value → H} {w : World} {base : Nat} {spare : Nat → Bool} {held : Bool}
set_option maxRecDepth 100000 in
theorem open_answer (cell : Nat → Option Value) (h : ∀ (j : Nat) (t : TypeId), (leaves Tryz.prog 2 39)[j]? = some t → ∃ (u : Value) (m : Nat) (y : DataW H × List MemPlace), cell j = some u ∧ DataW.trod enc Tryz.prog w base spare held m t [u] = some y) :
    ∃ r : YV, YOk w r ∧ ∀ (j : Nat) (u : Value), r.cs[j]? = some u → cell j = some u := by
  obtain ⟨u0, m0, y0, c0, t0⟩ := h 0 3 (by kernel_rfl)
  obtain ⟨u1, m1, y1, c1, t1⟩ := h 1 3 (by kernel_rfl)
  obtain ⟨u2, m2, y2, c2, t2⟩ := h 2 37 (by kernel_rfl)
  obtain ⟨u3, m3, y3, c3, t3⟩ := h 3 3 (by kernel_rfl)
  obtain ⟨x0, rfl, k0⟩ := leaf_i64 Tryz.underlying3 t0
  obtain ⟨x1, rfl, k1⟩ := leaf_i64 Tryz.underlying3 t1
  obtain ⟨x2, rfl, k2⟩ := leaf_i64 Tryz.underlying37 t2
  obtain ⟨x3, rfl, k3⟩ := leaf_i64 Tryz.underlying3 t3
  refine ⟨⟨x0, x1, x2, x3⟩, ⟨k0, k1, k2, k3⟩, fun j u hu => ?_⟩
  match j, hu with
  | 0, hu => cases hu; exact c0
  | 1, hu => cases hu; exact c1
  | 2, hu => cases hu; exact c2
  | 3, hu => cases hu; exact c3
  | j + 4, hu => simp [YV.cs] at hu
set_option maxRecDepth 100000 in
theorem open_answers {r : Reach} {b0 : Nat} {v : Value} {d : DataW H} {p : List MemPlace} (hv : Value.okWide Tryz.prog w r b0 23 v) (h : DataW.Trod enc Tryz.prog w base spare held 23 v d p) : ∃ L, Yl w v L :=
  open_sq (d := 2) Tryz.underlying23 (by kernel_rfl) (by kernel_rfl) (by kernel_rfl) open_answer hv h
end
set_option maxRecDepth 100000 in
set_option maxHeartbeats 4000000 in
theorem ixAnswer (w : World) (v : Value) (L : List YV) (p : YV → Bool) (b0 b1 : Nat) (h : Sq 4 YV.cs YOk w v L)
    (hf : ∀ (W : World) (i : Nat) (x : YV), L[i]? = some x → Fr (fun _ => False) w W → Calls Tryz.prog 37 #[.agg (YV.cs x), .pointer (some ⟨b0, 0, none⟩), .pointer (some ⟨b1, 0, none⟩)] W fun e W' => e = .returned (.bool (p x)) ∧ Fr (fun _ => False) W W') :
    Calls Tryz.prog 36 #[v, .func (.func 37) #[] #[.pointer (some ⟨b0, 0, none⟩), .pointer (some ⟨b1, 0, none⟩)]] w fun e w' => e = .returned (.int .i64 (idxOf p L)) ∧ Fr (fun _ => False) w w' := by
  obtain ⟨a, c, rfl⟩ := h.sl
  obtain ⟨N, hN⟩ : ∃ N, L.length = N := ⟨_, rfl⟩
  have hNb : (N : Int) ≤ 9223372036854775807 := by have := h.len; omega
  have HL := Lib.hid h; have HN := Lib.hid hN; have HF := Lib.hid hf
  rw [hN] at HL ⊢
  obtain ⟨R, hR⟩ : ∃ R, idxOf p L = R := ⟨_, rfl⟩
  have HR := Lib.hid hR
  rw [hR]
  clear h hN hf hR
  go_enter Tryz.func36, Tryz.ntmps36
  go_wp2_with fail
  go_loopw [5, 8] (fun _ i wr => ∃ j : Nat, j ≤ N ∧ i = .int .i64 j ∧ Fr (fun _ => False) w wr ∧ ∀ q x, q < j → L[q]? = some x → p x = false) (fun _ i _ => N - (intOf i).toNat)
  case atStart => exact ⟨0, Nat.zero_le _, rfl, Fr.refl _ _, fun q x hq => by omega⟩
  case round =>
    obtain ⟨j, hj, rfl, hfr, hno⟩ := hrel
    have HFR := Lib.hid hfr; have HNO := Lib.hid hno
    clear hno
    by_cases hlt : j < N
    · obtain ⟨x, hx⟩ : ∃ x, L[j]? = some x := ⟨L[j]'(by rw [HN.out]; exact hlt), List.getElem?_eq_getElem _⟩
      obtain ⟨ad, rfl, hok, z0, zs⟩ := (HL.out.fr0 yokKeeps hfr).at_ hx
      have hC := HF.out wr j x hx hfr
      obtain ⟨b, hb⟩ : ∃ b, p x = b := ⟨_, rfl⟩
      rw [hb] at hC
      have HB := Lib.hid hb; have HX := Lib.hid hx
      have hjI : (j : Int) < N := by omega
      obtain ⟨X, hXX⟩ : ∃ X, X = x := ⟨_, rfl⟩
      rw [← hXX] at HB HX
      obtain ⟨c, n, code, m⟩ := x
      clear hXX
      have x0 := z0 (.int .i64 c) rfl
      have x1 := zs 0 (.int .i64 n) rfl
      have x2 := zs 1 (.int .i64 code) rfl
      have x3 := zs 2 (.int .i64 m) rfl
      dsimp only [Nat.zero_add, Nat.reduceAdd] at x0 x1 x2 x3
      have hC' : Calls Tryz.prog 37 #[.agg #[.int .i64 c, .int .i64 n, .int .i64 code, .int .i64 m], .pointer (some ⟨b0, 0, none⟩), .pointer (some ⟨b1, 0, none⟩)] wr fun e W' => e = .returned (.bool b) ∧ Fr (fun _ => False) wr W' := hC
      have HC := Lib.hid hC'
      clear hC hC' hb hx hok z0 zs hfr
      cases b with
      | true =>
        have hres : Hid (R = (j : Int)) := Lib.hid (by rw [← HR.out]; exact idxOf_at HX.out HB.out HNO.out)
        go_wp2_with (go_at_call 37; refine HC.out.mono ?_; rintro e w1 ⟨rfl, hf1⟩; have HF1 := Lib.hid hf1; clear hf1)
        go_ret
        exact ⟨by rw [hres.out]; rfl, HFR.out.trans HF1.out⟩
      | false =>
        go_wp2_with (go_at_call 37; refine HC.out.mono ?_; rintro e w1 ⟨rfl, hf1⟩; have HF1 := Lib.hid hf1; clear hf1)
        go_roundw
        case rel =>
          refine ⟨j + 1, by omega, by go_num, HFR.out.trans HF1.out, fun q x hq hx => ?_⟩
          by_cases e : q = j
          · subst e
            have := HX.out
            rw [this] at hx
            injection hx with hx
            rw [← hx]
            exact HB.out
          · exact HNO.out q x (by omega) hx
        case measure => simp [intOf]; omega
    · obtain rfl : j = N := by omega
      have hres : Hid (R = -1) := Lib.hid (by rw [← HR.out]; exact idxOf_no (fun q x hx => HNO.out q x (by have := (List.getElem?_eq_some_iff.1 hx).1; have := HN.out; omega) hx))
      clear hfr
      go_wp2_with fail
      go_ret
      exact ⟨by rw [hres.out]; rfl, HFR.out⟩

/-- What is known of a group. -/
def isY (c n : Int) (y : YV) : Bool := decide (y.c = c) && decide (y.n = n)
def stCode (k : Int) : Int := if k = 0 then 1 else if k = 90 ∨ k = 91 ∨ k = 2 then 3 else 2
def stF (c n : Int) (Y : List YV) : Int := match Y.find? (isY c n) with | none => 3 | some y => stCode y.code
set_option maxRecDepth 100000 in
theorem kState1 (w : World) (y : YV) (b0 b1 : Nat) (c n : Int) (h0 : w.cell? ⟨b0, 0, none⟩ = some (.int .i64 c)) (h1 : w.cell? ⟨b1, 0, none⟩ = some (.int .i64 n)) :
    Calls Tryz.prog 37 #[.agg y.cs, .pointer (some ⟨b0, 0, none⟩), .pointer (some ⟨b1, 0, none⟩)] w fun e w' => e = .returned (.bool (isY c n y)) ∧ Fr (fun _ => False) w w' := by
  obtain ⟨yc, yn, code, m⟩ := y
  unfold YV.cs
  dsimp only
  have q0 := ((Fr.refl (fun _ => False) w).alloc (.cells #[.int .i64 yc, .int .i64 yn, .int .i64 code, .int .i64 m] 39)).cell h0 (fun h => h)
  have q1 := ((Fr.refl (fun _ => False) w).alloc (.cells #[.int .i64 yc, .int .i64 yn, .int .i64 code, .int .i64 m] 39)).cell h1 (fun h => h)
  clear h0 h1
  obtain ⟨b, hb⟩ : ∃ b, isY c n ⟨yc, yn, code, m⟩ = b := ⟨_, rfl⟩
  have HB := Lib.hid hb
  rw [hb]
  clear hb
  by_cases hc : yc = c
  · have b1 : (yc == c) = true := by simpa using hc
    by_cases hn : yn = n
    · have b2 : (yn == n) = true := by simpa using hn
      have HR : Hid (b = true) := Lib.hid (by rw [← HB.out]; simp [isY, hc, hn])
      clear hc hn
      go_enter Tryz.func37, Tryz.ntmps37
      go_wp2_with fail
      go_ret
      exact ⟨by rw [HR.out]; rfl, (Fr.refl _ _).alloc _⟩
    · have b2 : (yn == n) = false := by simpa using hn
      have HR : Hid (b = false) := Lib.hid (by rw [← HB.out]; simp [isY, hn])
      clear hc hn
      go_enter Tryz.func37, Tryz.ntmps37
      go_wp2_with fail
      go_ret
      exact ⟨by rw [HR.out]; rfl, (Fr.refl _ _).alloc _⟩
  · have b1 : (yc == c) = false := by simpa using hc
    have HR : Hid (b = false) := Lib.hid (by rw [← HB.out]; simp [isY, hc])
    clear hc
    go_enter Tryz.func37, Tryz.ntmps37
    go_wp2_with fail
    go_ret
    exact ⟨by rw [HR.out]; rfl, (Fr.refl _ _).alloc _⟩
theorem stCode_ways (k : Int) : (k = 0 ∧ stCode k = 1) ∨ (k = 90 ∧ stCode k = 3) ∨ (k = 91 ∧ stCode k = 3) ∨ (k = 2 ∧ stCode k = 3) ∨ (((k == 0) = false ∧ (k == 90) = false ∧ (k == 91) = false ∧ (k == 2) = false) ∧ stCode k = 2) := by
  unfold stCode
  by_cases h0 : k = 0
  · exact .inl ⟨h0, by rw [if_pos h0]⟩
  · rw [if_neg h0]
    by_cases h1 : k = 90
    · exact .inr (.inl ⟨h1, by rw [if_pos (.inl h1)]⟩)
    · by_cases h2 : k = 91
      · exact .inr (.inr (.inl ⟨h2, by rw [if_pos (.inr (.inl h2))]⟩))
      · by_cases h3 : k = 2
        · exact .inr (.inr (.inr (.inl ⟨h3, by rw [if_pos (.inr (.inr h3))]⟩)))
        · exact .inr (.inr (.inr (.inr ⟨⟨by simpa using h0, by simpa using h1, by simpa using h2, by simpa using h3⟩, by rw [if_neg (by omega)]⟩)))
set_option maxRecDepth 100000 in
set_option maxHeartbeats 2000000 in
theorem kState (w : World) (c n : Int) (v : Value) (Y : List YV) (h : Yl w v Y) : Calls Tryz.prog 16 #[.int .i64 c, .int .i64 n, v] w fun e w' => e = .returned (.int .i64 (stF c n Y)) ∧ Fr (fun _ => False) w w' := by
  obtain ⟨n0, hn0⟩ : ∃ n0, w.heap.size = n0 := ⟨_, rfl⟩
  obtain ⟨W0, hW0⟩ : ∃ W0, (w.alloc (.cells #[.int .i64 c] 3)).alloc (.cells #[.int .i64 n] 3) = W0 := ⟨_, rfl⟩
  have hF0 : Fr (fun _ => False) w W0 := by rw [← hW0]; exact ((Fr.refl _ _).alloc _).alloc _
  have hb0 : W0.cell? ⟨n0, 0, none⟩ = some (.int .i64 c) := cell_obj (by rw [← hW0]; exact heap_keep (heap_at hn0.symm _) _) 0 _ rfl
  have hb1 : W0.cell? ⟨n0 + 1, 0, none⟩ = some (.int .i64 n) := cell_obj (by rw [← hW0]; exact heap_at (by simp; omega) _) 0 _ rfl
  have hI : Hid (Calls Tryz.prog 36 #[v, .func (.func 37) #[] #[.pointer (some ⟨n0, 0, none⟩), .pointer (some ⟨n0 + 1, 0, none⟩)]] W0 fun e w' => e = .returned (.int .i64 (idxOf (isY c n) Y)) ∧ Fr (fun _ => False) W0 w') :=
    Lib.hid (ixAnswer W0 v Y (isY c n) n0 (n0 + 1) (h.fr0 yokKeeps hF0) (fun W i x _ hf => kState1 W x n0 (n0 + 1) c n (hf.cell hb0 (fun h => h)) (hf.cell hb1 (fun h => h))))
  have HL := Lib.hid h; have HF0 := Lib.hid hF0
  have hcs := idxOf_cases (isY c n) Y
  obtain ⟨a, cp, rfl⟩ := h.sl
  obtain ⟨R, hR⟩ : ∃ R, stF c n Y = R := ⟨_, rfl⟩
  rw [hR]
  have HR := Lib.hid hR
  clear h hb0 hb1 hF0 hR
  rcases hcs with ⟨h1, h2, -⟩ | ⟨j, y, hy, -, h1, h2⟩
  · have hres : Hid (R = 3) := Lib.hid (by rw [← HR.out]; unfold stF; rw [h2])
    rw [h1] at hI
    clear h1 h2
    go_enter Tryz.func16, Tryz.ntmps16
    go_wp2_with (go_at_call 36; refine hI.out.mono ?_; rintro e w1 ⟨rfl, hf1⟩; have HF1 := Lib.hid hf1; clear hf1)
    go_ret
    exact ⟨by rw [hres.out]; rfl, HF0.out.trans HF1.out⟩
  · have hres : Hid (R = stCode y.code) := Lib.hid (by rw [← HR.out]; unfold stF; rw [h2])
    rw [h1] at hI
    have HY := Lib.hid hy
    have hjl : Hid (j < Y.length) := Lib.hid (List.getElem?_eq_some_iff.1 hy).1
    have hjI : (j : Int) < (Y.length : Int) := by have := hjl.out; omega
    have hlen := HL.out.len
    obtain ⟨N, hN⟩ : ∃ N, Y.length = N := ⟨_, rfl⟩
    rw [hN] at hjI hlen hI ⊢
    have HN := Lib.hid hN
    clear h1 h2 hy hN
    have hcell : Hid (∀ W, Fr (fun _ => False) w W → ∃ ad, a = some ad ∧ W.cell? ⟨(ad.add (j * 4)).block, (ad.add (j * 4)).off + 2, none⟩ = some (.int .i64 y.code)) := Lib.hid (fun W hf => by
      obtain ⟨ad, e, -, -, zs⟩ := (HL.out.fr0 yokKeeps hf).at_ HY.out
      exact ⟨ad, e, zs 1 (.int .i64 y.code) rfl⟩)
    obtain ⟨ad, rfl, -⟩ := hcell.out _ (Fr.refl _ w)
    have hce : Hid (∀ W, Fr (fun _ => False) w W → W.cell? ⟨(ad.add (j * 4)).block, (ad.add (j * 4)).off + 2, none⟩ = some (.int .i64 y.code)) := Lib.hid (fun W hf => by
      obtain ⟨ad', e, hc⟩ := hcell.out W hf
      injection e with e
      rw [e]; exact hc)
    clear hcell
    obtain ⟨code, hcode⟩ : ∃ code, y.code = code := ⟨_, rfl⟩
    rw [hcode] at hce hres
    clear hcode
    rcases stCode_ways code with ⟨e1, e2⟩ | ⟨e1, e2⟩ | ⟨e1, e2⟩ | ⟨e1, e2⟩ | ⟨⟨q1, q2, q3, q4⟩, e2⟩
    all_goals
      rw [e2] at hres
      (try rw [e1] at hce)
      clear e2
      (try clear e1)
      go_enter Tryz.func16, Tryz.ntmps16
      go_wp2_with (go_at_call 36; refine hI.out.mono ?_; rintro e w1 ⟨rfl, hf1⟩; have HF1 := Lib.hid hf1; have hq := hce.out _ (HF0.out.trans hf1); clear hf1)
      go_ret
      exact ⟨by rw [hres.out]; rfl, HF0.out.trans HF1.out⟩
set_option maxRecDepth 100000 in
set_option maxHeartbeats 4000000 in
theorem r25State (w : World) (c n : Int) (v : Value) (Y : List YV) (h : Yl w v Y) : Calls Tryz.prog 17 #[.int .i64 c, .int .i64 n, v] w fun e w' => e = .returned (.int .i64 (stF c n Y)) ∧ Fr (fun _ => False) w w' := by
  have HL := Lib.hid h
  have hNb := h.len
  obtain ⟨a, cp, rfl⟩ := h.sl
  obtain ⟨N, hN⟩ : ∃ N, Y.length = N := ⟨_, rfl⟩
  have HN := Lib.hid hN
  rw [hN] at hNb HL ⊢
  obtain ⟨R, hR⟩ : ∃ R, stF c n Y = R := ⟨_, rfl⟩
  rw [hR]
  have HR := Lib.hid hR
  clear h hR hN
  go_enter Tryz.func17, Tryz.ntmps17
  go_wp2_with fail
  go_loopw [7] (fun i wr => ∃ j : Nat, j ≤ N ∧ i = .int .i64 j ∧ Fr (fun _ => False) w wr ∧ ∀ q y, q < j → Y[q]? = some y → isY c n y = false) (fun i _ => N - (intOf i).toNat)
  case atStart => exact ⟨0, Nat.zero_le _, rfl, Fr.refl _ _, fun q x hq => by omega⟩
  case round =>
    obtain ⟨j, hj, rfl, hfr, hno⟩ := hrel
    have HFR := Lib.hid hfr; have HNO := Lib.hid hno
    clear hno
    by_cases hlt : j < N
    · obtain ⟨y, hy⟩ : ∃ y, Y[j]? = some y := ⟨Y[j]'(by rw [HN.out]; exact hlt), List.getElem?_eq_getElem _⟩
      obtain ⟨ad, rfl, hok, z0, zs⟩ := (HL.out.fr0 yokKeeps hfr).at_ hy
      have hjI : (j : Int) < N := by omega
      have HY := Lib.hid hy
      obtain ⟨X, hX⟩ : ∃ X, X = y := ⟨_, rfl⟩
      have HX := Lib.hid hX
      rw [← hX] at HY
      obtain ⟨yc, yn, code, m⟩ := y
      have x0 := z0 (.int .i64 yc) rfl
      have x1 := zs 0 (.int .i64 yn) rfl
      have x2 := zs 1 (.int .i64 code) rfl
      have x3 := zs 2 (.int .i64 m) rfl
      dsimp only [Nat.zero_add, Nat.reduceAdd] at x0 x1 x2 x3
      have hfin : Hid (isY c n X = true → R = stCode code) := Lib.hid (fun e => by
        rw [← HR.out]
        unfold stF
        rcases idxOf_cases (isY c n) Y with ⟨h1, h2, h3⟩ | ⟨j', y', hy', hp', h1, h2⟩
        · have := h3 X (List.mem_of_getElem? HY.out)
          rw [this] at e; cases e
        · have : idxOf (isY c n) Y = j := idxOf_at HY.out e HNO.out
          have : j' = j := by omega
          subst this
          rw [HY.out] at hy'
          injection hy' with hy'
          rw [h2, ← hy', HX.out])
      have hnx : Hid (isY c n X = false → ∀ q y, q < j + 1 → Y[q]? = some y → isY c n y = false) := Lib.hid (fun e q yq hq hyq => by
        by_cases eq : q = j
        · subst eq
          have e3 : X = yq := Option.some.inj (HY.out.symm.trans hyq)
          rw [← e3]; exact e
        · exact HNO.out q yq (by omega) hyq)
      have hXX : Hid (isY c n X = (decide (yc = c) && decide (yn = n))) := Lib.hid (by rw [hX]; rfl)
      clear hX hy hok z0 zs hfr
      by_cases hc : yc = c
      · have b1 : (yc != c) = false := by simpa using hc
        by_cases hn : yn = n
        · have b2 : (yn != n) = false := by simpa using hn
          have hres := Lib.hid (hfin.out (by rw [hXX.out]; simp [hc, hn]))
          clear hc hn
          rcases stCode_ways code with ⟨e1, e2⟩ | ⟨e1, e2⟩ | ⟨e1, e2⟩ | ⟨e1, e2⟩ | ⟨⟨q1, q2, q3, q4⟩, e2⟩
          all_goals
            rw [e2] at hres
            (try rw [e1] at x2)
            (try subst e1)
            clear e2
            go_wp2_with fail
            go_ret
            exact ⟨by rw [hres.out]; rfl, HFR.out.alloc _⟩
        · have b2 : (yn != n) = true := by simpa using hn
          have hno := Lib.hid (hnx.out (by rw [hXX.out]; simp [hn]))
          clear hc hn
          go_wp2_with fail
          go_roundw
          case rel => exact ⟨j + 1, by omega, by go_num, HFR.out.alloc _, hno.out⟩
          case measure => simp [intOf]; omega
      · have b1 : (yc != c) = true := by simpa using hc
        have hno := Lib.hid (hnx.out (by rw [hXX.out]; simp [hc]))
        clear hc
        go_wp2_with fail
        go_roundw
        case rel => exact ⟨j + 1, by omega, by go_num, HFR.out.alloc _, hno.out⟩
        case measure => simp [intOf]; omega
    · obtain rfl : j = N := by omega
      have hres : Hid (R = 3) := Lib.hid (by
        rw [← HR.out]
        unfold stF
        rw [List.find?_eq_none.2]
        intro x hx
        obtain ⟨q, hq⟩ := List.getElem?_of_mem hx
        have := HNO.out q x (by have := (List.getElem?_eq_some_iff.1 hq).1; have := HN.out; omega) hq
        simp [this])
      clear hfr
      go_wp2_with fail
      go_ret
      exact ⟨by rw [hres.out]; rfl, HFR.out⟩
end Go.Proofs.YtbeikkkmobbnkaaGreat
