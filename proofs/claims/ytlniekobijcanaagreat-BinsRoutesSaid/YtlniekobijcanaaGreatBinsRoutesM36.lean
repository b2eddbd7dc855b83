/- bins' laws: their arguments opened. -/
import Derived.Test.YtlniekobijcanaaGreatBinsRoutesM34
import Derived.Test.YtlniekobijcanaaGreatBinsRoutesM35
namespace Go.Proofs.YtlniekobijcanaaGreat
open Go.ChangeShapes Go.WideShapes Go.RowKit Go.Maps
/-- An Op. -/
structure BOp where
  kd : Int
  g : Str
  n : Int
  b : Int
  t : Int
def bopC (o : BOp) : Array Value := #[.int .i64 o.kd, vS o.g, .int .i64 o.n, .int .i64 o.b, .int .i64 o.t]
def okBop (_ : World) (o : BOp) : Prop := okI o.kd ∧ okS o.g ∧ okI o.n ∧ okI o.b ∧ okI o.t
theorem bopSize (o : BOp) : (bopC o).size = 5 := rfl
section
variable {H : Type} {enc : TypeId × Value → H} {w : World} {base : Nat} {spare : Nat → Bool} {held : Bool}
set_option maxRecDepth 100000 in
theorem open_bop (cell : Nat → Option Value) (h : ∀ (j : Nat) (t : TypeId), (leaves Tryz.prog 2 53)[j]? = some t → ∃ (u : Value) (m : Nat) (y : DataW H × List MemPlace), cell j = some u ∧ DataW.trod enc Tryz.prog w base spare held m t [u] = some y) :
    ∃ r : BOp, okBop w r ∧ ∀ (j : Nat) (u : Value), (bopC r)[j]? = some u → cell j = some u := by
  obtain ⟨u0, m0, y0, c0, t0⟩ := h 0 3 (by kernel_rfl)
  obtain ⟨u1, m1, y1, c1, t1⟩ := h 1 9 (by kernel_rfl)
  obtain ⟨u2, m2, y2, c2, t2⟩ := h 2 3 (by kernel_rfl)
  obtain ⟨u3, m3, y3, c3, t3⟩ := h 3 3 (by kernel_rfl)
  obtain ⟨u4, m4, y4, c4, t4⟩ := h 4 3 (by kernel_rfl)
  obtain ⟨x0, rfl, k0⟩ := leaf_i64 Tryz.underlying3 t0
  obtain ⟨s, rfl, k1⟩ := leaf_str Tryz.underlying9 t1
  obtain ⟨x2, rfl, k2⟩ := leaf_i64 Tryz.underlying3 t2
  obtain ⟨x3, rfl, k3⟩ := leaf_i64 Tryz.underlying3 t3
  obtain ⟨x4, rfl, k4⟩ := leaf_i64 Tryz.underlying3 t4
  refine ⟨⟨x0, s, x2, x3, x4⟩, ⟨k0, k1, k2, k3, k4⟩, fun j u hu => ?_⟩
  match j, hu with
  | 0, hu => cases hu; exact c0
  | 1, hu => cases hu; exact c1
  | 2, hu => cases hu; exact c2
  | 3, hu => cases hu; exact c3
  | 4, hu => cases hu; exact c4
  | j + 5, hu => simp [bopC] at hu
set_option maxRecDepth 100000 in
theorem open_place (cell : Nat → Option Value) (h : ∀ (j : Nat) (t : TypeId), (leaves Tryz.prog 2 55)[j]? = some t → ∃ (u : Value) (m : Nat) (y : DataW H × List MemPlace), cell j = some u ∧ DataW.trod enc Tryz.prog w base spare held m t [u] = some y) :
    ∃ r : PV, okPv w r ∧ ∀ (j : Nat) (u : Value), (pvC r)[j]? = some u → cell j = some u := by
  obtain ⟨u0, m0, y0, c0, t0⟩ := h 0 3 (by kernel_rfl)
  obtain ⟨u1, m1, y1, c1, t1⟩ := h 1 9 (by kernel_rfl)
  obtain ⟨u2, m2, y2, c2, t2⟩ := h 2 3 (by kernel_rfl)
  obtain ⟨x0, rfl, k0⟩ := leaf_i64 Tryz.underlying3 t0
  obtain ⟨s, rfl, k1⟩ := leaf_str Tryz.underlying9 t1
  obtain ⟨x2, rfl, k2⟩ := leaf_i64 Tryz.underlying3 t2
  refine ⟨⟨x0, s, x2⟩, ⟨k0, k1, k2⟩, fun j u hu => ?_⟩
  match j, hu with
  | 0, hu => cases hu; exact c0
  | 1, hu => cases hu; exact c1
  | 2, hu => cases hu; exact c2
  | j + 3, hu => simp [pvC] at hu
set_option maxRecDepth 100000 in
theorem open_bi (cell : Nat → Option Value) (h : ∀ (j : Nat) (t : TypeId), (leaves Tryz.prog 2 36)[j]? = some t → ∃ (u : Value) (m : Nat) (y : DataW H × List MemPlace), cell j = some u ∧ DataW.trod enc Tryz.prog w base spare held m t [u] = some y) :
    ∃ r : BI, okBi w r ∧ ∀ (j : Nat) (u : Value), (biC r)[j]? = some u → cell j = some u := by
  obtain ⟨u0, m0, y0, c0, t0⟩ := h 0 3 (by kernel_rfl)
  obtain ⟨u1, m1, y1, c1, t1⟩ := h 1 3 (by kernel_rfl)
  obtain ⟨u2, m2, y2, c2, t2⟩ := h 2 3 (by kernel_rfl)
  obtain ⟨x0, rfl, k0⟩ := leaf_i64 Tryz.underlying3 t0
  obtain ⟨x1, rfl, k1⟩ := leaf_i64 Tryz.underlying3 t1
  obtain ⟨x2, rfl, k2⟩ := leaf_i64 Tryz.underlying3 t2
  refine ⟨⟨x0, x1, x2⟩, ⟨k0, k1, k2⟩, fun j u hu => ?_⟩
  match j, hu with
  | 0, hu => cases hu; exact c0
  | 1, hu => cases hu; exact c1
  | 2, hu => cases hu; exact c2
  | j + 3, hu => simp [biC] at hu
set_option maxRecDepth 100000 in
theorem open_bop1 {r : Reach} {b0 : Nat} {v : Value} {d : DataW H} {p : List MemPlace} (hv : Value.okWide Tryz.prog w r b0 53 v) (h : DataW.Trod enc Tryz.prog w base spare held 53 v d p) : ∃ r : BOp, v = .agg (bopC r) ∧ okBop w r :=
  open_one (cs := bopC) (ok := okBop) (k := 5) (d := 2) Tryz.underlying53 (by kernel_rfl) (by kernel_rfl) bopSize open_bop hv h
set_option maxRecDepth 100000 in
theorem open_bops {r : Reach} {b0 : Nat} {v : Value} {d : DataW H} {p : List MemPlace} (hv : Value.okWide Tryz.prog w r b0 50 v) (h : DataW.Trod enc Tryz.prog w base spare held 50 v d p) : ∃ L, Sq 5 bopC okBop w v L :=
  open_sq (d := 2) Tryz.underlying50 (by kernel_rfl) (by kernel_rfl) (by kernel_rfl) open_bop hv h
set_option maxRecDepth 100000 in
theorem open_places {r : Reach} {b0 : Nat} {v : Value} {d : DataW H} {p : List MemPlace} (hv : Value.okWide Tryz.prog w r b0 23 v) (h : DataW.Trod enc Tryz.prog w base spare held 23 v d p) : ∃ L, Pl w v L :=
  open_sq (d := 2) Tryz.underlying23 (by kernel_rfl) (by kernel_rfl) (by kernel_rfl) open_place hv h
set_option maxRecDepth 100000 in
theorem open_bis {r : Reach} {b0 : Nat} {v : Value} {d : DataW H} {p : List MemPlace} (hv : Value.okWide Tryz.prog w r b0 22 v) (h : DataW.Trod enc Tryz.prog w base spare held 22 v d p) : ∃ L, Sbi w v L :=
  open_sq (d := 2) Tryz.underlying22 (by kernel_rfl) (by kernel_rfl) (by kernel_rfl) open_bi hv h
end
end Go.Proofs.YtlniekobijcanaaGreat
