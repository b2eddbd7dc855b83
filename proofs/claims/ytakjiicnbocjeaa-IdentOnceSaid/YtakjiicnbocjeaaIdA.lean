/- ident.Table: the object, and New, made, isClient, isNumber, client, Mark, Len. -/
import Derived.Test.YtakjiicnbocjeaaFrame
import Derived.Test.YtakjiicnbocjeaaMaps
import Derived.Test.YtakjiicnbocjeaaPlainB
import Derived.Handy
namespace Go.Proofs.Ytakjiicnbocjeaa
open Go.RowKit Go.Maps
structure Ans where
  c : Int
  n : Int
  code : Int
  k : Int
deriving DecidableEq
def Ans.zero : Ans := ⟨0, 0, 0, 0⟩
def Ans.enc (a : Ans) : Value := .agg #[.int .i64 a.c, .int .i64 a.n, .int .i64 a.code, .int .i64 a.k]
structure RowV where
  mix : Int
  done : Bool
  a : Ans
def RowV.enc (r : RowV) : Value := .agg #[.int .u64 r.mix, .bool r.done, .int .i64 r.a.c, .int .i64 r.a.n, .int .i64 r.a.code, .int .i64 r.a.k]
structure Cl where
  mark : Int
  b : Nat
  rows : List (Int × RowV)
def Cl.enc (x : Cl) : Value := .agg #[.int .i64 x.mark, .map (some x.b)]
theorem idK : KO Try.prog 3 ktI := koI Try.underlying3
theorem zeroRow (w : World) : (zeroValue 73).run Try.prog w = .ok (.agg #[.int .u64 0, .bool false, .int .i64 0, .int .i64 0, .int .i64 0, .int .i64 0]) w := by kernel_rfl
theorem zeroCl (w : World) : (zeroValue 68).run Try.prog w = .ok (.agg #[.int .i64 0, .map none]) w := by kernel_rfl
/-- Block g is a Table whose map is block m, which holds l. -/
structure Tab (w : World) (g m : Nat) (l : List (Int × Cl)) : Prop where
  box : w.heap[g]? = some (.cells #[.map (some m)] 63)
  map : Mp Try.prog w 3 ktI Cl.enc m l
  rows : ∀ p ∈ l, Mp Try.prog w 3 ktI RowV.enc p.2.b p.2.rows
  nb : ∀ p ∈ l, p.2.b ≠ m
  dis : l.Pairwise (fun p q => p.2.b ≠ q.2.b)
section
variable {w w' : World} {g m : Nat} {l : List (Int × Cl)}
theorem Tab.glt (h : Tab w g m l) : g < w.heap.size := (Array.getElem?_eq_some_iff.1 h.box).1
theorem Tab.cell (h : Tab w g m l) : w.cell? ⟨g, 0, none⟩ = some (.map (some m)) := by simp [World.cell?, h.box]
theorem map_ne_cells {w : World} {κ ν : Type} {P : Program} {k : TypeId} {T : KT κ} {enc : ν → Value} {b g : Nat} {l : List (κ × ν)} {cs : Array Value} {t : TypeId} (h : Mp P w k T enc b l) (hg : w.heap[g]? = some (.cells cs t)) : g ≠ b := by
  rintro rfl
  obtain ⟨_, es, clock, hb, _⟩ := h
  rw [hg] at hb; cases hb
theorem Tab.fr {S : Nat → Prop} (h : Tab w g m l) (hf : Fr S w w') (h1 : ¬ S g) (h2 : ¬ S m) (h3 : ∀ p ∈ l, ¬ S p.2.b) : Tab w' g m l :=
  ⟨hf.at_ h.box h1, hf.mp h.map h2, fun p hp => hf.mp (h.rows p hp) (h3 p hp), h.nb, h.dis⟩
end
theorem iNew (w : World) : Calls Try.prog 9 #[] w fun e w' => e = .returned (.pointer (some ⟨w.heap.size + 1, 0, none⟩)) ∧ Tab w' (w.heap.size + 1) w.heap.size [] ∧ Below w.heap.size w w' ∧ w'.heap.size = w.heap.size + 2 := by
  have hmm := @run_makeMap Try.prog
  go_enter Try.func9, Try.ntmps9
  go_wp2
  go_ret
  refine ⟨rfl, ⟨heap_at (by simp) _, ?_, (fun p hp => by cases hp), (fun p hp => by cases hp), List.Pairwise.nil⟩, ((Below.refl _ _).alloc (Nat.le_refl _) _).alloc (by simp) _, by simp⟩
  exact (Mp.made Try.prog w 3 ktI Cl.enc).alloc _
theorem imade_no (w : World) : Calls Try.prog 24 #[.pointer none] w fun e w' => e = .returned (.bool false) ∧ w = w' := by
  go_enter Try.func24, Try.ntmps24
  go_wp2
  go_ret
  exact ⟨rfl, rfl⟩
theorem imade (w : World) (g m : Nat) (hc : w.cell? ⟨g, 0, none⟩ = some (.map (some m))) : Calls Try.prog 24 #[.pointer (some ⟨g, 0, none⟩)] w fun e w' => e = .returned (.bool true) ∧ w = w' := by
  have hn := fun (w : World) (r : Option Nat) => run_neq_map_nil (P := Try.prog) w 61 _ _ r Try.underlying61
  go_enter Try.func24, Try.ntmps24
  go_wp2
  go_ret
  exact ⟨rfl, rfl⟩
def isCl (c : Int) : Bool := decide (0 ≤ c) && decide (c < 64)
def isNu (n : Int) : Bool := decide (1 ≤ n) && decide (n ≤ 4294967296)
theorem iClient? (w : World) (c : Int) : Calls Try.prog 25 #[.int .i64 c] w fun e w' => e = .returned (.bool (isCl c)) ∧ w = w' := by
  unfold isCl
  by_cases h1 : 0 ≤ c <;> by_cases h2 : c < 64
  all_goals
    go_enter Try.func25, Try.ntmps25
    go_wp2
    go_ret
    exact ⟨ret_bool (by simp; omega), rfl⟩
theorem iNumber? (w : World) (c : Int) : Calls Try.prog 26 #[.int .i64 c] w fun e w' => e = .returned (.bool (isNu c)) ∧ w = w' := by
  unfold isNu
  by_cases h1 : 1 ≤ c <;> by_cases h2 : c ≤ 4294967296
  all_goals
    go_enter Try.func26, Try.ntmps26
    go_wp2
    go_ret
    exact ⟨ret_bool (by simp; omega), rfl⟩
/-- What client gives: the client that is there, or a new one, which is not in the table yet. -/
def Got (w w' : World) (l : List (Int × Cl)) (c : Int) (x : Cl) : Prop := getS l c = some x ∨ (getS l c = none ∧ x.mark = 1 ∧ x.rows = [] ∧ w.heap.size ≤ x.b ∧ x.b < w'.heap.size)
theorem iclient (w : World) (g m : Nat) (l : List (Int × Cl)) (c : Int) (h : Tab w g m l) (hc : okI c) :
    Calls Try.prog 27 #[.pointer (some ⟨g, 0, none⟩), .int .i64 c] w fun e w' => ∃ x : Cl, e = .returned x.enc ∧ Mp Try.prog w' 3 ktI RowV.enc x.b x.rows ∧ Fr (fun _ => False) w w' ∧ Got w w' l c x := by
  have hmm := @run_makeMap Try.prog
  have hcell := h.cell
  have hlk := fun (W : World) (hM : Mp Try.prog W 3 ktI Cl.enc m l) => hM.look_ok idK Try.underlying61 (zeroCl W) hc
  cases hg : getS l c with
  | none =>
    rw [hg] at hlk
    have hm1 := hlk _ (h.map.alloc (.cells #[.int .i64 0, .map none] 68))
    simp only at hm1
    have hm2 : (Instr.lookup 61 (.map (some m)) (.int .i64 c) true).run Try.prog (w.alloc (.cells #[.int .i64 0, .map none] 68)) = .ok (.tuple #[.agg #[.int .i64 0, .map none], .bool false]) _ := hm1
    have hlt := h.glt
    clear hlk hm1
    go_enter Try.func27, Try.ntmps27
    go_wp2
    go_returns
    refine ⟨⟨1, w.heap.size + 1 + 1, []⟩, rfl, ?_, ((Fr.refl _ w).alloc _).alloc _ |>.alloc _, .inr ⟨hg, rfl, rfl, by simp; omega, by simp⟩⟩
    have := Mp.made Try.prog ((w.alloc (.cells #[.int .i64 1, .map (some (w.heap.size + 1 + 1))] 68)).alloc (.cells #[.int .i64 1, .map (some (w.heap.size + 1 + 1))] 68)) 3 ktI RowV.enc
    simpa using this
  | some x =>
    rw [hg] at hlk
    have hm1 := hlk _ (h.map.alloc (.cells #[.int .i64 0, .map none] 68))
    simp only at hm1
    have hm2 : (Instr.lookup 61 (.map (some m)) (.int .i64 c) true).run Try.prog (w.alloc (.cells #[.int .i64 0, .map none] 68)) = .ok (.tuple #[.agg #[.int .i64 x.mark, .map (some x.b)], .bool true]) _ := hm1
    have hlt := h.glt
    clear hlk hm1
    go_enter Try.func27, Try.ntmps27
    go_wp2
    go_returns
    exact ⟨x, rfl, ((h.rows _ (getS_mem hg)).alloc _).alloc _, ((Fr.refl _ w).alloc _).alloc _, .inl hg⟩
end Go.Proofs.Ytakjiicnbocjeaa
