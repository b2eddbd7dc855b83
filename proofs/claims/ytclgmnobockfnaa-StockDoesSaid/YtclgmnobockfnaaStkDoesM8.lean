/- stock's laws: lives: the states that its program goes through. -/
import Derived.Test.YtclgmnobockfnaaStkDoesM3
import Derived.Test.YtclgmnobockfnaaStkDoesM4
import Derived.Test.YtclgmnobockfnaaStkDoesM7
namespace Go.Proofs.Ytclgmnobockfnaa
open Go.RowKit Go.Maps
def gA : Str := [97]
def L5 : Its := [(gA, 5)]
def L3 : Its := [(gA, 3)]
def B1 : Stk := [(gA, ⟨5, 0, 0, 0, 5, 0, 0, 0, 0, 0, 0⟩)]
def B2 : Stk := [(gA, ⟨2, 3, 0, 0, 5, 0, 0, 0, 0, 0, 0⟩)]
def B3 : Stk := [(gA, ⟨1, 3, 0, 0, 5, 0, -1, 0, 0, 0, 0⟩)]
theorem sl1 : doS [] 1 L5 = (0, B1) := by rfl
theorem sl2 : doS B1 2 L3 = (0, B2) := by rfl
theorem sl3 : countS B2 gA 2 = (0, 70, B2) := by rfl
theorem sl4 : countS B2 gA 4 = (-1, 0, B3) := by rfl
theorem sl5 : doS B3 2 L5 = (51, B3) := by rfl
theorem sl6 : offerS B3 L5 = [(gA, 1)] ∧ mayL L5 = true := ⟨rfl, rfl⟩
theorem sl7 : (rowAt B3 gA).bal = true := by rfl
theorem okB {R : SR} (h : SRok R) : SOk [(gA, R)] := by
  have hm : ∀ p ∈ [(gA, R)], p = (gA, R) := fun p hp => by simpa using hp
  refine ⟨List.pairwise_singleton _ _, fun p hp => ?_, fun p hp => ?_, by simp⟩
  · rw [hm p hp]; rfl
  · rw [hm p hp]; exact h
theorem ok0 : SOk [] := by
  refine ⟨List.Pairwise.nil, fun p hp => ?_, fun p hp => ?_, by simp⟩ <;> exact absurd hp (by simp)
theorem ok1 : SOk B1 := okB (SRok.of rfl rfl)
theorem ok2 : SOk B2 := okB (SRok.of rfl rfl)
theorem ok3 : SOk B3 := okB (SRok.of rfl rfl)
end Go.Proofs.Ytclgmnobockfnaa
