/- Maps keyed by model.who (two ints): the keys as a kind of their own. -/
import Derived.Test.YtbeikkkmobbnkaaGreatModMoreM27
import Derived.Test.YtbeikkkmobbnkaaGreatModMoreM28
namespace Go.Proofs.YtbeikkkmobbnkaaGreat
open Go.RowKit Go.Maps
theorem structK_of {P : Program} {k e : TypeId} {f0 f1 : Field} (hk : P.underlying k = some (.struct #[f0, f1])) (h0 : f0.type = e ∧ f0.offset = 0 ∧ (f0.name != "_") = true) (h1 : f1.type = e ∧ f1.offset = 1 ∧ (f1.name != "_") = true)
    (he : P.underlying e = some (.int .i64)) (hc : P.cellsOf k = 2) (hce : P.cellsOf e = 1) (hkt : P.keyType k = true) (hsz : 1 ≤ P.types.size)
    (hform : ∀ a b : Int, (Value.agg #[.int .i64 a, .int .i64 b]).formed P k = true) (hK : Keyed P k) : KO P k ktP where
  keyed := hK
  key {x} _ := by
    obtain ⟨n, hn⟩ : ∃ n, P.types.size + 1 = n + 2 := ⟨P.types.size - 1, by omega⟩
    show keyOf P k (.agg #[.int .i64 x.1.1, .int .i64 x.1.2]) = some (.string (keyBytes [.int .i64 x.1.1, .int .i64 x.1.2]))
    unfold keyOf
    rw [hk]
    simp only [hkt, hform, Bool.and_self, if_true]
    rw [hn]
    have : P.keyLits (n + 2) k (Value.agg #[.int .i64 x.1.1, .int .i64 x.1.2]).cells.toList = some [.int .i64 x.1.1, .int .i64 x.1.2] := by
      unfold Program.keyLits
      rw [hk]
      simp only [Value.cells, hc, List.length_cons, List.length_nil]
      simp [h0.1, h0.2.1, h1.1, h1.2.1, hce, keyLits_int he n x.2.1, keyLits_int he n x.2.2]
      exact ⟨by simpa using h0.2.2, by simpa using h1.2.2⟩
    rw [this]; rfl
  back {v kl} h := by
    obtain ⟨xs, L, rfl, hl, rfl⟩ := keyOf_top (by rw [hk]) h
    obtain ⟨n, hn⟩ : ∃ n, P.types.size + 1 = n + 2 := ⟨P.types.size - 1, by omega⟩
    rw [hn] at hl
    unfold Program.keyLits at hl
    rw [hk] at hl
    simp only at hl
    split at hl
    · rename_i hlen
      rw [hc] at hlen
      obtain ⟨l⟩ := xs
      obtain ⟨hlen, -⟩ := hlen
      match l, hlen with
      | [a, b], _ =>
        simp only [Option.map_eq_some_iff] at hl
        obtain ⟨ls, hm, rfl⟩ := hl
        simp only [h0.1, h0.2.1, h1.1, h1.2.1, hce, List.mapM_cons, List.mapM_nil, List.drop_zero, List.take_succ_cons, List.take_zero, List.drop_succ_cons, Option.pure_def, Option.bind_eq_bind, Option.bind_eq_some_iff] at hm
        obtain ⟨l1, h1', ls2, ⟨l2, h2', l3, h3, e3⟩, e2⟩ := hm
        obtain ⟨x, hx, rfl, rfl⟩ := keyLits_one he n _ h1'
        obtain ⟨y, hy, rfl, rfl⟩ := keyLits_one he n _ h2'
        cases h3
        cases e3
        cases e2
        exact ⟨⟨(x, y), hx, hy⟩, trivial, rfl, rfl⟩
    · cases hl
  same x y := by
    show (Lit.string _).sameKey (.string _) = _
    by_cases e : x = y
    · subst e; simp [Lit.sameKey]
    · have : keyBytes [.int .i64 x.1.1, .int .i64 x.1.2] ≠ keyBytes [.int .i64 y.1.1, .int .i64 y.1.2] := fun h => e (pairs_inj h)
      simp [Lit.sameKey, e, this]
theorem whoLaw : Go.WideMaps.KeyLaw Tryz.prog 56 := deep_law_laid laidOut (m := 2) (by decide) (by decide +kernel) (by kernel_rfl) (by kernel_rfl)
theorem whoK : KO Tryz.prog 56 ktP :=
  structK_of Tryz.underlying56 ⟨rfl, rfl, by decide⟩ ⟨rfl, rfl, by decide⟩ Tryz.underlying3 (by kernel_rfl) (by kernel_rfl) (by kernel_rfl) (by decide +kernel) (fun a b => by kernel_rfl) (Keyed.of_law whoLaw)
end Go.Proofs.YtbeikkkmobbnkaaGreat
