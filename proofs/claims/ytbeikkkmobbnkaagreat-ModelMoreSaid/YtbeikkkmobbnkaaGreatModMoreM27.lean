/- Maps keyed by pairs of ints ([2]int): the keys as a kind of their own. -/
import Derived.Test.YtbeikkkmobbnkaaGreatModMoreM1
import Derived.Test.YtbeikkkmobbnkaaGreatModMoreM2
import Derived.DeepKeys4
import Derived.ChangeKeys
namespace Go.Proofs.YtbeikkkmobbnkaaGreat
open Go.RowKit Go.Maps
abbrev PK := { p : Int × Int // okI p.1 ∧ okI p.2 }
def PK.enc (p : PK) : Value := .agg #[.int .i64 p.1.1, .int .i64 p.1.2]
def ktP : KT PK where
  enc := PK.enc
  lit p := .string (keyBytes [.int .i64 p.1.1, .int .i64 p.1.2])
  ok _ := True
theorem pairs_inj {p q : PK} (h : keyBytes [.int .i64 p.1.1, .int .i64 p.1.2] = keyBytes [.int .i64 q.1.1, .int .i64 q.1.2]) : p = q := by
  have := keyBytes_inj (l := [Lit.int .i64 p.1.1, .int .i64 p.1.2]) (l' := [Lit.int .i64 q.1.1, .int .i64 q.1.2]) ⟨rfl, rfl, trivial⟩
    (fun a ha => by
      simp at ha
      rcases ha with rfl | rfl
      · exact wf_okI.2 p.2.1
      · exact wf_okI.2 p.2.2)
    (fun a ha => by
      simp at ha
      rcases ha with rfl | rfl
      · exact wf_okI.2 q.2.1
      · exact wf_okI.2 q.2.2) h
  simp at this
  exact Subtype.ext (Prod.ext this.1 this.2)
theorem keyLits_one {P : Program} {e : TypeId} (he : P.underlying e = some (.int .i64)) (n : Nat) (v : Value) {L : List Lit} (h : P.keyLits (n + 1) e [v] = some L) : ∃ x, okI x ∧ v = .int .i64 x ∧ L = [.int .i64 x] := by
  unfold Program.keyLits at h
  rw [he] at h
  cases v <;> simp at h
  obtain ⟨⟨rfl, hw⟩, rfl⟩ := h
  exact ⟨_, wf_okI.1 hw, rfl, rfl⟩
theorem keyLits_int {P : Program} {e : TypeId} (he : P.underlying e = some (.int .i64)) (n : Nat) {x : Int} (h : okI x) : P.keyLits (n + 1) e [.int .i64 x] = some [.int .i64 x] := by
  unfold Program.keyLits
  rw [he]
  simp [wf_okI.2 h]
theorem pairK_of {P : Program} {k e : TypeId} (hk : P.underlying k = some (.array 2 e)) (he : P.underlying e = some (.int .i64)) (hc : P.cellsOf k = 2) (hce : P.cellsOf e = 1) (hkt : P.keyType k = true) (hsz : 1 ≤ P.types.size)
    (hform : ∀ a b : Int, (Value.agg #[.int .i64 a, .int .i64 b]).formed P k = true) (hK : Keyed P k) : KO P k ktP where
  keyed := hK
  key {x} _ := by
    obtain ⟨n, hn⟩ : ∃ n, P.types.size + 1 = n + 2 := ⟨P.types.size - 1, by omega⟩
    show keyOf P k (.agg #[.int .i64 x.1.1, .int .i64 x.1.2]) = some (.string (keyBytes [.int .i64 x.1.1, .int .i64 x.1.2]))
    unfold keyOf
    rw [hk]
    simp only [hkt, hform, Bool.and_self, if_true]
    rw [hn]
    have : P.keyLits (n + 2) k (Value.agg #[.int .i64 x.1.1, .int .i64 x.1.2]).cells.toList = some [.int .i64 x.1.1, .int .i64 x.1.2] := by
      unfold Program.keyLits
      rw [hk]
      simp only [Value.cells, hc, hce, List.length_cons, List.length_nil, if_true]
      show (((List.range 2).mapM fun i => P.keyLits (n + 1) e (([.int .i64 x.1.1, .int .i64 x.1.2].drop (i * 1)).take 1)).map List.flatten) = _
      rw [show List.range 2 = [0, 1] from rfl]
      simp [keyLits_int he n x.2.1, keyLits_int he n x.2.2]
    rw [this]; rfl
  back {v kl} h := by
    obtain ⟨xs, L, rfl, hl, rfl⟩ := keyOf_top (by rw [hk]) h
    obtain ⟨n, hn⟩ : ∃ n, P.types.size + 1 = n + 2 := ⟨P.types.size - 1, by omega⟩
    rw [hn] at hl
    unfold Program.keyLits at hl
    rw [hk] at hl
    simp only at hl
    split at hl
    · rename_i hlen
      rw [hc] at hlen
      obtain ⟨l⟩ := xs
      match l, hlen with
      | [a, b], _ =>
        rw [show List.range 2 = [0, 1] from rfl, hce] at hl
        simp only [Option.map_eq_some_iff] at hl
        obtain ⟨ls, hm, rfl⟩ := hl
        simp only [List.mapM_cons, List.mapM_nil, Nat.zero_mul, List.drop_zero, List.take_succ_cons, List.take_zero, Nat.one_mul, List.drop_succ_cons, Option.pure_def, Option.bind_eq_bind, Option.bind_eq_some_iff] at hm
        obtain ⟨l1, h1, ls2, ⟨l2, h2, l3, h3, e3⟩, e2⟩ := hm
        obtain ⟨x, hx, rfl, rfl⟩ := keyLits_one he n _ h1
        obtain ⟨y, hy, rfl, rfl⟩ := keyLits_one he n _ h2
        cases h3
        cases e3
        cases e2
        exact ⟨⟨(x, y), hx, hy⟩, trivial, rfl, rfl⟩
    · cases hl
  same x y := by
    show (Lit.string _).sameKey (.string _) = _
    by_cases e : x = y
    · subst e; simp [Lit.sameKey]
    · have : keyBytes [.int .i64 x.1.1, .int .i64 x.1.2] ≠ keyBytes [.int .i64 y.1.1, .int .i64 y.1.2] := fun h => e (pairs_inj h)
      simp [Lit.sameKey, e, this]
end Go.Proofs.YtbeikkkmobbnkaaGreat
