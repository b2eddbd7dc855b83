/- m[k] = append(m[k], x): the entry that is laid, and what is stored into it. -/
import Derived.Test.YtbeikkkmobbnkaaGreatModMoreM1
import Derived.WideKeyEntry
namespace Go.Proofs.YtbeikkkmobbnkaaGreat
open Go.RowKit Go.Maps Go.ChangeMaps Go.WideElems
open Go.WideMaps (KeyLaw)
theorem Mp.entry {κ ν : Type} [DecidableEq κ] {P : Program} {w : World} {k t e : TypeId} {T : KT κ} {enc : ν → Value} {b : Nat} {l : List (κ × ν)} (h : Mp P w k T enc b l) (KL : KeyLaw P k) (K : KO P k T) (ht : P.underlying t = some (.map k e)) (hl : l.length < 9223372036854775807)
    {z : Value} (hz : ∀ u : World, (zeroValue e).run P u = .ok z u) {x : κ} (hx : T.ok x) :
    ∃ st w1, (Instr.mapEntry t (.map (some b)) (T.enc x)).run P w = .ok (.tuple #[(getS l x).elim z enc, goInt st]) w1 ∧ w.mapTurned w1 b ∧
      ∀ (w2 : World) (v : ν), w2.heap[b]? = w1.heap[b]? → ∃ w3, (Instr.entryStore t (.map (some b)) (goInt st) (enc v)).run P w2 = .ok () w3 ∧ Mp P w3 k T enc b (putS T.lt l x v) ∧ w2.mapTurned w3 b := by
  obtain ⟨n, es, clock, hb, F, hs, hD⟩ := h
  have hM : Mp P w k T enc b l := ⟨n, es, clock, hb, F, hs, hD⟩
  have hblt : b < w.heap.size := hM.lt
  obtain ⟨v0, st, es1, clock1, hrun, hv0, hst⟩ := entry_then_store (R := heldR) KL ht hz hb F (K.key hx)
  have hval : v0 = (getS l x).elim z enc := by
    rcases hv0 with ⟨e0, hm, hk, rfl⟩ | ⟨hno, rfl⟩
    · have h1 : ∀ zd : DataW Value, (T.dat enc l).atKey (T.lit x) zd = .held e0.val := fun zd => by
        rw [hD]
        exact atKey_some KL F (K.key hx) hm hk (z := (.held e0.val, [])) rfl zd
      cases hg : getS l x with
      | none =>
        have h2 := h1 (.held (.bool true))
        have h3 := h1 (.held (.bool false))
        rw [dat_at K, hg] at h2 h3
        have : (DataW.held (Value.bool true) : DataW Value) = .held (.bool false) := h2.trans h3.symm
        injection this with this
        injection this with this
        cases this
      | some u =>
        have h2 := h1 (.held (.bool true))
        rw [dat_at K, hg] at h2
        injection h2 with h2
        exact h2.symm
    · cases hg : getS l x with
      | none => rfl
      | some u =>
        have h2 : ∀ zd : DataW Value, (T.dat enc l).atKey (T.lit x) zd = zd := fun zd => by rw [hD]; exact atKey_none KL F (K.key hx) hno zd
        have h3 := h2 (.held (.bool true))
        have h4 := h2 (.held (.bool false))
        rw [dat_at K, hg] at h3 h4
        have : (DataW.held (Value.bool true) : DataW Value) = .held (.bool false) := h3.symm.trans h4
        injection this with this
        injection this with this
        cases this
  refine ⟨st, setBlock w b (.map es1 clock1), by rw [hrun, hval], ⟨es, clock, es1, clock1, hb, rfl⟩, fun w2 v hw2 => ?_⟩
  have hw1 : w2.heap[b]? = some (.map es1 clock1) := hw2.trans (heap_setBlock_same hb _)
  obtain ⟨es', clock', h1, h2⟩ := hst w2 (enc v) hw1
  obtain ⟨w', h3, h4, _⟩ := hM.store K ht hl hx v
  rw [h3] at h2
  injection h2 with _ h2
  subst h2
  refine ⟨_, h1, h4.at_ ?_, ⟨es1, clock1, es', clock', hw1, rfl⟩⟩
  rw [heap_setBlock_same hw1, heap_setBlock_same hb]
end Go.Proofs.YtbeikkkmobbnkaaGreat
