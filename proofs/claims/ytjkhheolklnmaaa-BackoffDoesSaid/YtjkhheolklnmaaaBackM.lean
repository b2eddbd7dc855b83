/- backoff: what the law BackoffDoes keeps between its steps. -/
import Derived.Test.YtjkhheolklnmaaaBackL
import Derived.Test.YtjkhheolklnmaaaOpen
namespace Go.Proofs.Ytjkhheolklnmaaa
open Go.RowKit Go.Maps
theorem getS_snoc {X : List KV} {j : Nat} {p : KV} {key : Int} (h : X[j]? = some p) (hn : KeysND X) : getS (X.take (j + 1)) key = if p.1 = key then some p.2 else getS (X.take j) key := by
  rw [List.take_add_one, h]
  have hnd : KeysND (X.take (j + 1)) := List.Pairwise.sublist (List.take_sublist _ _) hn
  rw [List.take_add_one, h] at hnd
  simp only [Option.toList_some] at hnd ⊢
  generalize X.take j = l at *
  induction l with
  | nil => simp [getS]
  | cons q r ih =>
    have h1 := List.pairwise_cons.1 hnd
    have := ih h1.2
    simp only [List.cons_append, getS]
    by_cases e : q.1 = key
    · have hne : p.1 ≠ key := fun e2 => h1.1 p (by simp) (e.trans e2.symm)
      simp [e, hne]
    · simp only [e, if_false]; exact this
/-- Between two steps: the timers, their reference, the call's own operation. -/
structure St (w0 w : World) (g m ob : Nat) (kd ky ta : Int) (v : Value) (X : List KV) : Prop where
  tx : TX w g m X
  sl : TSl w (m + 1) v X
  fr : Fr (fun b => m ≤ b) w0 w
  op : w.heap[ob]? = some (.cells #[.int .i64 kd, .int .i64 ky, .int .i64 ta] 32)
  ne : m < ob
theorem St.still {w0 w w' : World} {g m ob : Nat} {kd ky ta : Int} {v : Value} {X : List KV} (h : St w0 w g m ob kd ky ta v X) (hf : Fr (fun _ => False) w w') : St w0 w' g m ob kd ky ta v X :=
  ⟨h.tx.fr hf (fun h => h) (fun h => h), h.sl.fr hf (fun _ _ h => h), h.fr.trans' hf (fun _ _ e => e.elim), hf.at_ h.op (fun h => h), h.ne⟩
theorem St.drewN {w0 w : World} {g m ob : Nat} {kd ky ta : Int} {v : Value} {X : List KV} (h : St w0 w g m ob kd ky ta v X) (n : Nat) : St w0 (w.drewN n) g m ob kd ky ta v X := h.still ((Fr.refl _ _).drewN n)
theorem St.cells {w0 w : World} {g m ob : Nat} {kd ky ta : Int} {v : Value} {X : List KV} (h : St w0 w g m ob kd ky ta v X) : w.cell? ⟨ob, 0, none⟩ = some (.int .i64 kd) ∧ w.cell? ⟨ob, 1, none⟩ = some (.int .i64 ky) ∧ w.cell? ⟨ob, 2, none⟩ = some (.int .i64 ta) :=
  ⟨cell_obj h.op 0 _ rfl, cell_obj h.op 1 _ rfl, cell_obj h.op 2 _ rfl⟩
/-- The timers have been turned, the reference not yet. -/
structure Su (w0 w : World) (g m ob : Nat) (kd ky ta : Int) (v : Value) (X X' : List KV) : Prop where
  tx : TX w g m X'
  sl : TSl w (m + 1) v X
  fr : Fr (fun b => m ≤ b) w0 w
  op : w.heap[ob]? = some (.cells #[.int .i64 kd, .int .i64 ky, .int .i64 ta] 32)
  ne : m < ob
theorem St.turn {w0 w w' : World} {g m ob : Nat} {kd ky ta : Int} {v : Value} {X X' : List KV} (h : St w0 w g m ob kd ky ta v X) (hT : TX w' g m X') (hf : Fr (fun b => b = m) w w') : Su w0 w' g m ob kd ky ta v X X' :=
  ⟨hT, h.sl.fr hf (fun b hb e => by omega), h.fr.trans' hf (fun b _ e => by omega), hf.at_ h.op (fun e => by have := h.ne; omega), h.ne⟩
theorem Su.cells {w0 w : World} {g m ob : Nat} {kd ky ta : Int} {v : Value} {X X' : List KV} (h : Su w0 w g m ob kd ky ta v X X') : w.cell? ⟨ob, 0, none⟩ = some (.int .i64 kd) ∧ w.cell? ⟨ob, 1, none⟩ = some (.int .i64 ky) ∧ w.cell? ⟨ob, 2, none⟩ = some (.int .i64 ta) :=
  ⟨cell_obj h.op 0 _ rfl, cell_obj h.op 1 _ rfl, cell_obj h.op 2 _ rfl⟩
theorem Su.laid {w0 w w' : World} {g m ob : Nat} {kd ky ta : Int} {v v' : Value} {X X' : List KV} (h : Su w0 w g m ob kd ky ta v X X') (hown : w'.ownsRow w.heap.size 41 2 v' X'.length (enc2 X')) (hb : Below w.heap.size w w') : St w0 w' g m ob kd ky ta v' X' :=
  have hf : Fr (fun _ => False) w w' := Fr.below hb
  ⟨h.tx.fr hf (fun h => h) (fun h => h), TSl.of hown (by have := h.tx.lt; omega), h.fr.trans' hf (fun _ _ e => e.elim), hf.at_ h.op (fun h => h), h.ne⟩
theorem Su.same {w0 w : World} {g m ob : Nat} {kd ky ta : Int} {v : Value} {X : List KV} (h : Su w0 w g m ob kd ky ta v X X) : St w0 w g m ob kd ky ta v X := ⟨h.tx, h.sl, h.fr, h.op, h.ne⟩
/-- One element of the reference. -/
theorem TSl.at {w : World} {lo : Nat} {a : Option Addr} {n c i : Nat} {X : List KV} {p : KV} (h : TSl w lo (.slice a n c) X) (hp : X[i]? = some p) : ∃ ad, a = some ad ∧ w.cell? (ad.add (i * 2)) = some (.int .i64 p.1) ∧ w.cell? ⟨(ad.add (i * 2)).block, (ad.add (i * 2)).off + 1, none⟩ = some (.int .i64 p.2) := by
  obtain ⟨a', c', e, -, -, h3⟩ := h
  injection e with e1
  obtain ⟨ad, e2, _, c1, c2⟩ := h3 i p hp
  exact ⟨ad, e1.trans e2, c1, c2⟩
theorem TSl.form {w : World} {lo : Nat} {v : Value} {X : List KV} (h : TSl w lo v X) : ∃ a c, v = .slice a X.length c ∧ X.length ≤ c ∧ c ≤ 9223372036854775807 := by
  obtain ⟨a, c, e, h1, h2, -⟩ := h
  exact ⟨a, c, e, h1, h2⟩
theorem TSl.tail {w : World} {lo : Nat} {ad : Addr} {c : Nat} {p : KV} {X : List KV} (h : TSl w lo (.slice (some ad) (X.length + 1) c) (p :: X)) : TSl w lo (.slice (some (ad.add 2)) X.length (c - 1)) X := by
  obtain ⟨a', c', e, h1, h2, h3⟩ := h
  injection e with e1 _ e3
  subst e3
  simp only [List.length_cons] at h1
  refine ⟨_, _, rfl, by omega, by omega, fun i q hq => ?_⟩
  obtain ⟨ad', e2, hl, c1, c2⟩ := h3 (i + 1) q (by simpa using hq)
  have : ad = ad' := by rw [e2] at e1; injection e1
  subst this
  have hadd : ad.add ((i + 1) * 2) = (ad.add 2).add (i * 2) := by rw [Go.Deep.add_add]; congr 1; omega
  rw [hadd] at c1 c2
  exact ⟨_, rfl, by rw [add_blk]; exact hl, c1, c2⟩
theorem delS_head {p : KV} {r : List KV} (h : KeysND (p :: r)) : delS (p :: r) p.1 = r := by
  simp only [delS, List.filter_cons, decide_true, Bool.not_true, Bool.false_eq_true, if_false]
  rw [List.filter_eq_self]
  intro q hq
  have := (List.pairwise_cons.1 h).1 q hq
  simp; exact fun e => this e.symm
theorem TSl.rest {w : World} {lo : Nat} {ad : Addr} {n c : Nat} {p : KV} {X : List KV} (h : TSl w lo (.slice (some ad) n c) (p :: X)) :
    (∀ a, c = 1 → TSl w lo (.slice a (n - 1) 0) X) ∧ TSl w lo (.slice (some ⟨ad.block, ad.off + 2, none⟩) (n - 1) (c - 1)) X := by
  obtain ⟨a', c', e, h1, h2, h3⟩ := id h
  injection e with e1 e2 e3
  subst e3
  have en : n = X.length + 1 := e2
  subst en
  refine ⟨fun a hc => ?_, h.tail⟩
  subst hc
  have hX : X = [] := List.eq_nil_of_length_eq_zero (by simp only [List.length_cons] at h1; omega)
  subst hX
  exact ⟨a, 0, rfl, Nat.zero_le _, Nat.zero_le _, fun i p h => by simp at h⟩
theorem Su.shrunk {w0 w : World} {g m ob : Nat} {kd ky ta : Int} {v v' : Value} {X X' : List KV} (h : Su w0 w g m ob kd ky ta v X X') (hs : TSl w (m + 1) v' X') : St w0 w g m ob kd ky ta v' X' := ⟨h.tx, hs, h.fr, h.op, h.ne⟩
def RowD (w : World) (base : Nat) (a : Option Addr) (D : List KV) : Prop := ∀ (j : Nat) (p : KV), D[j]? = some p → ∃ g', a = some ⟨g', 0, none⟩ ∧ base ≤ g' ∧ w.cell? ⟨g', j, none⟩ = some (.int .i64 p.1)
theorem RowD.of {w : World} {base : Nat} {v : Value} {D : List KV} (h : w.ownsRow base 3 1 v D.length (D.map fun p => .int .i64 p.1)) : ∃ a c, v = .slice a D.length c ∧ RowD w base a D := by
  rcases Nat.eq_zero_or_pos D.length with h0 | h0
  · rw [h0] at h
    obtain ⟨a, c, rfl⟩ := own_zero h
    exact ⟨a, c, by rw [h0], fun j p hp => by have := (List.getElem?_eq_some_iff.1 hp).1; omega⟩
  · obtain ⟨g', cap, rfl, hb, hlt⟩ := h.form h0
    refine ⟨_, _, rfl, fun j p hp => ⟨g', rfl, hb, ?_⟩⟩
    have hj := (List.getElem?_eq_some_iff.1 hp).1
    have := h.cellAt (g := g') (j := j) (by simpa using hj)
    rw [this]; simp [hp]
theorem RowD.fr {S : Nat → Prop} {w w' : World} {base : Nat} {a : Option Addr} {D : List KV} (h : RowD w base a D) (hf : Fr S w w') (hS : ∀ b, base ≤ b → ¬ S b) : RowD w' base a D := fun j p hp => by
  obtain ⟨g', e, hb, hc⟩ := h j p hp
  exact ⟨g', e, hb, hf.cell hc (hS _ hb)⟩
theorem due_at {X : List KV} {now : Int} {j : Nat} {p : KV} (h : (dueL X now)[j]? = some p) : X[j]? = some p ∧ p.2 ≤ now := by
  induction X generalizing j with
  | nil => simp [dueL] at h
  | cons q r ih =>
    by_cases hq : q.2 ≤ now
    · have e : dueL (q :: r) now = q :: dueL r now := by simp [dueL, hq]
      rw [e] at h
      cases j with
      | zero =>
        have : q = p := by simpa using h
        subst this
        exact ⟨by simp, hq⟩
      | succ j => simpa using ih (j := j) (by simpa using h)
    · have e : dueL (q :: r) now = [] := by simp [dueL, hq]
      rw [e] at h; simp at h
theorem due_stop {X : List KV} {now : Int} {p : KV} (h : X[(dueL X now).length]? = some p) : ¬ p.2 ≤ now := by
  induction X with
  | nil => simp at h
  | cons q r ih =>
    by_cases hq : q.2 ≤ now
    · have e : dueL (q :: r) now = q :: dueL r now := by simp [dueL, hq]
      rw [e] at h
      exact ih (by simpa using h)
    · have e : dueL (q :: r) now = [] := by simp [dueL, hq]
      rw [e] at h
      have : q = p := by simpa using h
      rw [← this]; exact hq
theorem due_len (X : List KV) (now : Int) : (dueL X now).length ≤ X.length := (List.takeWhile_sublist _).length_le
theorem TSl.at0 {w : World} {lo : Nat} {a : Option Addr} {n c : Nat} {X : List KV} {p : KV} (h : TSl w lo (.slice a n c) (p :: X)) : ∃ ad, a = some ad ∧ w.cell? ad = some (.int .i64 p.1) ∧ w.cell? ⟨ad.block, ad.off + 1, none⟩ = some (.int .i64 p.2) := by
  obtain ⟨ad, e, c1, c2⟩ := h.at (i := 0) (p := p) rfl
  exact ⟨ad, e, c1, c2⟩
end Go.Proofs.Ytjkhheolklnmaaa
