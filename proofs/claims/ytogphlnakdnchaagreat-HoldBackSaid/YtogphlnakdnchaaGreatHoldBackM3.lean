/- Texts of this claim, joined: A law: it returns true, and leaves all that was there. What is common to all laws of this seat; Arguments opened to cells: structs of ints by value, slices of structs of ints; Arguments of whatever structs, opened to their leaves: structs and arrays laid flat; what a leaf is; Slices of structs, whatever they hold: each element's cells, and what else holds of it; Plain: the first place where a test holds; count: none, Add (slices.IndexFunc, ContainsFunc at numbers); A region that draws its order, whose operations only read and whose calls may lay blocks, within a round of a range over a function: one walk in the text's order serves (the library's theorem on quiet regions asks for no round); items: sums; slices.Grow, slices.Concat at items; The keys of map[string]int, in order; items: Norm, Plus. -/
import Derived.Test.YtogphlnakdnchaaGreatHoldBackM1
import Derived.ProofKit
import Derived.OpenShut
import Derived.SizedLaws
import Derived.Below
import Derived.Lib.SmallJoins
import Derived.Deep.Slices
import Derived.Deep.Fields
import Derived.ChangeSame
import Derived.Lib.Hide
import Derived.Deep.QuietTactic
import Derived.Sort.QuietIn
import Derived.Test.YtogphlnakdnchaaGreatHoldBackM2
import Derived.Shelf.Abstract
import Derived.Deep.LoopGhost
import Derived.Test.YtogphlnakdnchaaGreatShelfN
import Derived.Lib.SliceRun
namespace Go.Proofs.YtogphlnakdnchaaGreat
open Go.ChangeShapes Go.WideShapes Go.ChangeAt Go.RowKit
theorem own : ownKnob Tryz.prog.godebug = none := by kernel_rfl
theorem laidOut : laidOutB Tryz.prog = true := by kernel_rfl
section
variable {H : Type} {enc : TypeId × Value → H} {P : Program}
theorem trodAll_below {W W' : World} (hl : laidOutB P = true) (hb : Below W.heap.size W W') : ∀ {ts : List TypeId} {vs : List Value} {ds : List (DataW H)} {ps : List MemPlace} {sp : Nat → Bool},
    (∀ t ∈ ts, (P.readableRec t && decide (t < P.types.size)) = true) → DataW.TrodAll enc P W 0 (fun _ => true) true ts vs ds ps → (∀ p ∈ ps, p.block < W.heap.size) → (∀ p ∈ ps, sp p.block = true) →
    DataW.TrodAll enc P W' 0 sp true ts vs ds ps
  | [], vs, ds, ps, sp, _, h, _, _ => by
    cases vs <;> cases ds <;> exact h
  | t :: ts, vs, ds, ps, sp, hr, h, hlt, hsp => by
    obtain ⟨v, vs', d, ds', p, q, rfl, rfl, rfl, h1, h2⟩ := trodAll_cons h
    have ht := hr t (by simp)
    simp only [Bool.and_eq_true, decide_eq_true_eq] at ht
    exact ⟨p, q, WideElems.Trod_stays hl ht.1 ht.2 h1 (fun x hx => hb.same (hlt x (by simp [hx]))) (fun x hx => hsp x (by simp [hx])),
      trodAll_below hl hb (fun t ht => hr t (by simp [ht])) h2 (fun x hx => hlt x (by simp [hx])) (fun x hx => hsp x (by simp [hx])), rfl⟩
/-- The row's last step for a law, whatever its parameters. -/
theorem law_post {f : Func} {s : ChangeSpec} {W W' : World} {args : Array Value} {ds gs : List (DataW H)} {before : List MemPlace} {tb : TypeId}
    (hl : laidOutB P = true) (hread : (f.params.toList.all fun t => P.readableRec t && decide (t < P.types.size)) = true) (hr : f.resultTypes = #[tb]) (htb : P.underlying tb = some .bool)
    (hW : DataW.Whole enc P f.params.toList s.vars false W args.toList ds gs before) (hvars : s.vars = []) (hfn : s.fn H ds = { results := [.lit (.bool true)], args := ds })
    (hb : Below W.heap.size W W') : s.post enc P f false true false false W args (.bool true) W' := by
  have hlt : ∀ p ∈ before, p.block < W.heap.size := fun p hp => hW.lt p hp
  have hW' := hW
  obtain ⟨p, q, hA, hV, he, hz, hn⟩ := hW
  rw [hvars] at hV
  obtain ⟨rfl, rfl⟩ := trodVars_none hV
  rw [List.append_nil] at he
  subst he
  have e1 : s.fn H (ds ++ []) = { results := [.lit (.bool true)], args := ds } := by rw [List.append_nil]; exact hfn
  refine ⟨ds, [], before, [], before, [], hW', ?_, ?_, ?_, World.keptBut_mono (fun x hx => ⟨hx, .inr (.inl hx)⟩) (hb.frame (· ∈ before)), fun h => by cases h⟩
  · rw [e1, hr]
    exact trodAll_cons_mk (shut_bool htb true) trodAll_mk0
  · rw [e1]
    exact trodAll_below hl hb (List.all_eq_true.1 hread) hA hlt (fun x hx => by simpa using hlt x hx)
  · rw [e1, hvars]
    exact rfl
end
end Go.Proofs.YtogphlnakdnchaaGreat

namespace Go.Proofs.YtogphlnakdnchaaGreat
open Go.Joins Go.ChangeShapes Go.WideShapes Go.RowKit Go.Deep
section
variable {H : Type} {enc : TypeId × Value → H} {P : Program} {w : World} {base : Nat} {spare : Nat → Bool} {held : Bool}
/-- A slice of structs of k ints: its cells, row by row. -/
def SlI (w : World) (v : Value) (k : Nat) (L : List (List Int)) : Prop :=
  (v = .slice none 0 0 ∧ L = []) ∨ ∃ (a : Addr) (cap : Nat), v = .slice (some a) L.length cap ∧ L.length ≤ cap ∧ cap ≤ maxLen ∧
    ∀ i r, L[i]? = some r → r.length = k ∧ (∀ x ∈ r, okI x) ∧ ∀ (j : Nat) (x : Int), r[j]? = some x → w.cell? (a.add (i * k + j)) = some (.int .i64 x)
theorem SlI.len {v : Value} {k : Nat} {L : List (List Int)} (h : SlI w v k L) : L.length ≤ maxLen ∧ ∃ a c, v = .slice a L.length c := by
  rcases h with ⟨rfl, rfl⟩ | ⟨a, cap, rfl, h1, h2, -⟩
  · exact ⟨Nat.zero_le _, _, _, rfl⟩
  · exact ⟨by omega, _, _, rfl⟩
theorem add_field (a : Addr) (n j : Nat) : a.add (n + (j + 1)) = ⟨(a.add n).block, (a.add n).off + (j + 1), none⟩ := by
  rw [← Go.Deep.add_add]; rfl
theorem SlI.some {a0 : Option Addr} {n c k i : Nat} {L : List (List Int)} {r : List Int} (h : SlI w (.slice a0 n c) k L) (hr : L[i]? = .some r) : ∃ a, a0 = .some a := by
  rcases h with ⟨_, rfl⟩ | ⟨a, cap, e, _⟩
  · simp at hr
  · injection e with e1 _ _
    exact ⟨a, e1⟩
theorem SlI.row {a : Addr} {n c k i : Nat} {L : List (List Int)} {r : List Int} (h : SlI w (.slice (.some a) n c) k L) (hr : L[i]? = .some r) : r.length = k ∧ (∀ x ∈ r, okI x) ∧
    (∀ x, r[0]? = .some x → w.cell? (a.add (i * k)) = .some (.int .i64 x)) ∧ ∀ (j : Nat) (x : Int), r[j + 1]? = .some x → w.cell? ⟨(a.add (i * k)).block, (a.add (i * k)).off + (j + 1), none⟩ = .some (.int .i64 x) := by
  rcases h with ⟨_, rfl⟩ | ⟨a', cap, e, _, _, h3⟩
  · simp at hr
  · injection e with e1 _ _
    injection e1 with e1
    subst e1
    obtain ⟨g1, g2, g3⟩ := h3 i r hr
    exact ⟨g1, g2, fun x hx => g3 0 x hx, fun j x hx => by rw [← add_field]; exact g3 (j + 1) x hx⟩
theorem SlI.below {w' : World} {v : Value} {k : Nat} {L : List (List Int)} (h : SlI w v k L) (hk : 0 < k) (hb : Below w.heap.size w w') : SlI w' v k L := by
  rcases h with ⟨rfl, rfl⟩ | ⟨a, cap, rfl, h1, h2, h3⟩
  · exact .inl ⟨rfl, rfl⟩
  · refine .inr ⟨a, cap, rfl, h1, h2, fun i r hr => ⟨(h3 i r hr).1, (h3 i r hr).2.1, fun j x hx => ?_⟩⟩
    have hc := (h3 i r hr).2.2 j x hx
    have hlt : (a.add (i * k + j)).block < w.heap.size := by
      refine Nat.lt_of_not_le fun hle => ?_
      simp [World.cell?, Array.getElem?_eq_none hle] at hc
    simp only [World.cell?, hb.block _ hlt] at hc ⊢
    exact hc
end
end Go.Proofs.YtogphlnakdnchaaGreat

namespace Go.Proofs.YtogphlnakdnchaaGreat
open Go.ChangeShapes Go.WideShapes Go.RowKit Go.Deep
/-- A type's leaves: structs and arrays laid flat. -/
def leaves (P : Program) : Nat → TypeId → List TypeId
  | 0, t => [t]
  | n + 1, t => match P.underlying t with
    | some (.struct fs) => fs.toList.flatMap fun f => leaves P n f.type
    | some (.array m e) => (List.range m).flatMap fun _ => leaves P n e
    | _ => [t]
def offsOk (P : Program) (n : Nat) : List Field → Nat → Bool
  | [], _ => true
  | f :: r, off => f.offset == off && P.cellsOf f.type == (leaves P n f.type).length && offsOk P n r (off + (leaves P n f.type).length)
def flatOk (P : Program) : Nat → TypeId → Bool
  | 0, t => P.cellsOf t == 1
  | n + 1, t => P.cellsOf t == (leaves P (n + 1) t).length && match P.underlying t with
    | some (.struct fs) => offsOk P n fs.toList 0 && fs.toList.all fun f => flatOk P n f.type
    | some (.array _ e) => P.cellsOf e == (leaves P n e).length && flatOk P n e
    | _ => true
section
variable {H : Type} {enc : TypeId × Value → H} {P : Program} {w : World} {base : Nat} {spare : Nat → Bool} {held : Bool}
/-- The leaves lie in these cells. -/
def Leafs (enc : TypeId × Value → H) (P : Program) (w : World) (base : Nat) (spare : Nat → Bool) (held : Bool) (ts : List TypeId) (cs : List Value) : Prop :=
  ∀ (j : Nat) (t : TypeId), ts[j]? = some t → ∃ (v : Value) (n : Nat) (y : DataW H × List MemPlace), cs[j]? = some v ∧ DataW.trod enc P w base spare held n t [v] = some y
theorem Leafs.nil {cs : List Value} : Leafs enc P w base spare held [] cs := fun j t h => by simp at h
theorem Leafs.append {ts us : List TypeId} {cs : List Value} (h : Leafs enc P w base spare held ts (cs.take ts.length)) (h' : Leafs enc P w base spare held us (cs.drop ts.length)) : Leafs enc P w base spare held (ts ++ us) cs := by
  intro j t hj
  by_cases hl : j < ts.length
  · rw [List.getElem?_append_left hl] at hj
    obtain ⟨v, n, y, h1, h2⟩ := h j t hj
    rw [List.getElem?_take, if_pos hl] at h1
    exact ⟨v, n, y, h1, h2⟩
  · rw [List.getElem?_append_right (by omega)] at hj
    obtain ⟨v, n, y, h1, h2⟩ := h' _ t hj
    rw [List.getElem?_drop, show ts.length + (j - ts.length) = j by omega] at h1
    exact ⟨v, n, y, h1, h2⟩
theorem leafs_fields {n : Nat} : ∀ {fs : List Field} {off : Nat} {cs : List Value}, offsOk P n fs off = true → (∀ f ∈ fs, Leafs enc P w base spare held (leaves P n f.type) ((cs.drop f.offset).take (P.cellsOf f.type))) →
    Leafs enc P w base spare held (fs.flatMap fun f => leaves P n f.type) (cs.drop off)
  | [], _, _, _, _ => Leafs.nil
  | f :: r, off, cs, h, hf => by
    simp only [offsOk, Bool.and_eq_true, beq_iff_eq] at h
    obtain ⟨⟨h1, h2⟩, h3⟩ := h
    simp only [List.flatMap_cons]
    refine Leafs.append ?_ ?_
    · have := hf f (by simp)
      rw [h1, h2] at this
      exact this
    · rw [List.drop_drop]
      exact leafs_fields h3 (fun g hg => hf g (by simp [hg]))
theorem leafs_array {n : Nat} {e : TypeId} (he : P.cellsOf e = (leaves P n e).length) : ∀ {m k : Nat} {cs : List Value}, (∀ i, i < m → Leafs enc P w base spare held (leaves P n e) ((cs.drop ((k + i) * P.cellsOf e)).take (P.cellsOf e))) →
    Leafs enc P w base spare held ((List.range m).flatMap fun _ => leaves P n e) (cs.drop (k * P.cellsOf e))
  | 0, _, _, _ => Leafs.nil
  | m + 1, k, cs, hf => by
    rw [List.range_succ_eq_map, List.flatMap_cons, List.flatMap_map]
    refine Leafs.append ?_ ?_
    · have := hf 0 (by omega)
      rw [Nat.add_zero, he] at this
      rw [he]; exact this
    · rw [List.drop_drop, ← he]
      have := leafs_array he (m := m) (k := k + 1) (cs := cs) (fun i hi => by have := hf (i + 1) (by omega); rw [show k + 1 + i = k + (i + 1) by omega]; exact this)
      rw [show (k + 1) * P.cellsOf e = k * P.cellsOf e + P.cellsOf e by rw [Nat.succ_mul]] at this
      exact this
theorem flat_len {α : Type} (l : List α) : ∀ m : Nat, ((List.range m).flatMap fun _ => l).length = m * l.length
  | 0 => by simp
  | m + 1 => by rw [List.range_succ, List.flatMap_append, List.length_append, flat_len l m, Nat.succ_mul]; simp
theorem leafs_one {t : TypeId} {fuel : Nat} {cs : List Value} {x : DataW H × List MemPlace} (hl : cs.length = 1) (h : DataW.trod enc P w base spare held fuel t cs = some x) : Leafs enc P w base spare held [t] cs := by
  intro j t' hj
  match j, hj with
  | 0, hj =>
    cases hj
    match cs, hl with
    | [v], _ => exact ⟨v, fuel, x, rfl, h⟩
/-- WHATEVER IS READ IS READ LEAF BY LEAF. -/
theorem leafs_of : ∀ {n : Nat} {t : TypeId} {fuel : Nat} {cs : List Value} {x : DataW H × List MemPlace}, flatOk P n t = true → cs.length = P.cellsOf t → DataW.trod enc P w base spare held fuel t cs = some x →
    Leafs enc P w base spare held (leaves P n t) cs
  | 0, t, fuel, cs, x, hok, hl, h => by
    simp only [flatOk, beq_iff_eq] at hok
    exact leafs_one (by rw [hl, hok]) h
  | n + 1, t, fuel, cs, x, hok, hl, h => by
    simp only [flatOk, Bool.and_eq_true, beq_iff_eq] at hok
    obtain ⟨hc, hok⟩ := hok
    unfold leaves at hc ⊢
    cases hu : P.underlying t with
    | none => 
      rw [hu] at hc
      exact leafs_one (by rw [hl, hc]; rfl) h
    | some u =>
      rw [hu] at hc hok
      cases u with
      | struct fs =>
        simp only [Bool.and_eq_true] at hok
        obtain ⟨xs, m, _, _, hlen, hxl, hf⟩ := DataW.trod_struct hu h
        have := leafs_fields (enc := enc) (w := w) (base := base) (spare := spare) (held := held) (cs := cs) hok.1 (fun f hfm => by
          obtain ⟨i, hi, hi2⟩ := List.getElem_of_mem hfm
          have h1 := hf i f (by simp at hi; rw [Array.getElem?_eq_getElem hi]; simpa using hi2)
          have hi' : i < xs.length := by simp at hi; omega
          rw [List.getElem?_eq_getElem hi'] at h1
          refine leafs_of (n := n) (List.all_eq_true.1 hok.2 f hfm) ?_ h1
          have hsz : ∀ (l : List Field) (off : Nat), offsOk P n l off = true → ∀ g ∈ l, off ≤ g.offset ∧ g.offset + P.cellsOf g.type ≤ off + (l.flatMap fun f => leaves P n f.type).length := by
            intro l
            induction l with
            | nil => intro _ _ g hg; cases hg
            | cons a r ih =>
              intro off ho g hg
              simp only [offsOk, Bool.and_eq_true, beq_iff_eq] at ho
              simp only [List.flatMap_cons, List.length_append]
              rcases List.mem_cons.1 hg with rfl | hg
              · omega
              · have := ih _ ho.2 g hg
                omega
          have := hsz _ _ hok.1 f hfm
          simp only at hc
          rw [List.length_take, List.length_drop]
          omega)
        simpa using this
      | array m e =>
        simp only [Bool.and_eq_true, beq_iff_eq] at hok
        obtain ⟨xs, k, _, _, hlen, hxl, hf⟩ := DataW.trod_array hu h
        have := leafs_array (enc := enc) (w := w) (base := base) (spare := spare) (held := held) (cs := cs) (m := m) (k := 0) hok.1 (fun i hi => by
          have h1 := hf i hi
          rw [List.getElem?_eq_getElem (by omega)] at h1
          rw [Nat.zero_add]
          refine leafs_of (n := n) hok.2 ?_ h1
          rw [List.length_take, List.length_drop]
          have hcc : cs.length = m * P.cellsOf e := by
            rw [hl, hc, hok.1]
            exact flat_len _ _
          have : (i + 1) * P.cellsOf e ≤ m * P.cellsOf e := Nat.mul_le_mul_right _ hi
          rw [Nat.succ_mul] at this
          omega)
        simpa using this
      | _ => exact leafs_one (by rw [hl, hc]; rfl) h
/-- What a leaf is. -/
theorem leaf_int {t : TypeId} {k : IntKind} {n : Nat} {v : Value} {y : DataW H × List MemPlace} (ht : P.underlying t = some (.int k)) (h : DataW.trod enc P w base spare held n t [v] = some y) : ∃ x, v = .int k x ∧ (Lit.int k x).wf = true := by
  obtain ⟨x, e, _, hw⟩ := DataW.trod_int ht h
  injection e with e _
  exact ⟨x, e, hw⟩
theorem leaf_i64 {t : TypeId} {n : Nat} {v : Value} {y : DataW H × List MemPlace} (ht : P.underlying t = some (.int .i64)) (h : DataW.trod enc P w base spare held n t [v] = some y) : ∃ x, v = .int .i64 x ∧ okI x := by
  obtain ⟨x, e, hw⟩ := leaf_int ht h
  exact ⟨x, e, wf_okI.1 hw⟩
/-- A slice of whatever: its elements' leaves lie in cells. -/
def Sl (enc : TypeId × Value → H) (P : Program) (w : World) (base : Nat) (spare : Nat → Bool) (held : Bool) (ts : List TypeId) (v : Value) (n : Nat) : Prop :=
  n ≤ maxLen ∧ ((v = .slice none 0 0 ∧ n = 0) ∨ ∃ (a : Addr) (cap : Nat), v = .slice (some a) n cap ∧ n ≤ cap ∧ base ≤ a.block ∧ ∀ i, i < n → ∀ (j : Nat) (t : TypeId), ts[j]? = some t →
    ∃ (u : Value) (m : Nat) (y : DataW H × List MemPlace), w.cell? (a.add (i * ts.length + j)) = some u ∧ DataW.trod enc P w base spare held m t [u] = some y)
theorem leaf_slice {t e : TypeId} {d n : Nat} {v : Value} {y : DataW H × List MemPlace} (ht : P.underlying t = some (.slice e)) (hok : flatOk P d e = true) (hc : P.cellsOf e = (leaves P d e).length) (h : DataW.trod enc P w base spare held n t [v] = some y) :
    ∃ len, Sl enc P w base spare held (leaves P d e) v len := by
  rcases open_slice ht h with ⟨h0, _⟩ | ⟨a, len, cap, m, k, D, Pl, hcs, hb, hl, hm, hmm, _, hi⟩
  · injection h0 with h0 _
    exact ⟨0, Nat.zero_le _, .inl ⟨h0, rfl⟩⟩
  · injection hcs with hcs _
    refine ⟨len, by omega, .inr ⟨a, cap, hcs, hl, hb, fun i hil j tj hj => ?_⟩⟩
    have hlm : len ≤ m := by rw [hmm]; split <;> omega
    obtain ⟨cs', hcells, htr⟩ := hi i (by omega)
    obtain ⟨_, hlen, hcell⟩ := World.cells?_some hcells
    obtain ⟨u, m', y', h1, h2⟩ := leafs_of hok hlen htr j tj hj
    refine ⟨u, m', y', ?_, h2⟩
    have hjl : j < P.cellsOf e := by rw [hc]; exact (List.getElem?_eq_some_iff.1 hj).1
    rw [← hc, ← Go.Deep.add_add, hcell j hjl, h1]
theorem Sl.form {ts : List TypeId} {v : Value} {n : Nat} (h : Sl enc P w base spare held ts v n) : n ≤ maxLen ∧ ∃ a c, v = .slice a n c := by
  rcases h with ⟨h0, ⟨rfl, rfl⟩ | ⟨a, cap, rfl, -⟩⟩
  · exact ⟨h0, _, _, rfl⟩
  · exact ⟨h0, _, _, rfl⟩
end
end Go.Proofs.YtogphlnakdnchaaGreat

namespace Go.Proofs.YtogphlnakdnchaaGreat
open Go.ChangeShapes Go.WideShapes Go.RowKit Go.Maps
section
variable {α : Type} {k : Nat} {cs : α → Array Value} {ok : World → α → Prop}
/-- A slice of things of k cells: L. -/
def Sq (k : Nat) (cs : α → Array Value) (ok : World → α → Prop) (w : World) (v : Value) (L : List α) : Prop :=
  L.length ≤ maxLen ∧ ∃ a cap, v = .slice a L.length cap ∧ ∀ (i : Nat) (r : α), L[i]? = some r → ok w r ∧ ∃ ad, a = some ad ∧ ∀ (j : Nat) (u : Value), (cs r)[j]? = some u → w.cell? (ad.add (i * k + j)) = some u
/-- What holds of an element goes on to hold where nothing old is turned. -/
def Keeps (ok : World → α → Prop) : Prop := ∀ ⦃S : Nat → Prop⦄ ⦃w w' : World⦄ ⦃r : α⦄, ok w r → Fr S w w' → (∀ b, S b → w.heap.size ≤ b) → ok w' r
theorem Sq.fr {S : Nat → Prop} {w w' : World} {v : Value} {L : List α} (hk : Keeps ok) (h : Sq k cs ok w v L) (hf : Fr S w w') (hS : ∀ b, S b → w.heap.size ≤ b) : Sq k cs ok w' v L := by
  obtain ⟨h0, a, cap, e, h1⟩ := h
  refine ⟨h0, a, cap, e, fun i r hr => ?_⟩
  obtain ⟨ho, ad, e2, hc⟩ := h1 i r hr
  refine ⟨hk ho hf hS, ad, e2, fun j u hu => ?_⟩
  have := hc j u hu
  exact hf.cell this (fun hs => by have := hS _ hs; have := World.block_lt_of_cell? w _ ‹w.cell? _ = _›; omega)
theorem Sq.fr0 {w w' : World} {v : Value} {L : List α} (hk : Keeps ok) (h : Sq k cs ok w v L) (hf : Fr (fun _ => False) w w') : Sq k cs ok w' v L := h.fr hk hf (fun _ h => h.elim)
theorem Sq.sl {w : World} {v : Value} {L : List α} (h : Sq k cs ok w v L) : ∃ a c, v = .slice a L.length c := by
  obtain ⟨_, a, c, e, _⟩ := h
  exact ⟨a, c, e⟩
theorem Sq.len {w : World} {v : Value} {L : List α} (h : Sq k cs ok w v L) : (L.length : Int) ≤ 9223372036854775807 := by
  have := h.1
  unfold maxLen at this
  omega
theorem Sq.at_ {w : World} {a : Option Addr} {n c i : Nat} {L : List α} {r : α} (h : Sq k cs ok w (.slice a n c) L) (hr : L[i]? = some r) : ∃ ad, a = some ad ∧ ok w r ∧
    (∀ u, (cs r)[0]? = some u → w.cell? (ad.add (i * k)) = some u) ∧ ∀ (j : Nat) (u : Value), (cs r)[j + 1]? = some u → w.cell? ⟨(ad.add (i * k)).block, (ad.add (i * k)).off + (j + 1), none⟩ = some u := by
  obtain ⟨h0, a', cap, e, h1⟩ := h
  injection e with e1 _ _
  obtain ⟨ho, ad, e2, hc⟩ := h1 i r hr
  exact ⟨ad, e1.trans e2, ho, fun u hu => hc 0 u hu, fun j u hu => by rw [← add_field]; exact hc (j + 1) u hu⟩
theorem Sq.lt {w : World} {v : Value} {L : List α} (hcs : ∀ r, 0 < (cs r).size) (h : Sq k cs ok w v L) (hL : L ≠ []) : ∀ b, v.ownBlock = some b → b < w.heap.size := fun b hb => by
  obtain ⟨_, a, c, rfl, h1⟩ := h
  cases L with
  | nil => exact absurd rfl hL
  | cons p r =>
    obtain ⟨_, ad, rfl, hc⟩ := h1 0 p rfl
    have h2 := hc 0 _ (Array.getElem?_eq_getElem (hcs p))
    have := World.block_lt_of_cell? w _ h2
    have hb2 : (ad.add (0 * k + 0)).block = ad.block := by rw [Nat.zero_mul]; rfl
    rw [hb2] at this
    obtain rfl : ad.block = b := (by simpa [Value.ownBlock] using hb)
    exact this
theorem Sq.nil {w : World} {a : Option Addr} {c : Nat} : Sq k cs ok w (.slice a 0 c) [] := ⟨Nat.zero_le _, a, c, rfl, fun i r hr => by simp at hr⟩
/-- An element's cells in one list. -/
def flat (cs : α → Array Value) (L : List α) : List Value := L.flatMap fun r => (cs r).toList
theorem flat_len1 (hcs : ∀ r, (cs r).size = k) (L : List α) : (flat cs L).length = L.length * k := by
  induction L with
  | nil => simp [flat]
  | cons q r ih =>
    have e : flat cs (q :: r) = (cs q).toList ++ flat cs r := by simp [flat]
    rw [e, List.length_append, ih, List.length_cons, Nat.succ_mul, Array.length_toList, hcs]; omega
theorem flat_at (hcs : ∀ r, (cs r).size = k) : ∀ {L : List α} {i : Nat} {r : α}, L[i]? = some r → ∀ (j : Nat) (u : Value), (cs r)[j]? = some u → (flat cs L)[i * k + j]? = some u
  | q :: L, 0, r, h, j, u, hu => by
    cases h
    have e : flat cs (q :: L) = (cs q).toList ++ flat cs L := by simp [flat]
    have hj := (Array.getElem?_eq_some_iff.1 hu).1
    rw [e, Nat.zero_mul, Nat.zero_add, List.getElem?_append_left (by simpa using hj)]
    simpa using hu
  | q :: L, i + 1, r, h, j, u, hu => by
    have e : flat cs (q :: L) = (cs q).toList ++ flat cs L := by simp [flat]
    have ih := flat_at hcs (L := L) (i := i) (r := r) (by simpa using h) j u hu
    have hl : (cs q).toList.length = k := by rw [Array.length_toList, hcs]
    rw [e, List.getElem?_append_right (by rw [hl, Nat.succ_mul]; omega), hl, Nat.succ_mul, show i * k + k + j - k = i * k + j by omega]
    exact ih
/-- A row of the call's own reads as a slice. -/
theorem Sq.own {w : World} {base : Nat} {e : TypeId} {v : Value} {L : List α} (hcs : ∀ r, (cs r).size = k) (h : w.ownsRow base e k v L.length (flat cs L)) (hL : ∀ p ∈ L, ok w p) : Sq k cs ok w v L := by
  rcases h.2 with ⟨rfl, h0⟩ | ⟨g, cap, cur, rfl, hbase, hb, hn, hm, hs, ht⟩
  · have : L = [] := List.eq_nil_of_length_eq_zero h0
    subst this
    exact Sq.nil
  · refine ⟨by unfold maxLen at *; omega, some ⟨g, 0, none⟩, cap, rfl, fun i p hp => ⟨hL p (List.mem_of_getElem? hp), _, rfl, fun j u hu => ?_⟩⟩
    have hi := (List.getElem?_eq_some_iff.1 hp).1
    have hj := (Array.getElem?_eq_some_iff.1 hu).1
    rw [hcs] at hj
    have hlt : i * k + j < L.length * k := by
      have : (i + 1) * k ≤ L.length * k := Nat.mul_le_mul_right _ hi
      rw [Nat.succ_mul] at this
      omega
    have h2 := h.cellAt (g := g) (j := i * k + j) (by first | exact hlt | (rw [flat_len1 hcs]; exact hlt))
    have e0 : (⟨g, 0, none⟩ : Addr).add (i * k + j) = ⟨g, i * k + j, none⟩ := by unfold Addr.add; split <;> simp_all
    rw [e0, h2]
    exact flat_at hcs hp j u hu
end
section
variable {α : Type} {k : Nat} {cs : α → Array Value} {ok : World → α → Prop}
variable {H : Type} {enc : TypeId × Value → H} {P : Program} {w : World} {base : Nat} {spare : Nat → Bool} {held : Bool}
/-- An argument: a slice of structs, opened by its elements' own opener. -/
theorem leaf_sq {t e : TypeId} {d n : Nat} {v : Value} {y : DataW H × List MemPlace} (ht : P.underlying t = some (.slice e)) (hok : flatOk P d e = true) (hc : P.cellsOf e = (leaves P d e).length) (hl : (leaves P d e).length = k)
    (hopen : ∀ (cell : Nat → Option Value), (∀ (j : Nat) (t : TypeId), (leaves P d e)[j]? = some t → ∃ (u : Value) (m : Nat) (y : DataW H × List MemPlace), cell j = some u ∧ DataW.trod enc P w base spare held m t [u] = some y) → ∃ r : α, ok w r ∧ ∀ (j : Nat) (u : Value), (cs r)[j]? = some u → cell j = some u)
    (h : DataW.trod enc P w base spare held n t [v] = some y) : ∃ L, Sq k cs ok w v L := by
  obtain ⟨len, hmax, hs⟩ := leaf_slice ht hok hc h
  rcases hs with ⟨e, rfl⟩ | ⟨a, cap, e, hle, hb, hi⟩
  · exact ⟨[], Nat.zero_le _, none, 0, e, fun i r hr => by simp at hr⟩
  · have key : ∀ i, i < len → ∃ r : α, ok w r ∧ ∀ (j : Nat) (u : Value), (cs r)[j]? = some u → w.cell? (a.add (i * k + j)) = some u := fun i hil =>
      hopen (fun j => w.cell? (a.add (i * k + j))) (fun j t ht => by have := hi i hil j t ht; rw [hl] at this; exact this)
    rcases Nat.eq_zero_or_pos len with rfl | hpos
    · exact ⟨[], Nat.zero_le _, some a, cap, by rw [e]; rfl, fun i r hr => by simp at hr⟩
    · obtain ⟨x0, _⟩ := key 0 hpos
      haveI : Inhabited α := ⟨x0⟩
      obtain ⟨X, hX⟩ := Go.Deep.choose_lt key
      refine ⟨(List.range len).map X, (by rw [List.length_map, List.length_range]; exact hmax), some a, cap, (by rw [e, List.length_map, List.length_range]), fun i r hr => ?_⟩
      rw [List.getElem?_map] at hr
      obtain ⟨i', hi', rfl⟩ := Option.map_eq_some_iff.1 hr
      obtain ⟨hlt, e⟩ := List.getElem?_eq_some_iff.1 hi'
      rw [List.getElem_range] at e
      subst e
      have := hX i (by simpa using hlt)
      exact ⟨this.1, a, rfl, this.2⟩
theorem open_sq {t e : TypeId} {d : Nat} {r : Reach} {b0 : Nat} {v : Value} {x : DataW H} {p : List MemPlace} (ht : P.underlying t = some (.slice e)) (hok : flatOk P d e = true) (hc : P.cellsOf e = (leaves P d e).length) (hl : (leaves P d e).length = k)
    (hopen : ∀ (cell : Nat → Option Value), (∀ (j : Nat) (t : TypeId), (leaves P d e)[j]? = some t → ∃ (u : Value) (m : Nat) (y : DataW H × List MemPlace), cell j = some u ∧ DataW.trod enc P w base spare held m t [u] = some y) → ∃ r : α, ok w r ∧ ∀ (j : Nat) (u : Value), (cs r)[j]? = some u → cell j = some u)
    (hv : Value.okWide P w r b0 t v) (h : DataW.Trod enc P w base spare held t v x p) : ∃ L, Sq k cs ok w v L := by
  obtain ⟨fuel, h⟩ := h
  obtain ⟨a0, l0, c0, rfl⟩ := okWide_slice ht hv
  exact leaf_sq ht hok hc hl hopen (n := fuel) (by simpa only [Value.cells] using h)
end
end Go.Proofs.YtogphlnakdnchaaGreat

namespace Go.Proofs.YtogphlnakdnchaaGreat
/-- The place of the first that is so; -1: none. -/
def idxOf {α : Type} (p : α → Bool) (L : List α) : Int := match L.findIdx? p with | some i => (i : Int) | none => -1
theorem idxOf_at {α : Type} {p : α → Bool} {L : List α} {j : Nat} {x : α} (h : L[j]? = some x) (hp : p x = true) (hno : ∀ q y, q < j → L[q]? = some y → p y = false) : idxOf p L = j := by
  have : L.findIdx? p = some j := by
    rw [List.findIdx?_eq_some_iff_getElem]
    obtain ⟨hj, e⟩ := List.getElem?_eq_some_iff.1 h
    refine ⟨hj, by rw [e]; exact hp, fun q hq => ?_⟩
    have := hno q _ hq (List.getElem?_eq_getElem (by omega))
    simp [this]
  unfold idxOf
  rw [this]
theorem idxOf_no {α : Type} {p : α → Bool} {L : List α} (h : ∀ (q : Nat) (y : α), L[q]? = some y → p y = false) : idxOf p L = -1 := by
  have : L.findIdx? p = none := by
    rw [List.findIdx?_eq_none_iff]
    intro x hx
    obtain ⟨q, hq⟩ := List.getElem?_of_mem hx
    exact h q x hq
  unfold idxOf
  rw [this]
end Go.Proofs.YtogphlnakdnchaaGreat

namespace Go.Proofs.YtogphlnakdnchaaGreat
open Go.RowKit Go.Maps
def nuC (n : Int) : Array Value := #[.int .i64 n]
def okNu (_ : World) (n : Int) : Prop := okI n
theorem okNuKeeps : Keeps okNu := fun _ _ _ _ h _ _ => h
theorem kNone1 (w : World) (n : Int) : Calls Tryz.prog 152 #[.int .i64 n] w fun e w' => e = .returned (.bool (!mayI n)) ∧ w = w' := by
  obtain ⟨b, hb⟩ : ∃ b, mayI n = b := ⟨_, rfl⟩
  have hm := kMay w n
  rw [hb] at hm ⊢
  have HM := Lib.hid hm
  clear hm
  go_enter Tryz.func152, Tryz.ntmps152
  go_wp2_with (go_at_call 68; refine HM.out.mono ?_; rintro e w' ⟨rfl, rfl⟩)
  go_ret
  exact ⟨rfl, rfl⟩
set_option maxRecDepth 100000 in
set_option maxHeartbeats 4000000 in
theorem ixNum (w : World) (v : Value) (L : List Int) (h : Sq 1 nuC okNu w v L) :
    Calls Tryz.prog 163 #[v, .func (.func 152) #[] #[]] w fun e w' => e = .returned (.int .i64 (idxOf (fun n => !mayI n) L)) ∧ Fr (fun _ => False) w w' := by
  obtain ⟨a, c, rfl⟩ := h.sl
  obtain ⟨N, hN⟩ : ∃ N, L.length = N := ⟨_, rfl⟩
  have hNb : (N : Int) ≤ 9223372036854775807 := by have := h.len; omega
  have HL := Lib.hid h; have HN := Lib.hid hN
  rw [hN] at HL ⊢
  obtain ⟨R, hR⟩ : ∃ R, idxOf (fun n => !mayI n) L = R := ⟨_, rfl⟩
  have HR := Lib.hid hR
  rw [hR]
  clear h hN hR
  go_enter Tryz.func163, Tryz.ntmps163
  go_wp2_with fail
  go_loopw [5, 8] (fun _ i wr => ∃ j : Nat, j ≤ N ∧ i = .int .i64 j ∧ Fr (fun _ => False) w wr ∧ ∀ q x, q < j → L[q]? = some x → (!mayI x) = false) (fun _ i _ => N - (intOf i).toNat)
  case atStart => exact ⟨0, Nat.zero_le _, rfl, Fr.refl _ _, fun q x hq => by omega⟩
  case round =>
    obtain ⟨j, hj, rfl, hfr, hno⟩ := hrel
    have HFR := Lib.hid hfr; have HNO := Lib.hid hno
    clear hno
    by_cases hlt : j < N
    · obtain ⟨x, hx⟩ : ∃ x, L[j]? = some x := ⟨L[j]'(by rw [HN.out]; exact hlt), List.getElem?_eq_getElem _⟩
      obtain ⟨ad, rfl, hok, z0, zs⟩ := (HL.out.fr0 okNuKeeps hfr).at_ hx
      have hC := kNone1 wr x
      obtain ⟨b, hb⟩ : ∃ b, (!mayI x) = b := ⟨_, rfl⟩
      rw [hb] at hC
      have HB := Lib.hid hb; have HX := Lib.hid hx
      have hjI : (j : Int) < N := by omega
      have x0 := z0 (.int .i64 x) rfl
      rw [Nat.mul_one] at x0
      have HC := Lib.hid hC
      clear hC hb hx hok z0 zs hfr
      cases b with
      | true =>
        have hres : Hid (R = (j : Int)) := Lib.hid (by rw [← HR.out]; exact idxOf_at HX.out HB.out HNO.out)
        go_wp2_with (go_at_call 152; refine HC.out.mono ?_; rintro e w1 ⟨rfl, rfl⟩)
        go_ret
        exact ⟨by rw [hres.out]; rfl, HFR.out⟩
      | false =>
        go_wp2_with (go_at_call 152; refine HC.out.mono ?_; rintro e w1 ⟨rfl, rfl⟩)
        go_roundw
        case rel =>
          refine ⟨j + 1, by omega, by go_num, HFR.out, fun q y hq hy => ?_⟩
          by_cases e : q = j
          · subst e
            have := HX.out
            rw [this] at hy
            injection hy with hy
            rw [← hy]
            exact HB.out
          · exact HNO.out q y (by omega) hy
        case measure => simp [intOf]; omega
    · obtain rfl : j = N := by omega
      have hres : Hid (R = -1) := Lib.hid (by rw [← HR.out]; exact idxOf_no (fun q x hx => HNO.out q x (by have := (List.getElem?_eq_some_iff.1 hx).1; have := HN.out; omega) hx))
      have hjI : ¬ (j : Int) < j := by omega
      clear hfr
      go_wp2_with fail
      go_ret
      exact ⟨by rw [hres.out]; rfl, HFR.out⟩
theorem kNone (w : World) (v : Value) (L : List Int) (h : Sq 1 nuC okNu w v L) : Calls Tryz.prog 131 #[v] w fun e w' => e = .returned (.bool (decide (0 ≤ idxOf (fun n => !mayI n) L))) ∧ Fr (fun _ => False) w w' := by
  have hI := ixNum w v L h
  obtain ⟨R, hR⟩ : ∃ R, idxOf (fun n => !mayI n) L = R := ⟨_, rfl⟩
  rw [hR] at hI ⊢
  have HI := Lib.hid hI
  have hC : Calls Tryz.prog 151 #[v, .func (.func 152) #[] #[]] w fun e w' => e = .returned (.bool (decide (0 ≤ R))) ∧ Fr (fun _ => False) w w' := by
    go_enter Tryz.func151, Tryz.ntmps151
    go_wp2_with (go_at_call 163; refine HI.out.mono ?_; rintro e w' ⟨rfl, hf⟩)
    go_ret
    exact ⟨rfl, hf⟩
  have HC := Lib.hid hC
  clear hC hI hR h
  go_enter Tryz.func131, Tryz.ntmps131
  go_wp2_with (go_at_call 151; refine HC.out.mono ?_; rintro e w' ⟨rfl, hf⟩)
  go_ret
  exact ⟨rfl, hf⟩
/-- A sum of counts. -/
def addK (a b : Int) : Int × Int := if mayI a = true ∧ mayI b = true then (if 1099511627776 < a + b then (0, 50) else (a + b, 0)) else (0, 1)
set_option maxRecDepth 100000 in
set_option maxHeartbeats 4000000 in
theorem kAdd (w : World) (a b : Int) (ha : okI a) (hb : okI b) : Calls Tryz.prog 122 #[.int .i64 a, .int .i64 b] w fun e w' => e = .returned (.tuple #[.int .i64 (addK a b).1, .int .i64 (addK a b).2]) ∧ Fr (fun _ => False) w w' := by
  obtain ⟨n0, hn0⟩ : ∃ n0, w.heap.size = n0 := ⟨_, rfl⟩
  have hsq : Sq 1 nuC okNu (w.alloc (.cells #[.int .i64 a, .int .i64 b] 3)) (.slice (some ⟨n0, 0, none⟩) 2 2) [a, b] := by
    refine ⟨by simp [maxLen], some ⟨n0, 0, none⟩, 2, rfl, fun i r hr => ?_⟩
    have h0 : (w.alloc (.cells #[.int .i64 a, .int .i64 b] 3)).heap[n0]? = some (.cells #[.int .i64 a, .int .i64 b] 3) := heap_at hn0.symm _
    match i, hr with
    | 0, hr => cases hr; exact ⟨ha, _, rfl, fun j u hu => by match j, hu with | 0, hu => cases hu; exact cell_obj h0 0 _ rfl⟩
    | 1, hr => cases hr; exact ⟨hb, _, rfl, fun j u hu => by match j, hu with | 0, hu => cases hu; exact cell_obj h0 1 _ rfl⟩
  have hN := kNone _ _ _ hsq
  have hid : decide (0 ≤ idxOf (fun n => !mayI n) [a, b]) = !(mayI a && mayI b) := by
    unfold idxOf
    cases h1 : mayI a <;> cases h2 : mayI b <;> simp [List.findIdx?_cons, h1, h2]
  rw [hid] at hN
  subst hn0
  unfold addK
  by_cases hm : mayI a = true ∧ mayI b = true
  · rw [if_pos hm]
    obtain ⟨a0, a1⟩ := mayI_iff.1 hm.1
    obtain ⟨b0, b1⟩ := mayI_iff.1 hm.2
    rw [hm.1, hm.2] at hN
    have HN := Lib.hid hN
    have hw : IntKind.i64.wrap (1099511627776 - a) = 1099511627776 - a := IntWalk.i64_in _ ⟨by omega, by omega⟩
    have hw2 : IntKind.i64.wrap (a + b) = a + b := IntWalk.i64_in _ ⟨by omega, by omega⟩
    clear hN hid hsq hm
    by_cases ho : 1099511627776 < a + b
    · rw [if_pos ho]
      have ho2 : 1099511627776 - a < b := by omega
      go_enter Tryz.func122, Tryz.ntmps122
      go_wp2_with (go_at_call 131; refine HN.out.mono ?_; rintro e w2 ⟨rfl, hf⟩)
      go_ret2
      exact ⟨rfl, ((Fr.refl _ w).alloc _).trans hf⟩
    · rw [if_neg ho]
      have ho2 : ¬ 1099511627776 - a < b := by omega
      go_enter Tryz.func122, Tryz.ntmps122
      go_wp2_with (go_at_call 131; refine HN.out.mono ?_; rintro e w2 ⟨rfl, hf⟩)
      go_ret2
      exact ⟨rfl, ((Fr.refl _ w).alloc _).trans hf⟩
  · rw [if_neg hm]
    have hf : (!(mayI a && mayI b)) = true := by
      cases h1 : mayI a <;> cases h2 : mayI b <;> simp_all
    rw [hf] at hN
    have HN := Lib.hid hN
    clear hN hid hsq hm hf
    go_enter Tryz.func122, Tryz.ntmps122
    go_wp2_with (go_at_call 131; refine HN.out.mono ?_; rintro e w2 ⟨rfl, hf⟩)
    go_ret2
    exact ⟨rfl, ((Fr.refl _ w).alloc _).trans hf⟩
end Go.Proofs.YtogphlnakdnchaaGreat

namespace Go.Proofs.YtogphlnakdnchaaGreat
open Go.RowKit
section
variable {F : Fence} {n : Nat} {P : Program} {ops : Array Oper} {Q : Exit → Act → World → Prop} {md : Region.Mode}
end
end Go.Proofs.YtogphlnakdnchaaGreat

namespace Go.Proofs.YtogphlnakdnchaaGreat
open Go.RowKit Go.Maps
attribute [local go_sem] Oper.semAt_some
theorem kSN : KO Tryz.prog 9 ktS := koS Tryz.underlying9
abbrev encN : Int → Value := .int .i64
/-- The call's own blocks: its two results, its map (block n0 + 2), the map's variable. -/
structure SmI (w0 W : World) (n0 : Nat) (rv : Value) (e : Int) (m : Its) : Prop where
  res : W.heap[n0]? = some (.cells #[rv] 90)
  err : W.heap[n0 + 1]? = some (.cells #[.int .i64 e] 30)
  out : W.heap[n0 + 3]? = some (.cells #[.map (some (n0 + 2))] 90)
  mp : Mp Tryz.prog W 9 ktS encN (n0 + 2) m
  fr : Fr (fun b => n0 ≤ b) w0 W
section
variable {w0 W W' : World} {n0 B : Nat} {rv : Value} {e : Int} {m : Its}
theorem SmI.fa (h : SmI w0 W n0 rv e m) (hf : Fa B W W') (hB : w0.heap.size ≤ B) : SmI w0 W' n0 rv e m :=
  ⟨Fa.cells hf h.res, Fa.cells hf h.err, Fa.cells hf h.out, Fa.mp hf h.mp, h.fr.trans' hf (fun b hb e => by have := e.1; omega)⟩
theorem SmI.keep (h : SmI w0 W n0 rv e m) (hf : Fr (fun _ => False) W W') : SmI w0 W' n0 rv e m :=
  ⟨hf.at_ h.res (fun h => h), hf.at_ h.err (fun h => h), hf.at_ h.out (fun h => h), hf.mp h.mp (fun h => h), h.fr.trans' hf (fun _ _ e => e.elim)⟩
theorem SmI.set (h : SmI w0 W n0 rv e m) (u : Value) (x : Int) : SmI w0 ((W.setCell ⟨n0, 0, none⟩ u).setCell ⟨n0 + 1, 0, none⟩ (.int .i64 x)) n0 u x m := by
  have hF : Fr (fun b => b = n0 ∨ b = n0 + 1) W ((W.setCell ⟨n0, 0, none⟩ u).setCell ⟨n0 + 1, 0, none⟩ (.int .i64 x)) := ((Fr.refl _ W).setCell (p := ⟨n0, 0, none⟩) (fun _ => .inl rfl) _).setCell (p := ⟨n0 + 1, 0, none⟩) (fun _ => .inr rfl) _
  have hF1 : Fr (fun b => b = n0) W (W.setCell ⟨n0, 0, none⟩ u) := (Fr.refl (fun b => b = n0) W).setCell (p := ⟨n0, 0, none⟩) (fun _ => rfl) _
  have hF2 : Fr (fun b => b = n0 + 1) (W.setCell ⟨n0, 0, none⟩ u) ((W.setCell ⟨n0, 0, none⟩ u).setCell ⟨n0 + 1, 0, none⟩ (.int .i64 x)) := (Fr.refl (fun b => b = n0 + 1) _).setCell (p := ⟨n0 + 1, 0, none⟩) (fun _ => rfl) _
  exact ⟨hF2.at_ (obj_set h.res 0 u) (by omega), obj_set (hF1.at_ h.err (by omega)) 0 _, hF.at_ h.out (by omega), hF.mp h.mp (by omega), h.fr.trans' hF (fun b _ e => by omega)⟩
theorem SmI.put {m' : Its} (h : SmI w0 W n0 rv e m) (hm : Mp Tryz.prog W' 9 ktS encN (n0 + 2) m') (ht : W.mapTurned W' (n0 + 2)) : SmI w0 W' n0 rv e m' := by
  have hF : Fr (fun b => b = n0 + 2) W W' := Fr.turned ht rfl
  exact ⟨hF.at_ h.res (by omega), hF.at_ h.err (by omega), hF.at_ h.out (by omega), hm, h.fr.trans' hF (fun b _ e => by omega)⟩
end
def Si1 (w : World) (n0 : Nat) (L : Its) (j : Nat) (_ : Nat → Prop) (W : World) : Prop := SmI w W n0 (.map none) 0 [] ∧ ∀ (i : Nat) (p : Str × Int), i < j → L[i]? = some p → badIt p = false
def Sx1 (w : World) (n0 : Nat) (L : Its) (c : Code) (_ : Nat) (_ : Nat → Prop) (W : World) : Prop := c = .ret ∧ (sumsF L).1 = 60 ∧ SmI w W n0 (.map none) 60 []
def Si2 (w : World) (n0 D : Nat) (L : Its) (j : Nat) (_ : Nat → Prop) (W : World) : Prop := ∃ m, SmI w W n0 (.map none) 0 m ∧ sumsM (L.take j) = some m ∧ W.heap[D]? = some (.deferred (some []))
def Sx2 (w : World) (n0 D : Nat) (L : Its) (c : Code) (_ : Nat) (_ : Nat → Prop) (W : World) : Prop := c = .ret ∧ (sumsF L).1 = 50 ∧ ∃ m, SmI w W n0 (.map none) 50 m ∧ W.heap[D]? = some (.deferred (some []))
theorem def_keep {B D : Nat} {W W' : World} (h : W.heap[D]? = some (.deferred (some []))) (hf : Fa B W W') (hD : D < B) : W'.heap[D]? = some (.deferred (some [])) :=
  hf.at_ h (fun e => by have := e.1; omega)
theorem sums_bad {L : Its} {j : Nat} {p : Str × Int} (h : L[j]? = some p) (hb : badIt p = true) : (sumsF L).1 = 60 := by
  unfold sumsF
  rw [if_pos (List.any_eq_true.2 ⟨p, List.mem_of_getElem? h, hb⟩)]
theorem sums_good {L : Its} (h : ∀ (i : Nat) (p : Str × Int), i < L.length → L[i]? = some p → badIt p = false) : sumsF L = match sumsM L with | some m => (0, m) | none => (50, []) := by
  unfold sumsF
  have : L.any badIt = false := List.any_eq_false.2 (fun p hp => by
    obtain ⟨i, hi, rfl⟩ := List.getElem_of_mem hp
    rw [h i _ hi (List.getElem?_eq_getElem hi)]; simp)
  rw [this, if_neg (by simp)]
  cases sumsM L <;> rfl
theorem sumStep_at {m L : Its} {p : Str × Int} (h : SumOk m L) (hp : badIt p = false) : sumStep (some m) p = (if (addK ((getS m p.1).getD 0) p.2).2 = 0 then some (putS ktS.lt m p.1 (addK ((getS m p.1).getD 0) p.2).1) else none) ∧ ((addK ((getS m p.1).getD 0) p.2).2 = 0 ∨ (addK ((getS m p.1).getD 0) p.2).2 = 50) := by
  have h1 := h.at_ p.1
  have hm : mayI ((getS m p.1).getD 0) = true := mayI_iff.2 h1
  have hp2 : mayI p.2 = true := by
    unfold badIt at hp
    have h3 : (goodB p.1 && mayI p.2) = true := by simpa using hp
    rw [Bool.and_eq_true] at h3
    exact h3.2
  have ha : addK ((getS m p.1).getD 0) p.2 = if 1099511627776 < (getS m p.1).getD 0 + p.2 then (0, 50) else ((getS m p.1).getD 0 + p.2, 0) := by
    unfold addK
    rw [if_pos ⟨hm, hp2⟩]
  rw [ha]
  show ((if 1099511627776 < (getS m p.1).getD 0 + p.2 then none else some (putS ktS.lt m p.1 ((getS m p.1).getD 0 + p.2))) = _) ∧ _
  by_cases hs : 1099511627776 < (getS m p.1).getD 0 + p.2
  · rw [if_pos hs, if_pos hs]
    exact ⟨rfl, .inr rfl⟩
  · rw [if_neg hs, if_neg hs]
    exact ⟨rfl, .inl rfl⟩
theorem sumsM_len : ∀ (B m m' : Its), B.foldl sumStep (some m) = some m' → m'.length ≤ m.length + B.length
  | [], m, m', e => by
    obtain rfl : m = m' := Option.some.inj e
    omega
  | p :: r, m, m', e => by
    rw [List.foldl_cons] at e
    by_cases hs : 1099511627776 < sumAt m p
    · have : sumStep (some m) p = none := by simp only [sumStep, if_pos hs]
      rw [this, sumStep_none] at e; cases e
    · have h1 : sumStep (some m) p = some (putS ktS.lt m p.1 (sumAt m p)) := by simp only [sumStep, if_neg hs]
      rw [h1] at e
      have h2 := sumsM_len r _ m' e
      have h3 := putK_len ktS.lt m p.1 (sumAt m p)
      rw [List.length_cons]
      omega
theorem lookN {m : Its} {W : World} {b : Nat} {g : Str} (h : Mp Tryz.prog W 9 ktS encN b m) (hg : okS g) : (Instr.lookup 90 (.map (some b)) (vS g) false).run Tryz.prog W = .ok (.int .i64 ((getS m g).getD 0)) W := by
  have h0 : (zeroValue 3).run Tryz.prog W = .ok (.int .i64 0) W := by kernel_rfl
  have := h.look kSN Tryz.underlying90 h0 (x := g) hg
  rw [show ktS.enc g = vS g from rfl] at this
  rw [this]
  cases getS m g <;> rfl
set_option maxRecDepth 100000 in
set_option maxHeartbeats 8000000 in
theorem iSums (w : World) (v : Value) (L : Its) (h : Il w v L) : Calls Tryz.prog 103 #[v] w fun e w' => ∃ mv, e = .returned (.tuple #[mv, .int .i64 (sumsF L).1]) ∧ ((sumsF L).1 ≠ 0 → mv = .map none) ∧
    ((sumsF L).1 = 0 → mv = .map (some (w.heap.size + 2)) ∧ Mp Tryz.prog w' 9 ktS encN (w.heap.size + 2) (sumsF L).2) ∧ Fr (fun _ => False) w w' := by
  obtain ⟨n0, hn0⟩ : ∃ n0, w.heap.size = n0 := ⟨_, rfl⟩
  have HS := Lib.hid hn0
  have HL := Lib.hid h
  have hob := h.lt
  have HOB := Lib.hid hob
  have hokl : Hid (∀ (j : Nat) (p : Str × Int), L[j]? = some p → okS p.1 ∧ okI p.2) := Lib.hid (fun j p hp => by obtain ⟨_, _, _, _, hx⟩ := h; exact ⟨(hx j p hp).1, (hx j p hp).2.1⟩)
  have hLb : (L.length : Int) ≤ 9223372036854775807 := by have := h.1; omega
  obtain ⟨a, c, rfl⟩ := h.sl
  obtain ⟨N, hN⟩ : ∃ N, L.length = N := ⟨_, rfl⟩
  have HN := Lib.hid hN
  rw [hN] at HL HOB hLb ⊢
  have HLB := Lib.hid hLb
  clear h hob hN hLb
  refine (callsIn_wide (n := 0)).1 ?_
  refine callsIn_of_wp_marks Tryz.func103 rfl trivial ?_ rfl
  simp only [Tryz.ntmps103, List.size_toArray, List.length_cons, List.length_nil, Nat.reduceAdd, Nat.reduceSub, Array.replicate_succ, Array.replicate_zero, List.push_toArray, List.append_toArray, List.nil_append, List.cons_append]
  have hfn : ∀ f, Fence.wide.fn f := fun _ => trivial
  have hmm := @run_makeMap Tryz.prog
  have hdp : Fence.wide.depth.isSome = false := rfl
  gi_wp2_with (gi_at_call 58; refine (callsIn_wide.2 (iAll _ _ _ _)).mono ?_; rintro e w1 ⟨rfl, rfl⟩)
  clear hmm
  rw [show n0 + 1 + 1 + 1 + 1 = n0 + 4 from rfl, show n0 + 1 + 1 + 1 = n0 + 3 from rfl, show n0 + 1 + 1 = n0 + 2 from rfl]
  obtain ⟨W0, hW0⟩ : ∃ W0, (((((w.alloc (.cells #[.map none] 90)).alloc (.cells #[.int .i64 0] 30)).alloc (.map #[] 0)).alloc (.cells #[.map (some (n0 + 2))] 90)).alloc (.cells #[.slice a N c] 27)) = W0 := ⟨_, rfl⟩
  have hI0 : SmI w W0 n0 (.map none) 0 [] := by
    have hm := Mp.made (κ := Str) (ν := Int) Tryz.prog ((w.alloc (.cells #[.map none] 90)).alloc (.cells #[.int .i64 0] 30)) 9 ktS encN
    rw [show ((w.alloc (.cells #[.map none] 90)).alloc (.cells #[.int .i64 0] 30)).heap.size = n0 + 2 by simp; omega] at hm
    rw [← hW0]
    exact ⟨heap_keep (heap_keep (heap_keep (heap_keep (heap_at hn0.symm _) _) _) _) _, heap_keep (heap_keep (heap_keep (heap_at (by simp; omega) _) _) _) _, heap_keep (heap_at (by simp; omega) _) _, (hm.alloc _).alloc _, (((((Fr.refl _ w).alloc _).alloc _).alloc _).alloc _).alloc _⟩
  have hB0 : Boxed W0 (n0 + 4) 27 (.slice a N c) := by rw [← hW0]; exact heap_at (by simp; omega) _
  have hs0 : W0.heap.size = n0 + 5 := by rw [← hW0]; simp; omega
  rw [hW0]
  have hL0 := HL.out.fr hI0.fr (fun b hb => by omega)
  have HI0 := Lib.hid hI0; have HS0 := Lib.hid hs0
  clear hW0 hI0
  refine rangeX (w0 := W0) (X := L) (S := fun b => b = n0 ∨ b = n0 + 1) rfl (enters_of Tryz.func95 (by kernel_rfl) rfl)
    (iAll1 _ W0 (n0 + 4) _ L hB0 hL0 (by omega) (fun hl b hb e => by have := HOB.out hl b e; omega)) (Below.refl _ _) (fun b hb => by omega) (fun _ => rfl)
    (Si1 w n0 L) (Sx1 w n0 L)
    (fun k C W W' hs hf => ⟨hs.1.fa hf (by omega), hs.2⟩) (fun c k C W W' hs hf => ⟨hs.1, hs.2.1, hs.2.2.fa hf (by omega)⟩)
    ⟨HI0.out, fun i p hi => by omega⟩ ?round ?done ?stop
  case round =>
    rintro lp j x C W hx hlp hi hr
    dsimp only [encIt]
    gi_wp2
    refine Took.mk (Fr.refl _ _) hi ?_
    rintro Wb ⟨hQ, hkn⟩ hrb hf hsz hsw hCC _
    have hok := hokl.out j x hx
    have hbad : Hid (badIt x = true → (sumsF L).1 = 60) := Lib.hid (fun e => sums_bad hx e)
    have hgood : Hid (badIt x = false → ∀ (i : Nat) (p : Str × Int), i < j + 1 → L[i]? = some p → badIt p = false) := Lib.hid (fun e i p hi hp => by
      by_cases e2 : i = j
      · subst e2
        rw [hx] at hp
        cases hp
        exact e
      · exact hkn i p (by omega) hp)
    obtain ⟨gd, n⟩ := x
    dsimp only at hok ⊢
    unfold badIt at hbad hgood
    dsimp only at hbad hgood
    have HQ := Lib.hid hQ; have HOK := Lib.hid hok
    clear hi hr hf hrb hx hQ hkn hok
    cases hg : goodB gd with
    | false =>
      rw [hg] at hbad
      have h60 := Lib.hid (hbad.out rfl)
      gi_wp2_with (first
        | (gi_at_call 67; refine (callsIn_wide.2 (iGood _ gd HOK.out.1)).mono ?_; rw [hg]; rintro e w2 ⟨rfl, hf2⟩; have hM2 := HQ.out.keep hf2; have HM2 := Lib.hid hM2; have HF2 := Lib.hid hf2; have c0 := cell_obj hM2.res 0 (.map none) rfl; have f0 := obj_frozen hM2.res 0; have c1 := cell_obj hM2.err 0 (.int .i64 0) rfl; have f1 := obj_frozen hM2.err 0; clear hM2 hf2))
      exact ⟨((HF2.out.mono (fun _ _ e => e.elim)).setCell (p := ⟨n0, 0, none⟩) (fun _ => .inl (.inl rfl)) _).setCell (p := ⟨n0 + 1, 0, none⟩) (fun _ => .inl (.inr rfl)) _, rfl, h60.out, HM2.out.set _ _⟩
    | true =>
      rw [hg] at hbad hgood
      cases hm : mayI n with
      | false =>
        rw [hm] at hbad
        have h60 := Lib.hid (hbad.out rfl)
        gi_wp2_with (first
          | (gi_at_call 67; refine (callsIn_wide.2 (iGood _ gd HOK.out.1)).mono ?_; rw [hg]; rintro e w2 ⟨rfl, hf2⟩; have hM2 := HQ.out.keep hf2; have HM2 := Lib.hid hM2; have HF2 := Lib.hid hf2; have c0 := cell_obj hM2.res 0 (.map none) rfl; have f0 := obj_frozen hM2.res 0; have c1 := cell_obj hM2.err 0 (.int .i64 0) rfl; have f1 := obj_frozen hM2.err 0; clear hM2 hf2)
          | (gi_at_call 68; refine (callsIn_wide.2 (kMay _ n)).mono ?_; rw [hm]; rintro e w3 ⟨rfl, rfl⟩))
        exact ⟨((HF2.out.mono (fun _ _ e => e.elim)).setCell (p := ⟨n0, 0, none⟩) (fun _ => .inl (.inl rfl)) _).setCell (p := ⟨n0 + 1, 0, none⟩) (fun _ => .inl (.inr rfl)) _, rfl, h60.out, HM2.out.set _ _⟩
      | true =>
        rw [hm] at hgood
        have hok := Lib.hid (hgood.out rfl)
        gi_wp2_with (first
          | (gi_at_call 67; refine (callsIn_wide.2 (iGood _ gd HOK.out.1)).mono ?_; rw [hg]; rintro e w2 ⟨rfl, hf2⟩; have hM2 := HQ.out.keep hf2; have HM2 := Lib.hid hM2; have HF2 := Lib.hid hf2; clear hM2 hf2)
          | (gi_at_call 68; refine (callsIn_wide.2 (kMay _ n)).mono ?_; rw [hm]; rintro e w3 ⟨rfl, rfl⟩))
        exact ⟨HF2.out.mono (fun _ _ e => e.elim), HM2.out, hok.out⟩
  case stop =>
    rintro D c j C W hD hk ⟨rfl, h60, hQ⟩ hr hK
    have HQ := Lib.hid hQ; have H60 := Lib.hid h60
    have c0 := cell_obj (Fa.cells (frPut (B := n0) (.deferred none) (by omega) hK rfl) hQ.res) 0 (.map none) rfl
    have c1 := cell_obj (Fa.cells (frPut (B := n0) (.deferred none) (by omega) hK rfl) hQ.err) 0 (.int .i64 60) rfl
    clear hQ h60 hr
    gi_wp2_with fail
    refine ⟨by simp, .inl ⟨_, _, rfl, run_takeDeferred hK, ?_⟩⟩
    refine ⟨.tuple #[.map none, .int .i64 60], by simp [results, Tryz.results103, go_sem, c0, c1], ?_⟩
    rw [H60.out]
    exact ⟨_, rfl, fun _ => rfl, fun e => absurd e (by omega), (HQ.out.fr.putObj (l := D) (fun _ => by omega) _).mono (fun b hb e => by omega)⟩
  case done =>
    rintro D C W hD ⟨hQ, hkn⟩ hr hK
    have hsg := sums_good (L := L) (fun i p hi hp => hkn i p hi hp)
    have HSG := Lib.hid hsg; have HKN := Lib.hid hkn; have HQ := Lib.hid hQ
    have hDl := (Array.getElem?_eq_some_iff.1 hK).1
    clear hsg hkn hQ hr hB0 hL0
    gi_wp2_with (gi_at_call 58; refine (callsIn_wide.2 (iAll _ _ _ _)).mono ?_; rintro e w2 ⟨rfl, rfl⟩)
    have hQ2 := HQ.out.keep ((Fr.refl (fun _ => False) W).alloc (.cells #[.slice a N c] 27))
    have hB2 := Boxed.new W 27 (.slice a N c)
    have hK2 := heap_keep hK (.cells #[.slice a N c] 27)
    obtain ⟨W2, hW2⟩ : ∃ W2, W.alloc (.cells #[.slice a N c] 27) = W2 := ⟨_, rfl⟩
    have hs2 : W2.heap.size = W.heap.size + 1 := by rw [← hW2]; simp
    rw [hW2] at hQ2 hB2 hK2 ⊢
    have hL2 := HL.out.fr hQ2.fr (fun b hb => by omega)
    have HQ2 := Lib.hid hQ2; have HK2 := Lib.hid hK2
    have hnD : n0 + 5 ≤ D := by have := HS0.out; omega
    clear hW2 hQ2 hK2 HQ hK
    refine rangeX (w0 := W2) (X := L) (S := fun b => b = n0 ∨ b = n0 + 1 ∨ b = n0 + 2) rfl (enters_of Tryz.func95 (by kernel_rfl) rfl)
      (iAll1 _ W2 _ _ L hB2 hL2 (by omega) (fun hl b hb e => by have := HOB.out hl b e; omega)) (Below.refl _ _) (fun b hb => by omega) (fun _ => rfl)
      (Si2 w n0 D L) (Sx2 w n0 D L)
      (fun k C W W' hs hf => by obtain ⟨m, h1, h2, h3⟩ := hs; exact ⟨m, h1.fa hf (by omega), h2, def_keep h3 hf (by omega)⟩) (fun c k C W W' hs hf => by obtain ⟨e1, e2, m, h1, h3⟩ := hs; exact ⟨e1, e2, m, h1.fa hf (by omega), def_keep h3 hf (by omega)⟩)
      ⟨[], HQ2.out, rfl, HK2.out⟩ ?round2 ?done2 ?stop2
    case round2 =>
      rintro lp j x C3 W3 hx hlp hi hr
      dsimp only [encIt]
      gi_wp2
      refine Took.mk (Fr.refl _ _) hi ?_
      rintro Wb ⟨m, hQ, hm, hKb⟩ hrb hf hsz hsw hCC _
      have hok := hokl.out j x hx
      have hjl := (List.getElem?_eq_some_iff.1 hx).1
      have hb := HKN.out j x hjl hx
      have hsum := sumsM_ok (L.take j) [] [] m SumOk.nil (fun p hp => by
        obtain ⟨i, hi, rfl⟩ := List.getElem_of_mem hp
        rw [List.length_take] at hi
        exact HKN.out i _ (by omega) (by rw [List.getElem_take]; exact List.getElem?_eq_getElem _)) hm
      have hst := sumStep_at hsum hb
      have hat := hsum.at_ x.1
      have hml : m.length < 9223372036854775807 := by
        have h1 := sumsM_len (L.take j) [] m hm
        rw [List.length_take] at h1
        have := HLB.out; have := HN.out
        simp only [List.length_nil] at h1
        omega
      have htk := sumsM_take hx
      rw [hm] at htk
      obtain ⟨gd, n⟩ := x
      dsimp only at hok hst hat ⊢
      obtain ⟨u, hu⟩ : ∃ u, (getS m gd).getD 0 = u := ⟨_, rfl⟩
      rw [hu] at hst hat
      have hlk := lookN hQ.mp hok.1
      rw [hu] at hlk
      obtain ⟨⟨s, e⟩, hR⟩ : ∃ R, addK u n = R := ⟨_, rfl⟩
      rw [hR] at hst
      have hA := fun W => kAdd W u n (by unfold okI; omega) hok.2
      rw [hR] at hA
      have co := cell_obj hQ.out 0 (.map (some (n0 + 2))) rfl
      have HQ := Lib.hid hQ; have HOK := Lib.hid hok; have HKB := Lib.hid hKb; have HST := Lib.hid hst; have HTK := Lib.hid htk; have HA := Lib.hid hA; have HX := Lib.hid hx; have HML := Lib.hid hml
      clear hi hr hf hrb hx hQ hok hKb hst htk hA hsum hb hR hu hat hm hml hjl
      by_cases he : e = 0
      · have hst := HST.out.1
        dsimp only at hst
        rw [if_pos he] at hst
        have HST2 := Lib.hid hst
        have HE := Lib.hid he
        have hsto : Hid (∀ W, Fr (fun _ => False) Wb W → ∃ w', (Instr.mapUpdate 90 (.map (some (n0 + 2))) (vS gd) (.int .i64 s)).run Tryz.prog W = .ok () w' ∧ Mp Tryz.prog w' 9 ktS encN (n0 + 2) (putS ktS.lt m gd s) ∧ W.mapTurned w' (n0 + 2)) := Lib.hid (fun W hf => (hf.mp HQ.out.mp (fun e => e)).store kSN Tryz.underlying90 HML.out HOK.out.1 s)
        subst he
        clear hst
        gi_wp2_with (gi_at_call 122; refine (callsIn_wide.2 (HA.out _)).mono ?_; rintro e w4 ⟨rfl, hf4⟩; have HF4 := Lib.hid hf4; obtain ⟨w5, hst5, hm5, ht5⟩ := hsto.out w4 hf4; have HM5 := Lib.hid hm5; have HT5 := Lib.hid ht5; have co2 := hf4.cell co (fun e => e); clear hf4 hm5 ht5)
        refine ⟨(HF4.out.mono (fun _ _ e => e.elim)).trans (Fr.turned HT5.out (.inl (.inr (.inr rfl)))), _, (HQ.out.keep HF4.out).put HM5.out HT5.out, ?_, ?_⟩
        · rw [HTK.out]; exact HST2.out
        · exact (Fr.turned (S := fun b => b = n0 + 2) HT5.out rfl).at_ (HF4.out.at_ HKB.out (fun e => e)) (by omega)
      · have hst := HST.out
        dsimp only at hst
        rw [if_neg he] at hst
        have he50 : e = 50 := hst.2.elim (fun h => absurd h he) id
        have hno := HTK.out.trans hst.1
        have H50 : Hid ((sumsF L).1 = 50) := Lib.hid (by rw [HSG.out, sumsM_no hno])
        subst he50
        have hns : ((50 : Int) != 0) = true := rfl
        clear hst hno he
        gi_wp2_with (gi_at_call 122; refine (callsIn_wide.2 (HA.out _)).mono ?_; rintro e w4 ⟨rfl, hf4⟩; have HF4 := Lib.hid hf4; have hM2 := HQ.out.keep hf4; have HM2 := Lib.hid hM2; have c0 := cell_obj hM2.res 0 (.map none) rfl; have f0 := obj_frozen hM2.res 0; have c1 := cell_obj hM2.err 0 (.int .i64 0) rfl; have f1 := obj_frozen hM2.err 0; clear hf4 hM2)
        have hF5 : Fr (fun b => b = n0 ∨ b = n0 + 1) Wb ((w4.setCell ⟨n0, 0, none⟩ (.map none)).setCell ⟨n0 + 1, 0, none⟩ (.int .i64 50)) := ((HF4.out.mono (fun _ _ e => e.elim)).setCell (p := ⟨n0, 0, none⟩) (fun _ => .inl rfl) _).setCell (p := ⟨n0 + 1, 0, none⟩) (fun _ => .inr rfl) _
        exact ⟨hF5.mono (fun b _ e => .inl (e.elim .inl (fun e => .inr (.inl e)))), rfl, H50.out, m, HM2.out.set _ _, hF5.at_ HKB.out (by omega)⟩
    case stop2 =>
      rintro D2 c j C3 W3 hD2 hk ⟨rfl, h50, m, hQ, hK1⟩ hr hK
      have HQ := Lib.hid hQ; have H50 := Lib.hid h50
      have hK1' := (World.putObj_heap_other (w := W3) (r := D2) (o := .deferred none) (k := D) (by omega)).trans hK1
      have hFx : Fa n0 W3 ((W3.putObj D2 (.deferred none)).putObj D (.deferred none)) := (frPut (B := n0) (.deferred none) (by omega) hK rfl).trans' (frPut (B := n0) (.deferred none) (by omega) hK1' rfl) (fun b hb e => ⟨e.1, by
        obtain ⟨-, o, ho, hx⟩ := e
        by_cases hbD : b = D2
        · subst hbD; exact ⟨_, hK, rfl⟩
        · exact ⟨o, (World.putObj_heap_other hbD).symm.trans ho, hx⟩⟩)
      have c0 := cell_obj (Fa.cells hFx hQ.res) 0 (.map none) rfl
      have c1 := cell_obj (Fa.cells hFx hQ.err) 0 (.int .i64 50) rfl
      clear hQ h50 hr
      gi_wp2_with fail
      refine ⟨by simp, .inl ⟨_, _, rfl, run_takeDeferred hK, ?_⟩⟩
      refine ⟨by simp, .inl ⟨_, _, rfl, run_takeDeferred hK1', ?_⟩⟩
      refine ⟨.tuple #[.map none, .int .i64 50], by simp [results, Tryz.results103, go_sem, c0, c1], ?_⟩
      rw [H50.out]
      exact ⟨_, rfl, fun _ => rfl, fun e => absurd e (by omega), ((HQ.out.fr.putObj (l := D2) (fun _ => by omega) _).putObj (l := D) (fun _ => by omega) _).mono (fun b hb e => by omega)⟩
    case done2 =>
      rintro D2 C3 W3 hD2 ⟨m, hQ, hm, hK1⟩ hr hK
      have hsm : Hid (sumsF L = (0, m)) := Lib.hid (by rw [List.take_length] at hm; rw [HSG.out, hm])
      have HQ := Lib.hid hQ
      have co := cell_obj hQ.out 0 (.map (some (n0 + 2))) rfl
      have c0 := cell_obj hQ.res 0 (.map none) rfl
      have f0 := obj_frozen hQ.res 0
      have c1 := cell_obj hQ.err 0 (.int .i64 0) rfl
      have f1 := obj_frozen hQ.err 0
      clear hQ hm hr
      have hQs := (HQ.out.set (.map (some (n0 + 2))) 0)
      obtain ⟨W4, hW4⟩ : ∃ W4, (W3.setCell ⟨n0, 0, none⟩ (.map (some (n0 + 2)))).setCell ⟨n0 + 1, 0, none⟩ (.int .i64 0) = W4 := ⟨_, rfl⟩
      have hFs : Fr (fun b => b = n0 ∨ b = n0 + 1) W3 W4 := by rw [← hW4]; exact ((Fr.refl _ _).setCell (p := ⟨n0, 0, none⟩) (fun _ => .inl rfl) _).setCell (p := ⟨n0 + 1, 0, none⟩) (fun _ => .inr rfl) _
      have hKs := hFs.at_ hK (by omega)
      have hK1s := hFs.at_ hK1 (by omega)
      gi_wp2_with fail
      rw [hW4] at hQs
      (try rw [hW4])
      have hK1' := (World.putObj_heap_other (w := W4) (r := D2) (o := .deferred none) (k := D) (by omega)).trans hK1s
      have hFx : Fa n0 W4 ((W4.putObj D2 (.deferred none)).putObj D (.deferred none)) := (frPut (B := n0) (.deferred none) (by omega) hKs rfl).trans' (frPut (B := n0) (.deferred none) (by omega) hK1' rfl) (fun b hb e => ⟨e.1, by
        obtain ⟨-, o, ho, hx⟩ := e
        by_cases hbD : b = D2
        · subst hbD; exact ⟨_, hKs, rfl⟩
        · exact ⟨o, (World.putObj_heap_other hbD).symm.trans ho, hx⟩⟩)
      have d0 := cell_obj (Fa.cells hFx hQs.res) 0 (.map (some (n0 + 2))) rfl
      have d1 := cell_obj (Fa.cells hFx hQs.err) 0 (.int .i64 0) rfl
      refine ⟨by simp, .inl ⟨_, _, rfl, run_takeDeferred hKs, ?_⟩⟩
      refine ⟨by simp, .inl ⟨_, _, rfl, run_takeDeferred hK1', ?_⟩⟩
      refine ⟨.tuple #[.map (some (n0 + 2)), .int .i64 0], by simp [results, Tryz.results103, go_sem, d0, d1], ?_⟩
      rw [hsm.out]
      refine ⟨_, rfl, fun e => absurd rfl e, fun _ => ⟨by rw [HS.out], ?_⟩, ((hQs.fr.putObj (l := D2) (fun _ => by omega) _).putObj (l := D) (fun _ => by omega) _).mono (fun b hb e => by omega)⟩
      rw [HS.out]
      exact Fa.mp hFx hQs.mp
end Go.Proofs.YtogphlnakdnchaaGreat

namespace Go.Proofs.YtogphlnakdnchaaGreat
open Go.RowKit Go.Maps
theorem run_append_zeros2 {P : Program} (w : World) (t ty e ti : TypeId) (i : TypeInfo) (z : Value) (ht : P.underlying t = some (.slice e)) (hti : P.underlying ti = some (.int .i64)) (hi : P.info? e = some i) (hz : i.zero = some z) (hby : i.bytes = 24) (hsz : i.size = 2)
    (n : Nat) (h0 : 0 < n) (h63 : n ≤ 1000000) :
    (Builtin.append_ #[t, ti] ty #[.slice none 0 0, .int .i64 n]).run P w =
      .ok (.slice (some ⟨w.heap.size, 0, none⟩) n (grownCap w n 0 e)) (w.drew.alloc (.cells (Builtin.zeroCells z.cells n ++ Builtin.zeroCells z.cells (grownCap w n 0 e - n)) e)) := by
  have hn : n ≠ 0 := by omega
  have h63' : ¬ (9223372036854775807 < (n : Int)) := by omega
  have h48' : ¬ (281474976710656 < Builtin.nextslicecap n 0 * 24) := by rw [nextslicecap_zero h0]; omega
  have hw : IntKind.i64.wrap (n : Int) = n := by rw [IntKind.wrap_i64]; omega
  have hl : ¬ ((n : Int) < 0) := by omega
  have hl2 : ¬ (281474976710656 < (n : Int) * 24) := by omega
  simp [Builtin.append_, run_underlying ht, run_underlying hti, sizeOf, typeInfo, zeroValue, hi, hz, hby, hsz, asInt, asIntOf, hw, hl, hl2, hn, h63', h48', Question.forced, run_firstCells_none, newRow, grownCap]
  intro h; omega
theorem wpList_append_zeros2 {P : Program} (w : World) {ops : Array Oper} {rest : List Oper} {o : Oper} {a : Act} {Q : Exit → Act → World → Prop} (hgd : o.guard = none) (s x : Operand) (t e ti : TypeId)
    (ho : o.op = .call { callee := .builtin .append, args := #[s, x], argTypes := #[t, ti] }) (i : TypeInfo) (z : Value) (ht : P.underlying t = some (.slice e)) (hti : P.underlying ti = some (.int .i64)) (hi : P.info? e = some i) (hz : i.zero = some z) (hby : i.bytes = 24) (hsz : i.size = 2)
    (n : Nat) (h0 : 0 < n) (h63 : n ≤ 1000000) (hs : a.eval s = .slice none 0 0) (hx : a.eval x = .int .i64 n)
    (h : wpList P ops Q rest (a.put o.dst (.slice (some ⟨w.heap.size, 0, none⟩) n (grownCap w n 0 e))) (w.drew.alloc (.cells (Builtin.zeroCells z.cells n ++ Builtin.zeroCells z.cells (grownCap w n 0 e - n)) e))) :
    wpList P ops Q (o :: rest) a w := by
  refine wpList_plain hgd fun K hK => ?_
  have hr := run_append_zeros2 (P := P) w t o.type e ti i z ht hti hi hz hby hsz n h0 h63
  unfold Oper.wp execOp
  simp only [ho, resolve, invoke, builtin, Sem.run_bind, Sem.run_pure, Result.andThen_ok, List.map_toArray, List.map_cons, List.map_nil, hs, hx, hr]
  exact hK _ _ h
theorem zeroCells_size2 (z : Array Value) (hz : z.size = 2) (n : Nat) : (Builtin.zeroCells z n).size = n * 2 := by simp [Builtin.zeroCells, hz]
set_option maxRecDepth 100000 in
theorem iGrow (w : World) (n : Nat) (hn : (n : Int) ≤ 1000000) : Calls Tryz.prog 105 #[.slice none 0 0, .int .i64 n] w fun e w' =>
    ∃ v, e = .returned v ∧ w'.ownsRow w.heap.size 65 2 v 0 [] ∧ Fr (fun _ => False) w w' := by
  obtain ⟨i0, hi', hz0, hz1, hz2⟩ := info_parts infoItem
  by_cases h0 : n = 0
  · subst h0
    go_enter Tryz.func105, Tryz.ntmps105
    go_wp2
    go_ret
    exact ⟨_, rfl, World.ownsRow_nil _ _ _ _, Fr.refl _ _⟩
  · have hpos : 0 < n := by omega
    have hcap := Lib.hid (grownCap_ge w n 0 65)
    have hcm := Lib.hid (grownCap_le_maxLen w n 0 65 (by unfold maxLen; omega))
    go_enter Tryz.func105, Tryz.ntmps105
    go_wp2_with (at_builtin; refine wpList_append_zeros2 _ rfl _ _ 27 65 3 rfl i0 (.agg #[.string ⟨#[]⟩, .int .i64 0]) Tryz.underlying27 Tryz.underlying3 hi' hz0 hz2 hz1 n hpos (by omega) rfl rfl ?_)
    go_ret
    refine ⟨_, rfl, World.ownsRow_made (w := w.drew) _ _ (Nat.le_refl _) hcm.out ?_, (Fr.refl _ w).drew.alloc _⟩
    rw [Array.size_append, zeroCells_size2 _ rfl, zeroCells_size2 _ rfl]
    have := hcap.out
    omega
/-- Slices of items, side by side. -/
def PartsI (w : World) (v : Value) (L : List (Value × Its)) : Prop := ∃ a c, v = .slice (some a) L.length c ∧ ∀ i p, L[i]? = some p → w.cell? (a.add i) = some p.1 ∧ Il w p.1 p.2
def catI (L : List (Value × Its)) : Its := L.flatMap (·.2)
theorem catI_take {L : List (Value × Its)} {k : Nat} {p : Value × Its} (h : L[k]? = some p) : catI (L.take (k + 1)) = catI (L.take k) ++ p.2 := by
  unfold catI
  rw [List.take_add_one, h]; simp
theorem catI_le (L : List (Value × Its)) (k : Nat) : (catI (L.take k)).length ≤ (catI L).length := by
  have : catI L = catI (L.take k) ++ catI (L.drop k) := by
    unfold catI
    rw [← List.flatMap_append, List.take_append_drop]
  rw [this, List.length_append]; omega
theorem il_rd {w : World} {a : Option Addr} {n c : Nat} {L : Its} (h : Il w (.slice a n c) L) : Rd w 2 a L.length (itCs L) := by
  obtain ⟨_, a', c', e, h1⟩ := h
  injection e with e1 _ _
  refine ⟨itCs_len L, fun hm => ?_⟩
  obtain ⟨p0, hp0⟩ : ∃ p, L[0]? = some p := ⟨L[0], List.getElem?_eq_getElem hm⟩
  obtain ⟨-, -, ad, ha, -, -⟩ := h1 0 p0 hp0
  refine ⟨ad, by rw [e1, ha], fun j u hu => ?_⟩
  have hj := (List.getElem?_eq_some_iff.1 hu).1
  rw [itCs_len] at hj
  obtain ⟨i, hi⟩ : ∃ i, j = i * 2 ∨ j = i * 2 + 1 := ⟨j / 2, by omega⟩
  have hil : i < L.length := by omega
  obtain ⟨p, hp⟩ : ∃ p, L[i]? = some p := ⟨L[i], List.getElem?_eq_getElem hil⟩
  obtain ⟨-, -, ad', ha', k0, k1⟩ := h1 i p hp
  have : ad' = ad := by rw [ha] at ha'; exact (Option.some.inj ha').symm
  subst this
  obtain ⟨c0, c1⟩ := itCs_at hp
  rcases hi with rfl | rfl
  · rw [c0] at hu; cases hu; exact k0
  · rw [c1] at hu; cases hu
    rw [show (ad'.add (i * 2 + 1)) = ⟨(ad'.add (i * 2)).block, (ad'.add (i * 2)).off + 1, none⟩ from add_field ad' (i * 2) 0]
    exact k1
set_option maxRecDepth 100000 in
set_option maxHeartbeats 2000000 in
theorem iConcat (w : World) (v : Value) (L : List (Value × Its)) (h : PartsI w v L) (hl : (L.length : Int) ≤ 1000) (hn : ((catI L).length : Int) ≤ 1000000) : Calls Tryz.prog 71 #[v] w fun e w' =>
    ∃ v', e = .returned v' ∧ w'.ownsRow w.heap.size 65 2 v' (catI L).length (itCs (catI L)) ∧ Fr (fun _ => False) w w' := by
  obtain ⟨i0, hi', hz0, hz1, hz2⟩ := info_parts infoItem
  obtain ⟨a, c, rfl, -⟩ := id h
  have HP := Lib.hid h
  clear h
  obtain ⟨ln, hln⟩ : ∃ ln, L.length = ln := ⟨_, rfl⟩
  have HLN := Lib.hid hln
  rw [hln] at hl HP ⊢
  clear hln
  have hle := fun k => catI_le L k
  obtain ⟨tot, htot⟩ : ∃ t, (catI L).length = t := ⟨_, rfl⟩
  have HTOT := Lib.hid htot
  rw [htot] at hn hle ⊢
  have HLE := Lib.hid hle
  clear htot hle
  go_enter Tryz.func71, Tryz.ntmps71
  go_wp2
  go_loopw [3, 11] (fun z i wr => ∃ k : Nat, (k : Int) ≤ ln ∧ z = .int .i64 ((catI (L.take k)).length : Nat) ∧ i = .int .i64 k ∧ wr = w) (fun _ i _ => ln - (intOf i).toNat)
  case atStart => exact ⟨0, by omega, by simp [catI], rfl, rfl⟩
  case round =>
    obtain ⟨k, hk, rfl, rfl, rfl⟩ := hrel
    by_cases hkl : (k : Int) < ln
    · obtain ⟨p, hp⟩ : ∃ p, L[k]? = some p := ⟨L[k]'(by have := HLN.out; omega), List.getElem?_eq_getElem _⟩
      obtain ⟨a', c', e, h1⟩ := HP.out
      have hc := (h1 k p hp).1
      obtain ⟨ba, bc, hbe⟩ := (h1 k p hp).2.sl
      injection e with e1 e2 e3
      cases e1
      have e3 := e3.symm
      subst e3
      have HT := Lib.hid (congrArg List.length (catI_take hp))
      have HLE1 := HLE.out (k + 1)
      rw [HT.out, List.length_append] at HLE1
      rw [hbe] at hc
      obtain ⟨pl, hpl⟩ : ∃ n, p.2.length = n := ⟨_, rfl⟩
      rw [hpl] at hc HLE1
      obtain ⟨z, hz⟩ : ∃ z, (catI (L.take k)).length = z := ⟨_, rfl⟩
      rw [hz] at HLE1 ⊢
      have HZ := Lib.hid hz; have HPL := Lib.hid hpl
      clear h1 hp hz hpl e2 hbe
      go_wp2
      go_roundw
      case rel => exact ⟨k + 1, by omega, val_int (by rw [HT.out, List.length_append, HZ.out, HPL.out]; omega), by go_num, by trivial⟩
      case measure => simp [intOf]; omega
    · have hke : k = ln := by omega
      have hz : (catI (L.take k)).length = tot := by rw [List.take_of_length_le (by have := HLN.out; omega)]; exact HTOT.out
      rw [hz]
      subst hke
      clear hz
      go_wp2_with fail
      refine (iGrow _ _ hn).mono ?_
      rintro e w1 ⟨v1, rfl, hown, hB⟩
      have HOW := Lib.hid hown; have HBB := Lib.hid hB
      clear hown hB
      go_wp2_with fail
      obtain ⟨W0, rfl⟩ : ∃ W0 : World, W0 = wr := ⟨_, rfl⟩
      go_loopw [6, 27] (fun o i w2 => ∃ j : Nat, (j : Int) ≤ k ∧ i = .int .i64 j ∧ w2.ownsRow W0.heap.size 65 2 o (catI (L.take j)).length (itCs (catI (L.take j))) ∧ Fr (fun _ => False) W0 w2) (fun _ i _ => k - (intOf i).toNat)
      case atStart => exact ⟨0, by omega, rfl, HOW.out, HBB.out⟩
      case round =>
        obtain ⟨j, hj, rfl, hown2, hB2⟩ := hrel
        by_cases hjl : (j : Int) < k
        · obtain ⟨p, hp⟩ : ∃ p, L[j]? = some p := ⟨L[j]'(by have := HLN.out; omega), List.getElem?_eq_getElem _⟩
          obtain ⟨a', c', e, h1⟩ := HP.out
          have hc := (h1 j p hp).1
          have hil := (h1 j p hp).2
          obtain ⟨ba, bc, hbe⟩ := hil.sl
          have hil2 := hil.keep hB2 (fun _ _ _ e => e)
          injection e with e1 e2 e3
          cases e1
          have e3 := e3.symm
          subst e3
          rw [hbe] at hc hil2
          have hc2 := hB2.cell hc (fun e => e)
          have hrd := il_rd hil2
          have hT := catI_take hp
          have hLE1 := HLE.out (j + 1)
          rw [hT, List.length_append] at hLE1
          have hall : ∀ u ∈ itCs p.2, u.oneCell' = true := fun u hu => itCs_one hu
          have HALL := Lib.hid hall; have HT := Lib.hid hT; have HO2 := Lib.hid hown2; have HB2 := Lib.hid hB2
          obtain ⟨pl, hpl⟩ : ∃ n, p.2.length = n := ⟨_, rfl⟩
          obtain ⟨z, hz⟩ : ∃ z, (catI (L.take j)).length = z := ⟨_, rfl⟩
          have hBs := hB2.size
          rw [hpl] at hc2 hLE1 hrd
          rw [hz] at hLE1 HO2
          have HPL := Lib.hid hpl; have HZ := Lib.hid hz; have HRD := Lib.hid hrd
          clear hall hT hown2 hB2 h1 hp hc e2 hpl hz hbe hil hil2 hrd
          go_wp2_with (at_builtin; refine wpList_append_src rfl _ _ 27 rfl W0.heap.size 65 i0 _ 24 Tryz.underlying27 hi' hz0 hz1 hz2 rfl (by decide) _ z _ rfl HO2.out _ rfl HRD.out HALL.out (by unfold maxLen; omega) (by omega) hBs ?_; intro v' w5 hown' hgrow _)
          go_roundw
          case rel =>
            refine ⟨j + 1, by omega, by go_num, ?_, HB2.out.trans' (Fr.grown (S := fun b => W0.heap.size ≤ b) hgrow (fun r hr _ => (HO2.out.lt r hr).1)) (fun b hb e => by have e : W0.heap.size ≤ b := e; omega)⟩
            rw [HT.out, List.length_append, HZ.out, HPL.out, itCs_app]
            exact hown'
          case measure => simp [intOf]; omega
        · have hje : j = k := by omega
          subst hje
          rw [List.take_of_length_le (by have := HLN.out; omega), HTOT.out] at hown2
          go_wp2_with fail
          go_ret
          exact ⟨_, rfl, hown2, hB2⟩
end Go.Proofs.YtogphlnakdnchaaGreat

namespace Go.Proofs.YtogphlnakdnchaaGreat
open Go.RowKit Go.Maps Go.Sort Go.Shelf Go.Proofs
theorem sortsN (m : Nat) : AnyZ.SortsIn Tryz.prog Tryz.laysSortedN_ren Fence.wide m :=
  ⟨fun blk off cap ss W hH hblk hsz => callsIn_wide.2 (AnyM.slices_Sort_string Tryz.laysSortN blk off cap ss W hH hblk hsz),
   fun p cap W => callsIn_wide.2 (AnyM.slices_Sort_string_none Tryz.laysSortN p cap W)⟩
/-- A map's keys as an iterator, and its sorted row: both contracts, at a map of strings. -/
theorem keysSortedN {ν : Type} (w : World) (b : Nat) (enc : ν → Value) (l : List (Str × ν)) (h : Mp Tryz.prog w 9 ktS enc b l) (hl : (l.length : Int) ≤ 1099511627776) :
    CallsIn Fence.wide 5 Tryz.prog 104 #[.map (some b)] w (fun e w' => e = .returned (.func (.func 123) #[] #[.pointer (some ⟨w.heap.size, 0, none⟩)]) ∧ w' = w.alloc (.cells #[.map (some b)] 90)) ∧
    CallsIn Fence.wide 5 Tryz.prog 97 #[.func (.func 123) #[] #[.pointer (some ⟨w.heap.size, 0, none⟩)]] (w.alloc (.cells #[.map (some b)] 90)) (fun e w' => ∃ v, e = .returned v ∧ w'.ownsRow w.heap.size 9 1 v l.length (l.map fun p => vS p.1) ∧ Below w.heap.size w w') := by
  obtain ⟨nn, hown⟩ := id h
  have hord := riseS_of (h.ok (koS Tryz.underlying9)).2
  have hsz : Maps.size (ktS.dat enc l) = l.length := dat_size ktS enc l
  have hk : strKeys (ktS.dat enc l) = l.map (·.1) := strKeys_dat enc l
  have hsort : ∀ ss : List Str, ss.Perm (l.map (·.1)) → ss.mergeSort (fun x y => decide (x ≤ y)) = l.map (·.1) := fun ss hp => strs_sorted hord hp
  have hbl := hown.lt
  have hseq : SeqGives Fence.wide 2 Tryz.prog 123 #[.pointer (some ⟨w.heap.size, 0, none⟩)] encStr (fun ss => ss.Perm (strKeys (ktS.dat enc l))) (Maps.size (ktS.dat enc l)) (w.alloc (.cells #[.map (some b)] 90)) :=
    AnyZ.keys_gives (ρ := Tryz.laysKeysN_ren) { Tryz.laysKeysN with } Fence.wide _ trivial rfl (by omega) w.heap.size b nn _ _ (by simp) (by simp) (by
      obtain ⟨es, clock, hb, Ft, hs, hD⟩ := hown
      exact ⟨es, clock, (Below.heap_alloc _ _ b hbl).trans hb, Ft, hs, hD⟩)
  refine ⟨AnyZ.keys_in Tryz.laysKeysN Fence.wide 5 trivial rfl (some b) w, ?_⟩
  have cS := AnyZ.sorted_in Tryz.laysSortedN Fence.wide 5 trivial trivial trivial trivial rfl (by omega) (sortsN _) (enters_of Tryz.func120 (by kernel_rfl) rfl) 123 #[.pointer (some ⟨w.heap.size, 0, none⟩)] trivial (enters_of Tryz.func123 (by kernel_rfl) rfl) _ _ (by rw [hsz]; unfold maxLen; omega) (by rw [hsz]; omega) _ hseq
  change CallsIn _ _ Tryz.prog 97 _ _ _ at cS
  refine cS.mono ?_
  rintro e w' ⟨v, ss, rfl, hS, hrow, hnil, hb⟩
  rw [hk] at hS
  rw [hsort ss hS] at hrow
  have hlen : ss.length = l.length := by rw [hS.length_eq]; simp
  rw [hlen, List.map_map] at hrow
  exact ⟨v, rfl, ownsRow_base_a hrow (by simp), ((Below.refl _ w).alloc (Nat.le_refl _) _).trans (hb.mono (by simp))⟩
end Go.Proofs.YtogphlnakdnchaaGreat

namespace Go.Proofs.YtogphlnakdnchaaGreat
open Go.RowKit Go.Maps
theorem il_okm' {w : World} {v : Value} {L : Its} (h : Il w v L) {p : Str × Int} (hp : p ∈ L) : okS p.1 ∧ okI p.2 := by
  obtain ⟨i, hi⟩ := List.getElem?_of_mem hp
  obtain ⟨_, _, _, _, hx⟩ := h
  exact ⟨(hx i p hi).1, (hx i p hi).2.1⟩
theorem cell_two' (w : World) (x y : Value) (t : TypeId) : ∀ j u, [x, y][j]? = some u → (w.alloc (.cells #[x, y] t)).cell? ((⟨w.heap.size, 0, none⟩ : Addr).add j) = some u := by
  intro j u h
  have h0 : (w.alloc (.cells #[x, y] t)).heap[w.heap.size]? = some (.cells #[x, y] t) := heap_at rfl _
  match j, h with
  | 0, h => cases h; exact cell_obj h0 0 _ rfl
  | 1, h => cases h; exact cell_obj h0 1 _ rfl
theorem posF_take {m : Its} {k : Nat} {p : Str × Int} (h : m[k]? = some p) : posF (m.take (k + 1)) = posF (m.take k) ++ (if 0 < p.2 then [p] else []) := by
  unfold posF
  rw [List.take_add_one, h, List.filter_append]
  congr 1
  by_cases e : 0 < p.2
  · rw [if_pos e]; simp [e]
  · rw [if_neg e]; simp [e]
theorem posF_le (m : Its) (k : Nat) : (posF (m.take k)).length ≤ k := by
  unfold posF
  refine Nat.le_trans (List.length_filter_le _ _) ?_
  rw [List.length_take]; omega
set_option maxRecDepth 100000 in
set_option maxHeartbeats 8000000 in
theorem iNorm (w : World) (v : Value) (L : Its) (h : Il w v L) (hl : L.length ≤ 100000) : Calls Tryz.prog 70 #[v] w fun e w' => ∃ v', e = .returned (.tuple #[v', .int .i64 (normF L).2]) ∧ w'.ownsRow w.heap.size 65 2 v' (normF L).1.length (itCs (normF L).1) ∧ Fr (fun _ => False) w w' := by
  obtain ⟨i0, hi', hz0, hz1, hz2⟩ := info_parts infoItem
  obtain ⟨n0, hn0⟩ : ∃ n0, w.heap.size = n0 := ⟨_, rfl⟩
  have HN0 := Lib.hid hn0
  have hS := iSums w v L h
  obtain ⟨⟨E, m⟩, hR⟩ : ∃ R, sumsF L = R := ⟨_, rfl⟩
  have hnf : normF L = if E = 0 then (if 16 < (posF m).length then ([], 3) else (posF m, 0)) else ([], E) := by unfold normF; rw [hR]
  obtain ⟨NF, hNF⟩ : ∃ R, normF L = R := ⟨_, rfl⟩
  rw [hNF] at hnf ⊢
  have HNF := Lib.hid hnf
  rw [hR] at hS
  obtain ⟨a, c, rfl⟩ := h.sl
  by_cases hE : E = 0
  · subst hE
    rw [if_pos rfl] at hnf
    have HNF2 := Lib.hid hnf
    have hso := sumsF_ok hR
    have hml : m.length ≤ 100000 := by
      have h1 : sumsM L = some m := by
        unfold sumsF at hR
        split at hR
        · cases hR
        · split at hR
          · rename_i m' hm
            injection hR with _ hR
            rw [hm, hR]
          · cases hR
      have h2 := sumsM_len L [] m h1
      simp only [List.length_nil] at h2
      omega
    have hrow : Hid (∀ p ∈ m, okS p.1 ∧ okI p.2) := Lib.hid (fun p hp => by
      have h1 := hso.row p hp
      have h2 := h1.1
      unfold goodB at h2
      simp only [Bool.and_eq_true, decide_eq_true_eq] at h2
      exact ⟨by unfold okS maxLen; omega, by unfold okI; omega⟩)
    have hnd := Lib.hid hso.nd
    have hS2 : Calls Tryz.prog 103 #[.slice a L.length c] w fun e w' => e = .returned (.tuple #[.map (some (n0 + 2)), .int .i64 0]) ∧ Mp Tryz.prog w' 9 ktS encN (n0 + 2) m ∧ Fr (fun _ => False) w w' := by
      refine hS.mono ?_
      rintro e w' ⟨mv, rfl, -, h2, h3⟩
      obtain ⟨rfl, h4⟩ := h2 rfl
      rw [hn0] at h4 ⊢
      exact ⟨rfl, h4, h3⟩
    have HS2 := Lib.hid hS2
    obtain ⟨N, hN⟩ : ∃ N, m.length = N := ⟨_, rfl⟩
    have HN := Lib.hid hN
    have hkeys : Hid (∀ W, Mp Tryz.prog W 9 ktS encN (n0 + 2) m → _ ∧ _) := Lib.hid (fun W hm => (⟨callsIn_wide.1 (keysSortedN W (n0 + 2) encN m hm (by omega)).1, callsIn_wide.1 (keysSortedN W (n0 + 2) encN m hm (by omega)).2⟩))
    clear h hS hnf hR hso hS2 hNF
    rw [hN] at hml
    clear hN
    go_enter Tryz.func70, Tryz.ntmps70
    go_wp2_with (first
      | (go_at_call 103; refine HS2.out.mono ?_; rintro e w1 ⟨rfl, hm1, hf1⟩; have HM1 := Lib.hid hm1; have HF1 := Lib.hid hf1; have hK := hkeys.out w1 hm1; have HK1 := Lib.hid hK.1; have HK2 := Lib.hid hK.2; clear hm1 hf1 hK)
      | (go_at_call 104; refine HK1.out.mono ?_; rintro e w2 ⟨rfl, rfl⟩)
      | (go_at_call 97; refine HK2.out.mono ?_; rintro e w3 ⟨v3, rfl, ho3, hb3⟩; rw [HN.out] at ho3; obtain ⟨ra, rc, rfl⟩ := row_slice ho3; have HO3 := Lib.hid ho3; have HB3 := Lib.hid hb3; clear ho3 hb3))
    have hf3 : Fr (fun _ => False) w w3 := HF1.out.trans' (Fr.below (S := fun _ => False) HB3.out) (fun _ _ e => e)
    have hm3 := (Fr.below (S := fun _ => False) HB3.out).mp HM1.out (fun e => e)
    have HF3 := Lib.hid hf3; have HM3 := Lib.hid hm3
    clear hf3 hm3
    have hNl : Hid (m.length = N) := HN
    go_loopw [6, 22] (fun o i wr => ∃ k : Nat, k ≤ N ∧ i = .int .i64 k ∧ wr.ownsRow w3.heap.size 65 2 o (posF (m.take k)).length (itCs (posF (m.take k))) ∧ Fr (fun _ => False) w3 wr) (fun _ i _ => N - (intOf i).toNat)
    case atStart => exact ⟨0, Nat.zero_le _, rfl, World.ownsRow_nil _ _ _ _, Fr.refl _ _⟩
    case round =>
      obtain ⟨k, hk, rfl, ho, hfr⟩ := hrel
      have hple := posF_le m k
      obtain ⟨g1, hg1⟩ : ∃ x, posF (m.take k) = x := ⟨_, rfl⟩
      rw [hg1] at ho hple
      have HO := Lib.hid ho; have HFR := Lib.hid hfr; have HG1 := Lib.hid hg1
      obtain ⟨oa, oc, rfl⟩ := row_slice ho
      clear ho hg1
      by_cases hlt : k < N
      · obtain ⟨p, hp⟩ : ∃ p, m[k]? = some p := ⟨m[k]'(by rw [HN.out]; exact hlt), List.getElem?_eq_getElem _⟩
        obtain ⟨g', rfl, hg1, hg2⟩ := row_addr HO3.out (by omega)
        have hcx : wr.cell? ⟨g', k, none⟩ = some (vS p.1) := by
          have := (hfr.row HO3.out (fun b _ e => e)).cellAt (g := g') (j := k) (by omega)
          rw [this]; simp [hp]
        have hok := hrow.out p (List.mem_of_getElem? hp)
        have hlk := lookN (hfr.mp HM3.out (fun e => e)) hok.1
        have hget : getS m p.1 = some p.2 := getK_of hnd.out (x := p.1) (v := p.2) (List.mem_of_getElem? hp)
        rw [hget] at hlk
        have HT := Lib.hid (posF_take hp)
        rw [HG1.out] at HT
        have hlI : (k : Int) < N := by omega
        have HOK := Lib.hid hok
        have hws := hfr.size
        obtain ⟨gd, n⟩ := p
        dsimp only [Option.getD] at hcx hlk HT
        clear hp hok hget hg1 hg2
        by_cases hn : 0 < n
        · go_wp2_with (at_builtin; refine wpList_append_own_at _ rfl _ _ 27 rfl w3.heap.size 65 i0 (.agg #[.string ⟨#[]⟩, .int .i64 0]) 2 24 Tryz.underlying27 hi' hz0 hz1 hz2 rfl (by decide) _ _ _ rfl (((Fr.refl (fun _ => False) _).alloc _).row HO.out (fun _ _ e => e)) ⟨wr.heap.size, 0, none⟩ 1 1 [vS gd, .int .i64 n] rfl rfl (cell_two' _ _ _ _) (by intro u hu; simp only [List.mem_cons, List.not_mem_nil, or_false] at hu; rcases hu with rfl | rfl <;> rfl) (by unfold maxLen; omega) (by omega) (by simp; omega) ?_; intro v' w5 hown' hgrow _ hat; obtain ⟨na, nc, rfl⟩ := row_slice hown'; have HOWN := Lib.hid hown'; have HGR := Lib.hid hgrow; clear hown' hgrow hat)
          go_roundw
          case rel =>
            refine ⟨k + 1, by omega, by go_num, ?_, ?_⟩
            · rw [HT.out, if_pos hn, List.length_append, itCs_app]
              exact HOWN.out
            · exact (HFR.out.alloc _).trans' (Fr.grown (S := fun b => w3.heap.size ≤ b) HGR.out (fun r hr _ => (HO.out.lt r hr).1)) (fun b hb e => by have e : w3.heap.size ≤ b := e; omega)
          case measure => simp [intOf]; omega
        · go_wp2_with fail
          go_roundw
          case rel =>
            refine ⟨k + 1, by omega, by go_num, ?_, HFR.out⟩
            rw [HT.out, if_neg hn, List.append_nil]
            exact HO.out
          case measure => simp [intOf]; omega
      · obtain rfl : k = N := by omega
        have hpm : Hid (g1 = posF m) := Lib.hid (by rw [← HG1.out, List.take_of_length_le (by have := HN.out; omega)])
        have hlI : ¬ (k : Int) < k := by omega
        obtain ⟨M, hM⟩ : ∃ M, List.length g1 = M := ⟨_, rfl⟩
        have HMM := Lib.hid hM
        rw [hM]
        have hfin : Hid (Fr (fun _ => False) w wr) := Lib.hid (HF3.out.trans HFR.out)
        have hsz := HF3.out.size
        have HSZ := Lib.hid hsz
        clear hfr hM hple hsz
        by_cases h16 : 16 < M
        · have hI : (16 : Int) < M := by omega
          go_wp2_with fail
          go_ret2
          have e : NF = ([], 3) := by rw [HNF2.out, ← hpm.out, if_pos (by rw [HMM.out]; exact h16)]
          rw [e]
          exact ⟨_, rfl, World.ownsRow_nil _ _ _ _, hfin.out⟩
        · have hI : ¬ (16 : Int) < M := by omega
          go_wp2_with fail
          go_ret2
          have e : NF = (g1, 0) := by rw [HNF2.out, ← hpm.out, if_neg (by rw [HMM.out]; exact h16)]
          rw [e]
          refine ⟨_, rfl, ?_, hfin.out⟩
          have := HO.out
          have hsz := HSZ.out
          rw [HMM.out] at this ⊢
          have hn := HN0.out
          exact own_base this (by omega)
  · rw [if_neg hE] at hnf
    have hS2 : Calls Tryz.prog 103 #[.slice a L.length c] w fun e w' => e = .returned (.tuple #[.map none, .int .i64 E]) ∧ Fr (fun _ => False) w w' := by
      refine hS.mono ?_
      rintro e w' ⟨mv, rfl, h1, -, h3⟩
      obtain rfl := h1 hE
      exact ⟨rfl, h3⟩
    have HS2 := Lib.hid hS2
    have hE2 : (E != 0) = true := by simpa using hE
    clear h hS hR hS2 hNF hE
    go_enter Tryz.func70, Tryz.ntmps70
    go_wp2_with (go_at_call 103; refine HS2.out.mono ?_; rintro e w1 ⟨rfl, hf1⟩; have HF1 := Lib.hid hf1; clear hf1)
    go_ret2
    rw [hnf]
    exact ⟨_, rfl, World.ownsRow_nil _ _ _ _, HF1.out⟩
end Go.Proofs.YtogphlnakdnchaaGreat

