/- backoff's reference: Drop, Set; slices of timers -/
import Derived.Test.YtjkhheolklnmaaaBackI
namespace Go.Proofs.Ytjkhheolklnmaaa
open Go.RowKit Go.Maps
def enc2 (X : List KV) : List Value := X.flatMap fun p => [.int .i64 p.1, .int .i64 p.2]
theorem enc2_len (X : List KV) : (enc2 X).length = X.length * 2 := by
  induction X with
  | nil => rfl
  | cons p r ih => simp only [enc2, List.flatMap_cons, List.length_append] at *; rw [ih]; simp; omega
theorem enc2_snoc (X : List KV) (p : KV) : enc2 (X ++ [p]) = enc2 X ++ [.int .i64 p.1, .int .i64 p.2] := by simp [enc2]
theorem enc2_at {X : List KV} {i : Nat} {p : KV} (h : X[i]? = some p) : (enc2 X)[i * 2]? = some (.int .i64 p.1) ∧ (enc2 X)[i * 2 + 1]? = some (.int .i64 p.2) := by
  induction X generalizing i with
  | nil => simp at h
  | cons q r ih =>
    cases i with
    | zero =>
      have : q = p := by simpa using h
      subst this
      simp [enc2]
    | succ i =>
      have h2 := ih (i := i) (by simpa using h)
      have e : enc2 (q :: r) = .int .i64 q.1 :: .int .i64 q.2 :: enc2 r := rfl
      rw [e]
      have a1 : (i + 1) * 2 = i * 2 + 1 + 1 := by omega
      rw [a1]
      simpa using h2
/-- A slice of timers, X, in blocks from lo on. -/
def TSl (w : World) (lo : Nat) (v : Value) (X : List KV) : Prop := ∃ (a : Option Addr) (c : Nat), v = .slice a X.length c ∧ X.length ≤ c ∧ c ≤ maxLen ∧
  ∀ (i : Nat) (p : KV), X[i]? = some p → ∃ ad, a = some ad ∧ lo ≤ ad.block ∧ w.cell? (ad.add (i * 2)) = some (.int .i64 p.1) ∧ w.cell? ⟨(ad.add (i * 2)).block, (ad.add (i * 2)).off + 1, none⟩ = some (.int .i64 p.2)
theorem TSl.nil (w : World) (lo : Nat) : TSl w lo (.slice none 0 0) [] := ⟨none, 0, rfl, Nat.zero_le _, Nat.zero_le _, fun i p h => by simp at h⟩
theorem addZero (g j : Nat) : (⟨g, 0, none⟩ : Addr).add j = ⟨g, j, none⟩ := by unfold Addr.add; split <;> simp_all
theorem add_blk (a : Addr) (n : Nat) : (a.add n).block = a.block := by unfold Addr.add; split <;> rfl
theorem TSl.of {w : World} {base lo : Nat} {t : TypeId} {v : Value} {X : List KV} (h : w.ownsRow base t 2 v X.length (enc2 X)) (hb : lo ≤ base) : TSl w lo v X := by
  rcases Nat.eq_zero_or_pos X.length with h0 | h0
  · have : X = [] := List.eq_nil_of_length_eq_zero h0
    subst this
    rcases h.2 with ⟨rfl, _⟩ | ⟨g', cap, cur, rfl, _, _, h1, h2, _⟩
    · exact TSl.nil _ _
    · exact ⟨_, _, rfl, h1, h2, fun i p h => by simp at h⟩
  · rcases h.2 with ⟨_, hz⟩ | ⟨g', cap, cur, rfl, hg, hblk, h1, h2, hcs, htake⟩
    · omega
    · refine ⟨_, _, rfl, h1, h2, fun i p hp => ⟨_, rfl, Nat.le_trans hb hg, ?_⟩⟩
      have hi := (List.getElem?_eq_some_iff.1 hp).1
      obtain ⟨e1, e2⟩ := enc2_at hp
      have c1 := h.cellAt (g := g') (j := i * 2) (by omega)
      have c2 := h.cellAt (g := g') (j := i * 2 + 1) (by omega)
      rw [addZero]
      exact ⟨by rw [c1, e1], by rw [c2, e2]⟩
theorem TSl.fr {S : Nat → Prop} {w w' : World} {lo : Nat} {v : Value} {X : List KV} (h : TSl w lo v X) (hf : Fr S w w') (hS : ∀ b, lo ≤ b → ¬ S b) : TSl w' lo v X := by
  obtain ⟨a, c, e, h1, h2, h3⟩ := h
  refine ⟨a, c, e, h1, h2, fun i p hp => ?_⟩
  obtain ⟨ad, e, hl, c1, c2⟩ := h3 i p hp
  exact ⟨ad, e, hl, hf.cell c1 (by rw [add_blk]; exact hS _ hl), hf.cell c2 (by show ¬ S (ad.add (i * 2)).block; rw [add_blk]; exact hS _ hl)⟩
theorem TSl.below {w w' : World} {lo : Nat} {v : Value} {X : List KV} (h : TSl w lo v X) (hb : Below w.heap.size w w') : TSl w' lo v X := h.fr (S := fun _ => False) (Fr.below hb) (fun _ _ h => h)
theorem infoTm : (Try.prog.info? 41).map (fun i => (i.zero, i.size, i.bytes)) = some (some (.agg #[.int .i64 0, .int .i64 0]), 2, 16) := by kernel_rfl
theorem cells_new (w : World) (t : TypeId) (cs : Array Value) : ∀ j u, cs.toList[j]? = some u → (w.alloc (.cells cs t)).cell? ((⟨w.heap.size, 0, none⟩ : Addr).add j) = some u := fun j u h => by
  rw [addZero]; exact cell_obj (heap_new w _) j u (by simpa using h)
theorem below_app {B : Nat} {w wr w1 : World} {o : Obj} {t : TypeId} {n : Nat} {sz : Nat} {v : Value} {xs : List Value} (hb : Below B w wr) (ho : wr.ownsRow B t sz v n xs) (hg : (wr.alloc o).grownBy w1 v.ownBlock) (hB : B ≤ w.heap.size := by omega) : Below B w w1 := by
  have := hb.size
  exact (hb.alloc (by omega) o).grown hg (by simp; omega) (fun b e => (ho.lt b e).1)
theorem delS_snoc {X : List KV} {k : Nat} {p : KV} {key : Int} (h : X[k]? = some p) : delS (X.take (k + 1)) key = delS (X.take k) key ++ (if p.1 = key then [] else [p]) := by
  rw [List.take_add_one, h]
  simp only [delS, List.filter_append, Option.toList_some]
  by_cases e : p.1 = key <;> simp [e]
theorem delS_length (X : List KV) (key : Int) : (delS X key).length ≤ X.length := List.length_filter_le _ _
set_option maxHeartbeats 1000000 in
theorem rDrop (w : World) (lo : Nat) (v : Value) (X : List KV) (key : Int) (h : TSl w lo v X) (hX : X.length ≤ 1000) :
    Calls Try.prog 20 #[v, .int .i64 key] w fun e w' => ∃ v', e = .returned v' ∧ w'.ownsRow w.heap.size 41 2 v' (delS X key).length (enc2 (delS X key)) ∧ Below w.heap.size w w' := by
  obtain ⟨i0, hi', hz0, hz1, hz2⟩ := info_parts infoTm
  obtain ⟨a, c, rfl, -⟩ := id h
  have H := Lib.hid h
  obtain ⟨n, hn⟩ : ∃ n : Nat, X.length = n := ⟨_, rfl⟩
  rw [hn]
  have hn1 : (n : Int) ≤ 1000 := by omega
  have HN := Lib.hid hn
  clear h hn hX
  go_enter Try.func20, Try.ntmps20
  go_wp2
  go_loopw [5, 6] (fun v i wr => ∃ k : Nat, (k : Int) ≤ n ∧ i = .int .i64 k ∧ wr.ownsRow w.heap.size 41 2 v (delS (X.take k) key).length (enc2 (delS (X.take k) key)) ∧ Below w.heap.size w wr) (fun _ i _ => n - (intOf i).toNat)
  case atStart => exact ⟨0, by omega, rfl, World.ownsRow_nil _ _ _ _, Below.refl _ _⟩
  case round =>
    obtain ⟨k, hk, rfl, hown, hbl⟩ := hrel
    have HT := Lib.hid (H.out.below hbl)
    have HB := Lib.hid hbl
    have HO := Lib.hid hown
    clear hbl hown
    by_cases hkn : (k : Int) < n
    · obtain ⟨p, hp⟩ : ∃ p, X[k]? = some p := ⟨X[k]'(by have := HN.out; omega), List.getElem?_eq_getElem _⟩
      have HP := Lib.hid hp
      obtain ⟨ad, rfl, c1, c2⟩ : ∃ ad, a = some ad ∧ wr.cell? (ad.add (k * 2)) = some (.int .i64 p.1) ∧ wr.cell? ⟨(ad.add (k * 2)).block, (ad.add (k * 2)).off + 1, none⟩ = some (.int .i64 p.2) := by
        obtain ⟨a', c', e, -, -, h3⟩ := HT.out
        injection e with e1
        obtain ⟨ad, e2, _, c1, c2⟩ := h3 k p hp
        exact ⟨ad, e1.trans e2, c1, c2⟩
      clear hp
      have hst := Lib.hid (delS_snoc (key := key) HP.out)
      have hle : ((delS (X.take k) key).length : Int) ≤ 1000 := by have := delS_length (X.take k) key; have := List.length_take_le k X; omega
      generalize hL : delS (X.take k) key = L at *
      obtain ⟨ln, hln⟩ : ∃ ln : Nat, L.length = ln := ⟨_, rfl⟩
      rw [hln] at HO hle
      have HL := Lib.hid hL; have HLN := Lib.hid hln
      clear hL hln
      by_cases hne : p.1 = key
      · have hc1 : wr.cell? (ad.add (k * 2)) = some (.int .i64 key) := hne ▸ c1
        clear c1 c2
        go_wp2
        go_roundw
        case rel =>
          refine ⟨k + 1, by omega, by go_num, ?_, HB.out⟩
          rw [hst.out, if_pos hne, List.append_nil, HLN.out]; exact HO.out
        case measure => simp [intOf]; omega
      · obtain ⟨x1, x2⟩ := p
        go_wp2_with (at_builtin; refine wpList_append_own _ rfl _ _ 39 rfl w.heap.size 41 i0 (.agg #[.int .i64 0, .int .i64 0]) 2 16 Try.underlying39 hi' hz0 hz1 hz2 rfl (by decide) _ ln (enc2 L) rfl (HO.out.alloc _) ⟨wr.heap.size, 0, none⟩ 1 1 [.int .i64 x1, .int .i64 x2] rfl rfl (cells_new _ _ _) (by simp [Value.oneCell']) (by unfold maxLen; omega) (by omega) (by have := HB.out.size; simp; omega) ?_; intro v' w1 hown' hgrow hnil)
        go_roundw
        case rel =>
          refine ⟨k + 1, by omega, by go_num, ?_, below_app HB.out HO.out hgrow⟩
          rw [hst.out, if_neg hne, enc2_snoc, List.length_append, HLN.out]; exact hown'
        case measure => simp [intOf]; omega
    · have hkk : k = n := by omega
      subst hkk
      go_wp2
      go_ret
      refine ⟨_, rfl, ?_, HB.out⟩
      have hO := HO.out
      rwa [← HN.out, List.take_length] at hO
end Go.Proofs.Ytjkhheolklnmaaa
