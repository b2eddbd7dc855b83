/- Texts of this claim, joined: slices.SortStableFunc on []api.Place: a row of the caller's, its elements named; swapRange, rotate; slices.DeleteFunc at api.Place, under Route's closure (printed by wip/tools/dfx.py); bins: spread: plain, and what its loop keeps; Plain: sums of goods; what a bin can take; A region that draws its order: all its operations but the last only read (its calls may draw), and the last one (a store) waits for all: one walk in the text's order serves; A region that draws its order, whose operations only read, but for boxes of its own (each laid, and stored once): one walk in the text's order serves; A struct stored into a box of the region's own; bins: compare; bins: the closures of Put and Take. -/
import Derived.Test.YtlniekobijcanaaGreatBinsUnpacksM1
import Derived.Test.YtlniekobijcanaaGreatBinsUnpacksM4
import Derived.Test.YtlniekobijcanaaGreatBinsUnpacksM2
import Derived.BigRegion
import Derived.RegionTactic
import Derived.OwnWalk
import Derived.Test.YtlniekobijcanaaGreatBinsUnpacksM3
import Derived.Deep.QuietTactic
import Derived.BigQuiet
import Derived.StillTail
import Derived.Deep.MidRow
import Derived.Deep.RegionHeld3
import Derived.Deep.CutBlock
import Derived.Deep.DeepCutAuto
namespace Go.Proofs.YtlniekobijcanaaGreat
open Go.RowKit
/-- A place: its bin, its good, how many. -/
structure PV where
  b : Int
  g : Str
  n : Int
abbrev PV.cs (p : PV) : List Value := [.int .i64 p.b, vS p.g, .int .i64 p.n]
/-- An element: what is compared, where it stood. -/
abbrev EP := PV × Nat
def flP (xs : List EP) : List Value := xs.flatMap fun p => p.1.cs
theorem flP_app (xs ys : List EP) : flP (xs ++ ys) = flP xs ++ flP ys := by simp [flP]
theorem flP_len (xs : List EP) : (flP xs).length = xs.length * 3 := by
  induction xs with
  | nil => rfl
  | cons x r ih => simp [flP] at ih ⊢; omega
/-- Block b begins with these. -/
def RwP (W : World) (b : Nat) (xs : List EP) : Prop := ∃ rest : List Value, W.heap[b]? = some (.cells (flP xs ++ rest).toArray 55)
theorem RwP.cells {W : World} {b : Nat} {xs : List EP} (h : RwP W b xs) {i : Nat} {p : EP} (hp : xs[i]? = some p) : W.cell? ⟨b, i * 3, none⟩ = some (.int .i64 p.1.b) ∧ W.cell? ⟨b, i * 3 + 1, none⟩ = some (vS p.1.g) ∧ W.cell? ⟨b, i * 3 + 2, none⟩ = some (.int .i64 p.1.n) := by
  obtain ⟨rest, h⟩ := h
  have hi := (List.getElem?_eq_some_iff.1 hp).1
  have e : xs = xs.take i ++ p :: xs.drop (i + 1) := by
    rw [← (List.getElem?_eq_some_iff.1 hp).2, ← List.drop_eq_getElem_cons hi, List.take_append_drop]
  have hl : (flP (xs.take i)).length = i * 3 := by rw [flP_len]; simp; omega
  have key : ∀ k, k < 3 → (flP xs ++ rest)[i * 3 + k]? = p.1.cs[k]? := fun k hk => by
    rw [e, flP_app, List.append_assoc, List.getElem?_append_right (by rw [hl]; omega), hl, show i * 3 + k - i * 3 = k by omega]
    show (p.1.cs ++ flP (xs.drop (i + 1)) ++ rest)[k]? = _
    rw [List.append_assoc, List.getElem?_append_left (by simp; omega)]
  exact ⟨cell_obj h _ _ (by rw [List.getElem?_toArray]; exact key 0 (by omega)), cell_obj h _ _ (by rw [List.getElem?_toArray]; exact key 1 (by omega)), cell_obj h _ _ (by rw [List.getElem?_toArray]; exact key 2 (by omega))⟩
theorem RwP.frz {W : World} {b : Nat} {xs : List EP} (h : RwP W b xs) (i : Nat) : W.frozen? ⟨b, i, none⟩ = false := by
  obtain ⟨rest, h⟩ := h
  exact obj_frozen h i
/-- Three stores: an element is set. -/
abbrev set3 (W : World) (b i : Nat) (p : PV) : World := ((W.setCell ⟨b, i * 3, none⟩ (.int .i64 p.b)).setCell ⟨b, i * 3 + 1, none⟩ (vS p.g)).setCell ⟨b, i * 3 + 2, none⟩ (.int .i64 p.n)
theorem RwP.set {W : World} {b : Nat} {A B : List EP} {x p : EP} (h : RwP W b (A ++ x :: B)) : RwP (set3 W b A.length p.1) b (A ++ p :: B) := by
  obtain ⟨rest, h⟩ := h
  refine ⟨rest, ?_⟩
  have hl := flP_len A
  have e1 : flP (A ++ x :: B) ++ rest = flP A ++ (.int .i64 x.1.b :: vS x.1.g :: .int .i64 x.1.n :: (flP B ++ rest)) := by simp [flP]
  have e2 : flP (A ++ p :: B) ++ rest = flP A ++ (.int .i64 p.1.b :: vS p.1.g :: .int .i64 p.1.n :: (flP B ++ rest)) := by simp [flP]
  rw [e1] at h
  rw [e2]
  rw [obj_set (obj_set (obj_set h (A.length * 3) _) (A.length * 3 + 1) _) (A.length * 3 + 2) _]
  congr 2
  rw [List.setIfInBounds_toArray, List.setIfInBounds_toArray, List.setIfInBounds_toArray]
  congr 1
  rw [List.set_append_right _ _ (by omega), List.set_append_right _ _ (by omega), List.set_append_right _ _ (by omega), hl]
  rw [show A.length * 3 - A.length * 3 = 0 by omega, show A.length * 3 + 1 - A.length * 3 = 1 by omega, show A.length * 3 + 2 - A.length * 3 = 2 by omega]
  rfl
theorem RwP.fr {S : Nat → Prop} {W W' : World} {b : Nat} {xs : List EP} (h : RwP W b xs) (hf : Fr S W W') (hS : ¬ S b) : RwP W' b xs := by
  obtain ⟨rest, h⟩ := h
  exact ⟨rest, hf.at_ h hS⟩
theorem RwP.swap {W : World} {b : Nat} {A B C : List EP} {x y : EP} (h : RwP W b (A ++ x :: (B ++ y :: C))) {i j : Nat} (hi : i = A.length) (hj : j = A.length + 1 + B.length) :
    RwP (set3 (set3 W b i y.1) b j x.1) b (A ++ y :: (B ++ x :: C)) := by
  subst hi
  have h1 := h.set (p := y)
  have h2 : RwP (set3 W b A.length y.1) b ((A ++ y :: B) ++ y :: C) := by simpa using h1
  have h3 := h2.set (p := x)
  have e : (A ++ y :: B).length = j := by rw [hj]; simp; omega
  rw [e] at h3
  simpa using h3
theorem RwP.swap' {W : World} {b : Nat} {A B C : List EP} {x y : EP} (h : RwP W b (A ++ x :: (B ++ y :: C))) {i j : Nat} (hi : i = A.length) (hj : j = A.length + 1 + B.length) :
    RwP (set3 (set3 W b j x.1) b i y.1) b (A ++ y :: (B ++ x :: C)) := by
  subst hi
  have h2 : RwP W b ((A ++ x :: B) ++ y :: C) := by simpa using h
  have h3 := h2.set (p := x)
  have e : (A ++ x :: B).length = j := by rw [hj]; simp; omega
  rw [e] at h3
  have h4 : RwP (set3 W b j x.1) b (A ++ x :: (B ++ x :: C)) := by simpa using h3
  exact h4.set (p := y)
theorem at_leftP {A B : List EP} {x : EP} : (A ++ x :: B)[A.length]? = some x := by
  rw [List.getElem?_append_right (Nat.le_refl _), Nat.sub_self]; rfl
theorem at_rightP {A B C : List EP} {x y : EP} : (A ++ x :: (B ++ y :: C))[A.length + 1 + B.length]? = some y := by
  rw [List.getElem?_append_right (by omega)]
  have e2 : A.length + 1 + B.length - A.length = B.length + 1 := by omega
  rw [e2, List.getElem?_cons_succ]
  exact at_leftP
theorem fr_set3 {w W : World} {b i : Nat} {p : PV} (h : Fr (fun c => c = b) w W) : Fr (fun c => c = b) w (set3 W b i p) :=
  ((h.setCell (p := ⟨b, i * 3, none⟩) (fun _ => rfl) _).setCell (p := ⟨b, i * 3 + 1, none⟩) (fun _ => rfl) _).setCell (p := ⟨b, i * 3 + 2, none⟩) (fun _ => rfl) _
theorem cell_ne {W : World} {b i j : Nat} {u v : Value} (h : W.cell? ⟨b, j, none⟩ = some v) (hne : i ≠ j) : (W.setCell ⟨b, i, none⟩ u).cell? ⟨b, j, none⟩ = some v := by
  exact (World.cell?_setCell_other W u (a := ⟨b, i, none⟩) (b := ⟨b, j, none⟩) (fun e => hne (by injection e))).trans h
theorem RwP.after {W : World} {b : Nat} {xs : List EP} (h : RwP W b xs) {i j : Nat} (hne : i ≠ j) {p : PV} {v0 v1 v2 : Value} (c0 : W.cell? ⟨b, j * 3, none⟩ = some v0) (c1 : W.cell? ⟨b, j * 3 + 1, none⟩ = some v1) (c2 : W.cell? ⟨b, j * 3 + 2, none⟩ = some v2) :
    ((W.frozen? ⟨b, i * 3, none⟩ = false ∧ W.frozen? ⟨b, i * 3 + 1, none⟩ = false ∧ W.frozen? ⟨b, i * 3 + 2, none⟩ = false ∧ W.frozen? ⟨b, j * 3, none⟩ = false ∧ W.frozen? ⟨b, j * 3 + 1, none⟩ = false ∧ W.frozen? ⟨b, j * 3 + 2, none⟩ = false) ∧
    (set3 W b i p).cell? ⟨b, j * 3, none⟩ = some v0 ∧ (set3 W b i p).cell? ⟨b, j * 3 + 1, none⟩ = some v1 ∧ (set3 W b i p).cell? ⟨b, j * 3 + 2, none⟩ = some v2) :=
  ⟨⟨h.frz _, h.frz _, h.frz _, h.frz _, h.frz _, h.frz _⟩, cell_ne (cell_ne (cell_ne c0 (by omega)) (by omega)) (by omega), cell_ne (cell_ne (cell_ne c1 (by omega)) (by omega)) (by omega), cell_ne (cell_ne (cell_ne c2 (by omega)) (by omega)) (by omega)⟩
/-- A range is changed with another, i done. -/
theorem swp_stepP {P U M V S : List EP} {i : Nat} {x y : EP} (hx : U[i]? = some x) (hy : V[i]? = some y) :
    P ++ (V.take i ++ (U.drop i ++ (M ++ (U.take i ++ (V.drop i ++ S))))) = (P ++ V.take i) ++ x :: ((U.drop (i + 1) ++ (M ++ U.take i)) ++ y :: (V.drop (i + 1) ++ S)) ∧
    P ++ (V.take (i + 1) ++ (U.drop (i + 1) ++ (M ++ (U.take (i + 1) ++ (V.drop (i + 1) ++ S))))) = (P ++ V.take i) ++ y :: ((U.drop (i + 1) ++ (M ++ U.take i)) ++ x :: (V.drop (i + 1) ++ S)) := by
  have eu : U.drop i = x :: U.drop (i + 1) := by
    rw [List.drop_eq_getElem_cons (List.getElem?_eq_some_iff.1 hx).1, (List.getElem?_eq_some_iff.1 hx).2]
  have ev : V.drop i = y :: V.drop (i + 1) := by
    rw [List.drop_eq_getElem_cons (List.getElem?_eq_some_iff.1 hy).1, (List.getElem?_eq_some_iff.1 hy).2]
  constructor
  · rw [eu, ev]; simp
  · rw [List.take_add_one, List.take_add_one, hx, hy]; simp
set_option maxRecDepth 100000 in
set_option maxHeartbeats 4000000 in
theorem swapP (w : World) (b n cap pa pb k : Nat) (fv : Value) (P U M V S : List EP) (h : RwP w b (P ++ (U ++ (M ++ (V ++ S))))) (hn : n = (P ++ (U ++ (M ++ (V ++ S)))).length) (hm : n ≤ 1000000000000) (ha : pa = P.length) (hb : pb = pa + U.length + M.length) (hk : k = U.length) (hv : V.length = k) :
    Calls Tryz.prog 149 #[.slice (some ⟨b, 0, none⟩) n cap, .int .i64 pa, .int .i64 pb, .int .i64 k, fv] w fun e w' => e = .returned (.tuple #[]) ∧ RwP w' b (P ++ (V ++ (M ++ (U ++ S)))) ∧ Fr (fun c => c = b) w w' := by
  have hlen : n = pa + k + M.length + k + S.length := by simp at hn; omega
  have HN := Lib.hid hlen; have H0 := Lib.hid h
  have HA := Lib.hid ha; have HB := Lib.hid hb; have HK := Lib.hid hk; have HV := Lib.hid hv
  have i1 : (n : Int) ≤ 1000000000000 := by omega
  have i2 : (pa : Int) + k ≤ n := by omega
  have i3 : (pb : Int) + k ≤ n := by omega
  clear h hn hm ha hb hk hv hlen
  go_enter Tryz.func149, Tryz.ntmps149
  go_wp2_with fail
  go_loopw [10] (fun v wr => ∃ i : Nat, i ≤ k ∧ v = .int .i64 i ∧ RwP wr b (P ++ (V.take i ++ (U.drop i ++ (M ++ (U.take i ++ (V.drop i ++ S)))))) ∧ Fr (fun c => c = b) w wr) (fun v _ => k - (intOf v).toNat)
  case atStart => exact ⟨0, Nat.zero_le _, rfl, by simpa using H0.out, Fr.refl _ _⟩
  case round =>
    obtain ⟨i, hi, rfl, hr, hf⟩ := hrel
    by_cases hlt : i < k
    · obtain ⟨x, hx⟩ : ∃ x, U[i]? = some x := ⟨U[i]'(by have := HK.out; omega), List.getElem?_eq_getElem _⟩
      obtain ⟨y, hy⟩ : ∃ y, V[i]? = some y := ⟨V[i]'(by have := HV.out; omega), List.getElem?_eq_getElem _⟩
      obtain ⟨s1, s2⟩ := swp_stepP (P := P) (M := M) (S := S) hx hy
      rw [s1] at hr
      have e1 : pa + i = (P ++ V.take i).length := by have := HA.out; have := HV.out; simp; omega
      have e2 : pb + i = (P ++ V.take i).length + 1 + (U.drop (i + 1) ++ (M ++ U.take i)).length := by have := HA.out; have := HB.out; have := HK.out; have := HV.out; simp; omega
      obtain ⟨c10, c11, c12⟩ := hr.cells (i := pa + i) (by rw [e1]; exact at_leftP)
      obtain ⟨c20, c21, c22⟩ := hr.cells (i := pb + i) (by rw [e2]; exact at_rightP)
      have hsw := hr.swap (i := pa + i) (j := pb + i) e1 e2
      rw [← s2] at hsw
      have hne : pa + i ≠ pb + i := by have := HB.out; have := HK.out; omega
      have hltI : (i : Int) < k := by omega
      have HSW := Lib.hid hsw; have HF := Lib.hid hf; have HNE := Lib.hid hne
      obtain ⟨⟨f10, f11, f12, f20, f21, f22⟩, d0, d1, d2⟩ := hr.after hne (p := y.1) c20 c21 c22
      clear hr hf hsw e1 e2 s1 s2 hx hy hne
      obtain ⟨ja, hja⟩ : ∃ j, pa + i = j := ⟨_, rfl⟩
      obtain ⟨jb, hjb⟩ : ∃ j, pb + i = j := ⟨_, rfl⟩
      rw [hja] at c10 c11 c12 f10 f11 f12 HSW HNE d0 d1 d2
      rw [hjb] at c20 c21 c22 f20 f21 f22 HSW HNE d0 d1 d2
      have ta : ((pa : Int) + i).toNat = ja := by omega
      have tb : ((pb : Int) + i).toNat = jb := by omega
      have za : (0 : Int) ≤ (pa : Int) + i := by omega
      have zb : (0 : Int) ≤ (pb : Int) + i := by omega
      have la : (pa : Int) + i < n := by omega
      have lb : (pb : Int) + i < n := by omega
      have ra : IntKind.i64.wrap ((pa : Int) + i) = (pa : Int) + i := IntWalk.i64_in _ (by omega)
      have rb : IntKind.i64.wrap ((pb : Int) + i) = (pb : Int) + i := IntWalk.i64_in _ (by omega)
      clear hja hjb
      go_wp2_with fail
      go_region
      have hfs : Fr (fun c => c = b) wr (set3 (set3 wr b ja y.1) b jb x.1) := fr_set3 (fr_set3 (Fr.refl _ wr))
      have HFS := Lib.hid (HF.out.trans hfs)
      clear c10 c11 c12 c20 c21 c22 f10 f11 f12 f20 f21 f22 d0 d1 d2 hfs
      go_wp2_with fail
      go_roundw
      case rel => exact ⟨i + 1, by omega, by go_num, HSW.out.fr (S := fun _ => False) (Fr.refl _ _).drew (fun e => e), HFS.out.drew⟩
      case measure => simp [intOf]; omega
    · obtain rfl : i = k := by omega
      rw [List.take_of_length_le (by have := HV.out; have := HK.out; omega), List.take_of_length_le (by have := HV.out; have := HK.out; omega), List.drop_of_length_le (by have := HV.out; have := HK.out; omega), List.drop_of_length_le (by have := HV.out; have := HK.out; omega), List.nil_append, List.nil_append] at hr
      have HR := Lib.hid hr; have HF := Lib.hid hf
      have hltI : ¬ (i : Int) < i := by omega
      clear hr hf
      go_wp2_with fail
      go_end0
      exact ⟨rfl, HR.out, HF.out⟩
theorem swapXP (w : World) (b n cap : Nat) (fv : Value) (P U M V S : List EP) {ia ib ik : Int} (h : RwP w b (P ++ (U ++ (M ++ (V ++ S))))) (hn : n = (P ++ (U ++ (M ++ (V ++ S)))).length) (hm : n ≤ 1000000000000) (ha : ia = (P.length : Int)) (hb : ib = ((P.length + U.length + M.length : Nat) : Int)) (hk : ik = (U.length : Int)) (hv : V.length = U.length) :
    Calls Tryz.prog 149 #[.slice (some ⟨b, 0, none⟩) n cap, .int .i64 ia, .int .i64 ib, .int .i64 ik, fv] w fun e w' => e = .returned (.tuple #[]) ∧ RwP w' b (P ++ (V ++ (M ++ (U ++ S)))) ∧ Fr (fun c => c = b) w w' := by
  subst ha hb hk
  exact swapP w b n cap P.length (P.length + U.length + M.length) U.length fv P U M V S h hn hm rfl rfl rfl hv
set_option maxRecDepth 100000 in
set_option maxHeartbeats 4000000 in
theorem rotP (w : World) (b n cap pa pm pb : Nat) (fv : Value) (P A B S : List EP) (h : RwP w b (P ++ (A ++ (B ++ S)))) (hn : n = (P ++ (A ++ (B ++ S))).length) (hm : n ≤ 1000000000000) (ha : pa = P.length) (hpm : pm = pa + A.length) (hb : pb = pm + B.length) (h1 : 0 < A.length) (h2 : 0 < B.length) :
    Calls Tryz.prog 136 #[.slice (some ⟨b, 0, none⟩) n cap, .int .i64 pa, .int .i64 pm, .int .i64 pb, fv] w fun e w' => e = .returned (.tuple #[]) ∧ RwP w' b (P ++ (B ++ (A ++ S))) ∧ Fr (fun c => c = b) w w' := by
  have hlen : n = pa + A.length + B.length + S.length := by simp at hn; omega
  have HN := Lib.hid hn; have HM := Lib.hid hm; have H0 := Lib.hid h; have HA := Lib.hid ha
  obtain ⟨la, hla⟩ : ∃ la, A.length = la := ⟨_, rfl⟩
  obtain ⟨lb, hlb⟩ : ∃ lb, B.length = lb := ⟨_, rfl⟩
  have HPM := Lib.hid hpm; have HPB := Lib.hid hb
  rw [hla] at hlen h1 hpm HPM
  rw [hlb] at hlen h2 hb HPB
  have HLA := Lib.hid hla; have HLB := Lib.hid hlb; have HLEN := Lib.hid hlen
  have i1 : (n : Int) ≤ 1000000000000 := by omega
  have i2 : (pm : Int) ≤ pa + la := by omega
  have i3 : (pa : Int) + la ≤ pm := by omega
  have i4 : (pb : Int) ≤ pm + lb := by omega
  have i5 : (pm : Int) + lb ≤ pb := by omega
  have i6 : (pb : Int) ≤ n := by omega
  clear h hn hm ha hpm hb hla hlb hlen
  go_enter Tryz.func136, Tryz.ntmps136
  go_wp2_with fail
  go_loopw [10, 11] (fun vi vj wr => ∃ (i j : Nat) (P' X Y S' : List EP), vi = .int .i64 i ∧ vj = .int .i64 j ∧ 0 < i ∧ 0 < j ∧ X.length = i ∧ Y.length = j ∧ P'.length + i = pm ∧ pm + j ≤ n ∧ RwP wr b (P' ++ (X ++ (Y ++ S'))) ∧ P' ++ (Y ++ (X ++ S')) = P ++ (B ++ (A ++ S)) ∧ n = (P' ++ (X ++ (Y ++ S'))).length ∧ Fr (fun c => c = b) w wr) (fun vi vj _ => (intOf vi).toNat + (intOf vj).toNat)
  case atStart => exact ⟨la, lb, P, A, B, S, by congr 1; omega, by congr 1; omega, h1, h2, HLA.out, HLB.out, by have := HA.out; omega, by omega, H0.out, rfl, HN.out, Fr.refl _ _⟩
  case round =>
    obtain ⟨i, j, P', X, Y, S', rfl, rfl, hi0, hj0, hX, hY, hP, hjn, hr, hEq, hN, hf⟩ := hrel
    have HX := Lib.hid hX; have HY := Lib.hid hY; have HP := Lib.hid hP; have HEQ := Lib.hid hEq; have HN2 := Lib.hid hN; have HR := Lib.hid hr; have HF := Lib.hid hf
    have g1 : (i : Int) ≤ pm := by omega
    have g2 : (pm : Int) + j ≤ n := by omega
    have g3 : 0 < (i : Int) := by omega
    have g4 : 0 < (j : Int) := by omega
    obtain ⟨qa, hqa⟩ : ∃ q, pm - i = q := ⟨_, rfl⟩
    have q1 : ((qa : Nat) : Int) ≤ pm - i := by omega
    have q2 : (pm : Int) - i ≤ qa := by omega
    clear hX hY hP hEq hN hr hf hqa hjn
    rcases (by omega : i < j ∨ i = j ∨ j < i) with hlt | heq | hgt
    · obtain ⟨Y1, Y2, rfl, hl1, hl2⟩ := split_len Y (k := j - i) (by have := HY.out; omega)
      have hl3 : Y2.length = i := by have := HY.out; omega
      have HL1 := Lib.hid hl1; have HL3 := Lib.hid hl3
      clear hl1 hl2 hl3
      have hltI : (i : Int) < j := by omega
      go_wp2_with fail
      refine (swapXP wr b n cap fv P' X Y1 Y2 S' (by have := HR.out; rw [List.append_assoc] at this; exact this) (by have := HN2.out; simp at this ⊢; omega) HM.out (by have := HP.out; omega) (by have := HP.out; have := HX.out; have := HL1.out; omega) (by have := HX.out; omega) (by have := HX.out; have := HL3.out; omega)).mono ?_
      rintro e w3 ⟨rfl, hr3, hf3⟩
      have HR3 := Lib.hid hr3; have HF3 := Lib.hid (HF.out.trans hf3)
      clear hr3 hf3
      go_wp2_with fail
      go_roundw
      case rel => exact ⟨i, j - i, P', Y2, Y1, X ++ S', rfl, by congr 1; omega, by omega, by omega, HL3.out, HL1.out, HP.out, by omega, HR3.out, by rw [← HEQ.out]; simp, by have := HN2.out; simp at this ⊢; omega, HF3.out⟩
      case measure => simp [intOf]; omega
    · subst heq
      go_wp2_with fail
      refine (swapXP wr b n cap fv P' X [] Y S' HR.out HN2.out HM.out (by have := HP.out; omega) (by have := HP.out; have := HX.out; simp; omega) (by have := HX.out; omega) (by have := HX.out; have := HY.out; omega)).mono ?_
      rintro e w3 ⟨rfl, hr3, hf3⟩
      have HR3 := Lib.hid hr3; have HF3 := Lib.hid (HF.out.trans hf3)
      clear hr3 hf3
      go_wp2_with fail
      go_end0
      exact ⟨rfl, by have := HR3.out; rw [← HEQ.out]; exact this, HF3.out⟩
    · obtain ⟨X1, X2, rfl, hl1, hl2⟩ := split_len X (k := j) (by have := HX.out; omega)
      have hl3 : X2.length = i - j := by have := HX.out; omega
      have HL1 := Lib.hid hl1; have HL3 := Lib.hid hl3
      clear hl1 hl2 hl3
      have hltI : (j : Int) < i := by omega
      go_wp2_with fail
      refine (swapXP wr b n cap fv P' X1 X2 Y S' (by have := HR.out; rw [List.append_assoc] at this; exact this) (by have := HN2.out; simp at this ⊢; omega) HM.out (by have := HP.out; omega) (by have := HP.out; have := HL1.out; have := HL3.out; omega) (by have := HL1.out; omega) (by have := HL1.out; have := HY.out; omega)).mono ?_
      rintro e w3 ⟨rfl, hr3, hf3⟩
      have HR3 := Lib.hid hr3; have HF3 := Lib.hid (HF.out.trans hf3)
      clear hr3 hf3
      go_wp2_with fail
      go_roundw
      case rel => exact ⟨i - j, j, P' ++ Y, X2, X1, S', by congr 1; omega, rfl, by omega, by omega, HL3.out, HL1.out, by have := HP.out; have := HY.out; simp; omega, by omega, by have := HR3.out; rw [List.append_assoc]; exact this, by rw [← HEQ.out]; simp, by have := HN2.out; simp at this ⊢; omega, HF3.out⟩
      case measure => simp [intOf]; omega
end Go.Proofs.YtlniekobijcanaaGreat
namespace Go.Proofs.YtlniekobijcanaaGreat
open Go.RowKit Go.Maps
def pvC (p : PV) : Array Value := #[.int .i64 p.b, vS p.g, .int .i64 p.n]
def okPv (_ : World) (p : PV) : Prop := okI p.b ∧ okS p.g ∧ okI p.n
theorem okPvKeeps : Keeps okPv := fun _ _ _ _ h _ _ => h
set_option maxRecDepth 100000 in
set_option maxHeartbeats 4000000 in
theorem ixPlace (w : World) (v : Value) (L : List PV) (p : PV → Bool) (b0 : Nat) (h : Sq 3 pvC okPv w v L)
    (hf : ∀ (W : World) (i : Nat) (x : PV), L[i]? = some x → Fr (fun _ => False) w W → Calls Tryz.prog 38 #[.agg (pvC x), .pointer (some ⟨b0, 0, none⟩)] W fun e W' => e = .returned (.bool (p x)) ∧ Fr (fun _ => False) W W') :
    Calls Tryz.prog 87 #[v, .func (.func 38) #[] #[.pointer (some ⟨b0, 0, none⟩)]] w fun e w' => e = .returned (.int .i64 (idxOf p L)) ∧ Fr (fun _ => False) w w' := by
  obtain ⟨a, c, rfl⟩ := h.sl
  obtain ⟨N, hN⟩ : ∃ N, L.length = N := ⟨_, rfl⟩
  have hNb : (N : Int) ≤ 9223372036854775807 := by have := h.len; omega
  have HL := Lib.hid h; have HN := Lib.hid hN; have HF := Lib.hid hf
  rw [hN] at HL ⊢
  obtain ⟨R, hR⟩ : ∃ R, idxOf p L = R := ⟨_, rfl⟩
  have HR := Lib.hid hR
  rw [hR]
  clear h hN hf hR
  go_enter Tryz.func87, Tryz.ntmps87
  go_wp2_with fail
  go_loopw [5, 8] (fun _ i wr => ∃ j : Nat, j ≤ N ∧ i = .int .i64 j ∧ Fr (fun _ => False) w wr ∧ ∀ q x, q < j → L[q]? = some x → p x = false) (fun _ i _ => N - (intOf i).toNat)
  case atStart => exact ⟨0, Nat.zero_le _, rfl, Fr.refl _ _, fun q x hq => by omega⟩
  case round =>
    obtain ⟨j, hj, rfl, hfr, hno⟩ := hrel
    have HFR := Lib.hid hfr; have HNO := Lib.hid hno
    clear hno
    by_cases hlt : j < N
    · obtain ⟨x, hx⟩ : ∃ x, L[j]? = some x := ⟨L[j]'(by rw [HN.out]; exact hlt), List.getElem?_eq_getElem _⟩
      obtain ⟨ad, rfl, hok, z0, zs⟩ := (HL.out.fr0 okPvKeeps hfr).at_ hx
      have hC := HF.out wr j x hx hfr
      obtain ⟨b, hb⟩ : ∃ b, p x = b := ⟨_, rfl⟩
      rw [hb] at hC
      have HB := Lib.hid hb; have HX := Lib.hid hx
      have hjI : (j : Int) < N := by omega
      obtain ⟨X, hXX⟩ : ∃ X, X = x := ⟨_, rfl⟩
      rw [← hXX] at HB HX
      obtain ⟨pb, pg, pn⟩ := x
      clear hXX
      have x0 := z0 (.int .i64 pb) rfl
      have x1 := zs 0 (vS pg) rfl
      have x2 := zs 1 (.int .i64 pn) rfl
      dsimp only [Nat.zero_add, Nat.reduceAdd] at x0 x1 x2
      have hC' : Calls Tryz.prog 38 #[.agg #[.int .i64 pb, vS pg, .int .i64 pn], .pointer (some ⟨b0, 0, none⟩)] wr fun e W' => e = .returned (.bool b) ∧ Fr (fun _ => False) wr W' := hC
      have HC := Lib.hid hC'
      clear hC hC' hb hx hok z0 zs hfr
      cases b with
      | true =>
        have hres : Hid (R = (j : Int)) := Lib.hid (by rw [← HR.out]; exact idxOf_at HX.out HB.out HNO.out)
        go_wp2_with (go_at_call 38; refine HC.out.mono ?_; rintro e w1 ⟨rfl, hf1⟩; have HF1 := Lib.hid hf1; clear hf1)
        go_ret
        exact ⟨by rw [hres.out]; rfl, HFR.out.trans HF1.out⟩
      | false =>
        go_wp2_with (go_at_call 38; refine HC.out.mono ?_; rintro e w1 ⟨rfl, hf1⟩; have HF1 := Lib.hid hf1; clear hf1)
        go_roundw
        case rel =>
          refine ⟨j + 1, by omega, by go_num, HFR.out.trans HF1.out, fun q x hq hx => ?_⟩
          by_cases e : q = j
          · subst e
            have := HX.out
            rw [this] at hx
            injection hx with hx
            rw [← hx]
            exact HB.out
          · exact HNO.out q x (by omega) hx
        case measure => simp [intOf]; omega
    · obtain rfl : j = N := by omega
      have hres : Hid (R = -1) := Lib.hid (by rw [← HR.out]; exact idxOf_no (fun q x hx => HNO.out q x (by have := (List.getElem?_eq_some_iff.1 hx).1; have := HN.out; omega) hx))
      clear hfr
      go_wp2_with fail
      go_ret
      exact ⟨by rw [hres.out]; rfl, HFR.out⟩
set_option maxRecDepth 100000 in
set_option maxHeartbeats 4000000 in
theorem dfPlace (w : World) (base : Nat) (v : Value) (L : List PV) (p : PV → Bool) (b0 : Nat) (h : w.ownsRow base 55 3 v L.length (flat pvC L)) (hL : L.length ≤ 1000000000000000) (hok : ∀ x ∈ L, okPv w x)
    (hf : ∀ (W : World) (i : Nat) (x : PV), L[i]? = some x → Fr (fun c => v.ownBlock = some c) w W → Calls Tryz.prog 38 #[.agg (pvC x), .pointer (some ⟨b0, 0, none⟩)] W fun e W' => e = .returned (.bool (p x)) ∧ Fr (fun _ => False) W W') :
    Calls Tryz.prog 36 #[v, .func (.func 38) #[] #[.pointer (some ⟨b0, 0, none⟩)]] w fun e w' => ∃ v', e = .returned v' ∧ w'.ownsRow base 55 3 v' (L.filter fun x => !p x).length (flat pvC (L.filter fun x => !p x)) ∧ (∀ c, v'.ownBlock = some c → v.ownBlock = some c) ∧ Fr (fun c => v.ownBlock = some c) w w' := by
  have hcs : ∀ r : PV, (pvC r).size = 3 := fun _ => rfl
  have hsq : Sq 3 pvC okPv w v L := Sq.own hcs h hok
  have hix := Lib.hid (ixPlace w v L p b0 hsq (fun W i x hx hfr => hf W i x hx (hfr.mono (fun _ _ e => e.elim))))
  rcases h.2 with ⟨rfl, h0⟩ | ⟨g, cap, cur, rfl, hbase, hb, hn, hm, hs, ht⟩
  · have hLn : L = [] := List.eq_nil_of_length_eq_zero h0
    subst hLn
    have e1 : idxOf p ([] : List PV) = -1 := rfl
    rw [e1] at hix
    clear h hsq hf hok e1 h0
    go_enter Tryz.func36, Tryz.ntmps36
    go_wp2_with (go_at_call 87; refine hix.out.mono ?_; rintro e w1 ⟨rfl, hf1⟩; have HF1 := Lib.hid hf1; clear hf1)
    go_ret
    refine ⟨.slice none 0 0, rfl, World.ownsRow_nil _ _ _ _, fun c e => by simp [Value.ownBlock] at e, HF1.out.mono (fun _ _ e => e.elim)⟩
  · obtain ⟨N, hN⟩ : ∃ N, L.length = N := ⟨_, rfl⟩
    have HN := Lib.hid hN
    have hown : ∀ c, (Value.slice (some ⟨g, 0, none⟩) L.length cap).ownBlock = some c → c = g := fun c e => by injection e with e; exact e.symm
    rcases idxOf_cases p L with ⟨h1, h2, h3⟩ | ⟨j0, x0, h1, h2, h3, h4⟩
    · have e1 : (L.filter fun x => !p x) = L := List.filter_eq_self.2 (fun x hx => by show (!p x) = true; rw [h3 x hx]; rfl)
      have HH := Lib.hid h
      rw [h1] at hix
      rw [e1]
      rw [hN] at hix ⊢
      clear h hsq hf hok e1 h1 h2 h3 hb ht hN
      go_enter Tryz.func36, Tryz.ntmps36
      go_wp2_with (go_at_call 87; refine hix.out.mono ?_; rintro e w1 ⟨rfl, hf1⟩; have HF1 := Lib.hid hf1; clear hf1)
      go_ret
      refine ⟨.slice (some ⟨g, 0, none⟩) N cap, rfl, by have := HF1.out.row HH.out (fun _ _ e => e); rw [HN.out] at this; exact this, fun c e => e, HF1.out.mono (fun _ _ e => e.elim)⟩
    · have hst := DelI.skip (DelI.start (kp := fun x => !p x) (j := j0) (cur := cur) hcs hb ht (Nat.le_of_lt (List.getElem?_eq_some_iff.1 h1).1) (fun x hx => by show (!p x) = true; rw [idxOf_before h3 x hx]; rfl)) h1 (by show (!p x0) = false; rw [h2]; rfl)
      have HST := Lib.hid hst
      have HF : Hid (∀ (W : World) (i : Nat) (x : PV), L[i]? = some x → Fr (fun c => c = g) w W → Calls Tryz.prog 38 #[.agg (pvC x), .pointer (some ⟨b0, 0, none⟩)] W fun e W' => e = .returned (.bool (p x)) ∧ Fr (fun _ => False) W W') := Lib.hid (fun W i x hx hfr => hf W i x hx (hfr.mono (fun c _ e => by rw [e]; rfl)))
      have HT := Lib.hid ht
      have hj0 := (List.getElem?_eq_some_iff.1 h1).1
      have HM := Lib.hid hm; have HS := Lib.hid hs; have HBS := Lib.hid hbase
      have HRES : Hid (∀ i W' vs, DelI 3 pvC (fun x => !p x) L 55 g cur L.length i W' → i * 3 + vs.length ≤ cur.size → (W'.setCells g (i * 3) vs).ownsRow base 55 3 (.slice (some ⟨g, 0, none⟩) i cap) (L.filter fun x => !p x).length (flat pvC (L.filter fun x => !p x))) := Lib.hid (fun i W' vs hD hv => by
        have := hD.done hcs hbase hn hm hs vs hv
        have e := hD.cnt
        rw [List.take_of_length_le (Nat.le_refl _)] at e
        rw [e] at this ⊢
        exact this)
      rw [h3] at hix
      rw [hN] at hix hn hL hj0 ⊢
      have hNI : (N : Int) ≤ 1000000000000000 := by omega
      have hcapI : (N : Int) ≤ cap := by omega
      have hjI : (j0 : Int) < N := by omega
      have hne1 : ((j0 : Int) == -1) = false := beq_eq_false_iff_ne.2 (by omega)
      have hv := fun (w : World) => (show (zeroValue 55).run Tryz.prog w = .ok (.agg #[.int .i64 0, vS [], .int .i64 0]) w by kernel_rfl)
      have HV := Lib.hid hv
      clear h hsq hf hok h1 h2 h3 h4 hb ht hN hst hm hs hbase hown hv
      go_enter Tryz.func36, Tryz.ntmps36
      go_wp2_with (go_at_call 87; refine hix.out.mono ?_; rintro e w1 ⟨rfl, hf1⟩; have HF1 := Lib.hid hf1; clear hf1)
      go_loopw [5, 6, 7] (fun vi vj _ wr => ∃ i j : Nat, vi = .int .i64 i ∧ vj = .int .i64 j ∧ j ≤ N ∧ i < j ∧ DelI 3 pvC (fun x => !p x) L 55 g cur j i wr ∧ Fr (fun c => c = g) w wr) (fun _ vj _ _ => N - (intOf vj).toNat)
      case atStart => exact ⟨j0, j0 + 1, rfl, by go_num, by omega, by omega, HST.out.keep0 HF1.out, HF1.out.mono (fun _ _ e => e.elim)⟩
      case round =>
        obtain ⟨i, j, rfl, rfl, hjN, hij, hD, hfr⟩ := hrel
        have HD := Lib.hid hD; have HFR := Lib.hid hfr
        by_cases hlt : j < N
        · obtain ⟨x, hx⟩ : ∃ x, L[j]? = some x := ⟨L[j]'(by rw [HN.out]; exact hlt), List.getElem?_eq_getElem _⟩
          have x0 := hD.at_ hcs HT.out hx (q := 0) (u := .int .i64 x.b) rfl
          have x1 := hD.at_ hcs HT.out hx (q := 1) (u := vS x.g) rfl
          have x2 := hD.at_ hcs HT.out hx (q := 2) (u := .int .i64 x.n) rfl
          have hC := HF.out (wr.alloc (.cells #[.int .i64 x.b, vS x.g, .int .i64 x.n] 55)) j x hx (hfr.alloc _)
          obtain ⟨b, hb⟩ : ∃ b, p x = b := ⟨_, rfl⟩
          rw [hb] at hC
          have HB := Lib.hid hb; have HX := Lib.hid hx
          have HC : Hid (Calls Tryz.prog 38 #[.agg #[.int .i64 x.b, vS x.g, .int .i64 x.n], .pointer (some ⟨b0, 0, none⟩)] (wr.alloc (.cells #[.int .i64 x.b, vS x.g, .int .i64 x.n] 55)) fun e W' => e = .returned (.bool b) ∧ Fr (fun _ => False) (wr.alloc (.cells #[.int .i64 x.b, vS x.g, .int .i64 x.n] 55)) W') := Lib.hid hC
          have hjI2 : (j : Int) < N := by omega
          have hiI2 : (i : Int) < N := by omega
          have hsz : N * 3 ≤ cur.size := by rw [HS.out]; exact Nat.mul_le_mul_right _ (by omega)
          clear hC hb hx hD hfr
          dsimp only [Nat.zero_add, Nat.reduceAdd, Nat.add_zero] at x0 x1 x2
          cases b with
          | true =>
            go_wp2_with (go_at_call 38; refine HC.out.mono ?_; rintro e w2 ⟨rfl, hf2⟩; have HF2 := Lib.hid (((Fr.refl (fun _ => False) wr).alloc _).trans hf2); clear hf2)
            go_roundw
            case rel => exact ⟨i, j + 1, rfl, by go_num, by omega, by omega, (HD.out.keep0 HF2.out).skip HX.out (by show (!p x) = _; rw [HB.out]; rfl), HFR.out.trans (HF2.out.mono (fun _ _ e => e.elim))⟩
            case measure => simp [intOf]; omega
          | false =>
            have hlt2 : ∀ q, q < 3 → i * 3 + q < cur.size := fun q hq => by
              have : (i + 1) * 3 ≤ N * 3 := Nat.mul_le_mul_right _ (by omega)
              rw [Nat.succ_mul] at this
              omega
            have HLT := Lib.hid hlt2
            clear hlt2
            go_wp2_with (go_at_call 38; refine HC.out.mono ?_; rintro e w2 ⟨rfl, hf2⟩; have hd2 := (HD.out.keep0 ((Fr.refl (fun _ => False) wr).alloc _)).keep0 hf2; have HD2 := Lib.hid hd2; obtain ⟨u0, d0⟩ := hd2.get (q := i * 3) (by have := HLT.out 0 (by omega); omega); have f0 := hd2.frz (i * 3); obtain ⟨u1, d1⟩ := hd2.get (q := i * 3 + 1) (by have := HLT.out 1 (by omega); omega); have f1 := hd2.frz (i * 3 + 1); obtain ⟨u2, d2⟩ := hd2.get (q := i * 3 + 2) (by have := HLT.out 2 (by omega); omega); have f2 := hd2.frz (i * 3 + 2); have hb7 := hf2.at_ (heap_new wr (.cells #[.int .i64 x.b, vS x.g, .int .i64 x.n] 55)) (fun e => e); have y0 := cell_obj hb7 0 (.int .i64 x.b) rfl; have y1 := cell_obj hb7 1 (vS x.g) rfl; have y2 := cell_obj hb7 2 (.int .i64 x.n) rfl; have HF2 := Lib.hid (((Fr.refl (fun _ => False) wr).alloc _).trans hf2); clear hf2 hd2 hb7)
            go_roundw
            case rel => exact ⟨i + 1, j + 1, by go_num, by go_num, by omega, by omega, HD2.out.put hcs (by rw [HN.out]; exact hsz) HX.out (by show (!p x) = _; rw [HB.out]; rfl), HFR.out.trans ((fr_setCells (pvC x).toList (i * 3) (HF2.out.mono (S' := fun c => c = g) (fun _ _ e => e.elim)) (fun _ => rfl)))⟩
            case measure => simp [intOf]; omega
        · obtain rfl : j = N := by omega
          have hjI2 : ¬ (j : Int) < j := by omega
          have hiI2 : (i : Int) ≤ j := by omega
          have hiI0 : (i : Int) < cap := by omega
          have hsz : i * 3 + (j - i) * 3 ≤ cur.size := by rw [HS.out, ← Nat.add_mul]; exact Nat.mul_le_mul_right _ (by omega)
          have hcl : ∀ ty, (Builtin.clear_ #[23] ty #[.slice (some ⟨g, i * 3, none⟩) (j - i) (cap - i)]).run Tryz.prog wr = .ok (.tuple #[]) (wr.setCells g (i * 3) (Builtin.zeroCells #[.int .i64 0, vS [], .int .i64 0] (j - i)).toList) := fun ty =>
            run_clear_cells (P := Tryz.prog) wr 23 55 ty (.agg #[.int .i64 0, vS [], .int .i64 0]) Tryz.underlying23 HV.out (fun u hu => by simp [Value.cells] at hu; (first | (rcases hu with rfl | rfl | rfl <;> rfl) | (rcases hu with rfl | rfl <;> rfl))) g (i * 3) (j - i) (cap - i)
              (fun q hq => by obtain ⟨u, hu⟩ := HD.out.get (q := i * 3 + q) (by simp [Value.cells] at hq; omega); rw [hu]; rfl) (fun q hq => HD.out.frz _)
          clear hD hfr
          go_wp2
          go_ret
          refine ⟨.slice (some ⟨g, 0, none⟩) i cap, rfl, HRES.out i wr _ (by have := HD.out; rw [HN.out]; exact this) (by rw [zeroCells_len]; exact hsz), fun c e => e, ?_⟩
          exact (fr_setCells _ _ HFR.out (fun _ => rfl)).mono (fun c _ e => by rw [e]; rfl)

end Go.Proofs.YtlniekobijcanaaGreat
namespace Go.Proofs.YtlniekobijcanaaGreat
open Go.RowKit Go.Maps
/-- One bin is gone through: so many are put there, or taken. -/
def stepS (can : BE → Int) (nE : BE → Int → Int) (s : Str) (st : List BE × Int × List PV) (i : Int) : List BE × Int × List PV :=
  match st.1[i.toNat]? with
  | none => st
  | some b => if min st.2.1 (can b) ≤ 0 then st else (st.1.set i.toNat (b.put s (nE b (min st.2.1 (can b)))), st.2.1 - min st.2.1 (can b), st.2.2 ++ [⟨b.nu, s, min st.2.1 (can b)⟩])
abbrev Pl (w : World) (v : Value) (L : List PV) : Prop := Sq 3 pvC okPv w v L
theorem pvSize (p : PV) : (pvC p).size = 3 := rfl
theorem set_get {α : Type} {L : List α} {i q : Nat} {x y : α} (h : (L.set i x)[q]? = some y) : (q = i ∧ y = x) ∨ (q ≠ i ∧ L[q]? = some y) := by
  rw [List.getElem?_set] at h
  by_cases e : i = q
  · rw [if_pos e] at h
    split at h
    · exact .inl ⟨e.symm, by injection h with h; exact h.symm⟩
    · cases h
  · rw [if_neg e] at h
    exact .inr ⟨fun e2 => e e2.symm, h⟩
structure SpI (w0 : World) (O : Nat → Prop) (r cap N : Nat) (PE : BE → Prop) (W : World) (Lj : List BV) (vo : Value) (out : List PV) : Prop where
  row : ∃ cur, W.heap[r]? = some (.cells cur 76) ∧ cur.size = cap * 4 ∧ cur.toList.take (N * 4) = flat BV.cs Lj
  len : Lj.length = N
  le : N ≤ cap
  bins : ∀ b ∈ Lj, BOk W b ∧ PE b.e ∧ (b.its ≠ [] → ∀ c, b.l.ownBlock = some c → c ≠ r ∧ vo.ownBlock ≠ some c ∧ (O c ∨ w0.heap.size ≤ c))
  out : W.ownsRow w0.heap.size 55 3 vo out.length (flat pvC out)
  oner : vo.ownBlock ≠ some r
  fr : Fr (fun _ => False) w0 W
  low : w0.heap.size ≤ r
section
variable {w0 W W' : World} {O : Nat → Prop} {r cap N : Nat} {PE : BE → Prop} {Lj : List BV} {vo : Value} {out : List PV}
theorem SpI.keep0 (h : SpI w0 O r cap N PE W Lj vo out) (hf : Fr (fun _ => False) W W') : SpI w0 O r cap N PE W' Lj vo out := by
  obtain ⟨⟨cur, h1, h2⟩, h3, hle, h4, h5, h6, h7, h8⟩ := h
  exact ⟨⟨cur, hf.at_ h1 (fun e => e), h2⟩, h3, hle, fun b hb => ⟨(h4 b hb).1.keep hf (fun _ _ _ e => e), (h4 b hb).2⟩, hf.row h5 (fun _ _ e => e), h6, h7.trans hf, h8⟩
theorem SpI.cells (h : SpI w0 O r cap N PE W Lj vo out) {i : Nat} {x : BV} (hx : Lj[i]? = some x) :
    W.cell? ⟨r, i * 4, none⟩ = some (.int .i64 x.nu) ∧ W.cell? ⟨r, i * 4 + 1, none⟩ = some (.int .i64 x.zo) ∧ W.cell? ⟨r, i * 4 + 2, none⟩ = some (.int .i64 x.ro) ∧ W.cell? ⟨r, i * 4 + 3, none⟩ = some x.l ∧ ∀ q, W.frozen? ⟨r, q, none⟩ = false := by
  obtain ⟨⟨cur, h1, h2, h3⟩, hl, hle, -⟩ := h
  have hi := (List.getElem?_eq_some_iff.1 hx).1
  have h4 : (i + 1) * 4 ≤ N * 4 := Nat.mul_le_mul_right 4 (by omega)
  have key : ∀ (q : Nat) (u : Value), q < 4 → (BV.cs x)[q]? = some u → W.cell? ⟨r, i * 4 + q, none⟩ = some u := fun q u hq hu => by
    refine cell_obj h1 _ _ ?_
    rw [← Array.getElem?_toList, take_get h3 (by omega)]
    exact flat_at bvSize hx q u hu
  exact ⟨key 0 _ (by omega) rfl, key 1 _ (by omega) rfl, key 2 _ (by omega) rfl, key 3 _ (by omega) rfl, fun q => obj_frozen h1 q⟩
theorem SpI.store (h : SpI w0 O r cap N PE W Lj vo out) {i : Nat} {x b : BV} (hx : Lj[i]? = some x) (hb : BOk W b) (hP : PE b.e) (hne : ∀ c, b.l.ownBlock = some c → c ≠ r ∧ vo.ownBlock ≠ some c ∧ (O c ∨ w0.heap.size ≤ c)) : SpI w0 O r cap N PE (W.setCells r (i * 4) (BV.cs b).toList) (Lj.set i b) vo out := by
  obtain ⟨⟨cur, h1, h2, h3⟩, hl, hle, h4, h5, h6, h7, h8⟩ := h
  have hi := (List.getElem?_eq_some_iff.1 hx).1
  have g1 : (i + 1) * 4 ≤ N * 4 := Nat.mul_le_mul_right 4 (by omega)
  have g2 : N * 4 ≤ cap * 4 := Nat.mul_le_mul_right 4 hle
  have hcl : (BV.cs b).toList.length = 4 := rfl
  obtain ⟨cur', c1, c2, c3⟩ := row_setCells (BV.cs b).toList (i * 4) h1 (by rw [hcl]; omega)
  have hf : Fr (fun c => c = r) W (W.setCells r (i * 4) (BV.cs b).toList) := fr_setCells _ _ (Fr.refl _ W) (fun _ => rfl)
  have hlen : (flat BV.cs (Lj.set i b)).length = N * 4 := by rw [flat_len1 bvSize, List.length_set, hl]
  refine ⟨⟨cur', c1, by omega, ?_⟩, by rw [List.length_set]; exact hl, hle, fun y hy => ?_, hf.row h5 (fun c hc e => h6 (by rw [hc, e])), h6, h7.trans' hf (fun c hc e => by omega), h8⟩
  · apply List.ext_getElem?
    intro q
    by_cases hq : q < N * 4
    · rw [List.getElem?_take_of_lt hq, Array.getElem?_toList, c3 q, hcl]
      obtain ⟨y, hy⟩ : ∃ y, (Lj.set i b)[q / 4]? = some y := ⟨_, List.getElem?_eq_getElem (by rw [List.length_set]; omega)⟩
      have hys : (BV.cs y)[q % 4]? = some ((BV.cs y)[q % 4]'(by rw [bvSize]; omega)) := Array.getElem?_eq_getElem _
      have h10 := flat_at bvSize hy (q % 4) _ hys
      rw [show q / 4 * 4 + q % 4 = q by omega] at h10
      rw [h10]
      rcases set_get hy with ⟨e1, e2⟩ | ⟨e1, e2⟩
      · subst e2
        rw [if_pos (by omega), Array.getElem?_toList, show q - i * 4 = q % 4 by omega]
        exact hys
      · rw [if_neg (by omega), ← Array.getElem?_toList, take_get h3 hq]
        have h11 := flat_at bvSize e2 (q % 4) _ hys
        rw [show q / 4 * 4 + q % 4 = q by omega] at h11
        exact h11
    · rw [List.getElem?_take_eq_none (by omega), List.getElem?_eq_none (by omega)]
  · obtain ⟨q, hq⟩ := List.getElem?_of_mem hy
    rcases set_get hq with ⟨-, rfl⟩ | ⟨-, e2⟩
    · exact ⟨hb.keep hf (fun _ c hc e => (hne c hc).1 e), hP, fun _ c hc => hne c hc⟩
    · obtain ⟨k1, k2, k3⟩ := h4 y (List.mem_of_getElem? e2)
      exact ⟨k1.keep hf (fun hn c hc e => (k3 hn c hc).1 e), k2, k3⟩
theorem flat_pv_snoc (L : List PV) (p : PV) : flat pvC (L ++ [p]) = flat pvC L ++ [.int .i64 p.b, vS p.g, .int .i64 p.n] := by rw [flat_app]; rfl
theorem SpI.push (h : SpI w0 O r cap N PE W Lj vo out) {vo' : Value} {p : PV} (hown : W'.ownsRow w0.heap.size 55 3 vo' (out.length + 1) (flat pvC out ++ [.int .i64 p.b, vS p.g, .int .i64 p.n])) (hg : W.grownBy W' vo.ownBlock) (hloc : vo'.ownBlock = vo.ownBlock ∨ vo'.ownBlock = some W.heap.size) : SpI w0 O r cap N PE W' Lj vo' (out ++ [p]) := by
  obtain ⟨⟨cur, h1, h2, h3⟩, hl, hle, h4, h5, h6, h7, h8⟩ := h
  have hf : Fr (fun c => vo.ownBlock = some c) W W' := Fr.grown hg (fun c hc _ => hc)
  have hr := (Array.getElem?_eq_some_iff.1 h1).1
  refine ⟨⟨cur, hf.at_ h1 h6, h2, h3⟩, hl, hle, fun b hb => ?_, by rw [flat_pv_snoc, List.length_append]; exact hown, fun e => ?_, h7.trans' hf (fun c hc e => by have := (h5.lt c e).1; omega), h8⟩
  · obtain ⟨k1, k2, k3⟩ := h4 b hb
    refine ⟨k1.keep hf (fun hn c hc e => (k3 hn c hc).2.1 e), k2, fun hn c hc => ⟨(k3 hn c hc).1, fun e => ?_, (k3 hn c hc).2.2⟩⟩
    rcases hloc with e2 | e2
    · exact (k3 hn c hc).2.1 (by rw [← e2, e])
    · rw [e2] at e
      injection e with e
      have := k1.l.lt hn c hc
      omega
  · rcases hloc with e2 | e2
    · exact h6 (by rw [← e2, e])
    · rw [e2] at e
      injection e with e
      omega
end
end Go.Proofs.YtlniekobijcanaaGreat
namespace Go.Proofs.YtlniekobijcanaaGreat
open Go.RowKit
def sumI (L : Its) : Int := (L.map (·.2)).sum
def getI (L : Its) (s : Str) : Int := sumI (L.filter fun p => decide (p.1 = s))
theorem sumI_app (A B : Its) : sumI (A ++ B) = sumI A + sumI B := by simp [sumI]
theorem sumI_cons (p : Str × Int) (B : Its) : sumI (p :: B) = p.2 + sumI B := by simp [sumI]
theorem sumI_perm {A B : Its} (h : A.Perm B) : sumI A = sumI B := by
  induction h with
  | nil => rfl
  | cons x _ ih => rw [sumI_cons, sumI_cons, ih]
  | swap x y l => simp only [sumI_cons]; omega
  | trans _ _ h1 h2 => exact h1.trans h2
theorem sumI_nn {L : Its} (h : ∀ p ∈ L, 0 ≤ p.2) : 0 ≤ sumI L := by
  induction L with
  | nil => exact Int.le_refl _
  | cons p r ih =>
    rw [sumI_cons]
    have := h p List.mem_cons_self
    have := ih (fun q hq => h q (List.mem_cons_of_mem _ hq))
    omega
theorem sumI_part (L : Its) (s : Str) : sumI L = getI L s + sumI (L.filter fun p => !decide (p.1 = s)) := by
  rw [← sumI_perm (List.filter_append_perm (fun p : Str × Int => decide (p.1 = s)) L), sumI_app]
  rfl
theorem sumI_set (L : Its) (s : Str) (n : Int) : sumI (setF L s n) = sumI L - getI L s + (if 0 < n then n else 0) := by
  rw [sumI_perm (setF_perm L s n), sumI_app, sumI_part L s]
  have : sumI (if 0 < n then [(s, n)] else []) = if 0 < n then n else 0 := by
    by_cases h : 0 < n
    · rw [if_pos h, if_pos h]; simp [sumI]
    · rw [if_neg h, if_neg h]; rfl
  rw [this]
  omega
theorem getI_set (L : Its) (s : Str) (n : Int) (t : Str) : getI (setF L s n) t = if t = s then (if 0 < n then n else 0) else getI L t := by
  unfold getI
  rw [sumI_perm ((setF_perm L s n).filter _), List.filter_append, sumI_app, List.filter_filter]
  by_cases e : t = s
  · subst e
    rw [if_pos rfl]
    have e1 : (L.filter fun p => decide (p.1 = t) && !decide (p.1 = t)) = [] := List.filter_eq_nil_iff.2 (fun p _ => by simp)
    rw [e1]
    by_cases h : 0 < n
    · rw [if_pos h, if_pos h]; simp [sumI]
    · rw [if_neg h, if_neg h]; rfl
  · rw [if_neg e]
    have e1 : (L.filter fun p => decide (p.1 = t) && !decide (p.1 = s)) = L.filter fun p => decide (p.1 = t) := List.filter_congr fun p _ => by
      by_cases h : p.1 = t
      · have : p.1 ≠ s := fun e2 => e (h ▸ e2)
        simp [h, e]
      · simp [h]
    have e2 : (if 0 < n then [(s, n)] else []).filter (fun p : Str × Int => decide (p.1 = t)) = [] := by
      refine List.filter_eq_nil_iff.2 (fun p hp => ?_)
      rw [(mem_mid hp).1]
      simpa using fun h => e h.symm
    rw [e1, e2]
    simp [sumI]
theorem wrap64_in {x : Int} (h : -9223372036854775808 ≤ x ∧ x ≤ 9223372036854775807) : wrap64 x = x := by unfold wrap64; omega
theorem totF_aux : ∀ (L : Its) (a : Int), 0 ≤ a → (∀ p ∈ L, 0 ≤ p.2) → a + sumI L ≤ 9223372036854775807 → L.foldl (fun a p => wrap64 (a + p.2)) a = a + sumI L
  | [], a, _, _, _ => by simp [sumI]
  | p :: r, a, ha, hp, hb => by
    rw [sumI_cons] at hb ⊢
    have h1 := hp p List.mem_cons_self
    have h2 := sumI_nn (fun q hq => hp q (List.mem_cons_of_mem _ hq))
    rw [List.foldl_cons, wrap64_in ⟨by omega, by omega⟩, totF_aux r (a + p.2) (by omega) (fun q hq => hp q (List.mem_cons_of_mem _ hq)) (by omega)]
    omega
theorem totF_sum {L : Its} (hp : ∀ p ∈ L, 0 ≤ p.2) (hb : sumI L ≤ 9223372036854775807) : totF L = sumI L := by
  have := totF_aux L 0 (Int.le_refl _) hp (by omega)
  unfold totF
  omega
theorem ofF_aux (s : Str) : ∀ (L : Its) (a : Int), 0 ≤ a → (∀ p ∈ L, 0 ≤ p.2) → a + getI L s ≤ 9223372036854775807 → L.foldl (ofStep s) a = a + getI L s
  | [], a, _, _, _ => by simp [getI, sumI]
  | p :: r, a, ha, hp, hb => by
    have h1 := hp p List.mem_cons_self
    have h2 : 0 ≤ getI r s := sumI_nn (fun q hq => hp q (List.mem_cons_of_mem _ ((List.mem_filter.1 hq).1)))
    rw [List.foldl_cons]
    by_cases e : p.1 = s
    · have e1 : getI (p :: r) s = p.2 + getI r s := by unfold getI; rw [List.filter_cons, if_pos (by simpa using e), sumI_cons]
      rw [e1] at hb ⊢
      have e2 : ofStep s a p = a + p.2 := by unfold ofStep; rw [if_pos e, wrap64_in ⟨by omega, by omega⟩]
      rw [e2, ofF_aux s r (a + p.2) (by omega) (fun q hq => hp q (List.mem_cons_of_mem _ hq)) (by omega)]
      omega
    · have e1 : getI (p :: r) s = getI r s := by unfold getI; rw [List.filter_cons, if_neg (by simpa using e)]
      rw [e1] at hb ⊢
      have e2 : ofStep s a p = a := by unfold ofStep; rw [if_neg e]
      rw [e2, ofF_aux s r a ha (fun q hq => hp q (List.mem_cons_of_mem _ hq)) hb]
theorem getI_le {L : Its} (s : Str) (hp : ∀ p ∈ L, 0 ≤ p.2) : getI L s ≤ sumI L := by
  rw [sumI_part L s]
  have := sumI_nn (L := L.filter fun p => !decide (p.1 = s)) (fun q hq => hp q ((List.mem_filter.1 hq).1))
  omega
theorem getI_nn {L : Its} (s : Str) (hp : ∀ p ∈ L, 0 ≤ p.2) : 0 ≤ getI L s := sumI_nn (fun q hq => hp q ((List.mem_filter.1 hq).1))
theorem ofF_get {L : Its} (s : Str) (hp : ∀ p ∈ L, 0 ≤ p.2) (hb : sumI L ≤ 9223372036854775807) : ofF L s = getI L s := by
  have := ofF_aux s L 0 (Int.le_refl _) hp (by have := getI_le s hp; omega)
  unfold ofF
  omega
/-- A bin that may be gone through for a good. -/
structure BW (s : Str) (x : BE) : Prop where
  ro : 1 ≤ x.ro ∧ x.ro ≤ 1099511627776
  ri : RiseI x.its
  it : ∀ p ∈ x.its, goodB p.1 = true ∧ 1 ≤ p.2 ∧ p.2 ≤ 1099511627776
  fl : (x.its.filter fun p => !decide (p.1 = s)).length ≤ 16
  tot : sumI x.its ≤ x.ro
theorem BW.pos {s : Str} {x : BE} (h : BW s x) : ∀ p ∈ x.its, 0 ≤ p.2 := fun p hp => by have := (h.it p hp).2.1; omega
theorem BW.of {s : Str} {x : BE} (h : BW s x) (t : Str) : ofF x.its t = getI x.its t := ofF_get t h.pos (by have := h.tot; have := h.ro; omega)
theorem BW.left {s : Str} {x : BE} (h : BW s x) : leftE x = x.ro - sumI x.its := by
  unfold leftE
  have h1 := h.tot; have h2 := h.ro; have h3 := sumI_nn h.pos
  rw [totF_sum h.pos (by omega), wrap64_in ⟨by omega, by omega⟩]
theorem rise_one {L : Its} (h : RiseI L) (s : Str) : (L.filter fun p => decide (p.1 = s)).length ≤ 1 := by
  have h2 := h.filter (fun p => decide (p.1 = s))
  generalize hg : L.filter (fun p => decide (p.1 = s)) = F at h2
  match F, h2 with
  | [], _ => simp
  | [_], _ => simp
  | a :: b :: r, h2 =>
    have h3 := (List.pairwise_cons.1 h2).1 b List.mem_cons_self
    have ha : a ∈ L.filter (fun p => decide (p.1 = s)) := by rw [hg]; exact List.mem_cons_self
    have hb : b ∈ L.filter (fun p => decide (p.1 = s)) := by rw [hg]; exact List.mem_cons_of_mem _ List.mem_cons_self
    have e1 : a.1 = s := of_decide_eq_true (List.mem_filter.1 ha).2
    have e2 : b.1 = s := of_decide_eq_true (List.mem_filter.1 hb).2
    rw [e1, e2] at h3
    exact absurd h3 (str_irr s)
theorem len_part (L : Its) (s : Str) : L.length = (L.filter fun p => decide (p.1 = s)).length + (L.filter fun p => !decide (p.1 = s)).length := by
  rw [← (List.filter_append_perm (fun p : Str × Int => decide (p.1 = s)) L).length_eq, List.length_append]
theorem BW.len {s : Str} {x : BE} (h : BW s x) : x.its.length ≤ 17 := by
  have := len_part x.its s; have := rise_one h.ri s; have := h.fl; omega
theorem setF_filt (L : Its) (s : Str) (n : Int) : ((setF L s n).filter fun p => !decide (p.1 = s)).Perm (L.filter fun p => !decide (p.1 = s)) := by
  refine ((setF_perm L s n).filter _).trans ?_
  rw [List.filter_append, List.filter_filter]
  have e1 : (L.filter fun p => (!decide (p.1 = s)) && !decide (p.1 = s)) = L.filter fun p => !decide (p.1 = s) := List.filter_congr fun p _ => by simp
  have e2 : (if 0 < n then [(s, n)] else []).filter (fun p : Str × Int => !decide (p.1 = s)) = [] := by
    refine List.filter_eq_nil_iff.2 (fun p hp => ?_)
    rw [(mem_mid hp).1]
    simp
  rw [e1, e2, List.append_nil]
theorem BW.put {s : Str} {x : BE} (h : BW s x) (hs : goodB s = true) {n : Int} (h0 : 0 ≤ n) (h1 : sumI x.its - getI x.its s + n ≤ x.ro) : BW s (x.put s n) := by
  have hg := getI_nn s h.pos
  have hle := getI_le s h.pos
  refine ⟨h.ro, setF_rise h.ri, fun p hp => ?_, by rw [show (x.put s n).its = setF x.its s n from rfl, (setF_filt x.its s n).length_eq]; exact h.fl, ?_⟩
  · rcases setF_mem hp with ⟨h2, -⟩ | ⟨rfl, h2⟩
    · exact h.it p h2
    · have := h.ro
      exact ⟨hs, by show 1 ≤ n; omega, by show n ≤ _; omega⟩
  · show sumI (setF x.its s n) ≤ x.ro
    rw [sumI_set]
    by_cases hn : 0 < n
    · rw [if_pos hn]; exact h1
    · rw [if_neg hn]; omega
end Go.Proofs.YtlniekobijcanaaGreat
namespace Go.Proofs.YtlniekobijcanaaGreat
open Go
/-- The last operation, made harmless. -/
def idle (o : Oper) : Oper := { o with op := .assign (.const (.bool false)) }
section
variable {P : Program} {md : Region.Mode} {l : List Oper} {z : Oper} {C : World → Prop}
theorem idle_size : (l ++ [idle z]).toArray.size = (l ++ [z]).toArray.size := by simp
theorem idle_after (i : Nat) : ((l ++ [idle z]).toArray[i]?).map (·.after) = ((l ++ [z]).toArray[i]?).map (·.after) := by
  simp only [List.getElem?_toArray]
  rcases Nat.lt_trichotomy i l.length with h | h | h
  · rw [List.getElem?_append_left h, List.getElem?_append_left h]
  · subst h; simp [idle]
  · rw [List.getElem?_append_right (by omega), List.getElem?_append_right (by omega), List.getElem?_eq_none (by simp; omega), List.getElem?_eq_none (by simp; omega)]
theorem idle_dst (i : Nat) : ((l ++ [idle z]).toArray[i]?).bind (·.dst) = ((l ++ [z]).toArray[i]?).bind (·.dst) := by
  simp only [List.getElem?_toArray]
  rcases Nat.lt_trichotomy i l.length with h | h | h
  · rw [List.getElem?_append_left h, List.getElem?_append_left h]
  · subst h; simp [idle]
  · rw [List.getElem?_append_right (by omega), List.getElem?_append_right (by omega), List.getElem?_eq_none (by simp; omega), List.getElem?_eq_none (by simp; omega)]
theorem idle_ready (listed : Array Bool) : Region.ready md (l ++ [idle z]).toArray listed = Region.ready md (l ++ [z]).toArray listed := by
  unfold Region.ready
  rw [idle_size]
  refine List.filter_congr fun i _ => ?_
  have h := idle_after (l := l) (z := z) i
  congr 1
  generalize (l ++ [idle z]).toArray[i]? = x at *
  generalize (l ++ [z]).toArray[i]? = y at *
  cases x <;> cases y <;> simp at h ⊢
  rw [h]
theorem idle_yielded (tmps : Array Value) : yielded (l ++ [idle z]).toArray tmps = yielded (l ++ [z]).toArray tmps := by
  funext j
  unfold yielded
  rw [idle_dst]
theorem idle_wpOp {Q : Exit → Act → World → Prop} {i : Nat} (hi : i < l.length) (K : Act → World → Prop) (a : Act) (w : World) : wpOp P (l ++ [idle z]).toArray Q i K a w = wpOp P (l ++ [z]).toArray Q i K a w := by
  have h : (l ++ [idle z]).toArray[i]? = (l ++ [z]).toArray[i]? := by simp only [List.getElem?_toArray]; rw [List.getElem?_append_left hi, List.getElem?_append_left hi]
  unfold wpOp
  rw [h, idle_yielded]
theorem wpAny_done {ops : Array Oper} {Q : Exit → Act → World → Prop} {a : Act} {w : World} {listed : Array Bool} (h : Region.ready md ops listed = []) (hQ : Q .normal a w) : ∀ f, wpAny P md ops Q f listed a w
  | 0 => ⟨h, hQ⟩
  | f + 1 => ⟨fun _ => hQ, fun i hi => by rw [h] at hi; cases hi⟩
theorem wpAnyQ_done {ops : Array Oper} {Q : Act → Prop} {a : Act} {listed : Array Bool} (h : Region.ready md ops listed = []) : ∀ f, wpAnyQ P md ops C Q f listed a → Q a
  | 0, hq => hq.2
  | _ + 1, hq => hq.1 h
/-- Each operation waits for earlier ones only. -/
def acyB (md : Region.Mode) (ops : Array Oper) : Bool := (List.range ops.size).all fun k => match ops[k]? with
  | some o => o.after.all fun e => !Region.binds md e || decide (e.on < k)
  | none => true
theorem ready_some {ops : Array Oper} {listed : Array Bool} (ha : acyB md ops = true) (hs : listed.size = ops.size) : ∀ (n k : Nat), k < ops.size → k ≤ n → listed.getD k true = false → Region.ready md ops listed ≠ []
  | n, k, hk, hn, hu => by
    by_cases hall : ∀ j, j < k → listed.getD j false = true
    · intro e
      have : k ∈ Region.ready md ops listed := by
        refine mem_ready.2 ⟨hu, ops[k], Array.getElem?_eq_getElem hk, fun e he hb => ?_⟩
        have h1 := List.all_eq_true.1 ha k (List.mem_range.2 hk)
        rw [Array.getElem?_eq_getElem hk] at h1
        obtain ⟨i, hi, rfl⟩ := Array.mem_iff_getElem.1 he
        have h2 := Array.all_eq_true.1 h1 i hi
        simp only [hb, Bool.not_true, Bool.false_or, decide_eq_true_eq] at h2
        exact hall _ h2
      rw [e] at this; cases this
    · cases n with
      | zero => exact absurd (fun j hj => by omega) hall
      | succ n =>
        have : ∃ j, j < k ∧ listed.getD j false ≠ true := Classical.byContradiction fun h => hall fun j hj => Classical.byContradiction fun hne => h ⟨j, hj, hne⟩
        obtain ⟨j, hj, hne⟩ := this
        refine ready_some ha hs n j (by omega) (by omega) ?_
        exact getD_in (by omega) (by simpa using hne)
theorem quiet_tail_sim {Q : Exit → Act → World → Prop} (hs : Region.sinkB md (l ++ [z]).toArray l.length = true) (hc : Region.chainB md (l ++ [z]).toArray l.length = true) (ha : acyB md (l ++ [z]).toArray = true) (hd : z.dst = none) :
    ∀ (fuel : Nat) (listed : Array Bool) (a : Act) (w : World), C w → HeadInv md (l ++ [z]).toArray l.length listed →
      wpAnyQ P md (l ++ [idle z]).toArray C (fun a' => ∀ w', C w' → wpOp P (l ++ [z]).toArray Q l.length (fun a w => Q .normal a w) a' w') fuel listed a → wpAny P md (l ++ [z]).toArray Q fuel listed a w := by
  intro fuel
  have hsz : (l ++ [z]).toArray.size = l.length + 1 := by simp
  induction fuel with
  | zero =>
    intro listed a w hw inv h
    have h1 := h.1
    rw [idle_ready] at h1
    exact absurd h1 (ready_some ha inv.size _ l.length (by omega) (Nat.le_refl _) (inv.tail _ (Nat.le_refl _) (by omega)))
  | succ fuel ih =>
    intro listed a w hw inv h
    have hne := ready_some ha inv.size _ l.length (by omega) (Nat.le_refl _) (inv.tail _ (Nat.le_refl _) (by omega))
    refine ⟨fun e => absurd e hne, fun i hi => ?_⟩
    have hq := h.2 i (by rw [idle_ready]; exact hi)
    have hi1 : i < l.length + 1 := by
      obtain ⟨_, o, ho, _⟩ := mem_ready.1 hi
      have := (Array.getElem?_eq_some_iff.1 ho).1
      omega
    by_cases hil : i < l.length
    · rw [← idle_wpOp hil]
      exact wpOp_of_qOp hw (fun a' w' hw' hK => ih _ a' w' hw' (inv.set hi hil) hK) hq
    · have hin : i = l.length := by omega
      subst hin
      have hall : ∀ j, j < l.length → listed.getD j true = true := by
        intro j hj
        cases e : listed.getD j true with
        | true => rfl
        | false => exact absurd hi (tail_waits hs hc (by omega) inv _ j rfl hj e _ (Nat.le_refl _))
      have hdone : Region.ready md (l ++ [z]).toArray (listed.setIfInBounds l.length true) = [] := by
        rw [List.eq_nil_iff_forall_not_mem]
        intro j hj
        obtain ⟨hu, o, ho, _⟩ := mem_ready.1 hj
        have hjl := (Array.getElem?_eq_some_iff.1 ho).1
        by_cases e : j = l.length
        · subst e
          have hls : l.length < listed.size := by rw [inv.size]; omega
          simp [hls] at hu
        · rw [getD_set_ne true (fun h => e h.symm)] at hu
          rw [hall j (by omega)] at hu; cases hu
      have h0 : (l ++ [idle z]).toArray[l.length]? = some (idle z) := by simp
      obtain ⟨v, _, hK⟩ := yieldsIn_of_qOp h0 hq
      have hput : a.put (idle z).dst v = a := by
        have : (idle z).dst = none := hd
        rw [this]; rfl
      rw [hput] at hK
      have hQ := wpAnyQ_done (by rw [idle_ready]; exact hdone) _ hK w hw
      exact wpOp_mono (fun a' w' h' => wpAny_done hdone h' _) hQ
/-- What is asked of the region, apart from its walk. -/
def tailQ (l : List Oper) (n : Nat) : Bool :=
  decide (l.length = n + 1) && (match l[n]? with | some z => z.dst.isNone | none => false) && Region.sinkB .any l.toArray n && Region.chainB .any l.toArray n && acyB .any l.toArray && Region.lexB .any (l.take n ++ (l.drop n).map idle).toArray
theorem wp_region_quiet_tail {id : Nat} {Q : Exit → Act → World → Prop} {a : Act} {w : World} {l : List Oper} (n : Nat) (hm : P.follows .mixedOrders = true) (hB : tailQ l n = true)
    (h : wpQuiet P (l.take n ++ (l.drop n).map idle).toArray (fun w' => ∃ q, w' = w.drewN q) (fun a' => ∀ q, wpList P l.toArray Q (l.drop n) a' (w.drewN q)) (l.take n ++ (l.drop n).map idle) a) : (Code.region id l.toArray true).wp P Q a w := by
  simp only [tailQ, Bool.and_eq_true, decide_eq_true_eq] at hB
  obtain ⟨⟨⟨⟨⟨hl, hd⟩, hs⟩, hc⟩, ha⟩, hx⟩ := hB
  obtain ⟨z, hz⟩ : ∃ z, l[n]? = some z := ⟨l[n], List.getElem?_eq_getElem (by omega)⟩
  rw [hz] at hd
  have hdz : z.dst = none := by simpa using hd
  have hdr : l.drop n = [z] := by
    rw [List.drop_eq_getElem_cons (by omega), (List.getElem?_eq_some_iff.1 hz).2, List.drop_eq_nil_of_le (by omega)]
  obtain ⟨L, hL⟩ : ∃ L, l.take n = L := ⟨_, rfl⟩
  have hlL : l = L ++ [z] := by rw [← hL, ← hdr, List.take_append_drop]
  have hnL : L.length = n := by rw [← hL, List.length_take]; omega
  rw [hdr, hL, List.map_cons, List.map_nil] at h hx
  subst hlL
  subst hnL
  have hz0 : (L ++ [z]).toArray[L.length]? = some z := by simp
  have eQ : (fun a' => ∀ q, wpList P (L ++ [z]).toArray Q [z] a' (w.drewN q)) = (fun a' => ∀ w', (∃ q, w' = w.drewN q) → wpOp P (L ++ [z]).toArray Q L.length (fun a w => Q .normal a w) a' w') := by
    funext a'
    have e : ∀ q, wpList P (L ++ [z]).toArray Q [z] a' (w.drewN q) = wpOp P (L ++ [z]).toArray Q L.length (fun a w => Q .normal a w) a' (w.drewN q) := fun q => by
      unfold wpOp wpList
      simp only [hz0]
      rfl
    refine propext ⟨?_, fun h q => by rw [e]; exact h _ ⟨q, rfl⟩⟩
    rintro h w' ⟨q, rfl⟩
    rw [← e]; exact h q
  rw [eQ] at h
  refine wp_region_any hm ?_
  have hx' := hx
  simp only [Region.lexB, Bool.and_eq_true] at hx'
  have H := wpAnyQ_lex (P := P) (C := fun w' => ∃ q, w' = w.drewN q) (md := .any) hx'.1 (L ++ [idle z]) 0 (Array.replicate (L ++ [idle z]).toArray.size false) a (by simp) (by simpa using hx'.2) h
  have inv0 : HeadInv .any (L ++ [z]).toArray L.length (Array.replicate (L ++ [z]).toArray.size false) :=
    ⟨by simp, fun j oj _ hl => (by rw [getD_replicate_false] at hl; cases hl), fun t _ ht => getD_in (by simpa using ht) (getD_replicate_false _ _)⟩
  rw [idle_size, show (L ++ [idle z]).length = (L ++ [z]).toArray.size by simp] at H
  exact quiet_tail_sim (C := fun w' => ∃ q, w' = w.drewN q) hs hc ha hdz _ _ a { w with drawn := w.drawn + 1 } ⟨1, rfl⟩ inv0 H
end
end Go.Proofs.YtlniekobijcanaaGreat
namespace Go.Proofs.YtlniekobijcanaaGreat
open Go Go.RowKit
/-- A box: which operation lays it, in which slot, its type, its first cells; which operation stores there, out of which slot. -/
structure Bx where
  ia : Nat
  d : Tmp
  T : TypeId
  z : Array Value
  st : Nat
  s : Tmp
def idleU (o : Oper) : Oper := { o with op := .assign (.const undef) }
def boxedF (idx : List Nat) : Nat → List Oper → List Oper
  | _, [] => []
  | i, o :: r => (if idx.contains i then idleU o else o) :: boxedF idx (i + 1) r
def bxIdx (bx : List Bx) : List Nat := bx.flatMap fun b => [b.ia, b.st]
theorem boxedF_get (idx : List Nat) : ∀ (l : List Oper) (k i : Nat), (boxedF idx k l)[i]? = (l[i]?).map fun o => if idx.contains (k + i) then idleU o else o
  | [], _, _ => by simp [boxedF]
  | o :: r, k, 0 => by simp [boxedF]
  | o :: r, k, i + 1 => by
    simp only [boxedF, List.getElem?_cons_succ]
    rw [boxedF_get idx r (k + 1) i, show k + 1 + i = k + (i + 1) by omega]
section
variable {P : Program} {idx : List Nat} {l : List Oper} {md : Region.Mode}
theorem bxd_get (i : Nat) : (boxedF idx 0 l).toArray[i]? = (l.toArray[i]?).map fun o => if idx.contains i then idleU o else o := by
  rw [List.getElem?_toArray, List.getElem?_toArray, boxedF_get, Nat.zero_add]
theorem bxd_len : (boxedF idx 0 l).length = l.length := by
  suffices h : ∀ (l : List Oper) k, (boxedF idx k l).length = l.length from h l 0
  intro l
  induction l with
  | nil => intro k; rfl
  | cons o r ih => intro k; simp [boxedF, ih]
theorem bxd_size : (boxedF idx 0 l).toArray.size = l.toArray.size := by simp [bxd_len]
theorem bxd_after (i : Nat) : ((boxedF idx 0 l).toArray[i]?).map (·.after) = (l.toArray[i]?).map (·.after) := by
  rw [bxd_get]
  cases l.toArray[i]? with
  | none => rfl
  | some o => by_cases h : i ∈ idx <;> simp [h, idleU]
theorem bxd_dst (i : Nat) : ((boxedF idx 0 l).toArray[i]?).bind (·.dst) = (l.toArray[i]?).bind (·.dst) := by
  rw [bxd_get]
  cases l.toArray[i]? with
  | none => rfl
  | some o => by_cases h : i ∈ idx <;> simp [h, idleU]
theorem bxd_ready (listed : Array Bool) : Region.ready md (boxedF idx 0 l).toArray listed = Region.ready md l.toArray listed := by
  unfold Region.ready
  rw [bxd_size]
  refine List.filter_congr fun i _ => ?_
  have h := bxd_after (idx := idx) (l := l) i
  congr 1
  generalize (boxedF idx 0 l).toArray[i]? = x at *
  generalize l.toArray[i]? = y at *
  cases x <;> cases y <;> simp_all
theorem bxd_yielded (ts : Array Value) : yielded (boxedF idx 0 l).toArray ts = yielded l.toArray ts := by
  funext j
  unfold yielded
  rw [bxd_dst]
end
/-- Where all others have been written, the slots are as at the end. -/
theorem fin_at {P : Program} {md : Region.Mode} {ops : Array Oper} {C : World → Prop} {aF : Act} : ∀ (fuel : Nat) (listed : Array Bool) (a : Act), wpAnyQ P md ops C (fun x => x = aF) fuel listed a →
    ∀ t, (∀ (i : Nat) (o : Oper), ops[i]? = some o → listed.getD i true = false → o.dst ≠ some t) → a.tmps[t]? = aF.tmps[t]?
  | 0, _, a, h, t, _ => by have h2 : a = aF := h.2; rw [h2]
  | fuel + 1, listed, a, h, t, ht => by
    cases hr : Region.ready md ops listed with
    | nil => have h2 : a = aF := h.1 hr; rw [h2]
    | cons i r =>
      have hi : i ∈ Region.ready md ops listed := by rw [hr]; exact List.mem_cons_self
      have h1 := h.2 i hi
      obtain ⟨hun, o, ho, _⟩ := mem_ready.1 hi
      obtain ⟨v, _, hK⟩ := yieldsIn_of_qOp ho h1
      have h3 := fin_at fuel _ _ hK t (fun j oj hj hu => ht j oj hj (by
        by_cases e : i = j
        · subst e; exact hun
        · rwa [getD_set_ne true e] at hu))
      rw [← h3]
      have hd := ht i o ho hun
      cases hdd : o.dst with
      | none => rfl
      | some d =>
        have hne : d ≠ t := fun e => hd (by rw [hdd, e])
        simp [Act.put, Array.getElem?_setIfInBounds_ne hne]
def BxNe (b c : Bx) : Prop := b.ia ≠ c.ia ∧ b.ia ≠ c.st ∧ b.st ≠ c.ia ∧ b.st ≠ c.st ∧ b.d ≠ c.d
instance (b c : Bx) : Decidable (BxNe b c) := inferInstanceAs (Decidable (_ ∧ _))
theorem BxNe.symm {b c : Bx} (h : BxNe b c) : BxNe c b := ⟨Ne.symm h.1, Ne.symm h.2.2.1, Ne.symm h.2.1, Ne.symm h.2.2.2.1, Ne.symm h.2.2.2.2⟩
theorem bxNe_all : ∀ {bx : List Bx}, bx.Pairwise BxNe → ∀ b ∈ bx, ∀ c ∈ bx, b = c ∨ BxNe b c
  | [], _, b, hb, _, _ => by cases hb
  | x :: r, h, b, hb, c, hc => by
    obtain ⟨h1, h2⟩ := List.pairwise_cons.1 h
    rcases List.mem_cons.1 hb with hb' | hb' <;> rcases List.mem_cons.1 hc with hc' | hc'
    · exact .inl (hb'.trans hc'.symm)
    · exact .inr (hb' ▸ h1 c hc')
    · exact .inr (hc' ▸ (h1 b hb').symm)
    · exact bxNe_all h2 b hb' c hc'
/-- What is asked of the boxes. -/
def boxB (l : List Oper) (bx : List Bx) : Bool :=
  Region.noSelect l.toArray && decide (bx.Pairwise BxNe) && bx.all (fun b => b.ia != b.st) && acyB .any l.toArray &&
  bx.all (fun b =>
    (match l[b.ia]? with
     | some o => (match o.op with | .alloc T => T == b.T | _ => false) && o.dst == some b.d && o.guard.isNone
     | none => false) &&
    (match l[b.st]? with
     | some o => (match o.op with | .store T (.tmp d) (.tmp s) => T == b.T && d == b.d && s == b.s | _ => false) && o.dst.isNone && o.guard.isNone &&
        o.after.any (fun e => Region.binds .any e && e.on == b.ia) && o.after.any (fun e => Region.binds .any e && (match l[e.on]? with | some x => x.dst == some b.s | none => false))
     | none => false) &&
    bx.all (fun c => b.s != c.d)) &&
  (List.range l.length).all (fun i => (bxIdx bx).contains i || (match l[i]? with | some o => bx.all (fun b => !(o.looksAt l.toArray).contains b.d && o.dst != some b.d) | none => true)) &&
  (List.range l.length).all (fun i => (List.range l.length).all fun j => i == j || (match l[i]?, l[j]? with | some x, some y => x.dst.isNone || x.dst != y.dst | _, _ => true))
structure BxOk (l : List Oper) (bx : List Bx) : Prop where
  sel : Region.noSelect l.toArray = true
  ds : ∀ b ∈ bx, ∀ c ∈ bx, b = c ∨ BxNe b c
  dd : ∀ b ∈ bx, b.ia ≠ b.st
  acy : acyB .any l.toArray = true
  al : ∀ b ∈ bx, ∃ o, l[b.ia]? = some o ∧ o.op = .alloc b.T ∧ o.dst = some b.d ∧ o.guard = none
  st : ∀ b ∈ bx, ∃ o, l[b.st]? = some o ∧ o.op = .store b.T (.tmp b.d) (.tmp b.s) ∧ o.dst = none ∧ o.guard = none ∧ (∃ e ∈ o.after, Region.binds .any e = true ∧ e.on = b.ia) ∧ ∃ e ∈ o.after, Region.binds .any e = true ∧ ∃ x, l[e.on]? = some x ∧ x.dst = some b.s
  sd : ∀ b ∈ bx, ∀ c ∈ bx, b.s ≠ c.d
  ap : ∀ (i : Nat) (o : Oper), l[i]? = some o → i ∉ bxIdx bx → ∀ b ∈ bx, b.d ∉ o.looksAt l.toArray ∧ o.dst ≠ some b.d
  un : ∀ (i j : Nat) (x y : Oper) (t : Tmp), l[i]? = some x → l[j]? = some y → x.dst = some t → y.dst = some t → i = j
theorem boxB_ok {l : List Oper} {bx : List Bx} (h : boxB l bx = true) : BxOk l bx := by
  unfold boxB at h
  simp only [Bool.and_eq_true, List.all_eq_true, decide_eq_true_eq] at h
  obtain ⟨⟨⟨⟨⟨⟨h1, h2⟩, h3⟩, h4⟩, h5⟩, h6⟩, h7⟩ := h
  refine ⟨h1, bxNe_all h2, fun b hb => by simpa using h3 b hb, h4, fun b hb => ?_, fun b hb => ?_, fun b hb c hc => ?_, fun i o hi hn b hb => ?_, fun i j x y t hi hj hx hy => ?_⟩
  · have := (h5 b hb).1.1
    cases ho : l[b.ia]? with
    | none => rw [ho] at this; cases this
    | some o =>
      rw [ho] at this
      simp only [Bool.and_eq_true, beq_iff_eq, Option.isNone_iff_eq_none] at this
      obtain ⟨⟨g1, g2⟩, g3⟩ := this
      refine ⟨o, rfl, ?_, g2, g3⟩
      cases hop : o.op <;> rw [hop] at g1 <;> simp at g1
      rw [g1]
  · have := (h5 b hb).1.2
    cases ho : l[b.st]? with
    | none => rw [ho] at this; cases this
    | some o =>
      rw [ho] at this
      simp only [Bool.and_eq_true, beq_iff_eq, Option.isNone_iff_eq_none, Array.any_eq_true] at this
      obtain ⟨⟨⟨⟨g1, g2⟩, g3⟩, ⟨i, hi, g4⟩⟩, ⟨j, hj, g5⟩⟩ := this
      refine ⟨o, rfl, ?_, g2, g3, ⟨_, Array.getElem_mem hi, ?_, ?_⟩, ⟨_, Array.getElem_mem hj, ?_, ?_⟩⟩
      · revert g1
        split
        · rename_i T d s hop
          intro g1
          simp only [Bool.and_eq_true, beq_iff_eq] at g1
          obtain ⟨⟨rfl, rfl⟩, rfl⟩ := g1
          exact hop
        · intro g1; cases g1
      · exact g4.1
      · exact g4.2
      · exact g5.1
      · have g6 := g5.2
        cases hx : l[(o.after[j]).on]? with
        | none => rw [hx] at g6; cases g6
        | some x => rw [hx] at g6; exact ⟨x, rfl, by simpa using g6⟩
  · have := (h5 b hb).2 c hc
    simpa using this
  · have hil := (List.getElem?_eq_some_iff.1 hi).1
    have := h6 i (List.mem_range.2 hil)
    rw [hi] at this
    simp only [Bool.or_eq_true, List.contains_iff_mem, List.all_eq_true, Bool.and_eq_true] at this
    rcases this with h | h
    · exact absurd (by simpa using h) hn
    · have := h b hb
      simp at this
      exact ⟨this.1, this.2⟩
  · have hil := (List.getElem?_eq_some_iff.1 hi).1
    have hjl := (List.getElem?_eq_some_iff.1 hj).1
    have := h7 i (List.mem_range.2 hil) j (List.mem_range.2 hjl)
    rw [hi, hj] at this
    simp only [Bool.or_eq_true, beq_iff_eq] at this
    rcases this with h | h
    · exact h
    · rw [hx, hy] at h; simp at h
theorem put_out {a : Act} {dst : Option Tmp} {v : Value} {t : Nat} (h : dst ≠ some t) : (a.put dst v).tmps[t]? = a.tmps[t]? := by
  cases dst with
  | none => rfl
  | some d =>
    have hne : d ≠ t := fun e => h (by rw [e])
    simp [Act.put, Array.getElem?_setIfInBounds_ne hne]
theorem put_at {a : Act} {v : Value} {t : Nat} (h : t < a.tmps.size) : (a.put (some t) v).tmps[t]? = some v := by simp [Act.put, h]
theorem put_size {a : Act} {dst : Option Tmp} {v : Value} : (a.put dst v).tmps.size = a.tmps.size := by cases dst <;> simp [Act.put]
theorem put_dfr {a : Act} {dst : Option Tmp} {v : Value} : (a.put dst v).defers = a.defers := by cases dst <;> rfl
theorem put_same {a a' : Act} {dst : Option Tmp} {v : Value} {t : Nat} (h : a.tmps[t]? = a'.tmps[t]?) (hs : a.tmps.size = a'.tmps.size) : (a.put dst v).tmps[t]? = (a'.put dst v).tmps[t]? := by
  by_cases e : dst = some t
  · subst e
    by_cases ht : t < a.tmps.size
    · rw [put_at ht, put_at (by omega)]
    · rw [Array.getElem?_eq_none (by rw [put_size]; omega), Array.getElem?_eq_none (by rw [put_size]; omega)]
  · rw [put_out e, put_out e]; exact h
theorem act_ext {a b : Act} (h1 : a.defers = b.defers) (h2 : ∀ t : Nat, a.tmps[t]? = b.tmps[t]?) : a = b := by
  obtain ⟨x, y⟩ := a
  obtain ⟨z, u⟩ := b
  have : x = z := by
    apply Array.ext_getElem?
    exact h2
  subst this
  have h1' : y = u := h1
  rw [h1']
theorem look_congr {ops : Array Oper} {o : Oper} {a a' : Act} (hs : ∀ cs b, o.op ≠ .select cs b) (h : ∀ t ∈ o.looksAt ops, a.tmps[t]? = a'.tmps[t]?) :
    execOp a.eval o = execOp a'.eval o ∧ Region.wanted o (yielded ops a.tmps) = Region.wanted o (yielded ops a'.tmps) := by
  constructor
  · refine execOp_congr o hs (fun x hx => ?_)
    cases x with
    | tmp t =>
      have : t ∈ o.looksAt ops := by
        unfold Oper.looksAt
        refine List.mem_append_left _ (List.mem_filterMap.2 ⟨.tmp t, by simpa using hx, rfl⟩)
      simp [Act.eval, h t this]
    | _ => rfl
  · unfold Region.wanted
    cases hg : o.guard with
    | none => rfl
    | some q =>
      obtain ⟨g, want⟩ := q
      have : yielded ops a.tmps g = yielded ops a'.tmps g := by
        unfold yielded
        cases hd : (ops[g]?).bind (·.dst) with
        | none => rfl
        | some t =>
          have hm : t ∈ o.looksAt ops := by
            unfold Oper.looksAt
            refine List.mem_append_right _ ?_
            rw [hg]
            simp [hd]
          simp [h t hm]
      simp [this]
def bPtr (n : Nat) : Value := .pointer (some ⟨n, 0, none⟩)
def bSrc (aF : Act) (b : Bx) : Value := (aF.tmps[b.s]?).getD undef
structure BInv (l : List Oper) (bx : List Bx) (w0 : World) (aF : Act) (listed : Array Bool) (a' a : Act) (n : Nat → Nat) (w : World) : Prop where
  fr : Fr (fun _ => False) w0 w
  df : a.defers = a'.defers
  sz : a.tmps.size = a'.tmps.size
  out : ∀ t : Nat, (∀ b ∈ bx, listed.getD b.ia true = true → b.d ≠ t) → a.tmps[t]? = a'.tmps[t]?
  box : ∀ b ∈ bx, listed.getD b.ia true = true → a.tmps[b.d]? = some (bPtr (n b.ia)) ∧ w0.heap.size ≤ n b.ia ∧ w.heap[n b.ia]? = some (.cells (if listed.getD b.st true = true then (bSrc aF b).cells else b.z) b.T)
  ne : ∀ b ∈ bx, ∀ c ∈ bx, listed.getD b.ia true = true → listed.getD c.ia true = true → n b.ia = n c.ia → b = c
  ord : ∀ b ∈ bx, listed.getD b.st true = true → listed.getD b.ia true = true
  lsz : listed.size = l.length
  bnd : ∀ b ∈ bx, b.d < a.tmps.size
theorem ia_idx {bx : List Bx} {b : Bx} (h : b ∈ bx) : b.ia ∈ bxIdx bx := List.mem_flatMap.2 ⟨b, h, by simp⟩
theorem st_idx {bx : List Bx} {b : Bx} (h : b ∈ bx) : b.st ∈ bxIdx bx := List.mem_flatMap.2 ⟨b, h, by simp⟩
theorem getD_set_same {xs : Array Bool} {i : Nat} (h : i < xs.size) : (xs.setIfInBounds i true).getD i true = true := by simp [h]
/-- A box is laid. -/
theorem BInv.laid {l : List Oper} {bx : List Bx} (ok : BxOk l bx) {w0 : World} {aF : Act} {listed : Array Bool} {a' a : Act} {n : Nat → Nat} {w : World} (h : BInv l bx w0 aF listed a' a n w) {b : Bx} (hb : b ∈ bx) (hu : listed.getD b.ia true = false) (hlt : b.ia < l.length) (v : Value) :
    BInv l bx w0 aF (listed.setIfInBounds b.ia true) (a'.put (some b.d) v) (a.put (some b.d) (bPtr w.heap.size)) (fun i => if i = b.ia then w.heap.size else n i) (w.alloc (.cells b.z b.T)) := by
  have hls := h.lsz
  have hset : (listed.setIfInBounds b.ia true).getD b.ia true = true := getD_set_same (by omega)
  have hst0 : listed.getD b.st true = false := by
    cases e : listed.getD b.st true with
    | false => rfl
    | true => have := h.ord b hb e; rw [hu] at this; cases this
  have hne : b.ia ≠ b.st := ok.dd b hb
  have hst1 : (listed.setIfInBounds b.ia true).getD b.st true = false := by rw [getD_set_ne true hne]; exact hst0
  have old : ∀ c ∈ bx, c ≠ b → (listed.setIfInBounds b.ia true).getD c.ia true = listed.getD c.ia true ∧ (listed.setIfInBounds b.ia true).getD c.st true = listed.getD c.st true ∧ c.d ≠ b.d ∧ c.ia ≠ b.ia := fun c hc hcb => by
    rcases ok.ds b hb c hc with e | ⟨h1, h2, _, _, h5⟩
    · exact absurd e.symm hcb
    · exact ⟨getD_set_ne true h1, getD_set_ne true h2, Ne.symm h5, Ne.symm h1⟩
  refine ⟨h.fr.alloc _, by rw [put_dfr, put_dfr, h.df], by rw [put_size, put_size, h.sz], fun t ht => ?_, fun c hc hl => ?_, fun c hc e he hl hm hn => ?_, fun c hc hl => ?_, by simp [h.lsz], fun c hc => by rw [put_size]; exact h.bnd c hc⟩
  · have h1 : (some b.d : Option Tmp) ≠ some t := fun e => ht b hb hset (by injection e)
    rw [put_out h1, put_out h1]
    refine h.out t (fun c hc hl => ?_)
    by_cases hcb : c = b
    · rw [hcb, hu] at hl; cases hl
    · exact ht c hc (by rw [(old c hc hcb).1]; exact hl)
  · by_cases hcb : c = b
    · subst hcb
      refine ⟨by rw [put_at (h.bnd c hc), if_pos rfl], by rw [if_pos rfl]; exact h.fr.size, ?_⟩
      rw [if_pos rfl, hst1, if_neg (by simp)]
      exact heap_new _ _
    · obtain ⟨o1, o2, o3, o4⟩ := old c hc hcb
      rw [o1] at hl
      obtain ⟨h1, h2, h3⟩ := h.box c hc hl
      refine ⟨by rw [put_out (fun e => o3 (by injection e with e; exact e.symm)), if_neg o4]; exact h1, by rw [if_neg o4]; exact h2, ?_⟩
      rw [if_neg o4, o2]
      exact heap_keep h3 _
  · by_cases hcb : c = b <;> by_cases heb : e = b
    · rw [hcb, heb]
    · obtain ⟨o1, _, _, o4⟩ := old e he heb
      rw [o1] at hm
      have := (Array.getElem?_eq_some_iff.1 (h.box e he hm).2.2).1
      rw [hcb, if_pos rfl, if_neg o4] at hn
      omega
    · obtain ⟨o1, _, _, o4⟩ := old c hc hcb
      rw [o1] at hl
      have := (Array.getElem?_eq_some_iff.1 (h.box c hc hl).2.2).1
      rw [heb, if_pos rfl, if_neg o4] at hn
      omega
    · obtain ⟨o1, _, _, o4⟩ := old c hc hcb
      obtain ⟨p1, _, _, p4⟩ := old e he heb
      rw [o1] at hl
      rw [p1] at hm
      rw [if_neg o4, if_neg p4] at hn
      exact h.ne c hc e he hl hm hn
  · by_cases hcb : c = b
    · rw [hcb]; exact hset
    · obtain ⟨o1, o2, _, _⟩ := old c hc hcb
      rw [o2] at hl
      rw [o1]
      exact h.ord c hc hl
/-- A box is stored. -/
theorem BInv.stored {l : List Oper} {bx : List Bx} (ok : BxOk l bx) {w0 : World} {aF : Act} {listed : Array Bool} {a' a : Act} {n : Nat → Nat} {w w' : World} (h : BInv l bx w0 aF listed a' a n w) {b : Bx} (hb : b ∈ bx) (hia : listed.getD b.ia true = true) (hlt : b.st < l.length)
    (hc : w'.heap[n b.ia]? = some (.cells (bSrc aF b).cells b.T)) (hf : Fr (fun c => c = n b.ia) w w') (v u : Value) :
    BInv l bx w0 aF (listed.setIfInBounds b.st true) (a'.put none v) (a.put none u) n w' := by
  have hls := h.lsz
  have hset : (listed.setIfInBounds b.st true).getD b.st true = true := getD_set_same (by omega)
  have hia' : ∀ c ∈ bx, (listed.setIfInBounds b.st true).getD c.ia true = listed.getD c.ia true := fun c hc => by
    refine getD_set_ne true ?_
    rcases ok.ds b hb c hc with e | e
    · rw [← e]; exact Ne.symm (ok.dd b hb)
    · exact e.2.2.1
  have hst' : ∀ c ∈ bx, c ≠ b → (listed.setIfInBounds b.st true).getD c.st true = listed.getD c.st true := fun c hc hcb => by
    rcases ok.ds b hb c hc with e | e
    · exact absurd e.symm hcb
    · exact getD_set_ne true e.2.2.2.1
  refine ⟨h.fr.trans' hf (fun x hx e => by have := (h.box b hb hia).2.1; omega), h.df, h.sz, fun t ht => h.out t (fun c hc hl => ht c hc (by rw [hia' c hc]; exact hl)), fun c hcm hl => ?_, fun c hc e he hl hm hn => ?_, fun c hcm hl => ?_, by simp [h.lsz], h.bnd⟩
  · rw [hia' c hcm] at hl
    obtain ⟨h1, h2, h3⟩ := h.box c hcm hl
    refine ⟨h1, h2, ?_⟩
    by_cases hcb : c = b
    · subst hcb
      rw [hset, if_pos rfl]
      exact hc
    · rw [hst' c hcm hcb]
      exact hf.at_ h3 (fun e => hcb (h.ne c hcm b hb hl hia e))
  · rw [hia' c hc] at hl
    rw [hia' e he] at hm
    exact h.ne c hc e he hl hm hn
  · rw [hia' c hcm]
    by_cases hcb : c = b
    · rw [hcb]; exact hia
    · rw [hst' c hcm hcb] at hl
      exact h.ord c hcm hl
/-- A core operation. -/
theorem BInv.core {l : List Oper} {bx : List Bx} {w0 : World} {aF : Act} {listed : Array Bool} {a' a : Act} {n : Nat → Nat} {w w' : World} (h : BInv l bx w0 aF listed a' a n w) (hf : Fr (fun _ => False) w w') {i : Nat} (hi : i ∉ bxIdx bx) {dst : Option Tmp} (hd : ∀ b ∈ bx, dst ≠ some b.d) (v : Value) :
    BInv l bx w0 aF (listed.setIfInBounds i true) (a'.put dst v) (a.put dst v) n w' := by
  have e : ∀ j, j ∈ bxIdx bx → (listed.setIfInBounds i true).getD j true = listed.getD j true := fun j hj => getD_set_ne true (fun e => hi (e ▸ hj))
  refine ⟨h.fr.trans hf, by rw [put_dfr, put_dfr, h.df], by rw [put_size, put_size, h.sz], fun t ht => put_same (h.out t (fun b hb hl => ht b hb (by rw [e _ (ia_idx hb)]; exact hl))) h.sz, fun b hb hl => ?_, fun b hb c hc hl hm => ?_, fun b hb hl => ?_, by simp [h.lsz], fun b hb => by rw [put_size]; exact h.bnd b hb⟩
  · rw [e _ (ia_idx hb)] at hl
    obtain ⟨h1, h2, h3⟩ := h.box b hb hl
    refine ⟨by rw [put_out (hd b hb)]; exact h1, h2, ?_⟩
    rw [e _ (st_idx hb)]
    exact hf.at_ h3 (fun e => e)
  · rw [e _ (ia_idx hb)] at hl
    rw [e _ (ia_idx hc)] at hm
    exact h.ne b hb c hc hl hm
  · rw [e _ (st_idx hb)] at hl
    rw [e _ (ia_idx hb)]
    exact h.ord b hb hl
section
variable {P : Program} {l : List Oper} {bx : List Bx} {w0 : World} {aF : Act} {Q : Exit → Act → World → Prop}
theorem wpAnyQ_end {C : World → Prop} {ops : Array Oper} {Q' : Act → Prop} {listed : Array Bool} {a : Act} (h : Region.ready .any ops listed = []) : ∀ f, wpAnyQ P .any ops C Q' f listed a → Q' a
  | 0, hq => hq.2
  | _ + 1, hq => hq.1 h
/-- What all classes say of one operation: one value. -/
theorem all_put {ops : Array Oper} {fuel : Nat} {listed : Array Bool} {a' : Act} {i : Nat} {o : Oper} (ho : ops[i]? = some o) (hr : i ∈ Region.ready .any ops listed)
    (hw : ∀ (j : Nat) (x : Oper) (t : Tmp), ops[j]? = some x → x.dst = some t → o.dst = some t → j = i) (hil : i < listed.size)
    (hH : ∀ wX, Fr (fun _ => False) w0 wX → wpAnyQ P .any ops (fun w' => ∃ Y : FrW wX, w' = Y.val) (fun x => x = aF) (fuel + 1) listed a') (wX : World) (hX : Fr (fun _ => False) w0 wX) :
    ∃ v, YieldsIn P ops (fun w' => ∃ Y : FrW wX, w' = Y.val) o v a' ∧ ∀ wY, Fr (fun _ => False) w0 wY → wpAnyQ P .any ops (fun w' => ∃ Y : FrW wY, w' = Y.val) (fun x => x = aF) fuel (listed.setIfInBounds i true) (a'.put o.dst v) := by
  have hset : (listed.setIfInBounds i true).getD i true = true := getD_set_same hil
  have fin : ∀ wY, Fr (fun _ => False) w0 wY → ∃ v, YieldsIn P ops (fun w' => ∃ Y : FrW wY, w' = Y.val) o v a' ∧ wpAnyQ P .any ops (fun w' => ∃ Y : FrW wY, w' = Y.val) (fun x => x = aF) fuel (listed.setIfInBounds i true) (a'.put o.dst v) ∧ ∀ t, o.dst = some t → (a'.put o.dst v).tmps[t]? = aF.tmps[t]? := fun wY hY => by
    obtain ⟨v, h1, h2⟩ := yieldsIn_of_qOp ho ((hH wY hY).2 i hr)
    refine ⟨v, h1, h2, fun t ht => fin_at fuel _ _ h2 t (fun j x hj hu hx => ?_)⟩
    have := hw j x t hj hx ht
    rw [this, hset] at hu
    cases hu
  obtain ⟨v, h1, h2, h3⟩ := fin wX hX
  refine ⟨v, h1, fun wY hY => ?_⟩
  obtain ⟨u, _, g2, g3⟩ := fin wY hY
  have e : a'.put o.dst v = a'.put o.dst u := by
    refine act_ext (by rw [put_dfr, put_dfr]) (fun t => ?_)
    by_cases ht : o.dst = some t
    · rw [h3 t ht, g3 t ht]
    · rw [put_out ht, put_out ht]
  rw [e]
  exact g2
theorem box_sim (ok : BxOk l bx)
    (hal : ∀ b ∈ bx, ∀ w, (Instr.alloc b.T true (.tuple #[])).run P w = .ok (bPtr w.heap.size) (w.alloc (.cells b.z b.T)))
    (hst : ∀ b ∈ bx, ∀ w n, w.heap[n]? = some (.cells b.z b.T) → ∃ w', (Instr.storeAt b.T (bPtr n) (bSrc aF b)).run P w = .ok () w' ∧ w'.heap[n]? = some (.cells (bSrc aF b).cells b.T) ∧ Fr (fun c => c = n) w w')
    (hQ : ∀ (n : Nat → Nat) (w' : World) (a : Act), Fr (fun _ => False) w0 w' → (∀ b ∈ bx, w0.heap.size ≤ n b.ia ∧ w'.heap[n b.ia]? = some (.cells (bSrc aF b).cells b.T)) → (∀ b ∈ bx, ∀ c ∈ bx, n b.ia = n c.ia → b = c) → a.defers = aF.defers → a.tmps.size = aF.tmps.size → (∀ t : Nat, (∀ b ∈ bx, b.d ≠ t) → a.tmps[t]? = aF.tmps[t]?) → (∀ b ∈ bx, a.tmps[b.d]? = some (bPtr (n b.ia))) → Q .normal a w') :
    ∀ (fuel : Nat) (listed : Array Bool) (a' a : Act) (n : Nat → Nat) (w : World), BInv l bx w0 aF listed a' a n w →
      (∀ wX, Fr (fun _ => False) w0 wX → wpAnyQ P .any (boxedF (bxIdx bx) 0 l).toArray (fun w' => ∃ Y : FrW wX, w' = Y.val) (fun x => x = aF) fuel listed a') → wpAny P .any l.toArray Q fuel listed a w := by
  have hend : ∀ (fuel : Nat) (listed : Array Bool) (a' a : Act) (n : Nat → Nat) (w : World), BInv l bx w0 aF listed a' a n w →
      (∀ wX, Fr (fun _ => False) w0 wX → wpAnyQ P .any (boxedF (bxIdx bx) 0 l).toArray (fun w' => ∃ Y : FrW wX, w' = Y.val) (fun x => x = aF) fuel listed a') → Region.ready .any l.toArray listed = [] → Q .normal a w := fun fuel listed a' a n w inv hH hr => by
    have hall : ∀ k, k < l.length → listed.getD k true = true := fun k hk => by
      cases e : listed.getD k true with
      | true => rfl
      | false => exact absurd hr (ready_some ok.acy (by rw [inv.lsz]; simp) k k (by simpa using hk) (Nat.le_refl _) e)
    have ea : a' = aF := wpAnyQ_end (P := P) (C := fun w' => ∃ Y : FrW w0, w' = Y.val) (Q' := fun x => x = aF) (ops := (boxedF (bxIdx bx) 0 l).toArray) (by rw [bxd_ready]; exact hr) fuel (hH w0 (Fr.refl _ _))
    have hia : ∀ b ∈ bx, listed.getD b.ia true = true := fun b hb => by
      obtain ⟨o, ho, _⟩ := ok.al b hb
      exact hall _ (List.getElem?_eq_some_iff.1 ho).1
    have hsa : ∀ b ∈ bx, listed.getD b.st true = true := fun b hb => by
      obtain ⟨o, ho, _⟩ := ok.st b hb
      exact hall _ (List.getElem?_eq_some_iff.1 ho).1
    refine hQ n w a inv.fr (fun b hb => ?_) (fun b hb c hc e => inv.ne b hb c hc (hia b hb) (hia c hc) e) (by rw [inv.df, ea]) (by rw [inv.sz, ea]) (fun t ht => by rw [inv.out t (fun b hb _ => ht b hb), ea]) (fun b hb => (inv.box b hb (hia b hb)).1)
    obtain ⟨_, h2, h3⟩ := inv.box b hb (hia b hb)
    rw [hsa b hb, if_pos rfl] at h3
    exact ⟨h2, h3⟩
  intro fuel
  induction fuel with
  | zero =>
    intro listed a' a n w inv hH
    have hr : Region.ready .any l.toArray listed = [] := by have := (hH w0 (Fr.refl _ _)).1; rwa [bxd_ready] at this
    exact ⟨hr, hend 0 listed a' a n w inv hH hr⟩
  | succ fuel ih =>
    intro listed a' a n w inv hH
    refine ⟨hend _ listed a' a n w inv hH, fun i hi => ?_⟩
    obtain ⟨hun, o, ho, hdeps⟩ := mem_ready.1 hi
    have hol : l[i]? = some o := by simpa using ho
    have hil : i < l.length := (List.getElem?_eq_some_iff.1 hol).1
    have hlsz := inv.lsz
    have hi' : i ∈ Region.ready .any (boxedF (bxIdx bx) 0 l).toArray listed := by rw [bxd_ready]; exact hi
    have uniq : ∀ (j : Nat) (x : Oper) (t : Tmp), (boxedF (bxIdx bx) 0 l).toArray[j]? = some x → x.dst = some t → o.dst = some t → j = i := fun j x t hj hx ht => by
      rw [bxd_get] at hj
      cases hy : l.toArray[j]? with
      | none => rw [hy] at hj; cases hj
      | some y =>
        rw [hy] at hj
        have hyd : y.dst = some t := by
          simp only [Option.map_some, Option.some.injEq] at hj
          rw [← hj] at hx
          by_cases hc : (bxIdx bx).contains j = true
          · rw [if_pos hc] at hx; exact hx
          · rw [if_neg hc] at hx; exact hx
        exact ok.un j i y o t (by simpa using hy) hol hyd ht
    by_cases hA : ∃ b ∈ bx, b.ia = i
    · -- a box is laid
      obtain ⟨b, hb, rfl⟩ := hA
      obtain ⟨o', ho', hop, hod, hog⟩ := ok.al b hb
      rw [hol] at ho'
      obtain rfl : o = o' := by injection ho'
      have hob : (boxedF (bxIdx bx) 0 l).toArray[b.ia]? = some (idleU o) := by rw [bxd_get, ho]; simp [ia_idx hb]
      obtain ⟨v, _, hK⟩ := all_put (w0 := w0) (fuel := fuel) (a' := a') hob hi' (fun j x t hj hx ht => uniq j x t hj hx ht) (by omega) hH w0 (Fr.refl _ _)
      have hK' : ∀ wY, Fr (fun _ => False) w0 wY → wpAnyQ P .any (boxedF (bxIdx bx) 0 l).toArray (fun w' => ∃ Y : FrW wY, w' = Y.val) (fun x => x = aF) fuel (listed.setIfInBounds b.ia true) (a'.put (some b.d) v) := by rw [← hod]; exact hK
      unfold wpOp
      rw [ho]
      simp only [Region.wanted, hog, if_true]
      left
      unfold Oper.wp execOp
      simp only [hop, hod, Sem.run_bind, hal b hb w, Result.andThen_ok, Sem.run_pure, Oper.upon_value]
      exact ih _ _ _ _ _ (inv.laid ok hb hun hil v) hK'
    · by_cases hS : ∃ b ∈ bx, b.st = i
      · -- a box is stored
        obtain ⟨b, hb, rfl⟩ := hS
        obtain ⟨o', ho', hop, hod, hog, ⟨e1, he1, hb1, hon1⟩, ⟨e2, he2, hb2, x, hx, hxd⟩⟩ := ok.st b hb
        rw [hol] at ho'
        obtain rfl : o = o' := by injection ho'
        have hob : (boxedF (bxIdx bx) 0 l).toArray[b.st]? = some (idleU o) := by rw [bxd_get, ho]; simp [st_idx hb]
        obtain ⟨v, _, hK⟩ := all_put (w0 := w0) (fuel := fuel) (a' := a') hob hi' (fun j x t hj hx ht => uniq j x t hj hx ht) (by omega) hH w0 (Fr.refl _ _)
        have hK' : ∀ wY, Fr (fun _ => False) w0 wY → wpAnyQ P .any (boxedF (bxIdx bx) 0 l).toArray (fun w' => ∃ Y : FrW wY, w' = Y.val) (fun x => x = aF) fuel (listed.setIfInBounds b.st true) (a'.put none v) := by rw [← hod]; exact hK
        have hia : listed.getD b.ia true = true := by
          have h1 := hdeps e1 he1 hb1
          rw [hon1] at h1
          obtain ⟨oa, hoa, _⟩ := ok.al b hb
          have := (List.getElem?_eq_some_iff.1 hoa).1
          simp only [Array.getD_eq_getD_getElem?] at h1 ⊢
          rw [Array.getElem?_eq_getElem (by omega)] at h1 ⊢
          exact h1
        have hsrc : (a.tmps[b.s]?).getD undef = bSrc aF b := by
          unfold bSrc
          have h1 : a.tmps[b.s]? = a'.tmps[b.s]? := inv.out b.s (fun c hc _ e => ok.sd b hb c hc e.symm)
          have h2 : a'.tmps[b.s]? = aF.tmps[b.s]? := fin_at (fuel + 1) listed a' (hH w0 (Fr.refl _ _)) b.s (fun j y hj hu hy => by
            rw [bxd_get] at hj
            cases hz : l.toArray[j]? with
            | none => rw [hz] at hj; cases hj
            | some z =>
              rw [hz] at hj
              have hzd : z.dst = some b.s := by
                simp only [Option.map_some, Option.some.injEq] at hj
                rw [← hj] at hy
                by_cases hc : (bxIdx bx).contains j = true
                · rw [if_pos hc] at hy; exact hy
                · rw [if_neg hc] at hy; exact hy
              have ej := ok.un j e2.on z x b.s (by simpa using hz) hx hzd hxd
              have h3 := hdeps e2 he2 hb2
              have := (List.getElem?_eq_some_iff.1 hx).1
              rw [ej] at hu
              simp only [Array.getD_eq_getD_getElem?] at h3 hu
              rw [Array.getElem?_eq_getElem (by omega)] at h3 hu
              simp only [Option.getD_some] at h3 hu
              rw [h3] at hu
              cases hu)
          rw [h1, h2]
        obtain ⟨q1, q2, q3⟩ := inv.box b hb hia
        rw [hun, if_neg (by simp)] at q3
        obtain ⟨w', r1, r2, r3⟩ := hst b hb w (n b.ia) q3
        have ed : a.eval (.tmp b.d) = bPtr (n b.ia) := by simp [Act.eval, q1]
        have es : a.eval (.tmp b.s) = bSrc aF b := by rw [← hsrc]; simp [Act.eval]
        unfold wpOp
        rw [ho]
        simp only [Region.wanted, hog, if_true]
        left
        unfold Oper.wp execOp
        simp only [hop, hod, ed, es, Sem.run_bind, r1, Result.andThen_ok, Sem.run_pure, Oper.upon_skip]
        exact ih _ _ _ _ _ (inv.stored ok hb hia hil r2 r3 v undef) hK'
      · -- a core operation
        have hni : i ∉ bxIdx bx := fun h => by
          obtain ⟨b, hb, hm⟩ := List.mem_flatMap.1 h
          simp only [List.mem_cons, List.not_mem_nil, or_false] at hm
          rcases hm with e | e
          · exact hA ⟨b, hb, e.symm⟩
          · exact hS ⟨b, hb, e.symm⟩
        have hob : (boxedF (bxIdx bx) 0 l).toArray[i]? = some o := by rw [bxd_get, ho]; simp [hni]
        obtain ⟨v, hY, hK⟩ := all_put (w0 := w0) (fuel := fuel) (a' := a') hob hi' uniq (by omega) hH w inv.fr
        have hap := ok.ap i o hol hni
        have hsel := Region.noSelect_spec ok.sel
        obtain ⟨c1, c2⟩ := look_congr (ops := l.toArray) (o := o) (a := a) (a' := a') (fun cs b => hsel i o cs b ho) (fun t ht => inv.out t (fun b hb _ e => (hap b hb).1 (e ▸ ht)))
        have key : ∀ w', Fr (fun _ => False) w w' → wpAny P .any l.toArray Q fuel (listed.setIfInBounds i true) (a.put o.dst v) w' := fun w' hf => ih _ _ _ _ _ (inv.core hf hni (fun b hb => (hap b hb).2) v) hK
        unfold wpOp
        rw [ho]
        simp only []
        rw [c2]
        rcases hY with ⟨hw, hq⟩ | ⟨hw, rfl⟩
        · rw [bxd_yielded] at hw
          rw [if_pos hw]
          left
          refine Oper.wp_of_quiet (C := fun w' => ∃ Y : FrW w, w' = Y.val) (K := fun x => x = a.put o.dst v) ⟨⟨w, Fr.refl _ w⟩, rfl⟩ ?_ ⟨v, fun w1 h1 => ?_, rfl⟩
          · rintro x w' ⟨Y, rfl⟩ rfl
            exact key _ Y.fr
          · have := hq w1 h1
            unfold Oper.quietAt at *
            rw [c1]
            exact this
        · rw [bxd_yielded] at hw
          rw [if_neg (by rw [hw]; simp)]
          exact key w (Fr.refl _ w)
def bPuts (bx : List Bx) (n : Nat → Nat) (x : Act) : Act := bx.foldl (fun x b => x.put (some b.d) (bPtr (n b.ia))) x
theorem bPuts_dfr {n : Nat → Nat} : ∀ {bx : List Bx} {x : Act}, (bPuts bx n x).defers = x.defers
  | [], _ => rfl
  | b :: r, x => (bPuts_dfr (bx := r)).trans put_dfr
theorem bPuts_out {n : Nat → Nat} {t : Nat} : ∀ {bx : List Bx} {x : Act}, (∀ b ∈ bx, b.d ≠ t) → (bPuts bx n x).tmps[t]? = x.tmps[t]?
  | [], _, _ => rfl
  | b :: r, x, h => (bPuts_out (bx := r) (fun c hc => h c (List.mem_cons_of_mem _ hc))).trans (put_out (fun e => h b List.mem_cons_self (by injection e)))
theorem bPuts_at {n : Nat → Nat} : ∀ {bx : List Bx} {x : Act}, bx.Pairwise (fun b c => b.d ≠ c.d) → ∀ b ∈ bx, b.d < x.tmps.size → (bPuts bx n x).tmps[b.d]? = some (bPtr (n b.ia))
  | [], _, _, b, hb, _ => by cases hb
  | c :: r, x, h, b, hb, hs => by
    obtain ⟨h1, h2⟩ := List.pairwise_cons.1 h
    rcases List.mem_cons.1 hb with e | hb'
    · subst e
      exact (bPuts_out (bx := r) (fun c hc => Ne.symm (h1 c hc))).trans (put_at hs)
    · exact bPuts_at h2 b hb' (by rw [put_size]; exact hs)
theorem wp_region_box {id : Nat} {a : Act} {w : World} (bx : List Bx) {l' : List Oper} (hm : P.follows .mixedOrders = true) (hl : boxedF (bxIdx bx) 0 l = l') (hB : boxB l bx = true) (hL : Region.lexB .any l'.toArray = true) (hd : bx.all (fun b => decide (b.d < a.tmps.size)) = true)
    (hal : ∀ b ∈ bx, ∀ w, (Instr.alloc b.T true (.tuple #[])).run P w = .ok (bPtr w.heap.size) (w.alloc (.cells b.z b.T)))
    (h : ∃ aF : Act, (∀ X : FrW w, wpQuiet P l'.toArray (fun w' => ∃ Y : FrW X.val, w' = Y.val) (fun a' => a' = aF) l' a) ∧
      (∀ b ∈ bx, ∀ w n, w.heap[n]? = some (.cells b.z b.T) → ∃ w', (Instr.storeAt b.T (bPtr n) (bSrc aF b)).run P w = .ok () w' ∧ w'.heap[n]? = some (.cells (bSrc aF b).cells b.T) ∧ Fr (fun c => c = n) w w') ∧
      ∀ (n : Nat → Nat) (w' : World), Fr (fun _ => False) w w' → (∀ b ∈ bx, w.heap.size ≤ n b.ia ∧ w'.heap[n b.ia]? = some (.cells (bSrc aF b).cells b.T)) → (∀ b ∈ bx, ∀ c ∈ bx, n b.ia = n c.ia → b = c) → Q .normal (bPuts bx n aF) w') : (Code.region id l.toArray true).wp P Q a w := by
  have ok := boxB_ok hB
  obtain ⟨aF, h, hst, hQ⟩ := h
  subst hl
  have hd' : ∀ b ∈ bx, b.d < a.tmps.size := fun b hb => of_decide_eq_true (List.all_eq_true.1 hd b hb)
  have hf : ∀ i, (Array.replicate l.toArray.size false).getD i true = true → l.length ≤ i := fun i hi => by
    rcases Nat.lt_or_ge i l.length with h | h
    · simp [h] at hi
    · exact h
  have hdp : bx.Pairwise (fun b c => b.d ≠ c.d) := by
    have : bx.Pairwise BxNe := by
      unfold boxB at hB
      simp only [Bool.and_eq_true, decide_eq_true_eq] at hB
      exact hB.1.1.1.1.1.2
    exact this.imp (fun h => h.2.2.2.2)
  refine wp_region_any hm (box_sim (w0 := w) (aF := aF) ok hal hst ?_ _ _ a a (fun _ => 0) _ ?_ ?_)
  · intro n w' x h1 h2 h3 h4 h5 h6 h7
    have e : x = bPuts bx n aF := by
      refine act_ext (h4.trans bPuts_dfr.symm) (fun t => ?_)
      by_cases ht : ∀ b ∈ bx, b.d ≠ t
      · rw [h6 t ht, bPuts_out ht]
      · have : ∃ b ∈ bx, b.d = t := Classical.byContradiction fun hne => ht fun b hb e => hne ⟨b, hb, e⟩
        obtain ⟨b, hb, rfl⟩ := this
        have h8 := h7 b hb
        have h9 := (Array.getElem?_eq_some_iff.1 h8).1
        rw [h8, bPuts_at hdp b hb (by rw [← h5]; exact h9)]
    rw [e]
    exact hQ n w' h1 h2 h3
  · refine ⟨(Fr.refl _ w).drew, rfl, rfl, fun _ _ => rfl, fun b hb hl => ?_, fun b hb c hc hl => ?_, fun b hb hl => ?_, by simp, hd'⟩
    · obtain ⟨o, ho, _⟩ := ok.al b hb
      have := (List.getElem?_eq_some_iff.1 ho).1
      have := hf _ hl
      omega
    · obtain ⟨o, ho, _⟩ := ok.al b hb
      have := (List.getElem?_eq_some_iff.1 ho).1
      have := hf _ hl
      omega
    · obtain ⟨o, ho, _⟩ := ok.st b hb
      have := (List.getElem?_eq_some_iff.1 ho).1
      have := hf _ hl
      omega
  · intro wX hX
    simp only [Region.lexB, Bool.and_eq_true] at hL
    have := wpAnyQ_lex (C := fun w' => ∃ Y : FrW wX, w' = Y.val) (md := .any) hL.1 (boxedF (bxIdx bx) 0 l) 0 (Array.replicate (boxedF (bxIdx bx) 0 l).toArray.size false) a (by simp) (by simpa using hL.2) (h ⟨wX, hX⟩)
    rw [bxd_size] at this
    simpa [bxd_len] using this
end
end Go.Proofs.YtlniekobijcanaaGreat
namespace Go.Proofs.YtlniekobijcanaaGreat
open Go Go.RowKit
theorem box_store {P : Program} {w : World} {n : Nat} {T : TypeId} {z cs : Array Value} (h : w.heap[n]? = some (.cells z T)) (hs : cs.size = z.size) (hi : (P.info? T).map (·.size) = some cs.size) (h1 : ∀ u ∈ cs.toList, u.oneCell' = true) :
    ∃ w', (Instr.storeAt T (bPtr n) (.agg cs)).run P w = .ok () w' ∧ w'.heap[n]? = some (.cells cs T) ∧ Fr (fun c => c = n) w w' := by
  refine ⟨w.setCells n 0 cs.toList, run_storeAt_mid w n 0 T cs ?_ hi (Array.all_eq_true_iff_forall_mem.2 fun u hu => h1 u (by simpa using hu)), ?_, fr_setCells _ _ (Fr.refl _ w) (fun _ => rfl)⟩
  · exact fun j hj => ⟨by simp [World.cell?, h]; omega, by simpa using obj_frozen h (0 + j)⟩
  · obtain ⟨cur, h2, h3, h4⟩ := row_setCells cs.toList 0 h (by simp [hs])
    rw [h2]
    congr 2
    apply Array.ext_getElem?
    intro q
    rw [h4 q]
    by_cases hq : q < cs.size
    · rw [if_pos (by simpa using hq)]; simp
    · rw [if_neg (by simpa using hq), Array.getElem?_eq_none (by omega), Array.getElem?_eq_none (by omega)]
end Go.Proofs.YtlniekobijcanaaGreat
namespace Go.Proofs.YtlniekobijcanaaGreat
open Go.RowKit Go.Maps
/-- Two places by the way: of bins a, b; of goods s, t. -/
def compF (a b : BV) (s t : Str) : Int :=
  if cmpI a.zo b.zo ≠ 0 then cmpI a.zo b.zo else or2 (if a.zo.tmod 2 = 1 then wrap64 (- cmpI a.nu b.nu) else cmpI a.nu b.nu) (cmpStr s t)
set_option maxRecDepth 100000 in
set_option maxHeartbeats 8000000 in
theorem bComp (w : World) (g : Nat) (L : List BV) (p q : PV) (A B : BV) (i j : Nat) (h : Fl w g L) (hA : findF L p.b = (i : Int)) (hi : L[i]? = some A) (hB : findF L q.b = (j : Int)) (hj : L[j]? = some B) :
    Calls Tryz.prog 41 #[.pointer (some ⟨g, 0, none⟩), .agg p.cs.toArray, .agg q.cs.toArray] w fun e w' => e = .returned (.int .i64 (compF A B p.g q.g)) ∧ Fr (fun _ => False) w w' := by
  have hL : 0 < L.length := by have := (List.getElem?_eq_some_iff.1 hi).1; omega
  have hfd := Lib.hid (fun W n (hf : Fr (fun _ => False) w W) => bFind W g L n (h.keep hf) hL)
  have hfi := Lib.hid hA; have hfj := Lib.hid hB
  obtain ⟨a, c, q1, q2⟩ := h
  have hiN := (List.getElem?_eq_some_iff.1 hi).1
  have hjN := (List.getElem?_eq_some_iff.1 hj).1
  have hNI := q2.len
  obtain ⟨N, hN⟩ : ∃ N, L.length = N := ⟨_, rfl⟩
  rw [hN] at q1 q2 hNI hiN hjN
  have hiI : (i : Int) < N := by omega
  have hjI : (j : Int) < N := by omega
  obtain ⟨R, hR⟩ : ∃ R, compF A B p.g q.g = R := ⟨_, rfl⟩
  rw [hR]
  have HR := Lib.hid hR
  obtain ⟨p1, p2, p3⟩ := p
  obtain ⟨r1, r2, r3⟩ := q
  dsimp only [PV.cs] at *
  obtain ⟨ad, rfl, okA, z0, zs⟩ := q2.at_ hi
  obtain ⟨ad', e', okB, y0, ys⟩ := q2.at_ hj
  cases e'
  obtain ⟨la, lc, hl⟩ := okA.l.sl
  obtain ⟨lb, ld, hm⟩ := okB.l.sl
  have hfacts : Hid (∀ W, Fr (fun _ => False) w W → W.cell? ⟨g, 0, none⟩ = some (.slice (some ad) N c) ∧ W.cell? (ad.add (i * 4)) = some (.int .i64 A.nu) ∧ W.cell? ⟨(ad.add (i * 4)).block, (ad.add (i * 4)).off + 1, none⟩ = some (.int .i64 A.zo) ∧ W.cell? ⟨(ad.add (i * 4)).block, (ad.add (i * 4)).off + 2, none⟩ = some (.int .i64 A.ro) ∧ W.cell? ⟨(ad.add (i * 4)).block, (ad.add (i * 4)).off + 3, none⟩ = some (.slice la A.its.length lc) ∧ W.cell? (ad.add (j * 4)) = some (.int .i64 B.nu) ∧ W.cell? ⟨(ad.add (j * 4)).block, (ad.add (j * 4)).off + 1, none⟩ = some (.int .i64 B.zo) ∧ W.cell? ⟨(ad.add (j * 4)).block, (ad.add (j * 4)).off + 2, none⟩ = some (.int .i64 B.ro) ∧ W.cell? ⟨(ad.add (j * 4)).block, (ad.add (j * 4)).off + 3, none⟩ = some (.slice lb B.its.length ld)) := Lib.hid (fun W hf => by
    have n0 : ¬ (fun _ : Nat => False) g := fun e => e
    exact ⟨hf.cell (cell_obj q1 0 (.slice (some ad) N c) rfl) n0, hf.cell (z0 (.int .i64 A.nu) rfl) (fun e => e), hf.cell (zs 0 (.int .i64 A.zo) rfl) (fun e => e), hf.cell (zs 1 (.int .i64 A.ro) rfl) (fun e => e), hf.cell (zs 2 (.slice la A.its.length lc) (by rw [← hl]; rfl)) (fun e => e), hf.cell (y0 (.int .i64 B.nu) rfl) (fun e => e), hf.cell (ys 0 (.int .i64 B.zo) rfl) (fun e => e), hf.cell (ys 1 (.int .i64 B.ro) rfl) (fun e => e), hf.cell (ys 2 (.slice lb B.its.length ld) (by rw [← hm]; rfl)) (fun e => e)⟩)
  obtain ⟨ai, hai⟩ : ∃ x, ad.add (i * 4) = x := ⟨_, rfl⟩
  obtain ⟨aj, haj⟩ : ∃ x, ad.add (j * 4) = x := ⟨_, rfl⟩
  rw [hai, haj] at hfacts
  clear hL hR hN hA hB q1 q2 hi hj z0 zs y0 ys okA okB hl hm
  go_enter Tryz.func41, Tryz.ntmps41
  go_wp2_with fail
  obtain ⟨W0, hW0⟩ : ∃ W, (w.alloc (.cells #[.int .i64 p1, vS p2, .int .i64 p3] 55)).alloc (.cells #[.int .i64 r1, vS r2, .int .i64 r3] 55) = W := ⟨_, rfl⟩
  obtain ⟨n0, hn0⟩ : ∃ n, w.heap.size = n := ⟨_, rfl⟩
  have hFW : Hid (Fr (fun _ => False) w W0) := Lib.hid (by rw [← hW0]; exact ((Fr.refl _ w).alloc _).alloc _)
  have hx0 : W0.heap[n0]? = some (.cells #[.int .i64 p1, vS p2, .int .i64 p3] 55) := by rw [← hW0]; exact heap_keep (heap_at hn0.symm _) _
  have hx1 : W0.heap[n0 + 1]? = some (.cells #[.int .i64 r1, vS r2, .int .i64 r3] 55) := by rw [← hW0]; exact heap_at (by simp [hn0]) _
  rw [hW0, hn0]
  have hN0 : Hid (∀ W n, Fr (fun _ => False) W0 W → Calls Tryz.prog 39 #[.pointer (some ⟨g, 0, none⟩), .int .i64 n] W fun e w' => e = .returned (.int .i64 (findF L n)) ∧ Fr (fun _ => False) W w') := Lib.hid (fun W n hf => hfd.out W n (hFW.out.trans hf))
  obtain ⟨u0, u1, u2, u3, u4, u5, u6, u7, u8⟩ := hfacts.out W0 hFW.out
  have v0 := cell_obj hx0 0 (.int .i64 p1) rfl
  have v1 := cell_obj hx1 0 (.int .i64 r1) rfl
  have HX0 := Lib.hid hx0; have HX1 := Lib.hid hx1
  clear hx0 hx1 hfacts hW0 hn0 hfd
  refine wp_region_box [⟨20, 7, 76, #[.int .i64 0, .int .i64 0, .int .i64 0, .slice none 0 0], 22, 20⟩, ⟨21, 8, 76, #[.int .i64 0, .int .i64 0, .int .i64 0, .slice none 0 0], 23, 30⟩] (by kernel_rfl) rfl (by kernel_rfl) (by kernel_rfl) (by kernel_rfl) ?al ?_
  case al =>
    intro b hb w
    simp only [List.mem_cons, List.not_mem_nil, or_false] at hb
    rcases hb with rfl | rfl <;> kernel_rfl
  apply Exists.intro
  refine ⟨?hh, ?st, ?qq⟩
  case hh =>
    intro X
    have q0 := FrW.cell (X.fr.cell u0 (fun e => e)); have q1 := FrW.cell (X.fr.cell u1 (fun e => e)); have q2 := FrW.cell (X.fr.cell u2 (fun e => e)); have q3 := FrW.cell (X.fr.cell u3 (fun e => e)); have q4 := FrW.cell (X.fr.cell u4 (fun e => e)); have q5 := FrW.cell (X.fr.cell u5 (fun e => e)); have q6 := FrW.cell (X.fr.cell u6 (fun e => e)); have q7 := FrW.cell (X.fr.cell u7 (fun e => e)); have q8 := FrW.cell (X.fr.cell u8 (fun e => e)); have r0 := FrW.cell (X.fr.cell v0 (fun e => e)); have r1' := FrW.cell (X.fr.cell v1 (fun e => e))
    simp (config := { decide := true }) only [boxedF, bxIdx, List.flatMap_cons, List.flatMap_nil, List.cons_append, List.nil_append, idleU, if_true, if_false, ite_true, ite_false]
    repeat (go_big_quiet_step ((go_at_call 39; rename_i Y; refine (hN0.out Y.val _ (X.fr.trans Y.fr)).mono ?_; (first | rw [hfi.out] | rw [hfj.out]); rintro e w2 ⟨rfl, hF⟩; exact ⟨rfl, ⟨w2, Y.fr.trans hF⟩, rfl⟩)))
    exact wpQuiet_nil rfl
  case st =>
    intro b hb w n hw
    simp only [List.mem_cons, List.not_mem_nil, or_false] at hb
    rcases hb with rfl | rfl
    · exact box_store (cs := #[.int .i64 A.nu, .int .i64 A.zo, .int .i64 A.ro, .slice la A.its.length lc]) hw rfl (by kernel_rfl) (by intro u hu; simp only [List.mem_cons, List.not_mem_nil, or_false] at hu; rcases hu with rfl | rfl | rfl | rfl <;> rfl)
    · exact box_store (cs := #[.int .i64 B.nu, .int .i64 B.zo, .int .i64 B.ro, .slice lb B.its.length ld]) hw rfl (by kernel_rfl) (by intro u hu; simp only [List.mem_cons, List.not_mem_nil, or_false] at hu; rcases hu with rfl | rfl | rfl | rfl <;> rfl)
  case qq =>
    intro m wz hfz hbx hdiff
    have hb7 : wz.heap[m 20]? = some (.cells #[.int .i64 A.nu, .int .i64 A.zo, .int .i64 A.ro, .slice la A.its.length lc] 76) := (hbx _ (List.mem_cons_self)).2
    have hb8 : wz.heap[m 21]? = some (.cells #[.int .i64 B.nu, .int .i64 B.zo, .int .i64 B.ro, .slice lb B.its.length ld] 76) := (hbx _ (List.mem_cons_of_mem _ List.mem_cons_self)).2
    obtain ⟨b7, hb7e⟩ : ∃ b, m 20 = b := ⟨_, rfl⟩
    obtain ⟨b8, hb8e⟩ : ∃ b, m 21 = b := ⟨_, rfl⟩
    rw [hb7e] at hb7
    rw [hb8e] at hb8
    have HFZ := Lib.hid (hFW.out.trans hfz)
    have y1 := cell_obj hb7 0 (.int .i64 A.nu) rfl
    have y2 := cell_obj hb7 1 (.int .i64 A.zo) rfl
    have z1 := cell_obj hb8 0 (.int .i64 B.nu) rfl
    have z2 := cell_obj hb8 1 (.int .i64 B.zo) rfl
    have g1 := cell_obj (hfz.at_ HX0.out (fun e => e)) 1 (vS p2) rfl
    have g2 := cell_obj (hfz.at_ HX1.out (fun e => e)) 1 (vS r2) rfl
    simp only [bPuts, List.foldl_cons, List.foldl_nil, Act.put, bPtr, hb7e, hb8e]
    clear hbx hdiff hfz hb7 hb8
    simp only [List.setIfInBounds_toArray, List.set_cons_succ, List.set_cons_zero]
    obtain ⟨CZ, hCZ⟩ : ∃ x, cmpI A.zo B.zo = x := ⟨_, rfl⟩
    obtain ⟨CN, hCN⟩ : ∃ x, cmpI A.nu B.nu = x := ⟨_, rfl⟩
    obtain ⟨CS, hCS⟩ : ∃ x, cmpStr p2 r2 = x := ⟨_, rfl⟩
    have hR2 := HR.out
    unfold compF at hR2
    rw [hCZ, hCN, hCS] at hR2
    have HCZ := Lib.hid hCZ; have HCN := Lib.hid hCN; have HCS := Lib.hid hCS
    have HR2 := Lib.hid hR2
    clear hCZ hCN hCS hR2
    have kCZ := Lib.hid (fun W => cCompare A.zo B.zo W)
    rw [HCZ.out] at kCZ
    by_cases hz : CZ = 0
    · subst hz
      have hCI := Lib.hid (fun a b W => cCompare a b W)
      have hCSt := Lib.hid (fun a b W => cCompareS a b W)
      clear kCZ
      by_cases hm : A.zo.tmod 2 = 1
      · have hr : Hid (R = or2 (wrap64 (-CN)) CS) := Lib.hid (by rw [← HR2.out, if_neg (by simp), if_pos hm])
        have hm1 : (A.zo.tmod 2 == 1) = true := by simpa using hm
        clear hm
        go_wp2_with (first
          | (go_at_call 51; refine (hCI.out _ _ _).mono ?_; (first | rw [HCZ.out] | rw [HCN.out]); rintro e w5 ⟨rfl, rfl⟩)
          | (go_at_call 92; refine (hCSt.out _ _ _).mono ?_; rw [HCS.out]; rintro e w6 ⟨rfl, rfl⟩))
        refine (cOr (wrap64 (-CN)) CS wz.heap.size 2 _ (cell_obj (heap_new wz (.cells #[.int .i64 (wrap64 (-CN)), .int .i64 CS] 3)) 0 (.int .i64 (wrap64 (-CN))) rfl) (cell_obj (heap_new wz (.cells #[.int .i64 (wrap64 (-CN)), .int .i64 CS] 3)) 1 (.int .i64 CS) rfl)).mono ?_
        rintro e w7 ⟨rfl, rfl⟩
        have HF8 := Lib.hid (HFZ.out.alloc (.cells #[.int .i64 (wrap64 (-CN)), .int .i64 CS] 3))
        go_wp2_with fail
        go_ret
        exact ⟨by rw [hr.out]; rfl, HF8.out⟩
      · have hr : Hid (R = or2 CN CS) := Lib.hid (by rw [← HR2.out, if_neg (by simp), if_neg hm])
        have hm1 : (A.zo.tmod 2 == 1) = false := by simpa using hm
        clear hm
        go_wp2_with (first
          | (go_at_call 51; refine (hCI.out _ _ _).mono ?_; (first | rw [HCZ.out] | rw [HCN.out]); rintro e w5 ⟨rfl, rfl⟩)
          | (go_at_call 92; refine (hCSt.out _ _ _).mono ?_; rw [HCS.out]; rintro e w6 ⟨rfl, rfl⟩))
        refine (cOr CN CS wz.heap.size 2 _ (cell_obj (heap_new wz (.cells #[.int .i64 CN, .int .i64 CS] 3)) 0 (.int .i64 CN) rfl) (cell_obj (heap_new wz (.cells #[.int .i64 CN, .int .i64 CS] 3)) 1 (.int .i64 CS) rfl)).mono ?_
        rintro e w7 ⟨rfl, rfl⟩
        have HF8 := Lib.hid (HFZ.out.alloc (.cells #[.int .i64 CN, .int .i64 CS] 3))
        go_wp2_with fail
        go_ret
        exact ⟨by rw [hr.out]; rfl, HF8.out⟩
    · have b1 : (CZ != 0) = true := by simpa using hz
      have hr : Hid (R = CZ) := Lib.hid (by rw [← HR2.out, if_pos hz])
      clear hz
      go_wp2_with (go_at_call 51; refine (kCZ.out _).mono ?_; rintro e w5 ⟨rfl, rfl⟩)
      go_ret
      exact ⟨by rw [hr.out]; rfl, HFZ.out⟩
end Go.Proofs.YtlniekobijcanaaGreat
namespace Go.Proofs.YtlniekobijcanaaGreat
open Go.RowKit Go.Maps
def cfPut (s : Str) (a b : BE) : Int := if cmpI (kindE a s) (kindE b s) ≠ 0 ∨ kindE a s ≠ 0 then cmpI (kindE a s) (kindE b s) else cmpI (leftE a) (leftE b)
def cfTake (s : Str) (a b : BE) : Int := cmpI (ofF a.its s) (ofF b.its s)
set_option maxRecDepth 100000 in
set_option maxHeartbeats 8000000 in
theorem bPut1 (w : World) (b : BV) (s : Str) (b1 : Nat) (hk : BOk w b) (h1 : w.cell? ⟨b1, 0, none⟩ = some (vS s)) : Calls Tryz.prog 48 #[.agg b.cs, .pointer (some ⟨b1, 0, none⟩)] w fun e w' => e = .returned (.bool (kindE b.e s != 3)) ∧ Fr (fun _ => False) w w' := by
  have hKD := Lib.hid (fun W (hf : Fr (fun _ => False) w W) => bKind W b s (bokKeeps hk hf (fun _ e => e.elim)))
  obtain ⟨n0, hn0⟩ : ∃ n0, w.heap.size = n0 := ⟨_, rfl⟩
  rw [← kindE_e]
  obtain ⟨KD, hKD2⟩ : ∃ k, kindF b s = k := ⟨_, rfl⟩
  rw [hKD2] at hKD ⊢
  obtain ⟨nu, zo, ro, l, its⟩ := b
  obtain ⟨la, lc, hl⟩ := hk.l.sl
  dsimp only [BV.cs] at *
  subst hl
  obtain ⟨N, hN⟩ : ∃ N, its.length = N := ⟨_, rfl⟩
  rw [hN] at hKD ⊢
  have hb2 := ((Fr.refl (fun _ => False) w).alloc (.cells #[.int .i64 nu, .int .i64 zo, .int .i64 ro, .slice la N lc] 76)).cell h1 (fun h => h)
  clear hk h1 hKD2 hN
  go_enter Tryz.func48, Tryz.ntmps48
  go_wp2_with (go_at_call 49; refine (hKD.out _ ((Fr.refl _ w).alloc _)).mono ?_; rintro e w2 ⟨rfl, hf2⟩; have HF2 := Lib.hid (((Fr.refl (fun _ => False) w).alloc _).trans hf2); clear hf2)
  go_ret
  exact ⟨rfl, HF2.out⟩
set_option maxRecDepth 100000 in
set_option maxHeartbeats 8000000 in
theorem bPut2 (w : World) (a b : BV) (s : Str) (b1 : Nat) (ha : BOk w a) (hb : BOk w b) (h1 : w.cell? ⟨b1, 0, none⟩ = some (vS s)) : Calls Tryz.prog 50 #[.agg a.cs, .agg b.cs, .pointer (some ⟨b1, 0, none⟩)] w fun e w' => e = .returned (.int .i64 (cfPut s a.e b.e)) ∧ Fr (fun _ => False) w w' := by
  have hKA := Lib.hid (fun W (hf : Fr (fun _ => False) w W) => bKind W a s (bokKeeps ha hf (fun _ e => e.elim)))
  have hKB := Lib.hid (fun W (hf : Fr (fun _ => False) w W) => bKind W b s (bokKeeps hb hf (fun _ e => e.elim)))
  have hLA := Lib.hid (fun W (hf : Fr (fun _ => False) w W) => bLeft W a (bokKeeps ha hf (fun _ e => e.elim)))
  have hLB := Lib.hid (fun W (hf : Fr (fun _ => False) w W) => bLeft W b (bokKeeps hb hf (fun _ e => e.elim)))
  have hCM := Lib.hid (fun x y W => cCompare x y W)
  obtain ⟨n0, hn0⟩ : ∃ n0, w.heap.size = n0 := ⟨_, rfl⟩
  obtain ⟨R, hR⟩ : ∃ R, cfPut s a.e b.e = R := ⟨_, rfl⟩
  have hR2 := hR
  unfold cfPut at hR2
  rw [← kindE_e, ← kindE_e, ← leftE_e, ← leftE_e] at hR2
  rw [hR]
  obtain ⟨KA, hKA2⟩ : ∃ k, kindF a s = k := ⟨_, rfl⟩
  obtain ⟨KB, hKB2⟩ : ∃ k, kindF b s = k := ⟨_, rfl⟩
  obtain ⟨LA, hLA2⟩ : ∃ k, leftF a = k := ⟨_, rfl⟩
  obtain ⟨LB, hLB2⟩ : ∃ k, leftF b = k := ⟨_, rfl⟩
  rw [hKA2] at hKA hR2; rw [hKB2] at hKB hR2; rw [hLA2] at hLA hR2; rw [hLB2] at hLB hR2
  have HR := Lib.hid hR2
  obtain ⟨nu, zo, ro, l, its⟩ := a
  obtain ⟨mu, yo, so, m, jts⟩ := b
  obtain ⟨la, lc, hl⟩ := ha.l.sl
  obtain ⟨ma, mc, hm⟩ := hb.l.sl
  dsimp only [BV.cs] at *
  subst hl hm
  obtain ⟨N, hN⟩ : ∃ N, its.length = N := ⟨_, rfl⟩
  obtain ⟨M, hM⟩ : ∃ M, jts.length = M := ⟨_, rfl⟩
  rw [hN] at hKA hLA ⊢
  rw [hM] at hKB hLB ⊢
  obtain ⟨W0, hW0⟩ : ∃ W0, (w.alloc (.cells #[.int .i64 nu, .int .i64 zo, .int .i64 ro, .slice la N lc] 76)).alloc (.cells #[.int .i64 mu, .int .i64 yo, .int .i64 so, .slice ma M mc] 76) = W0 := ⟨_, rfl⟩
  have hF0 : Fr (fun _ => False) w W0 := by rw [← hW0]; exact ((Fr.refl _ w).alloc _).alloc _
  have hx0 : W0.heap[n0]? = some (.cells #[.int .i64 nu, .int .i64 zo, .int .i64 ro, .slice la N lc] 76) := by rw [← hW0]; exact heap_keep (heap_at hn0.symm _) _
  have hx1 : W0.heap[n0 + 1]? = some (.cells #[.int .i64 mu, .int .i64 yo, .int .i64 so, .slice ma M mc] 76) := by rw [← hW0]; exact heap_at (by simp; omega) _
  have hc1 := hF0.cell h1 (fun e => e)
  have HF0 := Lib.hid hF0; have HX0 := Lib.hid hx0; have HX1 := Lib.hid hx1; have HC1 := Lib.hid hc1
  have p0 := FrW.cell (cell_obj hx0 0 (.int .i64 nu) rfl); have p1 := FrW.cell (cell_obj hx0 1 (.int .i64 zo) rfl); have p2 := FrW.cell (cell_obj hx0 2 (.int .i64 ro) rfl); have p3 := FrW.cell (cell_obj hx0 3 (.slice la N lc) rfl)
  have q0 := FrW.cell (cell_obj hx1 0 (.int .i64 mu) rfl); have q1 := FrW.cell (cell_obj hx1 1 (.int .i64 yo) rfl); have q2 := FrW.cell (cell_obj hx1 2 (.int .i64 so) rfl); have q3 := FrW.cell (cell_obj hx1 3 (.slice ma M mc) rfl)
  have r0 := FrW.cell hc1
  clear ha hb h1 hKA2 hKB2 hLA2 hLB2 hN hM hR hR2 hx0 hx1 hc1 hF0
  obtain ⟨CK, hCK⟩ : ∃ c, cmpI KA KB = c := ⟨_, rfl⟩
  rw [hCK] at HR
  have HCK := Lib.hid hCK
  clear hCK
  go_enter Tryz.func50, Tryz.ntmps50
  go_wp2_with fail
  refine wp_region_fr (by kernel_rfl) (by kernel_rfl) ?_
  repeat (go_big_quiet_step (first | (go_at_call 49; rename_i X; (first | (with_reducible refine (hKA.out X.val (HF0.out.trans X.fr)).mono ?_) | (with_reducible refine (hKB.out X.val (HF0.out.trans X.fr)).mono ?_)); rintro e w2 ⟨rfl, hF⟩; exact ⟨rfl, ⟨w2, X.fr.trans hF⟩, rfl⟩) | (go_at_call 51; rename_i X; refine (hCM.out KA KB _).mono ?_; rw [HCK.out]; rintro e w2 ⟨rfl, rfl⟩; exact ⟨rfl, ⟨_, X.fr⟩, rfl⟩)))
  refine wpQuiet_nil ?_
  rintro V ⟨⟨_, hV⟩, rfl⟩
  have a0 : V.cell? ⟨n0, 0, none⟩ = _ := p0 ⟨V, hV⟩; have a1 : V.cell? ⟨n0, 1, none⟩ = _ := p1 ⟨V, hV⟩; have a2 : V.cell? ⟨n0, 2, none⟩ = _ := p2 ⟨V, hV⟩; have a3 : V.cell? ⟨n0, 3, none⟩ = _ := p3 ⟨V, hV⟩; have d0 : V.cell? ⟨n0 + 1, 0, none⟩ = _ := q0 ⟨V, hV⟩; have d1 : V.cell? ⟨n0 + 1, 1, none⟩ = _ := q1 ⟨V, hV⟩; have d2 : V.cell? ⟨n0 + 1, 2, none⟩ = _ := q2 ⟨V, hV⟩; have d3 : V.cell? ⟨n0 + 1, 3, none⟩ = _ := q3 ⟨V, hV⟩; have e0 : V.cell? ⟨b1, 0, none⟩ = _ := r0 ⟨V, hV⟩
  have HV := Lib.hid hV
  clear hV p0 p1 p2 p3 q0 q1 q2 q3 r0
  by_cases hc : CK = 0
  · subst hc
    by_cases hka : KA = 0
    · have hr : Hid (cmpI LA LB = R) := Lib.hid (by rw [← HR.out, if_neg (by simp [hka])])
      subst hka
      go_wp2_with (go_at_call 49; (with_reducible refine (hKA.out _ (HF0.out.trans HV.out)).mono ?_); rintro e w2 ⟨rfl, hf2⟩; have HF2 := Lib.hid (HV.out.trans hf2); have a0 := hf2.cell a0 (fun e => e); have a1 := hf2.cell a1 (fun e => e); have a2 := hf2.cell a2 (fun e => e); have a3 := hf2.cell a3 (fun e => e); have d0 := hf2.cell d0 (fun e => e); have d1 := hf2.cell d1 (fun e => e); have d2 := hf2.cell d2 (fun e => e); have d3 := hf2.cell d3 (fun e => e); have a0 := FrW.cell a0; have a1 := FrW.cell a1; have a2 := FrW.cell a2; have a3 := FrW.cell a3; have d0 := FrW.cell d0; have d1 := FrW.cell d1; have d2 := FrW.cell d2; have d3 := FrW.cell d3; clear hf2)
      refine wp_region_fr (by kernel_rfl) (by kernel_rfl) ?_
      repeat (go_big_quiet_step (first | (go_at_call 52; rename_i X; (first | (with_reducible refine (hLA.out X.val (HF0.out.trans (HF2.out.trans X.fr))).mono ?_) | (with_reducible refine (hLB.out X.val (HF0.out.trans (HF2.out.trans X.fr))).mono ?_)); rintro e w3 ⟨rfl, hF⟩; exact ⟨rfl, ⟨w3, X.fr.trans hF⟩, rfl⟩) | (go_at_call 51; rename_i X; refine (hCM.out LA LB _).mono ?_; rw [hr.out]; rintro e w3 ⟨rfl, rfl⟩; exact ⟨rfl, ⟨_, X.fr⟩, rfl⟩)))
      refine wpQuiet_nil ?_
      rintro V3 ⟨⟨_, hV3⟩, rfl⟩
      go_wp2_with fail
      go_ret
      exact ⟨rfl, HF0.out.trans (HF2.out.trans hV3)⟩
    · have hr : Hid (R = 0) := Lib.hid (by rw [← HR.out, if_pos (.inr hka)])
      have bk : (KA != 0) = true := by simpa using hka
      clear hka
      go_wp2_with (go_at_call 49; (with_reducible refine (hKA.out _ (HF0.out.trans HV.out)).mono ?_); rintro e w2 ⟨rfl, hf2⟩; have HF2 := Lib.hid (HV.out.trans hf2); clear hf2)
      go_ret
      exact ⟨by rw [hr.out]; rfl, HF0.out.trans HF2.out⟩
  · have hr : Hid (R = CK) := Lib.hid (by rw [← HR.out, if_pos (.inl hc)])
    have bk : (CK != 0) = true := by simpa using hc
    clear hc
    go_wp2_with fail
    go_ret
    exact ⟨by rw [hr.out]; rfl, HF0.out.trans HV.out⟩
end Go.Proofs.YtlniekobijcanaaGreat
