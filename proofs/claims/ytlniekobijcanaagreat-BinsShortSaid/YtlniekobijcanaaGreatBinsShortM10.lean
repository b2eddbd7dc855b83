/- slices.SortStableFunc on []api.Place: a row of the caller's, its elements named; swapRange, rotate. -/
import Derived.Test.YtlniekobijcanaaGreatBinsShortM1
import Derived.Test.YtlniekobijcanaaGreatBinsShortM3
import Derived.BigRegion
import Derived.RegionTactic
import Derived.OwnWalk
namespace Go.Proofs.YtlniekobijcanaaGreat
open Go.RowKit
/-- A place: its bin, its good, how many. -/
structure PV where
  b : Int
  g : Str
  n : Int
abbrev PV.cs (p : PV) : List Value := [.int .i64 p.b, vS p.g, .int .i64 p.n]
/-- An element: what is compared, where it stood. -/
abbrev EP := PV × Nat
def flP (xs : List EP) : List Value := xs.flatMap fun p => p.1.cs
theorem flP_app (xs ys : List EP) : flP (xs ++ ys) = flP xs ++ flP ys := by simp [flP]
theorem flP_len (xs : List EP) : (flP xs).length = xs.length * 3 := by
  induction xs with
  | nil => rfl
  | cons x r ih => simp [flP] at ih ⊢; omega
/-- Block b begins with these. -/
def RwP (W : World) (b : Nat) (xs : List EP) : Prop := ∃ rest : List Value, W.heap[b]? = some (.cells (flP xs ++ rest).toArray 55)
theorem RwP.cells {W : World} {b : Nat} {xs : List EP} (h : RwP W b xs) {i : Nat} {p : EP} (hp : xs[i]? = some p) : W.cell? ⟨b, i * 3, none⟩ = some (.int .i64 p.1.b) ∧ W.cell? ⟨b, i * 3 + 1, none⟩ = some (vS p.1.g) ∧ W.cell? ⟨b, i * 3 + 2, none⟩ = some (.int .i64 p.1.n) := by
  obtain ⟨rest, h⟩ := h
  have hi := (List.getElem?_eq_some_iff.1 hp).1
  have e : xs = xs.take i ++ p :: xs.drop (i + 1) := by
    rw [← (List.getElem?_eq_some_iff.1 hp).2, ← List.drop_eq_getElem_cons hi, List.take_append_drop]
  have hl : (flP (xs.take i)).length = i * 3 := by rw [flP_len]; simp; omega
  have key : ∀ k, k < 3 → (flP xs ++ rest)[i * 3 + k]? = p.1.cs[k]? := fun k hk => by
    rw [e, flP_app, List.append_assoc, List.getElem?_append_right (by rw [hl]; omega), hl, show i * 3 + k - i * 3 = k by omega]
    show (p.1.cs ++ flP (xs.drop (i + 1)) ++ rest)[k]? = _
    rw [List.append_assoc, List.getElem?_append_left (by simp; omega)]
  exact ⟨cell_obj h _ _ (by rw [List.getElem?_toArray]; exact key 0 (by omega)), cell_obj h _ _ (by rw [List.getElem?_toArray]; exact key 1 (by omega)), cell_obj h _ _ (by rw [List.getElem?_toArray]; exact key 2 (by omega))⟩
theorem RwP.frz {W : World} {b : Nat} {xs : List EP} (h : RwP W b xs) (i : Nat) : W.frozen? ⟨b, i, none⟩ = false := by
  obtain ⟨rest, h⟩ := h
  exact obj_frozen h i
/-- Three stores: an element is set. -/
abbrev set3 (W : World) (b i : Nat) (p : PV) : World := ((W.setCell ⟨b, i * 3, none⟩ (.int .i64 p.b)).setCell ⟨b, i * 3 + 1, none⟩ (vS p.g)).setCell ⟨b, i * 3 + 2, none⟩ (.int .i64 p.n)
theorem RwP.set {W : World} {b : Nat} {A B : List EP} {x p : EP} (h : RwP W b (A ++ x :: B)) : RwP (set3 W b A.length p.1) b (A ++ p :: B) := by
  obtain ⟨rest, h⟩ := h
  refine ⟨rest, ?_⟩
  have hl := flP_len A
  have e1 : flP (A ++ x :: B) ++ rest = flP A ++ (.int .i64 x.1.b :: vS x.1.g :: .int .i64 x.1.n :: (flP B ++ rest)) := by simp [flP]
  have e2 : flP (A ++ p :: B) ++ rest = flP A ++ (.int .i64 p.1.b :: vS p.1.g :: .int .i64 p.1.n :: (flP B ++ rest)) := by simp [flP]
  rw [e1] at h
  rw [e2]
  rw [obj_set (obj_set (obj_set h (A.length * 3) _) (A.length * 3 + 1) _) (A.length * 3 + 2) _]
  congr 2
  rw [List.setIfInBounds_toArray, List.setIfInBounds_toArray, List.setIfInBounds_toArray]
  congr 1
  rw [List.set_append_right _ _ (by omega), List.set_append_right _ _ (by omega), List.set_append_right _ _ (by omega), hl]
  rw [show A.length * 3 - A.length * 3 = 0 by omega, show A.length * 3 + 1 - A.length * 3 = 1 by omega, show A.length * 3 + 2 - A.length * 3 = 2 by omega]
  rfl
theorem RwP.fr {S : Nat → Prop} {W W' : World} {b : Nat} {xs : List EP} (h : RwP W b xs) (hf : Fr S W W') (hS : ¬ S b) : RwP W' b xs := by
  obtain ⟨rest, h⟩ := h
  exact ⟨rest, hf.at_ h hS⟩
theorem RwP.swap {W : World} {b : Nat} {A B C : List EP} {x y : EP} (h : RwP W b (A ++ x :: (B ++ y :: C))) {i j : Nat} (hi : i = A.length) (hj : j = A.length + 1 + B.length) :
    RwP (set3 (set3 W b i y.1) b j x.1) b (A ++ y :: (B ++ x :: C)) := by
  subst hi
  have h1 := h.set (p := y)
  have h2 : RwP (set3 W b A.length y.1) b ((A ++ y :: B) ++ y :: C) := by simpa using h1
  have h3 := h2.set (p := x)
  have e : (A ++ y :: B).length = j := by rw [hj]; simp; omega
  rw [e] at h3
  simpa using h3
theorem RwP.swap' {W : World} {b : Nat} {A B C : List EP} {x y : EP} (h : RwP W b (A ++ x :: (B ++ y :: C))) {i j : Nat} (hi : i = A.length) (hj : j = A.length + 1 + B.length) :
    RwP (set3 (set3 W b j x.1) b i y.1) b (A ++ y :: (B ++ x :: C)) := by
  subst hi
  have h2 : RwP W b ((A ++ x :: B) ++ y :: C) := by simpa using h
  have h3 := h2.set (p := x)
  have e : (A ++ x :: B).length = j := by rw [hj]; simp; omega
  rw [e] at h3
  have h4 : RwP (set3 W b j x.1) b (A ++ x :: (B ++ x :: C)) := by simpa using h3
  exact h4.set (p := y)
theorem at_leftP {A B : List EP} {x : EP} : (A ++ x :: B)[A.length]? = some x := by
  rw [List.getElem?_append_right (Nat.le_refl _), Nat.sub_self]; rfl
theorem at_rightP {A B C : List EP} {x y : EP} : (A ++ x :: (B ++ y :: C))[A.length + 1 + B.length]? = some y := by
  rw [List.getElem?_append_right (by omega)]
  have e2 : A.length + 1 + B.length - A.length = B.length + 1 := by omega
  rw [e2, List.getElem?_cons_succ]
  exact at_leftP
theorem fr_set3 {w W : World} {b i : Nat} {p : PV} (h : Fr (fun c => c = b) w W) : Fr (fun c => c = b) w (set3 W b i p) :=
  ((h.setCell (p := ⟨b, i * 3, none⟩) (fun _ => rfl) _).setCell (p := ⟨b, i * 3 + 1, none⟩) (fun _ => rfl) _).setCell (p := ⟨b, i * 3 + 2, none⟩) (fun _ => rfl) _
theorem cell_ne {W : World} {b i j : Nat} {u v : Value} (h : W.cell? ⟨b, j, none⟩ = some v) (hne : i ≠ j) : (W.setCell ⟨b, i, none⟩ u).cell? ⟨b, j, none⟩ = some v := by
  exact (World.cell?_setCell_other W u (a := ⟨b, i, none⟩) (b := ⟨b, j, none⟩) (fun e => hne (by injection e))).trans h
theorem RwP.after {W : World} {b : Nat} {xs : List EP} (h : RwP W b xs) {i j : Nat} (hne : i ≠ j) {p : PV} {v0 v1 v2 : Value} (c0 : W.cell? ⟨b, j * 3, none⟩ = some v0) (c1 : W.cell? ⟨b, j * 3 + 1, none⟩ = some v1) (c2 : W.cell? ⟨b, j * 3 + 2, none⟩ = some v2) :
    ((W.frozen? ⟨b, i * 3, none⟩ = false ∧ W.frozen? ⟨b, i * 3 + 1, none⟩ = false ∧ W.frozen? ⟨b, i * 3 + 2, none⟩ = false ∧ W.frozen? ⟨b, j * 3, none⟩ = false ∧ W.frozen? ⟨b, j * 3 + 1, none⟩ = false ∧ W.frozen? ⟨b, j * 3 + 2, none⟩ = false) ∧
    (set3 W b i p).cell? ⟨b, j * 3, none⟩ = some v0 ∧ (set3 W b i p).cell? ⟨b, j * 3 + 1, none⟩ = some v1 ∧ (set3 W b i p).cell? ⟨b, j * 3 + 2, none⟩ = some v2) :=
  ⟨⟨h.frz _, h.frz _, h.frz _, h.frz _, h.frz _, h.frz _⟩, cell_ne (cell_ne (cell_ne c0 (by omega)) (by omega)) (by omega), cell_ne (cell_ne (cell_ne c1 (by omega)) (by omega)) (by omega), cell_ne (cell_ne (cell_ne c2 (by omega)) (by omega)) (by omega)⟩
/-- A range is changed with another, i done. -/
theorem swp_stepP {P U M V S : List EP} {i : Nat} {x y : EP} (hx : U[i]? = some x) (hy : V[i]? = some y) :
    P ++ (V.take i ++ (U.drop i ++ (M ++ (U.take i ++ (V.drop i ++ S))))) = (P ++ V.take i) ++ x :: ((U.drop (i + 1) ++ (M ++ U.take i)) ++ y :: (V.drop (i + 1) ++ S)) ∧
    P ++ (V.take (i + 1) ++ (U.drop (i + 1) ++ (M ++ (U.take (i + 1) ++ (V.drop (i + 1) ++ S))))) = (P ++ V.take i) ++ y :: ((U.drop (i + 1) ++ (M ++ U.take i)) ++ x :: (V.drop (i + 1) ++ S)) := by
  have eu : U.drop i = x :: U.drop (i + 1) := by
    rw [List.drop_eq_getElem_cons (List.getElem?_eq_some_iff.1 hx).1, (List.getElem?_eq_some_iff.1 hx).2]
  have ev : V.drop i = y :: V.drop (i + 1) := by
    rw [List.drop_eq_getElem_cons (List.getElem?_eq_some_iff.1 hy).1, (List.getElem?_eq_some_iff.1 hy).2]
  constructor
  · rw [eu, ev]; simp
  · rw [List.take_add_one, List.take_add_one, hx, hy]; simp
set_option maxRecDepth 100000 in
set_option maxHeartbeats 4000000 in
theorem swapP (w : World) (b n cap pa pb k : Nat) (fv : Value) (P U M V S : List EP) (h : RwP w b (P ++ (U ++ (M ++ (V ++ S))))) (hn : n = (P ++ (U ++ (M ++ (V ++ S)))).length) (hm : n ≤ 1000000000000) (ha : pa = P.length) (hb : pb = pa + U.length + M.length) (hk : k = U.length) (hv : V.length = k) :
    Calls Tryz.prog 149 #[.slice (some ⟨b, 0, none⟩) n cap, .int .i64 pa, .int .i64 pb, .int .i64 k, fv] w fun e w' => e = .returned (.tuple #[]) ∧ RwP w' b (P ++ (V ++ (M ++ (U ++ S)))) ∧ Fr (fun c => c = b) w w' := by
  have hlen : n = pa + k + M.length + k + S.length := by simp at hn; omega
  have HN := Lib.hid hlen; have H0 := Lib.hid h
  have HA := Lib.hid ha; have HB := Lib.hid hb; have HK := Lib.hid hk; have HV := Lib.hid hv
  have i1 : (n : Int) ≤ 1000000000000 := by omega
  have i2 : (pa : Int) + k ≤ n := by omega
  have i3 : (pb : Int) + k ≤ n := by omega
  clear h hn hm ha hb hk hv hlen
  go_enter Tryz.func149, Tryz.ntmps149
  go_wp2_with fail
  go_loopw [10] (fun v wr => ∃ i : Nat, i ≤ k ∧ v = .int .i64 i ∧ RwP wr b (P ++ (V.take i ++ (U.drop i ++ (M ++ (U.take i ++ (V.drop i ++ S)))))) ∧ Fr (fun c => c = b) w wr) (fun v _ => k - (intOf v).toNat)
  case atStart => exact ⟨0, Nat.zero_le _, rfl, by simpa using H0.out, Fr.refl _ _⟩
  case round =>
    obtain ⟨i, hi, rfl, hr, hf⟩ := hrel
    by_cases hlt : i < k
    · obtain ⟨x, hx⟩ : ∃ x, U[i]? = some x := ⟨U[i]'(by have := HK.out; omega), List.getElem?_eq_getElem _⟩
      obtain ⟨y, hy⟩ : ∃ y, V[i]? = some y := ⟨V[i]'(by have := HV.out; omega), List.getElem?_eq_getElem _⟩
      obtain ⟨s1, s2⟩ := swp_stepP (P := P) (M := M) (S := S) hx hy
      rw [s1] at hr
      have e1 : pa + i = (P ++ V.take i).length := by have := HA.out; have := HV.out; simp; omega
      have e2 : pb + i = (P ++ V.take i).length + 1 + (U.drop (i + 1) ++ (M ++ U.take i)).length := by have := HA.out; have := HB.out; have := HK.out; have := HV.out; simp; omega
      obtain ⟨c10, c11, c12⟩ := hr.cells (i := pa + i) (by rw [e1]; exact at_leftP)
      obtain ⟨c20, c21, c22⟩ := hr.cells (i := pb + i) (by rw [e2]; exact at_rightP)
      have hsw := hr.swap (i := pa + i) (j := pb + i) e1 e2
      rw [← s2] at hsw
      have hne : pa + i ≠ pb + i := by have := HB.out; have := HK.out; omega
      have hltI : (i : Int) < k := by omega
      have HSW := Lib.hid hsw; have HF := Lib.hid hf; have HNE := Lib.hid hne
      obtain ⟨⟨f10, f11, f12, f20, f21, f22⟩, d0, d1, d2⟩ := hr.after hne (p := y.1) c20 c21 c22
      clear hr hf hsw e1 e2 s1 s2 hx hy hne
      obtain ⟨ja, hja⟩ : ∃ j, pa + i = j := ⟨_, rfl⟩
      obtain ⟨jb, hjb⟩ : ∃ j, pb + i = j := ⟨_, rfl⟩
      rw [hja] at c10 c11 c12 f10 f11 f12 HSW HNE d0 d1 d2
      rw [hjb] at c20 c21 c22 f20 f21 f22 HSW HNE d0 d1 d2
      have ta : ((pa : Int) + i).toNat = ja := by omega
      have tb : ((pb : Int) + i).toNat = jb := by omega
      have za : (0 : Int) ≤ (pa : Int) + i := by omega
      have zb : (0 : Int) ≤ (pb : Int) + i := by omega
      have la : (pa : Int) + i < n := by omega
      have lb : (pb : Int) + i < n := by omega
      have ra : IntKind.i64.wrap ((pa : Int) + i) = (pa : Int) + i := IntWalk.i64_in _ (by omega)
      have rb : IntKind.i64.wrap ((pb : Int) + i) = (pb : Int) + i := IntWalk.i64_in _ (by omega)
      clear hja hjb
      go_wp2_with fail
      go_region
      have hfs : Fr (fun c => c = b) wr (set3 (set3 wr b ja y.1) b jb x.1) := fr_set3 (fr_set3 (Fr.refl _ wr))
      have HFS := Lib.hid (HF.out.trans hfs)
      clear c10 c11 c12 c20 c21 c22 f10 f11 f12 f20 f21 f22 d0 d1 d2 hfs
      go_wp2_with fail
      go_roundw
      case rel => exact ⟨i + 1, by omega, by go_num, HSW.out.fr (S := fun _ => False) (Fr.refl _ _).drew (fun e => e), HFS.out.drew⟩
      case measure => simp [intOf]; omega
    · obtain rfl : i = k := by omega
      rw [List.take_of_length_le (by have := HV.out; have := HK.out; omega), List.take_of_length_le (by have := HV.out; have := HK.out; omega), List.drop_of_length_le (by have := HV.out; have := HK.out; omega), List.drop_of_length_le (by have := HV.out; have := HK.out; omega), List.nil_append, List.nil_append] at hr
      have HR := Lib.hid hr; have HF := Lib.hid hf
      have hltI : ¬ (i : Int) < i := by omega
      clear hr hf
      go_wp2_with fail
      go_end0
      exact ⟨rfl, HR.out, HF.out⟩
theorem swapXP (w : World) (b n cap : Nat) (fv : Value) (P U M V S : List EP) {ia ib ik : Int} (h : RwP w b (P ++ (U ++ (M ++ (V ++ S))))) (hn : n = (P ++ (U ++ (M ++ (V ++ S)))).length) (hm : n ≤ 1000000000000) (ha : ia = (P.length : Int)) (hb : ib = ((P.length + U.length + M.length : Nat) : Int)) (hk : ik = (U.length : Int)) (hv : V.length = U.length) :
    Calls Tryz.prog 149 #[.slice (some ⟨b, 0, none⟩) n cap, .int .i64 ia, .int .i64 ib, .int .i64 ik, fv] w fun e w' => e = .returned (.tuple #[]) ∧ RwP w' b (P ++ (V ++ (M ++ (U ++ S)))) ∧ Fr (fun c => c = b) w w' := by
  subst ha hb hk
  exact swapP w b n cap P.length (P.length + U.length + M.length) U.length fv P U M V S h hn hm rfl rfl rfl hv
set_option maxRecDepth 100000 in
set_option maxHeartbeats 4000000 in
theorem rotP (w : World) (b n cap pa pm pb : Nat) (fv : Value) (P A B S : List EP) (h : RwP w b (P ++ (A ++ (B ++ S)))) (hn : n = (P ++ (A ++ (B ++ S))).length) (hm : n ≤ 1000000000000) (ha : pa = P.length) (hpm : pm = pa + A.length) (hb : pb = pm + B.length) (h1 : 0 < A.length) (h2 : 0 < B.length) :
    Calls Tryz.prog 136 #[.slice (some ⟨b, 0, none⟩) n cap, .int .i64 pa, .int .i64 pm, .int .i64 pb, fv] w fun e w' => e = .returned (.tuple #[]) ∧ RwP w' b (P ++ (B ++ (A ++ S))) ∧ Fr (fun c => c = b) w w' := by
  have hlen : n = pa + A.length + B.length + S.length := by simp at hn; omega
  have HN := Lib.hid hn; have HM := Lib.hid hm; have H0 := Lib.hid h; have HA := Lib.hid ha
  obtain ⟨la, hla⟩ : ∃ la, A.length = la := ⟨_, rfl⟩
  obtain ⟨lb, hlb⟩ : ∃ lb, B.length = lb := ⟨_, rfl⟩
  have HPM := Lib.hid hpm; have HPB := Lib.hid hb
  rw [hla] at hlen h1 hpm HPM
  rw [hlb] at hlen h2 hb HPB
  have HLA := Lib.hid hla; have HLB := Lib.hid hlb; have HLEN := Lib.hid hlen
  have i1 : (n : Int) ≤ 1000000000000 := by omega
  have i2 : (pm : Int) ≤ pa + la := by omega
  have i3 : (pa : Int) + la ≤ pm := by omega
  have i4 : (pb : Int) ≤ pm + lb := by omega
  have i5 : (pm : Int) + lb ≤ pb := by omega
  have i6 : (pb : Int) ≤ n := by omega
  clear h hn hm ha hpm hb hla hlb hlen
  go_enter Tryz.func136, Tryz.ntmps136
  go_wp2_with fail
  go_loopw [10, 11] (fun vi vj wr => ∃ (i j : Nat) (P' X Y S' : List EP), vi = .int .i64 i ∧ vj = .int .i64 j ∧ 0 < i ∧ 0 < j ∧ X.length = i ∧ Y.length = j ∧ P'.length + i = pm ∧ pm + j ≤ n ∧ RwP wr b (P' ++ (X ++ (Y ++ S'))) ∧ P' ++ (Y ++ (X ++ S')) = P ++ (B ++ (A ++ S)) ∧ n = (P' ++ (X ++ (Y ++ S'))).length ∧ Fr (fun c => c = b) w wr) (fun vi vj _ => (intOf vi).toNat + (intOf vj).toNat)
  case atStart => exact ⟨la, lb, P, A, B, S, by congr 1; omega, by congr 1; omega, h1, h2, HLA.out, HLB.out, by have := HA.out; omega, by omega, H0.out, rfl, HN.out, Fr.refl _ _⟩
  case round =>
    obtain ⟨i, j, P', X, Y, S', rfl, rfl, hi0, hj0, hX, hY, hP, hjn, hr, hEq, hN, hf⟩ := hrel
    have HX := Lib.hid hX; have HY := Lib.hid hY; have HP := Lib.hid hP; have HEQ := Lib.hid hEq; have HN2 := Lib.hid hN; have HR := Lib.hid hr; have HF := Lib.hid hf
    have g1 : (i : Int) ≤ pm := by omega
    have g2 : (pm : Int) + j ≤ n := by omega
    have g3 : 0 < (i : Int) := by omega
    have g4 : 0 < (j : Int) := by omega
    obtain ⟨qa, hqa⟩ : ∃ q, pm - i = q := ⟨_, rfl⟩
    have q1 : ((qa : Nat) : Int) ≤ pm - i := by omega
    have q2 : (pm : Int) - i ≤ qa := by omega
    clear hX hY hP hEq hN hr hf hqa hjn
    rcases (by omega : i < j ∨ i = j ∨ j < i) with hlt | heq | hgt
    · obtain ⟨Y1, Y2, rfl, hl1, hl2⟩ := split_len Y (k := j - i) (by have := HY.out; omega)
      have hl3 : Y2.length = i := by have := HY.out; omega
      have HL1 := Lib.hid hl1; have HL3 := Lib.hid hl3
      clear hl1 hl2 hl3
      have hltI : (i : Int) < j := by omega
      go_wp2_with fail
      refine (swapXP wr b n cap fv P' X Y1 Y2 S' (by have := HR.out; rw [List.append_assoc] at this; exact this) (by have := HN2.out; simp at this ⊢; omega) HM.out (by have := HP.out; omega) (by have := HP.out; have := HX.out; have := HL1.out; omega) (by have := HX.out; omega) (by have := HX.out; have := HL3.out; omega)).mono ?_
      rintro e w3 ⟨rfl, hr3, hf3⟩
      have HR3 := Lib.hid hr3; have HF3 := Lib.hid (HF.out.trans hf3)
      clear hr3 hf3
      go_wp2_with fail
      go_roundw
      case rel => exact ⟨i, j - i, P', Y2, Y1, X ++ S', rfl, by congr 1; omega, by omega, by omega, HL3.out, HL1.out, HP.out, by omega, HR3.out, by rw [← HEQ.out]; simp, by have := HN2.out; simp at this ⊢; omega, HF3.out⟩
      case measure => simp [intOf]; omega
    · subst heq
      go_wp2_with fail
      refine (swapXP wr b n cap fv P' X [] Y S' HR.out HN2.out HM.out (by have := HP.out; omega) (by have := HP.out; have := HX.out; simp; omega) (by have := HX.out; omega) (by have := HX.out; have := HY.out; omega)).mono ?_
      rintro e w3 ⟨rfl, hr3, hf3⟩
      have HR3 := Lib.hid hr3; have HF3 := Lib.hid (HF.out.trans hf3)
      clear hr3 hf3
      go_wp2_with fail
      go_end0
      exact ⟨rfl, by have := HR3.out; rw [← HEQ.out]; exact this, HF3.out⟩
    · obtain ⟨X1, X2, rfl, hl1, hl2⟩ := split_len X (k := j) (by have := HX.out; omega)
      have hl3 : X2.length = i - j := by have := HX.out; omega
      have HL1 := Lib.hid hl1; have HL3 := Lib.hid hl3
      clear hl1 hl2 hl3
      have hltI : (j : Int) < i := by omega
      go_wp2_with fail
      refine (swapXP wr b n cap fv P' X1 X2 Y S' (by have := HR.out; rw [List.append_assoc] at this; exact this) (by have := HN2.out; simp at this ⊢; omega) HM.out (by have := HP.out; omega) (by have := HP.out; have := HL1.out; have := HL3.out; omega) (by have := HL1.out; omega) (by have := HL1.out; have := HY.out; omega)).mono ?_
      rintro e w3 ⟨rfl, hr3, hf3⟩
      have HR3 := Lib.hid hr3; have HF3 := Lib.hid (HF.out.trans hf3)
      clear hr3 hf3
      go_wp2_with fail
      go_roundw
      case rel => exact ⟨i - j, j, P' ++ Y, X2, X1, S', by congr 1; omega, rfl, by omega, by omega, HL3.out, HL1.out, by have := HP.out; have := HY.out; simp; omega, by omega, by have := HR3.out; rw [List.append_assoc]; exact this, by rw [← HEQ.out]; simp, by have := HN2.out; simp at this ⊢; omega, HF3.out⟩
      case measure => simp [intOf]; omega
end Go.Proofs.YtlniekobijcanaaGreat
