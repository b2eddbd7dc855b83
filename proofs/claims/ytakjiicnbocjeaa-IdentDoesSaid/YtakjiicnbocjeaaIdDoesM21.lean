/- The document's mix (entrepotref02): Mix. -/
import Derived.Test.YtakjiicnbocjeaaIdDoesM19
import Derived.Test.YtakjiicnbocjeaaIdDoesM20
namespace Go.Proofs.Ytakjiicnbocjeaa
open Go.RowKit Go.Maps
theorem xorC1 : bits .xor .u64 7021802355507858702 7237128888997146477 = 368457802846855779 := by kernel_rfl
theorem xorC2 : bits .xor .u64 7021802355507858702 8387220255154660723 = 1519701440043968637 := by kernel_rfl
def lenV (v : Value) : Nat := match v with | .slice _ n _ => n | _ => 0
theorem Bs.rd {w : World} {a : Option Addr} {n c : Nat} {bs : List Int} (h : Bs w (.slice a n c) bs) : Rd w 1 a bs.length (u8s bs) := by
  obtain ⟨_, a', c', e, hx⟩ := h
  injection e with e1 e2 e3
  subst e1
  refine ⟨by simp [u8s], fun hp => ?_⟩
  obtain ⟨x0, hx0⟩ : ∃ x0, bs[0]? = some x0 := ⟨bs[0], List.getElem?_eq_getElem hp⟩
  obtain ⟨_, _, ad, rfl, _⟩ := hx 0 x0 hx0
  refine ⟨ad, rfl, fun j u hu => ?_⟩
  simp only [u8s, List.getElem?_map, Option.map_eq_some_iff] at hu
  obtain ⟨x, hx', rfl⟩ := hu
  obtain ⟨_, _, ad', e, hcl⟩ := hx j x hx'
  cases e
  exact hcl
/-- The four words lie in the first new block, the bytes in a row behind it. -/
structure MixI (w wr : World) (S : S4) (v : Value) (L : List Int) : Prop where
  arr : wr.heap[w.heap.size]? = some (.cells S.cs 114)
  row : wr.ownsRow (w.heap.size + 1) 5 1 v L.length (u8s L)
  fr : Fr (fun b => w.heap.size ≤ b) w wr
theorem MixI.size {w wr : World} {S : S4} {v : Value} {L : List Int} (h : MixI w wr S v L) : w.heap.size + 1 ≤ wr.heap.size := (Array.getElem?_eq_some_iff.1 h.arr).1
theorem MixI.push {w wr w' : World} {S : S4} {v v' : Value} {L : List Int} {x : Int} (h : MixI w wr S v L) (o : Obj) (ho : w'.ownsRow (w.heap.size + 1) 5 1 v' (L.length + 1) (u8s L ++ [.int .u8 x]))
    (hg : (wr.alloc o).grownBy w' v.ownBlock) : MixI w w' S v' (L ++ [x]) := by
  have hF : Fr (fun b => w.heap.size + 1 ≤ b) wr w' := ((Fr.refl _ wr).alloc o).trans (Fr.grown hg (fun r hr _ => (h.row.lt r hr).1))
  refine ⟨hF.at_ h.arr (by omega), by rw [List.length_append]; simpa [u8s] using ho, h.fr.trans' hF (fun b _ e => by omega)⟩
theorem MixI.set {w wr : World} {S S' : S4} {v : Value} {L : List Int} {j : Nat} {u : Value} (h : MixI w wr S v L) (hs : (S.cs).setIfInBounds j u = S'.cs) : MixI w (wr.setCell ⟨w.heap.size, j, none⟩ u) S' v L := by
  have hF : Fr (fun b => b = w.heap.size) wr (wr.setCell ⟨w.heap.size, j, none⟩ u) := (Fr.refl (fun b => b = w.heap.size) wr).setCell (p := ⟨w.heap.size, j, none⟩) (fun _ => rfl) _
  exact ⟨hs ▸ obj_set h.arr j u, hF.row h.row (fun b hb => by have := (h.row.lt b hb).1; omega), h.fr.trans' hF (fun b _ e => by omega)⟩
theorem MixI.below {w wr w' : World} {S : S4} {v : Value} {L : List Int} (h : MixI w wr S v L) (hb : Below wr.heap.size wr w') : MixI w w' S v L := by
  have hF := Fr.below (S := fun _ => False) hb
  exact ⟨hF.at_ h.arr (fun h => h), hF.row h.row (fun _ _ h => h), h.fr.trans' hF (fun _ _ e => e.elim)⟩
set_option maxRecDepth 100000 in
set_option maxHeartbeats 4000000 in
theorem rMix (w : World) (sl : Int) (v : Value) (bs : List Int) (h : Bs w v bs) (hl : (bs.length : Int) ≤ 140737488351232) (hb : ∀ x ∈ bs, 0 ≤ x ∧ x < 256) :
    Calls Try.prog 41 #[.int .u64 sl, v] w fun e w' => e = .returned (.int .u64 (mixF sl bs)) ∧ Below w.heap.size w w' := by
  obtain ⟨i0, hi', hz0, hz1, hz2⟩ := info_parts infoU8
  rw [mixF_words sl hb]
  obtain ⟨_, a, c, rfl, hx⟩ := id h
  have HR := Lib.hid h.rd
  obtain ⟨res, hres⟩ : ∃ r, mixQ (wordsS (mixS sl) (padB bs) (bs.length / 8 + 1)) = r := ⟨_, rfl⟩
  rw [hres]
  have HRES := Lib.hid hres; have HB := Lib.hid hb
  obtain ⟨n, hn⟩ : ∃ n, bs.length = n := ⟨_, rfl⟩
  have HN := Lib.hid hn
  rw [hn] at hl HR ⊢
  have H0 := Lib.hid (heap_new w (.cells (mixS sl).cs 114))
  have F0 : Hid (Fr (fun b => w.heap.size ≤ b) w (w.alloc (.cells (mixS sl).cs 114))) := Lib.hid ((Fr.refl _ w).alloc _)
  unfold mixS S4.cs at H0 F0
  dsimp only at H0 F0
  have hc1 := xorC1
  have hc2 := xorC2
  obtain ⟨S0, hS0⟩ : ∃ S0, mixS sl = S0 := ⟨_, rfl⟩
  have hown0 : Hid (((w.alloc (.cells (mixS sl).cs 114)).alloc (.cells #[] 5)).ownsRow (w.heap.size + 1) 5 1 (.slice (some ⟨w.heap.size + 1, 0, none⟩) 0 0) 0 []) := Lib.hid (by
    have := own_new (w := w.alloc (.cells (mixS sl).cs 114)) (base := w.heap.size + 1) (t := 5) #[] (by simp) (by simp)
    simpa using this)
  have hrd0 : Hid (Rd ((w.alloc (.cells (mixS sl).cs 114)).alloc (.cells #[] 5)) 1 a n (u8s bs)) := Lib.hid (HR.out.fr (((Fr.refl (fun _ => False) w).alloc _).alloc _) (fun _ _ h => h))
  have hi0 : Hid (∀ v1 w1, w1.ownsRow (w.heap.size + 1) 5 1 v1 n (u8s bs) → ((w.alloc (.cells (mixS sl).cs 114)).alloc (.cells #[] 5)).grownBy w1 (some (w.heap.size + 1)) → MixI w w1 S0 v1 bs) := Lib.hid (by
    intro v1 w1 ho hg
    have hF : Fr (fun b => w.heap.size + 1 ≤ b) (w.alloc (.cells (mixS sl).cs 114)) w1 := ((Fr.refl _ _).alloc _).trans (Fr.grown hg (fun r hr _ => by cases hr; exact Nat.le_refl _))
    refine ⟨hF.at_ (hS0 ▸ heap_new w _) (by omega), by rw [hn]; exact ho, ((Fr.refl _ w).alloc _).trans' hF (fun b _ e => by omega)⟩)
  have HS0 := Lib.hid hS0
  unfold mixS S4.cs at hown0 hrd0 hi0
  dsimp only at hown0 hrd0 hi0
  have hbs1 : ∀ u ∈ u8s bs, u.oneCell' = true := by intro u hu; simp [u8s] at hu; obtain ⟨x, _, rfl⟩ := hu; rfl
  have HB1 := Lib.hid hbs1
  clear h hx hres hb hn hbs1 hS0 HR H0 F0
  go_enter Try.func41, Try.ntmps41
  go_wp2_with (at_builtin; refine wpList_append_src rfl _ _ 28 rfl (w.heap.size + 1) 5 i0 (.int .u8 0) 1 Try.underlying28 hi' hz0 hz1 hz2 rfl (by decide) _ 0 [] rfl hown0.out c rfl hrd0.out HB1.out (by unfold maxLen; omega) (by omega) (by simp) ?_; intro v1 w1 hown1 hgrow1 _; simp only [Nat.zero_add, List.nil_append] at hown1; have hI1 := hi0.out v1 w1 hown1 hgrow1; clear hown1 hgrow1)
  have HI1 := Lib.hid hI1
  clear hI1 hown0 hrd0 hi0 hc1 hc2
  have h1 : ∀ x : Int, ∀ u ∈ [Value.int .u8 x], u.oneCell' = true := by intro x u hu; simp at hu; subst hu; rfl
  have H1 := Lib.hid h1
  clear h1
  go_loopw [7] (fun v wr => ∃ z : Nat, z ≤ 7 - n % 8 ∧ MixI w wr S0 v (bs ++ List.replicate z 0)) (fun v _ => n + 8 - lenV v)
  case atStart => exact ⟨0, Nat.zero_le _, by simpa using HI1.out⟩
  case round =>
    obtain ⟨z, hz, hI⟩ := hrel
    clear HI1
    obtain ⟨av, cv, rfl⟩ := row_sl hI.row
    have hlz : (bs ++ List.replicate z 0).length = n + z := by rw [List.length_append, List.length_replicate, HN.out]
    have HI := Lib.hid hI
    have hsz := hI.size
    rw [hlz] at HI ⊢
    have HLZ := Lib.hid hlz
    clear hI hlz
    obtain ⟨r, hr⟩ : ∃ r : Nat, (n + z) % 8 = r := ⟨_, rfl⟩
    have hr8 : r < 8 := by omega
    have ht : ((n : Int) + (z : Int)).tmod 8 = (r : Int) := by rw [Int.tmod_eq_emod_of_nonneg (by omega)]; omega
    have HRR := Lib.hid hr
    have HZ := Lib.hid hz
    have hz7 : (z : Int) ≤ 7 := by omega
    clear hr hz
    by_cases h7 : r = 7
    · subst h7
      go_wp2_with (at_builtin; refine wpList_append_src rfl _ _ 28 rfl (w.heap.size + 1) 5 i0 (.int .u8 0) 1 Try.underlying28 hi' hz0 hz1 hz2 rfl (by decide) (.slice av (n + z) cv) (n + z) (u8s (bs ++ List.replicate z 0)) rfl (by have := HI.out.row; rw [HLZ.out] at this; exact this.alloc _) 1 rfl (Rd.own (own_new #[_] (Nat.le_refl _) (by simp))) (H1.out _) (by unfold maxLen; omega) (by omega) (by simp; omega) ?_; intro v2 w2 hown2 hgrow2 _; have hI2 := HI.out.push _ (by rw [HLZ.out]; exact hown2) hgrow2)
      have hz : z = 7 - n % 8 := by have := HRR.out; have := HZ.out; omega
      have hP0 : bs ++ List.replicate z 0 ++ [(n : Int) % 256] = padB bs := by
        unfold padB
        rw [HN.out, hz]
        simp
      rw [hP0] at hI2
      have hRES := HRES.out
      have hPl := padB_len bs
      rw [HN.out, HS0.out] at hRES
      rw [HN.out] at hPl
      have hPb : ∀ x ∈ padB bs, 0 ≤ x ∧ x < 256 := by
        intro x hx
        unfold padB at hx
        rcases List.mem_append.1 hx with hx | hx
        · rcases List.mem_append.1 hx with hx | hx
          · exact HB.out x hx
          · have := (List.mem_replicate.1 hx).2; omega
        · simp at hx; omega
      have hnz : n + z + 1 = 8 * (n / 8 + 1) := by have := HRR.out; omega
      rw [hnz] at hown2
      obtain ⟨a2, c2, rfl⟩ := row_sl hown2
      obtain ⟨K, hK⟩ : ∃ K, n / 8 + 1 = K := ⟨_, rfl⟩
      obtain ⟨P, hP⟩ : ∃ P, padB bs = P := ⟨_, rfl⟩
      rw [hK] at hown2 hRES hPl hI2 ⊢
      rw [hP] at hRES hPl hPb hI2
      have hK1 : 1 ≤ K := by omega
      have hK2 : (K : Int) ≤ 140737488351232 := by omega
      obtain ⟨gp, c3, e1, hgb, _⟩ := hown2.form (by omega)
      injection e1 with e1 _ e3
      subst e1
      subst e3
      have hcell : ∀ (wr : World) (S : S4) (i : Nat) (x : Int), MixI w wr S (.slice (some ⟨gp, 0, none⟩) (8 * K) c2) P → P[i]? = some x → wr.cell? ⟨gp, i, none⟩ = some (.int .u8 x) := by
        intro wr S i x hI hx
        have h1 := hI.row
        rw [hPl] at h1
        obtain ⟨ad, e, h2⟩ := (Rd.own h1).at_ (k := i) (u := .int .u8 x) (by omega) (by simp [u8s, hx])
        cases e
        have e2 : (⟨gp, 0, none⟩ : Addr).add i = ⟨gp, i, none⟩ := by unfold Addr.add; split <;> simp_all
        rw [e2] at h2; exact h2
      have HC := Lib.hid hcell; have HRES2 := Lib.hid hRES; have HPL := Lib.hid hPl; have HPB := Lib.hid hPb; have HI2 := Lib.hid hI2
      clear hP0 hcell hRES hPl hPb hI2 hown2 hgrow2 hnz HI HLZ HZ HRR ht hr8 hz hz7 HRES HB HN HS0 HB1 hP hK hl
      go_loopw [8, 9, 10] (fun at_ _ _ wr => ∃ k : Nat, k ≤ K ∧ at_ = .int .i64 (8 * (k : Int)) ∧ MixI w wr (wordsS S0 P k) (.slice (some ⟨gp, 0, none⟩) (8 * K) c2) P) (fun at_ _ _ _ => 8 * K - (intOf at_).toNat)
      case atStart => exact ⟨0, Nat.zero_le _, rfl, HI2.out⟩
      case round =>
        obtain ⟨k, hk, rfl, hI⟩ := hrel
        have HI := Lib.hid hI
        clear hI HI2
        by_cases hkK : k < K
        · go_wp2_with fail
          obtain ⟨W, hW⟩ : ∃ W, (P.drop (8 * k)).take 8 = W := ⟨_, rfl⟩
          have hWl : W.length = 8 := by rw [← hW, List.length_take, List.length_drop, HPL.out]; omega
          have hWb : ∀ x ∈ W, 0 ≤ x ∧ x < 256 := by intro x hx; rw [← hW] at hx; exact HPB.out x (List.mem_of_mem_drop (List.mem_of_mem_take hx))
          have hWa : wordAt P k = leN W := by unfold wordAt; rw [hW]
          have hWg : ∀ j, j < 8 → W[j]? = P[8 * k + j]? := by intro j hj; rw [← hW, List.getElem?_take, if_pos hj, List.getElem?_drop]
          have HWL := Lib.hid hWl; have HWB := Lib.hid hWb; have HWA := Lib.hid hWa; have HWG := Lib.hid hWg
          clear hW hWl hWb hWa hWg
          go_loopw [9, 10] (fun m i wr' => ∃ j : Nat, j ≤ 8 ∧ i = .int .i64 ((j : Int) - 1) ∧ m = .int .u64 (leN (W.drop j)) ∧ wr' = wr) (fun _ i _ => (intOf i + 1).toNat)
          case atStart => exact ⟨8, Nat.le_refl _, rfl, by rw [List.drop_eq_nil_of_le (by rw [HWL.out]; omega)]; rfl, rfl⟩
          case round =>
            obtain ⟨j, hj, rfl, rfl, rfl⟩ := hrel
            cases j with
            | succ i =>
              obtain ⟨x, hx⟩ : ∃ x, W[i]? = some x := ⟨W[i]'(by rw [HWL.out]; omega), List.getElem?_eq_getElem _⟩
              have hst := leN_step hx
              obtain ⟨m, hm, hml⟩ := leN_nat (l := W.drop (i + 1)) (fun y hy => HWB.out y (List.mem_of_mem_drop hy))
              obtain ⟨x0, x1⟩ := HWB.out x (List.mem_of_getElem? hx)
              have hcx := HC.out _ _ (8 * k + i) x HI.out (by rw [← HWG.out i (by omega)]; exact hx)
              rw [List.length_drop, HWL.out] at hml
              have hm7 : m < 256 ^ 7 := Nat.lt_of_lt_of_le hml (Nat.pow_le_pow_right (by omega) (by omega))
              have hor : bits .or .u64 (IntKind.u64.wrap ((m : Int) * 256)) x = leN (W.drop i) := by
                have := or_add m x.toNat (by omega) (by omega)
                rw [Int.toNat_of_nonneg x0] at this
                rw [this, hst, hm]
                omega
              have hw : IntKind.u64.wrap ((m : Int) * 256) = (m : Int) * 256 := wrapU (by omega) (by omega)
              rw [hm]
              have hi1 : ((i + 1 : Nat) : Int) - 1 = (i : Int) := by omega
              rw [hi1]
              have HOR := Lib.hid hor; have HW := Lib.hid hw
              have hm8 : (m : Int) < 72057594037927936 := by omega
              have hi8 : (i : Int) < 8 := by omega
              have hk8 : (k : Int) < K := by omega
              clear hst hm hml hm7 hor hw hi1 hx
              go_wp2
              go_roundw
              case rel => exact ⟨i, by omega, rfl, by rw [← HOR.out, HW.out], by trivial⟩
              case measure => simp [intOf]
            | zero =>
              obtain ⟨S, hS⟩ : ∃ S, wordsS S0 P k = S := ⟨_, rfl⟩
              obtain ⟨m, hm⟩ : ∃ m, leN (W.drop 0) = m := ⟨_, rfl⟩
              have hS1 : wordsS S0 P (k + 1) = wrd S m := by rw [← hm, List.drop_zero, ← HWA.out, ← hS]; rfl
              rw [hm]
              rw [hS] at HI
              have HS1 := Lib.hid hS1
              clear hS hm hS1
              obtain ⟨sa, sb, sc, sd⟩ := S
              have hA := HI.out.arr
              have q0 := cell_obj hA 0 (.int .u64 sa) rfl
              have q1 := cell_obj hA 1 (.int .u64 sb) rfl
              have q2 := cell_obj hA 2 (.int .u64 sc) rfl
              have q3 := cell_obj hA 3 (.int .u64 sd) rfl
              have z3 := obj_frozen hA 3
              have HI2 := Lib.hid (HI.out.set (j := 3) (u := .int .u64 (bits .xor .u64 sd m)) (S' := ⟨sa, sb, sc, bits .xor .u64 sd m⟩) rfl)
              clear hA
              go_wp2_with fail
              refine (rRound _ ⟨sa, sb, sc, bits .xor .u64 sd m⟩).mono ?_
              rintro e w3 ⟨rfl, hB3⟩
              have HI3 := Lib.hid (HI2.out.below hB3)
              clear hB3 HI2 HI q0 q1 q2 q3 z3
              go_wp2_with fail
              refine (rRound _ _).mono ?_
              rintro e w4 ⟨rfl, hB4⟩
              have HI4 := Lib.hid (HI3.out.below hB4)
              clear hB4 HI3
              obtain ⟨T, hT⟩ : ∃ T, rnd (rnd ⟨sa, sb, sc, bits .xor .u64 sd m⟩) = T := ⟨_, rfl⟩
              rw [hT]
              have HT := Lib.hid hT
              clear hT
              obtain ⟨ta, tb, tc, td⟩ := T
              have hA := HI4.out.arr
              have q0 := cell_obj hA 0 (.int .u64 sa) rfl
              have q1 := cell_obj hA 1 (.int .u64 sb) rfl
              have q2 := cell_obj hA 2 (.int .u64 sc) rfl
              have q3 := cell_obj hA 3 (.int .u64 (bits .xor .u64 sd m)) rfl
              have z0 := obj_frozen hA 0
              have z1 := obj_frozen hA 1
              have z2 := obj_frozen hA 2
              have z3 := obj_frozen hA 3
              have HI5 := Lib.hid (((((HI4.out.set (j := 0) (u := .int .u64 ta) (S' := ⟨ta, sb, sc, bits .xor .u64 sd m⟩) rfl).set (j := 1) (u := .int .u64 tb) (S' := ⟨ta, tb, sc, bits .xor .u64 sd m⟩) rfl).set (j := 2) (u := .int .u64 tc) (S' := ⟨ta, tb, tc, bits .xor .u64 sd m⟩) rfl).set (j := 3) (u := .int .u64 td) (S' := ⟨ta, tb, tc, td⟩) rfl).set (j := 0) (u := .int .u64 (bits .xor .u64 ta m)) (S' := ⟨bits .xor .u64 ta m, tb, tc, td⟩) rfl)
              have hW2 : wordsS S0 P (k + 1) = ⟨bits .xor .u64 ta m, tb, tc, td⟩ := by rw [HS1.out]; unfold wrd; dsimp only; rw [HT.out]
              have HW2 := Lib.hid hW2
              unfold S4.cs
              dsimp only
              clear hA hW2
              have hk8 : (k : Int) < K := by omega
              go_wp2
              go_roundw
              case rel => exact ⟨k + 1, by omega, by go_num, by rw [HW2.out]; exact HI5.out⟩
              case measure => simp [intOf]; omega
        · have hke : k = K := by omega
          subst hke
          have hk8 : ¬ 8 * (k : Int) < 8 * (k : Int) := by omega
          obtain ⟨S, hS⟩ : ∃ S, wordsS S0 P k = S := ⟨_, rfl⟩
          have hres := HRES2.out
          rw [hS] at HI hres
          unfold mixQ at hres
          obtain ⟨sa, sb, sc, sd⟩ := S
          dsimp only at hres
          have HRS := Lib.hid hres
          have hA := HI.out.arr
          have q0 := cell_obj hA 0 (.int .u64 sa) rfl
          have q1 := cell_obj hA 1 (.int .u64 sb) rfl
          have q2 := cell_obj hA 2 (.int .u64 sc) rfl
          have q3 := cell_obj hA 3 (.int .u64 sd) rfl
          have z2 := obj_frozen hA 2
          have HI2 := Lib.hid (HI.out.set (j := 2) (u := .int .u64 (bits .xor .u64 sc 255)) (S' := ⟨sa, sb, bits .xor .u64 sc 255, sd⟩) rfl)
          clear hA hres hS
          go_wp2_with fail
          refine (rRound _ ⟨sa, sb, bits .xor .u64 sc 255, sd⟩).mono ?_
          rintro e w3 ⟨rfl, hB3⟩
          have HI3 := Lib.hid (HI2.out.below hB3)
          clear hB3 HI2 HI q0 q1 q2 q3 z2
          go_wp2_with fail
          refine (rRound _ _).mono ?_
          rintro e w4 ⟨rfl, hB4⟩
          have HI4 := Lib.hid (HI3.out.below hB4)
          clear hB4 HI3
          go_wp2_with fail
          refine (rRound _ _).mono ?_
          rintro e w5 ⟨rfl, hB5⟩
          have HI5 := Lib.hid (HI4.out.below hB5)
          clear hB5 HI4
          go_wp2_with fail
          refine (rRound _ _).mono ?_
          rintro e w6 ⟨rfl, hB6⟩
          have HI6 := Lib.hid (HI5.out.below hB6)
          clear hB6 HI5
          obtain ⟨T, hT⟩ : ∃ T, rnd (rnd (rnd (rnd ⟨sa, sb, bits .xor .u64 sc 255, sd⟩))) = T := ⟨_, rfl⟩
          rw [hT] at HRS ⊢
          clear hT
          obtain ⟨ta, tb, tc, td⟩ := T
          have hA := HI6.out.arr
          have q0 := cell_obj hA 0 (.int .u64 sa) rfl
          have q1 := cell_obj hA 1 (.int .u64 sb) rfl
          have q2 := cell_obj hA 2 (.int .u64 (bits .xor .u64 sc 255)) rfl
          have q3 := cell_obj hA 3 (.int .u64 sd) rfl
          have z0 := obj_frozen hA 0
          have z1 := obj_frozen hA 1
          have z2 := obj_frozen hA 2
          have z3 := obj_frozen hA 3
          have HI7 := Lib.hid ((((HI6.out.set (j := 0) (u := .int .u64 ta) (S' := ⟨ta, sb, bits .xor .u64 sc 255, sd⟩) rfl).set (j := 1) (u := .int .u64 tb) (S' := ⟨ta, tb, bits .xor .u64 sc 255, sd⟩) rfl).set (j := 2) (u := .int .u64 tc) (S' := ⟨ta, tb, tc, sd⟩) rfl).set (j := 3) (u := .int .u64 td) (S' := ⟨ta, tb, tc, td⟩) rfl)
          unfold S4.cs
          dsimp only at HRS ⊢
          clear hA
          go_wp2
          go_ret
          exact ⟨ret_val (by rw [← HRS.out]; rfl), HI7.out.fr.toBelow (fun b e => e) (Nat.le_refl _)⟩
    · have h7' : ((r : Int) == 7) = false := by simp; omega
      go_wp2_with (at_builtin; refine wpList_append_src rfl _ _ 28 rfl (w.heap.size + 1) 5 i0 (.int .u8 0) 1 Try.underlying28 hi' hz0 hz1 hz2 rfl (by decide) (.slice av (n + z) cv) (n + z) (u8s (bs ++ List.replicate z 0)) rfl (by have := HI.out.row; rw [HLZ.out] at this; exact this.alloc _) 1 rfl (Rd.own (own_new #[.int .u8 0] (Nat.le_refl _) (by simp))) (H1.out _) (by unfold maxLen; omega) (by omega) (by simp; omega) ?_; intro v2 w2 hown2 hgrow2 _; have hI2 := HI.out.push _ (by rw [HLZ.out]; exact hown2) hgrow2)
      go_roundw
      case rel =>
        refine ⟨z + 1, by have := HRR.out; have := HZ.out; omega, ?_⟩
        rw [show bs ++ List.replicate (z + 1) 0 = bs ++ List.replicate z 0 ++ [0] by rw [List.replicate_succ', List.append_assoc]]
        exact hI2
      case measure =>
        obtain ⟨a2, c2, rfl⟩ := row_sl hown2
        have := HRR.out; have := HZ.out
        simp [lenV]
        omega
end Go.Proofs.Ytakjiicnbocjeaa
