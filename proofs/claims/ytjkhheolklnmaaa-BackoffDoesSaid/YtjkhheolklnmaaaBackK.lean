/- backoff's reference: Set -/
import Derived.Test.YtjkhheolklnmaaaBackJ
import Derived.Test.YtjkhheolklnmaaaPlainC
namespace Go.Proofs.Ytjkhheolklnmaaa
open Go.RowKit Go.Maps
theorem ownsRow_base {w : World} {b b' : Nat} {t : TypeId} {sz n : Nat} {v : Value} {xs : List Value} (h : w.ownsRow b t sz v n xs) (hb : b' ≤ b) : w.ownsRow b' t sz v n xs := by
  refine ⟨h.1, ?_⟩
  rcases h.2 with h0 | ⟨g', cap, cur, e, hg, rest⟩
  · exact .inl h0
  · exact .inr ⟨g', cap, cur, e, Nat.le_trans hb hg, rest⟩
theorem cells_new' {w : World} {t : TypeId} {cs : Array Value} {b : Nat} (hb : b = w.heap.size) : ∀ j u, cs.toList[j]? = some u → (w.alloc (.cells cs t)).cell? ((⟨b, 0, none⟩ : Addr).add j) = some u := hb ▸ cells_new w t cs
theorem below_app2 {B : Nat} {w wr w1 : World} {o o' : Obj} {t : TypeId} {n : Nat} {sz : Nat} {v : Value} {xs : List Value} (hb : Below B w wr) (ho : wr.ownsRow B t sz v n xs) (hg : ((wr.alloc o).alloc o').grownBy w1 v.ownBlock) (hB : B ≤ w.heap.size) : Below B w w1 :=
  below_app (hb.alloc (by have := hb.size; omega) o) (ho.alloc o) hg hB
theorem grown_keep {wr w1 : World} {B : Nat} {o o' : Obj} {t : TypeId} {n : Nat} {sz : Nat} {v : Value} {xs : List Value} (ho : wr.ownsRow B t sz v n xs) (hg : ((wr.alloc o).alloc o').grownBy w1 v.ownBlock) : w1.heap[wr.heap.size]? = some o := by
  have := hg.block wr.heap.size (by simp; omega) (fun e => by have := (ho.lt _ e.symm).2; omega)
  rw [this]; exact heap_keep (heap_new _ _) _
set_option maxHeartbeats 2000000 in
theorem rSet (w : World) (lo : Nat) (v : Value) (X : List KV) (key at_ : Int) (h : TSl w lo v X) (hX : X.length ≤ 900) :
    Calls Try.prog 18 #[v, .int .i64 key, .int .i64 at_] w fun e w' => ∃ v', e = .returned v' ∧ w'.ownsRow w.heap.size 41 2 v' (tSet X key at_).length (enc2 (tSet X key at_)) ∧ Below w.heap.size w w' := by
  obtain ⟨i0, hi', hz0, hz1, hz2⟩ := info_parts infoTm
  have hD := Lib.hid (rDrop w lo v X key h (by omega))
  have hXl := delS_length X key
  have hR : tSet X key at_ = tIns (key, at_) (delS X key) := rfl
  rw [hR]
  generalize delS X key = R at *
  obtain ⟨n, hn⟩ : ∃ n : Nat, R.length = n := ⟨_, rfl⟩
  have hn1 : (n : Int) ≤ 900 := by omega
  have HN := Lib.hid hn
  clear h hX hXl hR
  go_enter Try.func18, Try.ntmps18
  go_wp2_with (go_at_call 20; refine hD.out.mono ?_; rintro e w1 ⟨v1, rfl, hown1, hb1⟩)
  have hT1 := TSl.of hown1 (Nat.le_refl _)
  obtain ⟨a, c, rfl, -⟩ := id hT1
  rw [hn]
  have HT1 := Lib.hid hT1; have HB1 := Lib.hid hb1
  clear hT1 hb1 hown1 hD hn
  go_loopw [7, 8, 10] (fun o d i wr => ∃ (k : Nat) (dn : Bool), (k : Int) ≤ n ∧ i = .int .i64 k ∧ d = .bool dn ∧ builtOk (key, at_) dn (R.take k) ∧ wr.ownsRow w1.heap.size 41 2 o (built (key, at_) dn (R.take k)).length (enc2 (built (key, at_) dn (R.take k))) ∧ Below w1.heap.size w1 wr) (fun _ _ i _ => n - (intOf i).toNat)
  case atStart => exact ⟨0, false, by omega, rfl, rfl, fun p hp => (by simp at hp), World.ownsRow_nil _ _ _ _, Below.refl _ _⟩
  case round =>
    obtain ⟨k, dn, hk, rfl, rfl, hok, hown, hbl⟩ := hrel
    have HT := Lib.hid (HT1.out.below hbl)
    have HB := Lib.hid hbl
    have HO := Lib.hid hown
    have HK := Lib.hid hok
    clear hbl hown hok
    by_cases hkn : (k : Int) < n
    · obtain ⟨p, hp⟩ : ∃ p, R[k]? = some p := ⟨R[k]'(by have := HN.out; omega), List.getElem?_eq_getElem _⟩
      obtain ⟨ad, rfl, c1, c2⟩ : ∃ ad, a = some ad ∧ wr.cell? (ad.add (k * 2)) = some (.int .i64 p.1) ∧ wr.cell? ⟨(ad.add (k * 2)).block, (ad.add (k * 2)).off + 1, none⟩ = some (.int .i64 p.2) := by
        obtain ⟨a', c', e, -, -, h3⟩ := HT.out
        injection e with e1
        obtain ⟨ad, e2, _, c1, c2⟩ := h3 k p hp
        exact ⟨ad, e1.trans e2, c1, c2⟩
      have htk : R.take (k + 1) = R.take k ++ [p] := by rw [List.take_add_one, hp]; rfl
      have HS := Lib.hid (built_step (y := p) HK.out)
      rw [← htk] at HS
      have hle : ((built (key, at_) dn (R.take k)).length : Int) ≤ 901 := by have := built_len (key, at_) dn (R.take k); have := List.length_take_le k R; omega
      generalize hL : built (key, at_) dn (R.take k) = L at *
      obtain ⟨ln, hln⟩ : ∃ ln : Nat, L.length = ln := ⟨_, rfl⟩
      rw [hln] at HO hle
      have HLN := Lib.hid hln
      clear hL hln hp htk HK
      obtain ⟨x1, x2⟩ := p
      dsimp only at c1 c2
      cases dn with
      | true =>
        obtain ⟨hs1, hs2⟩ := HS.out
        simp only [Bool.true_or, Bool.not_true, Bool.false_and, Bool.false_eq_true, if_false] at hs1 hs2
        have H1 := Lib.hid hs1; have H2 := Lib.hid hs2
        clear hs1 hs2 HS
        go_wp2_with (at_builtin; refine wpList_append_own _ rfl _ _ 39 rfl w1.heap.size 41 i0 (.agg #[.int .i64 0, .int .i64 0]) 2 16 Try.underlying39 hi' hz0 hz1 hz2 rfl (by decide) _ ln (enc2 L) rfl ((HO.out.alloc _).alloc _) _ _ 1 [.int .i64 x1, .int .i64 x2] rfl rfl (cells_new' (by simp)) (by simp [Value.oneCell']) (by unfold maxLen; omega) (by omega) (by have := HB.out.size; simp; omega) ?_; intro v' w2 hown' hgrow hnil)
        go_roundw
        case rel =>
          refine ⟨k + 1, true, by omega, by go_num, rfl, H1.out, ?_, below_app2 HB.out HO.out hgrow (Nat.le_refl _)⟩
          rw [H2.out, enc2_snoc, List.length_append, HLN.out]; exact hown'
        case measure => simp [intOf]; omega
      | false =>
        have hcase : (at_ < x2 ∧ tlt (key, at_) (x1, x2) = true) ∨ (¬ at_ < x2 ∧ x2 = at_ ∧ key < x1 ∧ tlt (key, at_) (x1, x2) = true) ∨ (¬ at_ < x2 ∧ x2 = at_ ∧ ¬ key < x1 ∧ tlt (key, at_) (x1, x2) = false) ∨ (¬ at_ < x2 ∧ ¬ x2 = at_ ∧ tlt (key, at_) (x1, x2) = false) := by
          unfold tlt; simp only [decide_eq_true_eq, decide_eq_false_iff_not]; omega
        rcases hcase with ⟨g1, ht⟩ | ⟨g1, rfl, g3, ht⟩ | ⟨g1, rfl, g3, ht⟩ | ⟨g1, g2, ht⟩
        · obtain ⟨hs1, hs2⟩ := HS.out
          rw [ht] at hs1 hs2
          simp only [Bool.false_or, Bool.not_false, Bool.true_and, if_true] at hs1 hs2
          have H1 := Lib.hid hs1; have H2 := Lib.hid hs2
          clear hs1 hs2 HS ht
          go_wp2_with (first | (at_builtin; refine wpList_append_own _ rfl _ _ 39 rfl w1.heap.size 41 i0 (.agg #[.int .i64 0, .int .i64 0]) 2 16 Try.underlying39 hi' hz0 hz1 hz2 rfl (by decide) _ (ln + 1) (enc2 L ++ [.int .i64 key, .int .i64 at_]) rfl (HW.out.alloc _) _ _ 1 [.int .i64 x1, .int .i64 x2] rfl rfl (cells_new' rfl) (by simp [Value.oneCell']) (by unfold maxLen; omega) (by omega) (by have := HB2.out.size; simp; omega) ?_; intro v'' w3 hown'' hgrow2 hnil2) | (at_builtin; refine wpList_append_own _ rfl _ _ 39 rfl w1.heap.size 41 i0 (.agg #[.int .i64 0, .int .i64 0]) 2 16 Try.underlying39 hi' hz0 hz1 hz2 rfl (by decide) _ ln (enc2 L) rfl ((HO.out.alloc _).alloc _) _ _ 1 [.int .i64 key, .int .i64 at_] rfl rfl (cells_new' (by simp)) (by simp [Value.oneCell']) (by unfold maxLen; omega) (by omega) (by have := HB.out.size; simp; omega) ?_; intro v' w2 hown' hgrow hnil; have hx := grown_keep HO.out hgrow; have d1 := cell_obj hx 0 (.int .i64 x1) rfl; have d2 := cell_obj hx 1 (.int .i64 x2) rfl; have HW := Lib.hid hown'; have HB2 := Lib.hid (below_app2 HB.out HO.out hgrow (Nat.le_refl _)); clear hown' hx hnil hgrow c1 c2))
          go_roundw
          case rel =>
            refine ⟨k + 1, true, by omega, by go_num, rfl, H1.out, ?_, below_app HB2.out HW.out hgrow2 (Nat.le_refl _)⟩
            rw [H2.out, show L ++ [(key, at_), (x1, x2)] = (L ++ [(key, at_)]) ++ [(x1, x2)] from by simp, enc2_snoc, enc2_snoc, List.length_append, List.length_append, HLN.out]; exact hown''
          case measure => simp [intOf]; omega
        · obtain ⟨hs1, hs2⟩ := HS.out
          rw [ht] at hs1 hs2
          simp only [Bool.false_or, Bool.not_false, Bool.true_and, if_true] at hs1 hs2
          have H1 := Lib.hid hs1; have H2 := Lib.hid hs2
          clear hs1 hs2 HS ht
          go_wp2_with (first | (at_builtin; refine wpList_append_own _ rfl _ _ 39 rfl w1.heap.size 41 i0 (.agg #[.int .i64 0, .int .i64 0]) 2 16 Try.underlying39 hi' hz0 hz1 hz2 rfl (by decide) _ (ln + 1) (enc2 L ++ [.int .i64 key, .int .i64 x2]) rfl (HW.out.alloc _) _ _ 1 [.int .i64 x1, .int .i64 x2] rfl rfl (cells_new' rfl) (by simp [Value.oneCell']) (by unfold maxLen; omega) (by omega) (by have := HB2.out.size; simp; omega) ?_; intro v'' w3 hown'' hgrow2 hnil2) | (at_builtin; refine wpList_append_own _ rfl _ _ 39 rfl w1.heap.size 41 i0 (.agg #[.int .i64 0, .int .i64 0]) 2 16 Try.underlying39 hi' hz0 hz1 hz2 rfl (by decide) _ ln (enc2 L) rfl ((HO.out.alloc _).alloc _) _ _ 1 [.int .i64 key, .int .i64 x2] rfl rfl (cells_new' (by simp)) (by simp [Value.oneCell']) (by unfold maxLen; omega) (by omega) (by have := HB.out.size; simp; omega) ?_; intro v' w2 hown' hgrow hnil; have hx := grown_keep HO.out hgrow; have d1 := cell_obj hx 0 (.int .i64 x1) rfl; have d2 := cell_obj hx 1 (.int .i64 x2) rfl; have HW := Lib.hid hown'; have HB2 := Lib.hid (below_app2 HB.out HO.out hgrow (Nat.le_refl _)); clear hown' hx hnil hgrow c1 c2))
          go_roundw
          case rel =>
            refine ⟨k + 1, true, by omega, by go_num, rfl, H1.out, ?_, below_app HB2.out HW.out hgrow2 (Nat.le_refl _)⟩
            rw [H2.out, show L ++ [(key, x2), (x1, x2)] = (L ++ [(key, x2)]) ++ [(x1, x2)] from by simp, enc2_snoc, enc2_snoc, List.length_append, List.length_append, HLN.out]; exact hown''
          case measure => simp [intOf]; omega
        · obtain ⟨hs1, hs2⟩ := HS.out
          rw [ht] at hs1 hs2
          simp only [Bool.false_or, Bool.not_false, Bool.true_and, Bool.false_eq_true, if_false] at hs1 hs2
          have H1 := Lib.hid hs1; have H2 := Lib.hid hs2
          clear hs1 hs2 HS ht
          go_wp2_with (at_builtin; refine wpList_append_own _ rfl _ _ 39 rfl w1.heap.size 41 i0 (.agg #[.int .i64 0, .int .i64 0]) 2 16 Try.underlying39 hi' hz0 hz1 hz2 rfl (by decide) _ ln (enc2 L) rfl ((HO.out.alloc _).alloc _) _ _ 1 [.int .i64 x1, .int .i64 x2] rfl rfl (cells_new' (by simp)) (by simp [Value.oneCell']) (by unfold maxLen; omega) (by omega) (by have := HB.out.size; simp; omega) ?_; intro v' w2 hown' hgrow hnil)
          go_roundw
          case rel =>
            refine ⟨k + 1, false, by omega, by go_num, rfl, H1.out, ?_, below_app2 HB.out HO.out hgrow (Nat.le_refl _)⟩
            rw [H2.out, enc2_snoc, List.length_append, HLN.out]; exact hown'
          case measure => simp [intOf]; omega
        · obtain ⟨hs1, hs2⟩ := HS.out
          rw [ht] at hs1 hs2
          simp only [Bool.false_or, Bool.not_false, Bool.true_and, Bool.false_eq_true, if_false] at hs1 hs2
          have H1 := Lib.hid hs1; have H2 := Lib.hid hs2
          clear hs1 hs2 HS ht
          go_wp2_with (at_builtin; refine wpList_append_own _ rfl _ _ 39 rfl w1.heap.size 41 i0 (.agg #[.int .i64 0, .int .i64 0]) 2 16 Try.underlying39 hi' hz0 hz1 hz2 rfl (by decide) _ ln (enc2 L) rfl ((HO.out.alloc _).alloc _) _ _ 1 [.int .i64 x1, .int .i64 x2] rfl rfl (cells_new' (by simp)) (by simp [Value.oneCell']) (by unfold maxLen; omega) (by omega) (by have := HB.out.size; simp; omega) ?_; intro v' w2 hown' hgrow hnil)
          go_roundw
          case rel =>
            refine ⟨k + 1, false, by omega, by go_num, rfl, H1.out, ?_, below_app2 HB.out HO.out hgrow (Nat.le_refl _)⟩
            rw [H2.out, enc2_snoc, List.length_append, HLN.out]; exact hown'
          case measure => simp [intOf]; omega
    · have hkk : k = n := by omega
      subst hkk
      have hE := built_end HK.out
      have hO := HO.out
      have hle : ((built (key, at_) dn (R.take k)).length : Int) ≤ 901 := by have := built_len (key, at_) dn (R.take k); have := List.length_take_le k R; omega
      rw [← HN.out, List.take_length] at hE hO hle
      generalize hL : built (key, at_) dn R = L at *
      obtain ⟨ln, hln⟩ : ∃ ln : Nat, L.length = ln := ⟨_, rfl⟩
      rw [hln] at hO hle
      have HLN := Lib.hid hln; have HO2 := Lib.hid hO; have HE := Lib.hid hE
      have HB0 := Lib.hid (HB1.out.trans (HB.out.mono HB1.out.size))
      clear hL hln hO hE HK HO
      cases dn with
      | true =>
        have he := HE.out
        simp only [if_true] at he
        have HE2 := Lib.hid he
        clear he
        go_wp2
        go_ret
        refine ⟨_, rfl, ?_, HB0.out⟩
        rw [HE2.out, HLN.out]
        exact ownsRow_base HO2.out HB1.out.size
      | false =>
        have he := HE.out
        simp only [Bool.false_eq_true, if_false] at he
        have HE2 := Lib.hid he
        clear he
        go_wp2_with (at_builtin; refine wpList_append_own _ rfl _ _ 39 rfl w1.heap.size 41 i0 (.agg #[.int .i64 0, .int .i64 0]) 2 16 Try.underlying39 hi' hz0 hz1 hz2 rfl (by decide) _ ln (enc2 L) rfl (HO2.out.alloc _) _ _ 1 [.int .i64 key, .int .i64 at_] rfl rfl (cells_new' rfl) (by simp [Value.oneCell']) (by unfold maxLen; omega) (by omega) (by have := HB.out.size; simp; omega) ?_; intro v' w2 hown' hgrow hnil)
        go_ret
        refine ⟨_, rfl, ?_, HB1.out.trans ((below_app HB.out HO2.out hgrow (Nat.le_refl _)).mono HB1.out.size)⟩
        rw [HE2.out, enc2_snoc, List.length_append, HLN.out]
        exact ownsRow_base hown' HB1.out.size
end Go.Proofs.Ytjkhheolklnmaaa
