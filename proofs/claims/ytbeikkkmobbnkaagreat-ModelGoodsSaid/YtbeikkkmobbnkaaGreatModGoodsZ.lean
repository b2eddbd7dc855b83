/- model: for every input ModelGoods returns true and leaves its input as it was; no condition. -/
import Derived.Test.YtbeikkkmobbnkaaGreatRows
import Derived.Test.YtbeikkkmobbnkaaGreatModGoodsM46
import Derived.Test.YtbeikkkmobbnkaaGreatModGoodsM47
import Derived.Test.YtbeikkkmobbnkaaGreatModGoodsM52
import Derived.Test.YtbeikkkmobbnkaaGreatModGoodsM2
namespace Go.Proofs.YtbeikkkmobbnkaaGreat.modelGoods
open Go.ChangeShapes Go.WideShapes Go.ChangeAt Go.RowKit Go.Maps
attribute [local go_sem] Oper.semAt_some
theorem small_len {L : List AV} {K : Nat} (h : smallF L K = true) : L.length ≤ 40 := by
  unfold smallF at h
  simp only [Bool.and_eq_true, decide_eq_true_eq] at h
  exact h.1.1
/-- What the rounds keep: the bound, the answer, what is wanted, the count. -/
structure GlI (w : World) (n0 nb cb wb : Nat) (stop : Int) (wv : Value) (S : List Str) (r : Bool) (k : Nat) (W : World) : Prop where
  st : W.heap[n0]? = some (.cells #[.int .i64 stop] 3)
  rs : W.heap[n0 + 1]? = some (.cells #[.bool r] 4)
  wc : W.heap[nb]? = some (.cells #[wv] 31)
  nc : W.heap[cb]? = some (.cells #[.int .i64 k] 3)
  row : W.ownsRow wb 9 1 wv S.length (S.map vS)
  fr : Fr (fun b => n0 ≤ b) w W
theorem GlI.fa {B : Nat} {w W W' : World} {n0 nb cb wb : Nat} {stop : Int} {wv : Value} {S : List Str} {r : Bool} {k : Nat} (h : GlI w n0 nb cb wb stop wv S r k W) (hf : Fa B W W') (hB : w.heap.size ≤ B) : GlI w n0 nb cb wb stop wv S r k W' :=
  ⟨Fa.cells hf h.st, Fa.cells hf h.rs, Fa.cells hf h.wc, Fa.cells hf h.nc, Fa.row hf h.row, Fa.old hf h.fr hB⟩
set_option maxRecDepth 100000 in
set_option maxHeartbeats 8000000 in
theorem walk (v : Value) (L : List AV) (stop : Int) (w : World) (hL : Al w v L) : Calls Tryz.prog 4 #[v, .int .i64 stop] w fun e w' => e = .returned (.bool true) ∧ Below w.heap.size w w' := by
  have hnf := fun (w : World) (f : Fn) (x y : Array Value) => run_eql_func_nil (P := Tryz.prog) w 34 _ _ _ f x y Tryz.underlying34
  obtain ⟨n0, hn0⟩ : ∃ n0, w.heap.size = n0 := ⟨_, rfl⟩
  have HS := Lib.hid hn0
  obtain ⟨W0, hW0⟩ : ∃ W0, (w.alloc (.cells #[.int .i64 stop] 3)).alloc (.cells #[.bool false] 4) = W0 := ⟨_, rfl⟩
  have hF0 : Fr (fun _ => False) w W0 := by rw [← hW0]; exact ((Fr.refl _ w).alloc _).alloc _
  have hs0 : W0.heap.size = n0 + 2 := by rw [← hW0]; simp; omega
  have hb0 : W0.heap[n0]? = some (.cells #[.int .i64 stop] 3) := by rw [← hW0]; exact heap_keep (heap_at hn0.symm _) _
  have hb1 : W0.heap[n0 + 1]? = some (.cells #[.bool false] 4) := by rw [← hW0]; exact heap_at (by simp; omega) _
  have HL := Lib.hid (hL.fr0 aokKeeps hF0)
  obtain ⟨va, vc, rfl⟩ := hL.sl
  obtain ⟨N, hN⟩ : ∃ N, L.length = N := ⟨_, rfl⟩
  rw [hN] at HL ⊢
  have HN := Lib.hid hN
  have hsm := lwSmall W0 (.slice va N vc) L none 0 0 HL.out (by decide)
  obtain ⟨s, hs⟩ : ∃ s, smallF L 0 = s := ⟨_, rfl⟩
  rw [hs] at hsm
  have HSM := Lib.hid hsm; have HSF := Lib.hid hs; have HF0 := Lib.hid hF0; have HS0 := Lib.hid hs0; have HB0 := Lib.hid hb0; have HB1 := Lib.hid hb1
  clear hL hN hs hsm hF0 hs0 hb0 hb1
  refine (callsIn_wide (n := 0)).1 ?_
  refine callsIn_of_wp_marks Tryz.func4 rfl trivial ?_ rfl
  simp only [Tryz.ntmps4, List.size_toArray, List.length_cons, List.length_nil, Nat.reduceAdd, Nat.reduceSub, Array.replicate_succ, Array.replicate_zero, List.push_toArray, List.append_toArray, List.nil_append, List.cons_append]
  have hfn : ∀ f, Fence.wide.fn f := fun _ => trivial
  have hdp : Fence.wide.depth.isSome = false := rfl
  cases s
  · gi_wp2_with (first
      | (gi_at_call 7; refine (callsIn_wide.2 HSM.out).mono ?_; rintro e w1 ⟨rfl, hf1⟩; have HF1 := Lib.hid hf1; clear hf1)
      | (gi_at_call 8; refine (callsIn_wide.2 (mdLives _)).mono ?_; rintro e w2 ⟨rfl, hf2⟩; have HF2 := Lib.hid (HF1.out.trans hf2); have HB2 := Lib.hid (hf2.at_ (HF1.out.at_ HB1.out (fun e => e)) (fun e => e)); have y1 := cell_obj HB2.out 0 (.bool false) rfl; have y2 := obj_frozen HB2.out 0; clear hf2))
    have hst := obj_set HB2.out 0 (.bool true)
    have hc5 := cell_obj hst 0 (.bool true) rfl
    refine ⟨.bool true, by simp [results, Tryz.results4, go_sem, hc5], rfl, ?_⟩
    have h1 : Fr (fun b => n0 ≤ b) w (w2.setCell ⟨n0 + 1, 0, none⟩ (.bool true)) := ((HF0.out.trans HF2.out).mono (fun _ _ e => e.elim)).setCell (p := ⟨n0 + 1, 0, none⟩) (fun _ => by show n0 ≤ n0 + 1; omega) _
    exact h1.toBelow (fun b hb => by omega) (Nat.le_refl _)
  · have hlen : Hid (L.length ≤ 1000) := Lib.hid (by have := small_len HSF.out; omega)
    obtain ⟨G, hG⟩ : ∃ G, goodsR (rightL L) = G := ⟨_, rfl⟩
    have hgk := goods_keys L
    rw [hG] at hgk
    have HGK := Lib.hid hgk
    clear hgk
    have hRG : Hid (∀ W, Fr (fun _ => False) W0 W → Calls Tryz.prog 12 #[.slice va N vc] W fun e w' => ∃ v', e = .returned v' ∧ w'.ownsRow W.heap.size 9 1 v' G.length (G.map vS) ∧ Fr (fun _ => False) W w') := Lib.hid (fun W hf => by
      have := r25Goods W (.slice va N vc) L (HL.out.fr0 aokKeeps hf) hlen.out
      rw [hG] at this; exact this)
    clear hG
    gi_wp2_with (first
      | (gi_at_call 7; refine (callsIn_wide.2 HSM.out).mono ?_; rintro e w1 ⟨rfl, hf1⟩; have HF1 := Lib.hid hf1; clear hf1)
      | (gi_at_call 12; refine (callsIn_wide.2 (hRG.out _ HF1.out)).mono ?_; rintro e w2 ⟨v2, rfl, ho2, hf2⟩; obtain ⟨ga, gc, rfl⟩ := row_sl ho2; have HF2 := Lib.hid (HF1.out.trans hf2); have HO2 := Lib.hid ho2; clear hf2 ho2)
      | (gi_at_call 13; refine (callsIn_wide.2 (kGoods _ _ _ _)).mono ?_; rintro e w3 ⟨rfl, rfl⟩)
      | (gi_at_call 8; refine (callsIn_wide.2 (mdLives _)).mono ?_; rintro e w4 ⟨rfl, hf4⟩; have HF4 := Lib.hid hf4; clear hf4))
    have hB2 := HF2.out.at_ HB0.out (fun e => e)
    have hB3 := HF2.out.at_ HB1.out (fun e => e)
    have hsz2 : n0 + 2 ≤ w2.heap.size := by have := HF2.out.size; have := HS0.out; omega
    obtain ⟨nb, hnb⟩ : ∃ nb, w2.heap.size = nb := ⟨_, rfl⟩
    obtain ⟨cb, hcb⟩ : ∃ cb, w4.heap.size = cb := ⟨_, rfl⟩
    have hrb := fun b e => HO2.out.lt b e
    rw [hnb] at hsz2 hrb ⊢
    have HRB : Hid (∀ b, (Value.slice ga G.length gc).ownBlock = some b → n0 + 2 ≤ b ∧ b < nb) := Lib.hid (fun b e => by have h1 := hrb b e; have h2 := HF1.out.size; have h3 := HS0.out; omega)
    clear hrb
    rw [hcb]
    have hF24 : Fr (fun _ => False) w2 w4 := (((Fr.refl _ w2).alloc _).alloc _).trans HF4.out
    have hcn : nb + 2 ≤ cb := by have h1 := HF4.out.size; simp at h1; omega
    have hI5 : GlI w n0 nb cb w1.heap.size stop (.slice ga G.length gc) G false 0 (w4.alloc (.cells #[.int .i64 0] 3)) :=
      ⟨heap_keep (hF24.at_ hB2 (fun e => e)) _, heap_keep (hF24.at_ hB3 (fun e => e)) _, heap_keep (HF4.out.at_ (heap_keep (heap_at hnb.symm _) _) (fun e => e)) _, heap_at hcb.symm _,
        (hF24.alloc _).row HO2.out (fun _ _ e => e), ((HF0.out.trans HF2.out).trans (hF24.alloc _)).mono (fun _ _ e => e.elim)⟩
    have hB5 : Boxed (w4.alloc (.cells #[.int .i64 0] 3)) (nb + 1) 22 (.slice va N vc) := heap_keep (HF4.out.at_ (heap_at (by simp; omega) _) (fun e => e)) _
    have hA5 := HL.out.fr0 aokKeeps (HF2.out.trans (hF24.alloc (.cells #[.int .i64 0] 3)))
    have hs5 : (w4.alloc (.cells #[.int .i64 0] 3)).heap.size = cb + 1 := by simp; omega
    have hit := kGoods1 (fun b => b = n0 + 1 ∨ b = cb) (w4.alloc (.cells #[.int .i64 0] 3)) (nb + 1) _ L hB5 hA5 hlen.out
    rw [HGK.out] at hit
    obtain ⟨W5, hW5⟩ : ∃ W5, w4.alloc (.cells #[.int .i64 0] 3) = W5 := ⟨_, rfl⟩
    rw [hW5] at hI5 hB5 hA5 hs5 hit ⊢
    have HI5 := Lib.hid hI5; have HS5 := Lib.hid hs5
    obtain ⟨M, hM⟩ : ∃ M, G.length = M := ⟨_, rfl⟩
    rw [hM] at HI5 HRB ⊢
    have HM := Lib.hid hM
    clear hB2 hB3 hF24 hI5 hB5 hA5 hs5 hW5 hM HO2 HF4
    refine rangeX (w0 := W5) (X := G) (S := fun b => b = n0 + 1 ∨ b = cb) rfl (enters_of Tryz.func30 (by kernel_rfl) rfl)
      hit (Below.refl _ _) (fun b hb => by have := HS5.out; omega) (fun _ => rfl)
      (fun k _ W => GlI w n0 nb cb w1.heap.size stop (.slice ga M gc) G false k W) (fun c k _ W => c = .ret ∧ GlI w n0 nb cb w1.heap.size stop (.slice ga M gc) G true k W)
      (fun k C W W' hs hf => hs.fa hf (by have := HS5.out; omega)) (fun c k C W W' hs hf => ⟨hs.1, hs.2.fa hf (by have := HS5.out; omega)⟩)
      HI5.out ?round ?done ?stop
    case round =>
      rintro lp k x C W hx hlp hi hr
      dsimp only [encG]
      gi_wp2
      refine Took.mk (Fr.refl _ _) hi ?_
      rintro Wb hM hrb hf hsz hsw hCC _
      have HMI := Lib.hid hM
      have hkM : k < M := by have := (List.getElem?_eq_some_iff.1 hx).1; have := HM.out; omega
      have hkI : (k : Int) < M := by omega
      have hMb : (M : Int) ≤ 9223372036854775807 := by have := own_len (by have := hM.row; rw [HM.out] at this; exact this); omega
      obtain ⟨ad, rfl, hc⟩ := (Rd.own (by have := hM.row; rw [HM.out] at this; exact this)).at_ (k := k) (u := vS x) (by omega) (by rw [List.getElem?_map, hx]; rfl)
      have y0 := cell_obj hM.st 0 (.int .i64 stop) rfl; have y1 := cell_obj hM.rs 0 (.bool false) rfl; have y2 := cell_obj hM.wc 0 (.slice (some ad) M gc) rfl; have y3 := cell_obj hM.nc 0 (.int .i64 k) rfl
      have f1 := obj_frozen hM.rs 0; have f3 := obj_frozen hM.nc 0
      clear hM hi hr hrb hf
      by_cases hst : (k : Int) + 1 = stop
      · have b1 : ((k : Int) + 1 == stop) = true := by simpa using hst
        clear hst
        gi_wp2
        have hf6 : Fr (fun b => b = n0 + 1 ∨ b = cb) Wb ((Wb.setCell ⟨cb, 0, none⟩ (.int .i64 (k + 1))).setCell ⟨n0 + 1, 0, none⟩ (.bool true)) := Fr.setCell (Fr.setCell (Fr.refl _ _) (p := ⟨cb, 0, none⟩) (fun _ => .inr rfl) _) (p := ⟨n0 + 1, 0, none⟩) (fun _ => .inl rfl) _
        have hne : n0 + 1 ≠ cb := by omega
        have hf7 : Fr (fun b => b = n0 + 1) (Wb.setCell ⟨cb, 0, none⟩ (.int .i64 (k + 1))) ((Wb.setCell ⟨cb, 0, none⟩ (.int .i64 (k + 1))).setCell ⟨n0 + 1, 0, none⟩ (.bool true)) := Fr.setCell (S := fun b => b = n0 + 1) (Fr.refl _ _) (p := ⟨n0 + 1, 0, none⟩) (fun _ => rfl) _
        have hf8 : Fr (fun b => b = cb) Wb (Wb.setCell ⟨cb, 0, none⟩ (.int .i64 (k + 1))) := Fr.setCell (S := fun b => b = cb) (Fr.refl _ _) (p := ⟨cb, 0, none⟩) (fun _ => rfl) _
        refine ⟨hf6.mono (fun b _ e => .inl e), rfl, ?_⟩
        have h := HMI.out
        refine ⟨hf6.at_ h.st (by omega), obj_set (hf8.at_ h.rs hne) 0 _, hf6.at_ h.wc (by omega), ?_, hf6.row h.row (fun b e => by have := HRB.out b e; omega), h.fr.trans' hf6 (fun b _ e => by omega)⟩
        have := hf7.at_ (obj_set h.nc 0 (.int .i64 ((k : Int) + 1))) (by omega)
        exact this
      · have b1 : ((k : Int) + 1 == stop) = false := by simpa using hst
        clear hst
        gi_wp2
        have hf8 : Fr (fun b => b = cb) Wb (Wb.setCell ⟨cb, 0, none⟩ (.int .i64 (k + 1))) := Fr.setCell (S := fun b => b = cb) (Fr.refl _ _) (p := ⟨cb, 0, none⟩) (fun _ => rfl) _
        refine ⟨hf8.mono (fun b _ e => .inl (.inr e)), ?_⟩
        have h := HMI.out
        exact ⟨hf8.at_ h.st (by omega), hf8.at_ h.rs (by omega), hf8.at_ h.wc (by omega), obj_set h.nc 0 _, hf8.row h.row (fun b e => by have := HRB.out b e; omega), h.fr.trans' hf8 (fun b _ e => by omega)⟩
    case stop =>
      rintro D c k C W hD hk ⟨rfl, hI⟩ hr hK
      have hfa : Fa n0 W (W.putObj D (.deferred none)) := frPut (B := n0) (.deferred none) (by have := HS5.out; omega) hK rfl
      have hI2 := hI.fa hfa (by omega)
      have hc5 := cell_obj hI2.rs 0 (.bool true) rfl
      have HI2 := Lib.hid hI2
      clear hI hr hI2 hfa
      gi_wp2_with fail
      refine ⟨by simp, .inl ⟨_, _, rfl, run_takeDeferred hK, ?_⟩⟩
      refine ⟨.bool true, by simp [results, Tryz.results4, go_sem, hc5], rfl, ?_⟩
      exact HI2.out.fr.toBelow (fun b hb => by omega) (Nat.le_refl _)
    case done =>
      rintro D C W hD hI hr hK
      rw [HM.out] at hI
      have y1 := cell_obj hI.rs 0 (.bool false) rfl; have y2 := cell_obj hI.wc 0 (.slice ga M gc) rfl; have y3 := cell_obj hI.nc 0 (.int .i64 M) rfl
      have f1 := obj_frozen hI.rs 0
      have HI := Lib.hid hI
      clear hI hr
      gi_wp2_with fail
      have hst : (W.setCell ⟨n0 + 1, 0, none⟩ (.bool true)).heap[n0 + 1]? = some (.cells #[.bool true] 4) := obj_set HI.out.rs 0 _
      have hK2 : (W.setCell ⟨n0 + 1, 0, none⟩ (.bool true)).heap[D]? = some (.deferred (some [])) := (Below.heap_setCell W ⟨n0 + 1, 0, none⟩ (.bool true) D (by have := HS5.out; dsimp only; omega)).trans hK
      have hfa : Fa n0 (W.setCell ⟨n0 + 1, 0, none⟩ (.bool true)) ((W.setCell ⟨n0 + 1, 0, none⟩ (.bool true)).putObj D (.deferred none)) := frPut (B := n0) (.deferred none) (by have := HS5.out; omega) hK2 rfl
      have hc5 := cell_obj (Fa.cells hfa hst) 0 (.bool true) rfl
      refine ⟨by simp, .inl ⟨_, _, rfl, run_takeDeferred hK2, ?_⟩⟩
      refine ⟨.bool true, by simp [results, Tryz.results4, go_sem, hc5], rfl, ?_⟩
      have h1 : Fr (fun b => n0 ≤ b) w (W.setCell ⟨n0 + 1, 0, none⟩ (.bool true)) := HI.out.fr.setCell (p := ⟨n0 + 1, 0, none⟩) (fun _ => by show n0 ≤ n0 + 1; omega) _
      exact (Fa.old hfa h1 (by omega)).toBelow (fun b hb => by omega) (Nat.le_refl _)
set_option maxRecDepth 100000 in
theorem lifted (os : Os) (started : os.Started) (H : Type) (enc : TypeId × Value → H) :
    ReturnsInHanded {} Tryz.checked os 4 .any (Rows.modelGoodsSpec.pre6 enc Tryz.prog Tryz.f4 Rows.modelGoodsRow.domain false) (Rows.modelGoodsSpec.post enc Tryz.prog Tryz.f4 false true false false) := by
  refine returnsInHanded_of_change (C := Tryz.checked) own started (by kernel_rfl) Tryz.func4
    (ChangeSpec.witness6 (enc := enc) (C := Tryz.checked) false ⟨#[], #[.slice none 0 0, .int .i64 0], []⟩ 8 (by kernel_rfl) (by kernel_rfl) (by kernel_rfl) (by kernel_rfl)) ?_
  intro W base args ds gs before hval0 hW hcnd _
  have hval : ∀ (j : Nat) t v, Tryz.f4.params[j]? = some t → args[j]? = some v → Value.okWide Tryz.prog W .any base t v := hval0
  have hW' := hW
  obtain ⟨p, q, hA0, hV, rfl, hfz, hnd⟩ := hW
  have hA : DataW.TrodAll enc Tryz.prog W 0 (fun _ => true) true Tryz.f4.params.toList args.toList ds p := hA0
  rw [Tryz.params4] at hA hval
  obtain ⟨v0, vs0, d0, ds0, p0, q0, hargs, rfl, rfl, h0, r0⟩ := trodAll_cons hA
  obtain ⟨v1, vs1, d1, ds1, p1, q1, rfl, rfl, rfl, h1, r1⟩ := trodAll_cons r0
  obtain ⟨rfl, rfl, rfl⟩ := trodAll_nil r1
  obtain rfl : args = #[v0, v1] := by cases args; simp_all
  obtain ⟨rfl, rfl⟩ := trodVars_none hV
  obtain ⟨L0, hL0⟩ := open_asks (hval 0 22 v0 rfl rfl) h0
  obtain ⟨a1, rfl, rfl, rfl, w1⟩ := open_int Tryz.underlying3 (hval 1 3 v1 rfl rfl) h1
  clear hA0 hval0
  simp only [List.append_nil] at hW'
  refine (walk v0 L0 a1 W hL0).mono fun e W' ⟨he, hg⟩ => ?_
  subst he
  exact ⟨_, rfl, law_post laidOut (by kernel_rfl) rfl Tryz.underlying4 hW' rfl rfl hg⟩
theorem over : Rows.modelGoodsRow.holds Tryz.pinned (OpenSpec.ofChange Rows.modelGoodsSpec) :=
  OpenClaim.holds_of_wide 4 Tryz.f4 rfl rfl rfl rfl rfl rfl rfl ⟨rfl, rfl, rfl, rfl, rfl⟩ rfl rfl rfl rfl rfl (by kernel_rfl) Tryz.func4 (by kernel_rfl)
    (of_decide_eq_true (by kernel_rfl)) (by unfold Func.isWrapper; first | (rw [if_pos (by decide +kernel)]; kernel_rfl) | (rw [if_neg (by decide +kernel)]; exact ⟨rfl, rfl⟩))
    (fun os started H enc _ => lifted os started H enc)
theorem proved : Rows.ModelGoodsSaid :=
  over
#print axioms proved
end Go.Proofs.YtbeikkkmobbnkaaGreat.modelGoods
