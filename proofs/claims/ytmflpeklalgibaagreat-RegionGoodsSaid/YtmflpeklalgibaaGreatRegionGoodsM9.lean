/- Texts of this claim, joined: region: away; region: free; region: news; region: what Mail's ways begin with; its answer; slices.DeleteFunc at structs: what its walk asks: clear over cells; a row that is turned while it is read; A struct stored into a box of the region's own. -/
import Derived.Test.YtmflpeklalgibaaGreatRegionGoodsM6
import Derived.Test.YtmflpeklalgibaaGreatRegionGoodsM5
import Derived.Test.YtmflpeklalgibaaGreatRegionGoodsM3
import Derived.Test.YtmflpeklalgibaaGreatRegionGoodsM7
import Derived.Test.YtmflpeklalgibaaGreatRegionGoodsM8
import Derived.Test.YtmflpeklalgibaaGreatRegionGoodsM1
import Derived.Lib.SliceRun
import Derived.Test.YtmflpeklalgibaaGreatRegionGoodsM4
import Derived.Deep.MidRow
namespace Go.Proofs.YtmflpeklalgibaaGreat
open Go.RowKit Go.Maps
theorem addk' (b k : Nat) : (⟨b, 0, none⟩ : Addr).add k = ⟨b, k, none⟩ := by unfold Addr.add; split <;> simp_all
theorem doH_no {A : Stk} {L : Its} (h : (doH A 11 L).1 ≠ 0) : (doH A 11 L).2 = A := doS_no (k := 11) h
theorem infoSl : (Tryz.prog.info? 23).map (fun i => (i.zero, i.size, i.bytes)) = some (some (.slice none 0 0), 1, 24) := by kernel_rfl
/-- What stands while lists are put away. -/
structure AwI (w : World) (r gs gm : Nat) (T0 T1 : Nat → Prop) (vS : Value) (me n : Int) (A : Stk) (le : Hes) (ws : List (Int × WE)) (S : List (Value × Its)) (k : Nat) (v : Value) (W : World) (A' : Stk) (T0' : Nat → Prop) (Lf : List (Value × Its)) : Prop where
  rb : RB W r gs gm T0' T1 vS me n A' le ws S
  t0 : ∀ b, T0' b → T0 b ∨ w.heap.size ≤ b
  own : W.ownsRow w.heap.size 23 1 v Lf.length (Lf.map (·.1))
  nv : ∀ b, v.ownBlock = some b → ¬ T0' b
  eq : awayF A ((S.take k).map (·.2)) = (A', Lf.map (·.2))
  sub : ∀ p ∈ Lf, p ∈ S
  len : Lf.length ≤ k
  fr : Fr T0 w W
/-- What away leaves. -/
structure AwP (w : World) (r gs gm : Nat) (T0 T1 : Nat → Prop) (vS : Value) (me n : Int) (A : Stk) (le : Hes) (ws : List (Int × WE)) (S : List (Value × Its)) (e : Ending) (w' : World) : Prop where
  ex : ∃ T0' vS' S', e = .returned (.tuple #[]) ∧ RB w' r gs gm T0' T1 vS' me n (awayF A (S.map (·.2))).1 le ws S' ∧ S'.map (·.2) = (awayF A (S.map (·.2))).2 ∧ (∀ b, T0' b → T0 b ∨ w.heap.size ≤ b) ∧ (∀ b, vS'.ownBlock = some b → w.heap.size ≤ b) ∧ Fr (fun b => T0 b ∨ b = r) w w' ∧ ∀ p ∈ S', p ∈ S
set_option maxRecDepth 100000 in
set_option maxHeartbeats 16000000 in
theorem gAway (w : World) (r gs gm : Nat) (T0 T1 : Nat → Prop) (vS : Value) (me n : Int) (A : Stk) (le : Hes) (ws : List (Int × WE)) (S : List (Value × Its)) (h : RB w r gs gm T0 T1 vS me n A le ws S) (hl : S.length ≤ 100000) :
    Calls Tryz.prog 31 #[.pointer (some ⟨r, 0, none⟩)] w (AwP w r gs gm T0 T1 vS me n A le ws S) := by
  obtain ⟨i0, hi', hz0, hz1, hz2⟩ := info_parts infoSl
  obtain ⟨sa, sc, rfl⟩ := row_sl h.row
  obtain ⟨N, hN⟩ : ∃ N, S.length = N := ⟨_, rfl⟩
  rw [hN] at h hl ⊢
  have HH := Lib.hid h; have HN := Lib.hid hN
  have hlt := h.lt
  have HLT := Lib.hid hlt
  obtain ⟨c0, c1, c2, c3, c4⟩ := h.cells
  have hNI : (N : Int) ≤ 100000 := by omega
  have HC : Hid (∀ W A' T0', RB W r gs gm T0' T1 (.slice sa N sc) me n A' le ws S → W.cell? ⟨r, 2, none⟩ = some (.pointer (some ⟨gs, 0, none⟩)) ∧ W.cell? ⟨r, 4, none⟩ = some (.slice sa N sc) ∧ W.frozen? ⟨r, 4, none⟩ = false) := Lib.hid (fun W A' T0' hh => ⟨hh.cells.2.2.1, hh.cells.2.2.2.2, obj_frozen hh.obj 4⟩)
  clear h hN hlt
  go_enter Tryz.func31, Tryz.ntmps31
  go_wp2_with fail
  clear c0 c1 c2 c3 c4
  go_loopw [10, 2] (fun i v wr => ∃ (k : Nat) (A' : Stk) (T0' : Nat → Prop) (Lf : List (Value × Its)), k ≤ N ∧ i = .int .i64 k ∧ AwI w r gs gm T0 T1 (.slice sa N sc) me n A le ws S k v wr A' T0' Lf) (fun i _ _ => N - (intOf i).toNat)
  case atStart => exact ⟨0, A, T0, [], Nat.zero_le _, rfl, ⟨HH.out, fun b hb => .inl hb, World.ownsRow_nil _ _ _ _, fun b hb => (by cases hb), rfl, fun p hp => (by cases hp), Nat.zero_le _, Fr.refl _ _⟩⟩
  case round =>
    obtain ⟨k, A', T0', Lf, hk, rfl, hI⟩ := hrel
    have HI := Lib.hid hI
    obtain ⟨c2, c4, z4⟩ := HC.out _ _ _ hI.rb
    clear hI
    by_cases hlt : k < N
    · have hltI : (k : Int) < N := by omega
      obtain ⟨p, hp⟩ : ∃ p, S[k]? = some p := ⟨S[k]'(by rw [HN.out]; exact hlt), List.getElem?_eq_getElem _⟩
      have hpm := List.mem_of_getElem? hp
      have hrw := HI.out.rb.row
      rw [HN.out] at hrw
      obtain ⟨gq, ea, -, -⟩ := row_addr hrw (by omega)
      obtain ⟨pi, pb⟩ := HI.out.rb.st p hpm
      have HTK : Hid (S.take (k + 1) = S.take k ++ [p]) := Lib.hid (by rw [List.take_add_one, hp]; rfl)
      have hcx : wr.cell? ⟨gq, k, none⟩ = some p.1 := by
        obtain ⟨ad, e2, hc⟩ := (Rd.own hrw).at_ (by omega) (k := k) (u := p.1) (by rw [List.getElem?_map, hp]; rfl)
        cases ea
        cases e2
        rw [addk'] at hc
        exact hc
      cases ea
      obtain ⟨pv, pl⟩ := p
      dsimp only at hcx pi pb
      obtain ⟨pa, pc, rfl⟩ := pi.sl
      obtain ⟨M, hM⟩ : ∃ M, pl.length = M := ⟨_, rfl⟩
      have hMI : (M : Int) ≤ 9223372036854775807 := by have := pi.1; omega
      have HPI := Lib.hid pi; have HPM := Lib.hid hpm; have HPB := Lib.hid pb
      rw [hM] at hcx HPI HPM HPB HTK
      have HMM := Lib.hid hM
      obtain ⟨D, hD⟩ : ∃ D, (doH A' 11 pl).1 = D := ⟨_, rfl⟩
      have HD := Lib.hid hD
      clear hp hpm pi pb hM hD hrw
      have hK := HI.out.rb.ok
      by_cases hD0 : D = 0
      · have q : (D != 0) = false := by simpa using hD0
        have HD0 := Lib.hid hD0
        clear hD0 hK
        go_wp2_with (go_at_call 61; refine (eDo 11 _ pl HI.out.rb.sh HI.out.rb.ok HPI.out).mono ?_; rw [HD.out]; rintro e w2 ⟨T2, rfl, hs2, st2⟩; have HS2 := Lib.hid hs2; have ST2 := Lib.hid st2; clear hs2 st2)
        have hI2 : AwI w r gs gm T0 T1 (.slice (some ⟨gq, 0, none⟩) N sc) me n A le ws S (k + 1) u2 w2 (doH A' 11 pl).2 T2 Lf := by
          have hw := HI.out.fr.size
          refine ⟨HI.out.rb.shelf HS2.out (do_ok HI.out.rb.ok) ST2.out, fun b hb => (ST2.out.2 b hb).elim (HI.out.t0 b) (fun e => .inr (by omega)), ST2.out.1.row HI.out.own HI.out.nv, fun b hb e => (ST2.out.2 b e).elim (HI.out.nv b hb) (fun e => by have := (HI.out.own.lt b hb).2; omega), ?_, HI.out.sub, Nat.le_succ_of_le HI.out.len, HI.out.fr.trans' ST2.out.1 (fun b hb e => (HI.out.t0 b e).elim id (fun e => by omega))⟩
          rw [HTK.out, List.map_append, List.map_cons, List.map_nil, awayF_snoc, HI.out.eq]
          show awayS (A', _) pl = _
          unfold awayS
          rw [if_pos (by rw [HD.out]; exact HD0.out)]
        have HI2 := Lib.hid hI2
        clear hI2
        go_roundw
        case rel => exact ⟨k + 1, _, _, _, by omega, by go_num, HI2.out⟩
        case measure => simp [intOf]; omega
      · have q : (D != 0) = true := by simpa using hD0
        have HNO : Hid ((doH A' 11 pl).2 = A') := Lib.hid (doH_no (by rw [HD.out]; exact hD0))
        have HD0 := Lib.hid hD0
        clear hD0 hK
        go_upto_region 5 with (go_at_call 61; refine (eDo 11 _ pl HI.out.rb.sh HI.out.rb.ok HPI.out).mono ?_; rw [HD.out, HNO.out]; rintro e w2 ⟨T2, rfl, hs2, st2⟩; have HS2 := Lib.hid hs2; have ST2 := Lib.hid st2; clear hs2 st2)
        have hI2 : RB w2 r gs gm T2 T1 (.slice (some ⟨gq, 0, none⟩) N sc) me n A' le ws S ∧ w2.ownsRow w.heap.size 23 1 u2 Lf.length (Lf.map (·.1)) ∧ ∀ b, u2.ownBlock = some b → ¬ T2 b :=
          ⟨HI.out.rb.shelf HS2.out HI.out.rb.ok ST2.out, ST2.out.1.row HI.out.own HI.out.nv, fun b hb e => (ST2.out.2 b e).elim (HI.out.nv b hb) (fun e => by have := (HI.out.own.lt b hb).2; omega)⟩
        have HI2 := Lib.hid hI2
        clear hI2
        have HSZ : Hid (w.heap.size ≤ w2.heap.size) := Lib.hid (Nat.le_trans HI.out.fr.size ST2.out.1.size)
        have HLE : Hid (Lf.length ≤ 100000) := Lib.hid (by have := HI.out.len; omega)
        go_wp2_with (at_builtin; refine wpList_append_src rfl _ _ 63 rfl w.heap.size 23 i0 (.slice none 0 0) 24 Tryz.underlying63 hi' hz0 hz1 hz2 rfl (by decide) u2 Lf.length (Lf.map (·.1)) rfl (((Fr.refl (fun _ => False) w2).alloc _).row HI2.out.2.1 (fun _ _ e => e)) 1 rfl (rd_obj (cs := [.slice pa M pc]) (heap_new _ _) rfl) (by intro u hu; rw [List.mem_singleton.1 hu]; rfl) (by unfold maxLen; have := HLE.out; omega) (by have := HLE.out; omega) (by simp; have := HSZ.out; omega) ?_; intro v3 w3 hown hgrow hloc; have HO3 := Lib.hid hown; have HG3 := Lib.hid hgrow; have HL3 := Lib.hid hloc; clear hown hgrow hloc)
        have hf : Fr (fun b => u2.ownBlock = some b) w2 w3 := ((Fr.refl _ w2).alloc _).trans (Fr.grown HG3.out (fun b hb _ => hb))
        have hI3 : AwI w r gs gm T0 T1 (.slice (some ⟨gq, 0, none⟩) N sc) me n A le ws S (k + 1) v3 w3 A' T2 (Lf ++ [(.slice pa M pc, pl)]) := by
          have hw := HI.out.fr.size
          have hlo : ∀ b, u2.ownBlock = some b → w.heap.size ≤ b := fun b hb => (HI2.out.2.1.lt b hb).1
          refine ⟨HI2.out.1.keep hf (fun b hb e => ?_) (fun p hp hn b hb e => ?_), fun b hb => (ST2.out.2 b hb).elim (HI.out.t0 b) (fun e => .inr (by omega)), ?_, fun b hb e => ?_, ?_, fun p hp => ?_, by rw [List.length_append]; have := HI.out.len; simp; omega, (HI.out.fr.trans' ST2.out.1 (fun b hb e => (HI.out.t0 b e).elim id (fun e => by omega))).trans' hf (fun b hb e => by have := hlo b e; omega)⟩
          · rcases hb with hb | hb | hb | hb
            · have := HLT.out r (.inl rfl); have := hlo b e; omega
            · exact HI2.out.2.2 b e hb
            · have := HLT.out b (.inr (.inr (.inl hb))); have := hlo b e; omega
            · have := HLT.out b (.inr (.inr (.inr hb))); have := hlo b e; omega
          · have := ((HH.out.st p hp).2 hn b hb).1; have := hlo b e; omega
          · rw [List.length_append, List.map_append]
            exact HO3.out
          · rcases HL3.out with q | q
            · rw [q] at hb
              exact HI2.out.2.2 b hb e
            · rw [q] at hb
              injection hb with hb
              have := HI2.out.1.lt b (.inr (.inl e))
              simp at hb
              omega
          · rw [HTK.out, List.map_append, List.map_cons, List.map_nil, awayF_snoc, HI.out.eq]
            show awayS (A', _) pl = _
            unfold awayS
            rw [if_neg (by rw [HD.out]; exact HD0.out), List.map_append]
            rfl
          · rcases List.mem_append.1 hp with hp | hp
            · exact HI.out.sub p hp
            · rw [List.mem_singleton.1 hp]; exact HPM.out
        have HI3 := Lib.hid hI3
        clear hI3 hf
        go_roundw
        case rel => exact ⟨k + 1, _, _, _, by omega, by go_num, HI3.out⟩
        case measure => simp [intOf]; omega
    · have hltI : ¬ (k : Int) < N := by omega
      obtain ⟨la, lc, eo⟩ := row_sl HI.out.own
      obtain ⟨M, hM⟩ : ∃ M, Lf.length = M := ⟨_, rfl⟩
      rw [hM] at eo
      subst eo
      have HM := Lib.hid hM
      clear hM
      go_wp2_with fail
      go_end0
      have hkN : k = N := by omega
      have he := HI.out.eq
      rw [List.take_of_length_le (by rw [HN.out]; omega)] at he
      have hlo : ∀ b, (Value.slice la M lc).ownBlock = some b → w.heap.size ≤ b := fun b hb => (HI.out.own.lt b hb).1
      have hF : Fr (fun b => b = r) wr (wr.setCell ⟨r, 4, none⟩ (.slice la M lc)) := (Fr.refl (fun b => b = r) wr).setCell (p := ⟨r, 4, none⟩) (fun _ => rfl) _
      have hw := HI.out.fr.size
      have hS := HI.out.rb.stuck (S' := Lf) (vS' := .slice la M lc) (Fr.refl (fun _ => False) wr) (fun _ e => e.elim) (own_base HI.out.own (Nat.zero_le _)) (fun b hb => ⟨by have := HLT.out r (.inl rfl); have := hlo b hb; omega, HI.out.nv b hb, fun e => by have := HLT.out b (.inr (.inr (.inl e))); have := hlo b hb; omega⟩) (fun p hp => ⟨(HI.out.rb.st p (HI.out.sub p hp)).1, fun hn b hb => by
        obtain ⟨q1, q2, q3, q4, -⟩ := (HI.out.rb.st p (HI.out.sub p hp)).2 hn b hb
        exact ⟨q1, q2, q3, q4, fun e => by have := hlo b e; have := ((HH.out.st p (HI.out.sub p hp)).2 hn b hb).1; omega⟩⟩)
      refine ⟨T0', .slice la M lc, Lf, rfl, ?_, ?_, HI.out.t0, hlo, ?_⟩
      · rw [he]; exact hS
      · rw [he]
      · exact ⟨(HI.out.fr.mono (fun _ _ e => .inl e)).trans' hF (fun b _ e => .inr e), HI.out.sub⟩
end Go.Proofs.YtmflpeklalgibaaGreat

namespace Go.Proofs.YtmflpeklalgibaaGreat
open Go.RowKit Go.Maps
attribute [local go_sem] Oper.semAt_some
theorem putS_end {g : Str} {n : Int} : ∀ {L : Its}, (∀ p ∈ L, p.1 < g) → putS ktS.lt L g n = L ++ [(g, n)]
  | [], _ => rfl
  | q :: r, h => by
    have h0 := h q (by simp)
    have ih := putS_end (g := g) (n := n) (L := r) (fun p hp => h p (by simp [hp]))
    have hne : ¬ q.1 = g := fun e => str_irr g (by rw [e] at h0; exact h0)
    have hd : delS (q :: r) g = q :: delS r g := by unfold delS; rw [List.filter_cons, if_pos (by simpa using hne)]
    unfold putS at ih ⊢
    rw [hd]
    show (if ktS.lt g q.1 = true then _ else _) = _
    rw [if_neg (by rw [ktS_lt]; simpa using str_asym h0), ih]
    rfl
theorem freeF_take {A : Stk} {k : Nat} {p : Str × SR} (hA : RiseS A) (hp : A[k]? = some p) : freeF (A.take (k + 1)) = putS ktS.lt (freeF (A.take k)) p.1 p.2.free := by
  have hb : ∀ q ∈ freeF (A.take k), q.1 < p.1 := fun q hq => by
    obtain ⟨r, hr, rfl⟩ := List.mem_map.1 hq
    obtain ⟨i, hi, he⟩ := List.getElem_of_mem hr
    rw [List.length_take] at hi
    rw [List.getElem_take] at he
    have hk := (List.getElem?_eq_some_iff.1 hp)
    obtain ⟨hk, hke⟩ := hk
    have := List.pairwise_iff_getElem.1 hA i k (by omega) hk (by omega)
    rw [he, hke] at this
    exact this
  rw [putS_end hb, List.take_add_one, hp]
  unfold freeF
  simp
/-- What stands while goods are gone over: the map mm, the boxes of the stock and of the map. -/
structure FrI (w1 : World) (gk : Nat) (TK : Nat → Prop) (A : Stk) (mm : Nat) (k : Nat) (W : World) : Prop where
  mp : Mp Tryz.prog W 9 ktS encN mm (freeF (A.take k))
  bs : W.heap[mm + 1]? = some (.cells #[.pointer (some ⟨gk, 0, none⟩)] 41)
  bo : W.heap[mm + 2]? = some (.cells #[.map (some mm)] 76)
  sa : SA W gk TK A
  fr : Fr (fun _ => False) w1 W
def FrJ (w1 : World) (gk : Nat) (TK : Nat → Prop) (A : Stk) (mm k : Nat) (_ : Nat → Prop) (W : World) : Prop := FrI w1 gk TK A mm k W
set_option maxRecDepth 100000 in
set_option maxHeartbeats 8000000 in
theorem gFree (w : World) (r gs gm : Nat) (T0 T1 : Nat → Prop) (vk : Value) (me n : Int) (A : Stk) (le : Hes) (ws : List (Int × WE)) (S : List (Value × Its)) (h : RB w r gs gm T0 T1 vk me n A le ws S) :
    Calls Tryz.prog 29 #[.pointer (some ⟨r, 0, none⟩)] w fun e w' => ∃ m, e = .returned (.map (some m)) ∧ w.heap.size ≤ m ∧ Mp Tryz.prog w' 9 ktS encN m (freeF A) ∧ Fr (fun _ => False) w w' := by
  have hmm := @run_makeMap Tryz.prog
  have HH := Lib.hid h
  obtain ⟨-, -, c2, -, -⟩ := h.cells
  have HST := Lib.hid ((callsIn_wide (n := 0)).2 (eStock h.sh))
  have hA := h.ok.stk
  have HA := Lib.hid hA
  clear h hA
  refine (callsIn_wide (n := 0)).1 ?_
  refine callsIn_of_wp_marks Tryz.func29 rfl trivial ?_ rfl
  simp only [Tryz.ntmps29, List.size_toArray, List.length_cons, List.length_nil, Nat.reduceAdd, Nat.reduceSub, Array.replicate_succ, Array.replicate_zero, List.push_toArray, List.append_toArray, List.nil_append, List.cons_append]
  have hfn : ∀ f, Fence.wide.fn f := fun _ => trivial
  have hdp : Fence.wide.depth.isSome = false := rfl
  gi_wp2_with (first
    | (gi_at_call 33; refine HST.out.mono ?_; rintro e w1 ⟨gk, TK, rfl, h1, h2, h3⟩; have H1 := Lib.hid h1; have H2 := Lib.hid h2; have H3 := Lib.hid h3; clear h1 h2 h3)
    | (gi_at_call 59; refine (callsIn_wide.2 (sGoods _ _)).mono ?_; rintro e w6 ⟨rfl, rfl⟩))
  obtain ⟨mm, hmm0⟩ : ∃ n, w1.heap.size = n := ⟨_, rfl⟩
  have HTK : Hid (∀ b, TK b → b < mm) := Lib.hid (fun b hb => by rw [← hmm0]; exact H1.out.lt b hb)
  obtain ⟨W5, hW5⟩ : ∃ W, (((w1.alloc (.map #[] 0)).alloc (.cells #[.pointer (some ⟨gk, 0, none⟩)] 41)).alloc (.cells #[.map (some w1.heap.size)] 76)).alloc (.cells #[.pointer (some ⟨gk, 0, none⟩)] 41) = W := ⟨_, rfl⟩
  have hs5 : W5.heap.size = mm + 4 := by rw [← hW5, ← hmm0]; simp
  have hF5 : Fr (fun _ => False) w1 W5 := by rw [← hW5]; exact ((((Fr.refl _ w1).alloc _).alloc _).alloc _).alloc _
  have hI0 : FrI w1 gk TK A mm 0 W5 := by
    refine ⟨?_, ?_, ?_, H1.out.fr hF5 (fun _ _ e => e), hF5⟩
    · have := (((Mp.made Tryz.prog w1 9 ktS encN).alloc (.cells #[.pointer (some ⟨gk, 0, none⟩)] 41)).alloc (.cells #[.map (some w1.heap.size)] 76)).alloc (.cells #[.pointer (some ⟨gk, 0, none⟩)] 41)
      rw [hW5, hmm0] at this
      exact this
    · rw [← hW5]; exact heap_keep (heap_keep (heap_at (by simp; omega) _) _) _
    · rw [← hW5, ← hmm0]; exact heap_keep (heap_at (by simp) _) _
  have hBx : Boxed W5 (mm + 3) 41 (.pointer (some ⟨gk, 0, none⟩)) := by rw [← hW5, ← hmm0]; exact heap_at (by simp) _
  have HI0 := Lib.hid hI0; have HS5 := Lib.hid hs5
  have HZ : Hid (w.heap.size ≤ mm) := Lib.hid (by rw [← hmm0]; exact H2.out.size)
  have HW3 := Lib.hid H2.out
  have hg := sGoods1 (fun b => b = mm) W5 (mm + 3) gk TK A hBx hI0.sa (by have := HA.out.len; omega) (by omega) (fun b hb e => by have := HTK.out b hb; have e : b = mm := e; omega)
  have hmmz : w1.heap.size = mm := hmm0
  try rw [hW5]
  try rw [hmm0]
  clear hW5 hF5 hI0 hBx hs5 hmm
  refine rangeX (w0 := W5) (X := A.map (·.1)) (S := fun b => b = mm) rfl (enters_of Tryz.func92 (by kernel_rfl) rfl)
    hg (Below.refl _ _) (fun b hb => by have := HS5.out; have hb : b = mm := hb; omega) (fun _ => rfl)
    (FrJ w1 gk TK A mm) (fun _ _ _ _ => False)
    (fun k C W W' hs hf => FrI.mk (Fa.mp hf hs.mp) (Fa.cells hf hs.bs) (Fa.cells hf hs.bo) (hs.sa.fr hf (fun b hb e => by have := e.1; have := HTK.out b hb; have := HS5.out; omega)) (hs.fr.trans' hf (fun b hb e => by have := e.1; have := HS5.out; omega))) (fun c k C W W' hs hf => hs)
    HI0.out ?round ?done ?stop
  case stop => intro D c k C W hD hk hX; exact hX.elim
  case round =>
    rintro lp j x C W hx hlp hi hr
    dsimp only [encS]
    gi_wp2
    refine Took.mk (Fr.refl _ _) hi ?_
    rintro Wb hQ0 hrb hf hsz hsw hCC _
    have hQ : FrI w1 gk TK A mm j Wb := hQ0
    clear hQ0
    obtain ⟨p, hp, rfl⟩ : ∃ p, A[j]? = some p ∧ p.1 = x := by
      rw [List.getElem?_map] at hx
      cases e : A[j]? with
      | none => rw [e] at hx; cases hx
      | some p => rw [e] at hx; injection hx with hx; exact ⟨p, rfl, hx⟩
    have hrow : rowAt A p.1 = p.2 := by have := getK_of (riseS_nd HA.out.rise) (x := p.1) (v := p.2) (List.mem_of_getElem? hp); unfold rowAt; rw [this]; rfl
    have hok : okS p.1 := by have := goodB_len (HA.out.good p (List.mem_of_getElem? hp)); unfold okS maxLen; omega
    have hlv := fun W (hf : Fr (fun _ => False) Wb W) => sLevel W gk TK A p.1 (hQ.sa.fr hf (fun _ _ e => e)) hok
    rw [hrow] at hlv
    have HTK2 := Lib.hid (freeF_take HA.out.rise hp)
    have hlen : (freeF (A.take j)).length < 9223372036854775807 := by unfold freeF; rw [List.length_map, List.length_take]; have := HA.out.len; omega
    obtain ⟨gd, ⟨f0, f1, f2, f3, f4, f5, f6, f7, f8, f9, f10⟩⟩ := p
    dsimp only [SR.lev] at hlv hok HTK2
    have b1 := cell_obj hQ.bs 0 _ rfl
    have b2 := cell_obj hQ.bo 0 _ rfl
    have HQ := Lib.hid hQ; have HLV := Lib.hid hlv; have HOK := Lib.hid hok; have HLE := Lib.hid hlen
    clear hi hr hf hrb hx hQ hCC hlv hok hlen hrow hp
    have hfd : ∀ W : World, (Instr.field 47 (.agg #[.int .i64 f0, .int .i64 f1, .int .i64 f2, .int .i64 f3]) 0).run Tryz.prog W = .ok (.int .i64 f0) W := fun _ => (by kernel_rfl)
    gi_wp2_with fail
    gi_region_with (gi_at_call 12; refine (callsIn_wide.2 (HLV.out _ (Fr.refl _ Wb).drew)).mono ?_; rintro e w8 ⟨rfl, hf8⟩; have hf9 : Fr (fun _ => False) Wb w8 := (Fr.refl _ Wb).drew.trans hf8; have hx9 : ∃ w', (Instr.mapUpdate 76 (.map (some mm)) (vS gd) (.int .i64 f0)).run Tryz.prog w8 = .ok () w' ∧ Mp Tryz.prog w' 9 ktS encN mm (putS ktS.lt (freeF (A.take j)) gd f0) ∧ w8.mapTurned w' mm := (hf9.mp HQ.out.mp (fun e => e)).store kSN Tryz.underlying76 HLE.out HOK.out f0; obtain ⟨w9, hst, hm9, ht9⟩ := hx9; have d2 := cell_obj (hf9.at_ HQ.out.bo (fun e => e)) 0 _ rfl; have HF9 := Lib.hid hf9; have HM9 := Lib.hid hm9; have HT9 := Lib.hid ht9; clear hf8 hf9 hm9 ht9)
    all_goals
      gi_wp2_with fail
      have hfm : Fr (fun b => b = mm) Wb w9 := (HF9.out.mono (fun _ _ e => e.elim)).trans' (Fr.turned (S := fun b => b = mm) HT9.out rfl) (fun b _ e => e)
      refine ⟨hfm.mono (fun b hb e => .inl e), ?_⟩
      have hz := HQ.out.fr.size
      exact ⟨by rw [HTK2.out]; exact HM9.out, hfm.at_ HQ.out.bs (by omega), hfm.at_ HQ.out.bo (by omega), HQ.out.sa.fr hfm (fun b hb e => by have := HTK.out b hb; have e : b = mm := e; omega), HQ.out.fr.trans' hfm (fun b hb e => by have e : b = mm := e; omega)⟩
  case done =>
    rintro D C W hD hQ0 hr hK
    have hQ : FrI w1 gk TK A mm (A.map (·.1)).length W := hQ0
    rw [List.length_map] at hQ
    have hmp := hQ.mp
    rw [List.take_length] at hmp
    have b2 := cell_obj hQ.bo 0 _ rfl
    have HQ := Lib.hid hQ; have HMP := Lib.hid hmp; have HKK := Lib.hid hK; have HDD := Lib.hid hD
    clear hQ hQ0 hr hK hD hmp hg
    gi_wp2_with fail
    refine leaves_marks [D] W (by simp) (fun D' hD' => by rw [List.mem_singleton.1 hD']; exact HKK.out) (fun W' hf hz => ?_)
    have hd := HDD.out
    have hs := HS5.out
    refine ⟨.map (some mm), by simp [results, Tryz.results29, go_sem], mm, rfl, HZ.out, hf.mp HMP.out (fun e => by have := List.mem_singleton.1 e; omega), ?_⟩
    exact (HW3.out.trans HQ.out.fr).trans' hf (fun b hb e => by have := List.mem_singleton.1 e; have := HZ.out; omega)
end Go.Proofs.YtmflpeklalgibaaGreat

namespace Go.Proofs.YtmflpeklalgibaaGreat
open Go.RowKit Go.Maps
theorem cameK {P : Program} {k : TypeId} {κ ν : Type} [DecidableEq κ] {T : KT κ} {enc : ν → Value} (K : KO P k T) {l : List (κ × ν)} {x : κ} {v : Value} (h : ∀ zd, (T.dat enc l).atKey (T.lit x) zd = .held v) : ∃ r, getS l x = some r ∧ v = enc r := by
  have h0 := h .nil
  rw [dat_at K] at h0
  cases hg : getS l x with
  | none => rw [hg] at h0; cases h0
  | some r => rw [hg] at h0; injection h0 with h0; exact ⟨r, rfl, h0.symm⟩
def newsL (k : Nat) : List (Int × MV) := (List.range k).map (fun (i : Nat) => ((i : Int), newsM))
theorem newsL_succ (k : Nat) : newsL (k + 1) = newsL k ++ [((k : Int), newsM)] := by unfold newsL; rw [List.range_succ, List.map_append]; rfl
theorem newsL_len (k : Nat) : (newsL k).length = k := by unfold newsL; rw [List.length_map, List.length_range]
theorem newsL_nf (k : Nat) : (newsL k).map nfP = newsL k := by unfold newsL; rw [List.map_map]; rfl
/-- What is above, so far. -/
structure UpI (B F : Its) (left : Lit → Bool) (b : Bool) : Prop where
  yes : b = true → ∃ p ∈ F, (getS B p.1).getD 0 < p.2
  no : b = false → ∀ p ∈ F, left (ktS.lit p.1) = false → ¬ (getS B p.1).getD 0 < p.2
theorem UpI.done {B F : Its} {left : Lit → Bool} {b : Bool} (h : UpI B F left b) (hl : ∀ z, left z = false) : moreF B F = b := by
  unfold moreF
  cases b with
  | true =>
    obtain ⟨p, hp, h1⟩ := h.yes rfl
    exact List.any_eq_true.2 ⟨p, hp, by simpa using h1⟩
  | false => rw [List.any_eq_false]; intro p hp; simpa using h.no rfl p hp (hl _)
theorem UpI.next {B F : Its} {left : Lit → Bool} {b b' : Bool} {x : Str} {n : Int} (h : UpI B F left b) (hx : getS F x = some n) (hF : ∀ p ∈ F, p.1 = x → p.2 = n) (hb : b' = (b || decide ((getS B x).getD 0 < n))) : UpI B F (fun z => left z && !z.sameKey (ktS.lit x)) b' := by
  refine ⟨fun e => ?_, fun e p hp hl => ?_⟩
  · rw [hb, Bool.or_eq_true] at e
    rcases e with e | e
    · exact h.yes e
    · exact ⟨(x, n), getS_memS hx, by simpa using e⟩
  · rw [hb, Bool.or_eq_false_iff] at e
    by_cases hpx : p.1 = x
    · have h2 := hF p hp hpx
      have h3 := e.2
      rw [hpx, h2]
      simpa using h3
    · refine h.no e.1 p hp ?_
      have hl' : (left (ktS.lit p.1) && !(ktS.lit p.1).sameKey (ktS.lit x)) = false := hl
      rw [kSN.same, decide_eq_false hpx] at hl'
      simpa using hl'
/-- Between two rounds over the regions. -/
structure NwI (w W : World) (TS : Nat → Prop) (b : Bool) (k : Nat) (v : Value) : Prop where
  ps : Pst W w.heap.size v (if b = true then newsL k else []) TS
  fr : Fr (fun _ => False) w W
set_option maxRecDepth 100000 in
set_option maxHeartbeats 16000000 in
theorem gNews (w : World) (r gs gm : Nat) (T0 T1 : Nat → Prop) (vk : Value) (me n : Int) (A : Stk) (le : Hes) (ws : List (Int × WE)) (S : List (Value × Its)) (bm : Nat) (B : Its) (h : RB w r gs gm T0 T1 vk me n A le ws S) (hB : Mp Tryz.prog w 9 ktS encN bm B) (hn : 0 ≤ n ∧ n ≤ 8) :
    Calls Tryz.prog 32 #[.pointer (some ⟨r, 0, none⟩), .map (some bm)] w fun e w' => ∃ v L, e = .returned v ∧ Pst w' w.heap.size v L (RB.bl r T0 T1 vk) ∧ L.map nfP = newsR n B (freeF A) ∧ Fr (fun _ => False) w w' := by
  obtain ⟨i0, hi', hz0, hz1, hz2⟩ := info_parts infoPost
  obtain ⟨N, hN⟩ : ∃ N : Nat, n = N := ⟨n.toNat, by omega⟩
  subst hN
  have hFree := Lib.hid (gFree w r gs gm T0 T1 vk me N A le ws S h)
  obtain ⟨TS, hTS⟩ : ∃ T, RB.bl r T0 T1 vk = T := ⟨_, rfl⟩
  rw [hTS]
  have HLT : Hid (∀ b, TS b → b < w.heap.size) := Lib.hid (by rw [← hTS]; exact h.lt)
  have HC : Hid (∀ W, Fr (fun _ => False) w W → W.cell? ⟨r, 1, none⟩ = some (.int .i64 N)) := Lib.hid (fun W hf => (h.keep0 hf).cells.2.1)
  have HRI : Hid (∀ p ∈ freeF A, ∀ x n, getS (freeF A) x = some n → p.1 = x → p.2 = n) := Lib.hid (fun p hp x n hg hpx => by
    have hnd : RiseS (freeF A) := by
      unfold freeF RiseS
      rw [List.pairwise_map]
      exact h.ok.stk.rise
    have := getK_of (riseS_nd hnd) (x := p.1) (v := p.2) hp
    rw [hpx, hg] at this
    injection this with this
    exact this.symm)
  have HLK : Hid (∀ W x, Fr (fun _ => False) w W → okS x → (Instr.lookup 76 (.map (some bm)) (vS x) false).run Tryz.prog W = .ok (.int .i64 ((getS B x).getD 0)) W) := Lib.hid (fun W x hf hx => by
    have := (hf.mp hB (fun e => e)).look kSN Tryz.underlying76 (z := .int .i64 0) (by kernel_rfl) hx
    cases hg : getS B x with
    | none => rw [hg] at this; exact this
    | some u => rw [hg] at this; exact this)
  have hN8 : N ≤ 8 := by omega
  have hNI : (N : Int) ≤ 8 := by omega
  have HN8 := Lib.hid hN8
  clear h hB hn hTS hN8
  go_enter Tryz.func32, Tryz.ntmps32
  go_wp2_with (first
    | (go_at_call 29; refine hFree.out.mono ?_; rintro e w2 ⟨m, rfl, h1, h2, h3⟩; obtain ⟨nn, hown⟩ := id h2; have HMP := Lib.hid h2; have HM := Lib.hid h1; have HF2 := Lib.hid h3; clear h1 h2 h3)
    | (at_range; refine wpList_range_own _ rfl _ 76 rfl 9 3 kSN.keyed Tryz.underlying76 heldR m nn _ rfl hown ?_; intro w3 hrg3 hg3 hs3))
  (try go_frame)
  have hF3 : Fr (fun _ => False) w w3 := HF2.out.trans (Fr.grown hg3 (fun _ e => by cases e))
  obtain ⟨rb, hrb⟩ : ∃ rb, w2.heap.size = rb := ⟨_, rfl⟩
  have HRB := Lib.hid hrb
  rw [hrb] at hrg3 ⊢
  have HRG3 := Lib.hid hrg3; have HF3 := Lib.hid hF3
  have HU0 : Hid (UpI B (freeF A) (Maps.has (ktS.dat encN (freeF A))) false) := Lib.hid ⟨fun e => (by cases e), fun _ p hp hl => by
    have := dat_has kSN encN p.1 (freeF A)
    rw [hl] at this
    have h2 : (getS (freeF A) p.1).isSome = true := by
      obtain ⟨i, hi⟩ := List.getElem?_of_mem hp
      cases e : getS (freeF A) p.1 with
      | some _ => rfl
      | none =>
        exfalso
        have key : ∀ l : Its, p ∈ l → getS l p.1 ≠ none := fun l => by
          induction l with
          | nil => intro h; cases h
          | cons q t ih =>
            intro h
            simp only [getS]
            split
            · exact fun e => by cases e
            · rename_i hne
              rcases List.mem_cons.1 h with rfl | h
              · exact absurd rfl hne
              · exact ih h
        exact key _ hp e
    rw [h2] at this
    cases this⟩
  clear hrb hrg3 hg3 hs3 hown hF3
  go_loopw [5] (fun b wr => ∃ (left : Lit → Bool) (cnt : Nat) (b0 : Bool), b = .bool b0 ∧ wr.ranges Tryz.prog 9 heldR m rb nn (ktS.dat encN (freeF A)) left cnt ∧ Fr (fun _ => False) w wr ∧ UpI B (freeF A) left b0) (fun _ wr => wr.rangeLeft m rb)
  case atStart => exact ⟨_, _, _, rfl, HRG3.out, HF3.out, HU0.out⟩
  case round =>
    obtain ⟨left, cnt, b0, rfl, hrg, hF, hU⟩ := hrel
    have HFw := Lib.hid hF; have HU := Lib.hid hU; have HRG := Lib.hid hrg
    obtain ⟨wo, rfl⟩ : ∃ wo : World, wo = wr := ⟨_, rfl⟩
    clear hF hU
    go_wp2_with (at_next; refine wpList_next_ranges _ rfl _ rfl 9 kSN.keyed heldR id id (fun key _ _ => ⟨key, rfl⟩) (fun v _ _ => ⟨v, rfl⟩) m rb nn _ _ _ rfl hrg ?_ ?_)
    · intro _ hl0
      have HMB := Lib.hid (HU.out.done hl0)
      have c1 := HC.out _ HFw.out
      have HI0 : Hid (NwI w wo TS b0 0 (.slice none 0 0)) := Lib.hid (NwI.mk (by cases b0 <;> exact Pst.nil) HFw.out)
      clear hl0 hrg
      go_wp2_with fail
      clear c1
      go_loopw [30, 8] (fun i v wr => ∃ (k : Nat), k ≤ N ∧ i = .int .i64 k ∧ NwI w wr TS b0 k v) (fun i _ _ => N - (intOf i).toNat)
      case atStart => exact ⟨0, Nat.zero_le _, rfl, HI0.out⟩
      case round =>
        obtain ⟨k, hk, rfl, hI⟩ := hrel
        have HI := Lib.hid hI
        clear hI
        by_cases hlt : k < N
        · have hltI : (k : Int) < N := by omega
          have hkI : (k : Int) ≤ 8 := by omega
          have hk8 : k ≤ 8 := by have := HN8.out; omega
          have HK8 := Lib.hid hk8
          clear hk8
          cases b0 with
          | false =>
            go_wp2_with fail
            go_roundw
            case rel => exact ⟨k + 1, by omega, by go_num, ⟨HI.out.ps, HI.out.fr⟩⟩
            case measure => simp [intOf]; omega
          | true =>
            have hrow := HI.out.ps.row
            rw [if_pos rfl, newsL_len] at hrow
            obtain ⟨la, lc, eo⟩ := row_sl hrow
            subst eo
            have HROW := Lib.hid hrow
            have HZ : Hid (w.heap.size ≤ wr.heap.size) := Lib.hid HI.out.fr.size
            clear hrow
            go_wp2_with (at_builtin; refine wpList_append_src rfl _ _ 39 rfl w.heap.size 67 i0 (.agg #[.int .i64 0, .int .i64 0, .int .i64 0, .slice none 0 0, .int .i64 0, .int .i64 0, .int .i64 0, .int .i64 0, .int .i64 0, .int .i64 0, .int .i64 0, .string ⟨#[]⟩, .slice none 0 0, .int .i64 0, .int .i64 0, .int .i64 0, .int .i64 0]) 176 Tryz.underlying39 hi' hz0 hz1 hz2 rfl (by decide) (.slice la k lc) k (flat pcs (newsL k)) rfl (((Fr.refl (fun _ => False) wr).alloc _).row HROW.out (fun _ _ e => e)) 1 rfl (rd_obj (cs := [.int .i64 k, .int .i64 14, .int .i64 0, .slice none 0 0, .int .i64 0, .int .i64 0, .int .i64 0, .int .i64 0, .int .i64 0, .int .i64 0, .int .i64 0, .string ⟨#[]⟩, .slice none 0 0, .int .i64 0, .int .i64 0, .int .i64 0, .int .i64 0]) (heap_new _ _) rfl) (by intro u hu; simp only [List.mem_cons, List.not_mem_nil, or_false] at hu; rcases hu with h | h | h | h | h | h | h | h | h | h | h | h | h | h | h | h | h <;> (subst h; rfl)) (by unfold maxLen; have := HK8.out; omega) (by have := HK8.out; omega) (by simp; have := HZ.out; omega) ?_; intro v5 w5 hown5 hgrow hloc; have HO5 := Lib.hid hown5; have HG5 := Lib.hid hgrow; have HL5 := Lib.hid hloc; clear hown5 hgrow hloc)
            have hps := HI.out.ps
            rw [if_pos rfl] at hps
            have hsz := HI.out.fr.size
            obtain ⟨q1, q2⟩ := hps.push (p := ((k : Int), newsM)) (fun b hb => by have := HLT.out b hb; omega) ⟨⟨by omega, by omega⟩, mok_nil (by decide) (okI_lit (n := 0) (by decide)) yv0_ok, fun b hb => absurd hb own_nil⟩ (by rw [newsL_len]; exact HO5.out) HG5.out HL5.out
            have hI5 : NwI w w5 TS true (k + 1) v5 := ⟨by rw [if_pos rfl, newsL_succ]; exact q1, HI.out.fr.trans' q2 (fun b hb e => by have := (HROW.out.lt b e).1; omega)⟩
            have HI5 := Lib.hid hI5
            clear hps q1 q2 hI5
            go_roundw
            case rel => exact ⟨k + 1, by omega, by go_num, HI5.out⟩
            case measure => simp [intOf]; omega
        · have hltI : ¬ (k : Int) < N := by omega
          have hkN : k = N := by omega
          subst hkN
          go_wp2_with fail
          go_ret
          refine ⟨_, rfl, _, HI.out.ps, ?_, HI.out.fr⟩
          unfold newsR
          rw [HMB.out]
          cases b0 with
          | false => rfl
          | true => rw [if_pos rfl, if_pos rfl, newsL_nf]; rfl
    · intro x c' kl y1 y2 w4 cnt4 hkey hlx hv hat hrg4 hlt4 hg4 hs4 hen
      obtain ⟨xs, hok, hx, hkl⟩ := kSN.back hkey
      have hx' : x = vS xs := hx
      subst hx' hkl
      have hy : y1 = .held c' := by simp only [heldR, id] at hv; injection hv with hv; injection hv with hv _; exact hv.symm
      subst hy
      obtain ⟨u, hgu, rfl⟩ := cameK kSN hat
      have hen' : (Instr.entry (.pointer (some ⟨rb, 0, none⟩))).run Tryz.prog w4 = .ok (.tuple #[vS xs, .int .i64 u]) w4 := hen
      have hF4 : Fr (fun _ => False) w w4 := HFw.out.trans' (Fr.grown (S := fun z => z = rb) hg4 (fun _ e _ => by injection e with e; exact e.symm)) (fun b hb e => by have := HRB.out; have := HF2.out.size; omega)
      have lk := HLK.out w4 xs hF4 hok
      obtain ⟨nb, hnb⟩ : ∃ x, (getS B xs).getD 0 = x := ⟨_, rfl⟩
      rw [hnb] at lk
      have HU4 : Hid (∀ b', b' = (b0 || decide (nb < u)) → UpI B (freeF A) (fun z => left z && !z.sameKey (ktS.lit xs)) b') := Lib.hid (fun b' hb => HU.out.next hgu (fun p hp hpx => HRI.out p hp xs u hgu hpx) (by rw [hnb]; exact hb))
      have HF4 := Lib.hid hF4; have HRG4 := Lib.hid hrg4; have HLT4 := Lib.hid hlt4
      have HLE := Lib.hid HRG.out.left_eq
      clear hkey hlx hv hat hrg4 hlt4 hg4 hs4 hen hF4 hgu hnb hrg hx
      cases b0 with
      | true =>
        go_wp2_with fail
        go_roundw
        case rel => exact ⟨_, cnt4, true, rfl, HRG4.out, HF4.out, HU4.out true rfl⟩
        case measure => rw [HRG4.out.left_eq, HLE.out]; exact HLT4.out
      | false =>
        by_cases hup : nb < u
        · have hd : Hid (decide (nb < u) = true) := Lib.hid (by simpa using hup)
          go_wp2_with fail
          go_roundw
          case rel => exact ⟨_, cnt4, true, rfl, HRG4.out, HF4.out, HU4.out true (by rw [hd.out]; rfl)⟩
          case measure => rw [HRG4.out.left_eq, HLE.out]; exact HLT4.out
        · have hd : Hid (decide (nb < u) = false) := Lib.hid (by simpa using hup)
          go_wp2_with fail
          go_roundw
          case rel => exact ⟨_, cnt4, false, rfl, HRG4.out, HF4.out, HU4.out false (by rw [hd.out]; rfl)⟩
          case measure => rw [HRG4.out.left_eq, HLE.out]; exact HLT4.out
end Go.Proofs.YtmflpeklalgibaaGreat

namespace Go.Proofs.YtmflpeklalgibaaGreat
open Go.RowKit Go.Maps
section
variable {w W W' : World} {r gs gm : Nat} {TS T0 T1 T0' T1' : Nat → Prop} {vk : Value} {me n : Int} {A A' : Stk} {le le' : Hes} {ws ws' : List (Int × WE)} {S : List (Value × Its)} {B : List (Nat × Array Value × TypeId)} {Ls : List (Value × Its)}
/-- A box more. -/
theorem SnI.box {b : Nat} {cs : Array Value} {t : TypeId} (h : SnI w W r gs gm TS T0 T1 vk me n A le ws S B Ls) (hf : Fr (fun _ => False) W W') (hb : W'.heap[b]? = some (.cells cs t)) (hs : W.heap.size ≤ b) : SnI w W' r gs gm TS T0 T1 vk me n A le ws S ((b, cs, t) :: B) Ls := by
  have h' := h.keep0 hf
  refine ⟨h'.rb, h'.st, fun p hp => ?_, h'.il, h'.nv, h'.lo⟩
  rcases List.mem_cons.1 hp with rfl | hp
  · exact ⟨hb, Nat.le_trans h.st.1.size hs, fun e => by have := h.rb.lt _ e; dsimp only at this; omega⟩
  · exact h'.bx p hp
theorem SnI.tail {p : Nat × Array Value × TypeId} (h : SnI w W r gs gm TS T0 T1 vk me n A le ws S (p :: B) Ls) : SnI w W r gs gm TS T0 T1 vk me n A le ws S B Ls :=
  ⟨h.rb, h.st, fun q hq => h.bx q (.tail _ hq), h.il, h.nv, h.lo⟩
/-- The first box is turned. -/
theorem SnI.turn {p : Nat × Array Value × TypeId} (h : SnI w W r gs gm TS T0 T1 vk me n A le ws S (p :: B) Ls) (hf : Fr (fun b => b = p.1) W W') (hn : ∀ q ∈ B, p.1 ≠ q.1) : SnI w W' r gs gm TS T0 T1 vk me n A le ws S B Ls :=
  h.tail.keepK hf (fun b hb => by have hb : b = p.1 := hb; subst hb; exact ⟨(h.bx p (.head _)).2.1, (h.bx p (.head _)).2.2, hn⟩)
end
/-- What Mail leaves. -/
structure MaP (w : World) (r : Nat) (TS : Nat → Prop) (me n : Int) (R : PEs × RSt) (e : Ending) (w' : World) : Prop where
  ex : ∃ v TS' L S', e = .returned v ∧ RG w' r TS' me n R.2.A R.2.le R.2.ws S' ∧ S'.map (·.2) = R.2.S ∧ Pst w' w.heap.size v L TS' ∧ L.map nfP = R.1 ∧ Stp TS w w' TS'
/-- Mail's boxes are laid. -/
theorem mail_start {w W0 : World} {r gs gm n0 : Nat} {T0 T1 : Nat → Prop} {vk : Value} {me n : Int} {A : Stk} {le : Hes} {ws : List (Int × WE)} {S : List (Value × Its)} {m : MV} {fr : Int} (h : RB w r gs gm T0 T1 vk me n A le ws S) (hm : MOk w m) (ho : ∀ b, m.own b → ¬ RB.bl r T0 T1 vk b) (hn0 : w.heap.size = n0) (hW0 : (w.alloc (.cells m.cs 36)).alloc (.cells #[.int .i64 fr] 3) = W0) :
    SnI w W0 r gs gm (RB.bl r T0 T1 vk) T0 T1 vk me n A le ws S [(n0, m.cs, 36), (n0 + 1, #[.int .i64 fr], 3)] [(m.l, m.its), (m.a.l, m.a.its)] ∧ MOk W0 m ∧ Fr (fun _ => False) w W0 := by
  have hF0 : Fr (fun _ => False) w W0 := by rw [← hW0]; exact ((Fr.refl _ w).alloc _).alloc _
  have hB0 : W0.heap[n0]? = some (.cells m.cs 36) := by rw [← hW0]; exact heap_keep (heap_at hn0.symm _) _
  have hB1 : W0.heap[n0 + 1]? = some (.cells #[.int .i64 fr] 3) := by rw [← hW0]; exact heap_at (by simp; omega) _
  have hm0 := hm.keep hF0 (fun _ _ e => e)
  refine ⟨⟨h.keep0 hF0, Stp.refl hF0, fun p hp => ?_, fun p hp => ?_, fun p hp hn b hb => ?_, fun p hp hn b hb => ((h.st p hp).2 hn b hb).1⟩, hm0, hF0⟩
  · rcases List.mem_cons.1 hp with rfl | hp
    · exact ⟨hB0, by dsimp only; omega, fun e => by have := h.lt _ e; dsimp only at this; omega⟩
    · rw [List.mem_singleton.1 hp]
      exact ⟨hB1, by dsimp only; omega, fun e => by have := h.lt _ e; dsimp only at this; omega⟩
  · rcases List.mem_cons.1 hp with rfl | hp
    · exact hm0.l
    · rw [List.mem_singleton.1 hp]; exact hm0.a.l
  · rcases List.mem_cons.1 hp with rfl | hp
    · exact ⟨ho b (.inl ⟨hn, hb⟩), hm.lt (.inl ⟨hn, hb⟩)⟩
    · rw [List.mem_singleton.1 hp] at hn hb
      exact ⟨ho b (.inr ⟨hn, hb⟩), hm.lt (.inr ⟨hn, hb⟩)⟩
def bkC (k o : Int) (v : Value) : Array Value := #[.int .i64 k, .int .i64 o, v, .int .i64 0, .int .i64 0, .int .i64 0, .int .i64 0, .int .i64 0, .int .i64 0, .int .i64 0, .string ⟨#[]⟩, .slice none 0 0, .int .i64 0, .int .i64 0, .int .i64 0, .int .i64 0]
set_option maxRecDepth 100000 in
set_option maxHeartbeats 4000000 in
theorem gMail1 (w : World) (b1 b2 : Nat) (k o fr ec : Int) (sa : Option Addr) (sn sc : Nat) (h1 : w.heap[b1]? = some (.cells (bkC k o (.slice none 0 0)) 36)) (h2 : w.heap[b2]? = some (.cells #[.int .i64 fr] 3)) :
    Calls Tryz.prog 24 #[.slice sa sn sc, .int .i64 ec, .pointer (some ⟨b1, 0, none⟩), .pointer (some ⟨b2, 0, none⟩)] w fun e w' => ∃ b, e = .returned (.slice (some ⟨b, 0, none⟩) 1 1) ∧ w.heap.size ≤ b ∧ b < w'.heap.size ∧ (∀ L, w'.heap[b]? = some (.cells (pcs (fr, ⟨k, o, .slice sa sn sc, L, av0, yv0⟩)) 67)) ∧ Fr (fun c => c = b1) w w' := by
  have hne : b2 ≠ b1 := fun e => by rw [e, h1] at h2; injection h2 with h2; injection h2 with h2; injection h2 with h2; cases h2
  obtain ⟨W1, hW1⟩ : ∃ W, w.setCell ⟨b1, 2, none⟩ (.slice sa sn sc) = W := ⟨_, rfl⟩
  have hF : Fr (fun c => c = b1) w W1 := by rw [← hW1]; exact (Fr.refl (fun c => c = b1) w).setCell (p := ⟨b1, 2, none⟩) (fun _ => rfl) _
  have hB1 : W1.heap[b1]? = some (.cells (bkC k o (.slice sa sn sc)) 36) := by rw [← hW1]; exact obj_set h1 2 _
  have hB2 := hF.at_ h2 hne
  have x2 := cell_obj h1 2 (.slice none 0 0) rfl
  have z2 := obj_frozen h1 2
  have y := cell_obj hB2 0 (.int .i64 fr) rfl
  have c0 := cell_obj hB1 0 (.int .i64 k) rfl
  have c1 := cell_obj hB1 1 (.int .i64 o) rfl
  have c2 := cell_obj hB1 2 (.slice sa sn sc) rfl
  have c3 := cell_obj hB1 3 (.int .i64 0) rfl
  have c4 := cell_obj hB1 4 (.int .i64 0) rfl
  have c5 := cell_obj hB1 5 (.int .i64 0) rfl
  have c6 := cell_obj hB1 6 (.int .i64 0) rfl
  have c7 := cell_obj hB1 7 (.int .i64 0) rfl
  have c8 := cell_obj hB1 8 (.int .i64 0) rfl
  have c9 := cell_obj hB1 9 (.int .i64 0) rfl
  have c10 := cell_obj hB1 10 (.string ⟨#[]⟩) rfl
  have c11 := cell_obj hB1 11 (.slice none 0 0) rfl
  have c12 := cell_obj hB1 12 (.int .i64 0) rfl
  have c13 := cell_obj hB1 13 (.int .i64 0) rfl
  have c14 := cell_obj hB1 14 (.int .i64 0) rfl
  have c15 := cell_obj hB1 15 (.int .i64 0) rfl
  have HF := Lib.hid hF
  clear hB1 hB2 h1 h2 hne hF
  go_enter Tryz.func24, Tryz.ntmps24
  go_upto_region 2 with (fail)
  (try rw [hW1])
  clear hW1 x2 z2
  go_wp2_with fail
  go_ret
  exact ⟨W1.heap.size, rfl, HF.out.size, by simp, fun L => heap_new _ _, HF.out.alloc _⟩
/-- The answer is laid: what Mail leaves. -/
theorem ans_end {w W : World} {r gs gm b : Nat} {TS T0 T1 : Nat → Prop} {vk : Value} {me n : Int} {A : Stk} {le : Hes} {ws : List (Int × WE)} {S : List (Value × Its)} {B : List (Nat × Array Value × TypeId)} {Ls : List (Value × Its)} {k o fr : Int} {v : Value} {L : Its} {R : PEs × RSt}
    (h : SnI w W r gs gm TS T0 T1 vk me n A le ws S B Ls) (hb : W.heap[b]? = some (.cells (pcs (fr, ⟨k, o, v, L, av0, yv0⟩)) 67)) (hsb : w.heap.size ≤ b) (hnb : ¬ RB.bl r T0 T1 vk b) (hfr : okI fr) (hk : 0 ≤ k ∧ k ≤ 1000) (ho : okI o) (hi : Il W v L) (hv : L ≠ [] → ∀ c, v.ownBlock = some c → ¬ RB.bl r T0 T1 vk c ∧ c ≠ b)
    (hR : R = ([(fr, ⟨k, o, niv, L, av0, yv0⟩)], ⟨A, le, ws, S.map (·.2)⟩)) : MaP w r TS me n R (.returned (.slice (some ⟨b, 0, none⟩) 1 1)) W := by
  refine ⟨_, _, [(fr, ⟨k, o, v, L, av0, yv0⟩)], S, rfl, by rw [hR]; exact h.rb.rg, by rw [hR], Pst.one hb hsb hnb ⟨hfr, mok_its hk ho hi, fun c hc => ?_⟩, by rw [hR]; rfl, h.st⟩
  have := own_its hc
  exact hv this.1 c this.2
end Go.Proofs.YtmflpeklalgibaaGreat

namespace Go.Proofs.YtmflpeklalgibaaGreat
open Go.RowKit Go.Maps
theorem fr_setCells {S : Nat → Prop} {b : Nat} : ∀ (vs : List Value) (o : Nat) {w w' : World}, Fr S w w' → (b < w.heap.size → S b) → Fr S w (w'.setCells b o vs)
  | [], _, _, _, h, _ => h
  | v :: r, o, w, w', h, hs => fr_setCells r (o + 1) (h.setCell (p := ⟨b, o, none⟩) hs v) hs
theorem row_setCells {b : Nat} {T : TypeId} : ∀ (vs : List Value) (o : Nat) {W : World} {cur : Array Value}, W.heap[b]? = some (.cells cur T) → o + vs.length ≤ cur.size →
    ∃ cur', (W.setCells b o vs).heap[b]? = some (.cells cur' T) ∧ cur'.size = cur.size ∧ ∀ q, cur'[q]? = if o ≤ q ∧ q < o + vs.length then vs[q - o]? else cur[q]?
  | [], o, W, cur, h, _ => ⟨cur, h, rfl, fun q => by rw [if_neg (by simp)]⟩
  | v :: r, o, W, cur, h, hl => by
    simp only [List.length_cons] at hl
    obtain ⟨cur', h1, h2, h3⟩ := row_setCells r (o + 1) (obj_set h o v) (by simp; omega)
    refine ⟨cur', h1, by simpa using h2, fun q => ?_⟩
    rw [h3 q, List.length_cons]
    by_cases e : q = o
    · subst e
      rw [if_neg (by omega), if_pos (by omega), Nat.sub_self]
      simp [show q < cur.size by omega]
    · by_cases e2 : o ≤ q ∧ q < o + (r.length + 1)
      · rw [if_pos (by omega), if_pos e2, show q - o = (q - (o + 1)) + 1 by omega, List.getElem?_cons_succ]
      · rw [if_neg (by omega), if_neg e2]
        simp [Array.getElem?_setIfInBounds, show ¬ o = q from fun h => e h.symm]
section
variable {α : Type} {k : Nat} {cs : α → Array Value} {kp : α → Bool} {L : List α} {T : TypeId} {b j i : Nat} {cur0 : Array Value} {W : World}
/-- j elements have been looked at, i of them are kept, at the row's head; behind j it is as it was. -/
structure DelI (k : Nat) (cs : α → Array Value) (kp : α → Bool) (L : List α) (T : TypeId) (b : Nat) (cur0 : Array Value) (j i : Nat) (W : World) : Prop where
  ex : ∃ cur, W.heap[b]? = some (.cells cur T) ∧ cur.size = cur0.size ∧ cur.toList.take (i * k) = flat cs ((L.take j).filter kp) ∧ ∀ q, j * k ≤ q → cur[q]? = cur0[q]?
  cnt : i = ((L.take j).filter kp).length
  le : i ≤ j
theorem DelI.start {cur : Array Value} (hcs : ∀ r, (cs r).size = k) (hb : W.heap[b]? = some (.cells cur0 T)) (ht : cur0.toList.take (L.length * k) = flat cs L) (hj : j ≤ L.length) (hall : ∀ x ∈ L.take j, kp x = true) : DelI k cs kp L T b cur0 j j W := by
  have e : (L.take j).filter kp = L.take j := List.filter_eq_self.2 hall
  refine ⟨⟨cur0, hb, rfl, ?_, fun q _ => rfl⟩, by rw [e, List.length_take]; omega, Nat.le_refl _⟩
  rw [e, flat_take hcs, ← ht, List.take_take]
  congr 1
  have := Nat.mul_le_mul_right k hj
  omega
theorem DelI.keep0 {W' : World} (h : DelI k cs kp L T b cur0 j i W) (hf : Fr (fun _ => False) W W') : DelI k cs kp L T b cur0 j i W' := by
  obtain ⟨⟨cur, h1, h2⟩, h3, h4⟩ := h
  exact ⟨⟨cur, hf.at_ h1 (fun e => e), h2⟩, h3, h4⟩
theorem DelI.get (h : DelI k cs kp L T b cur0 j i W) {q : Nat} (hq : q < cur0.size) : ∃ u, W.cell? ⟨b, q, none⟩ = some u := by
  obtain ⟨⟨cur, h1, h2, -⟩, h3, h4⟩ := h
  exact ⟨cur[q]'(by omega), cell_obj h1 q _ (Array.getElem?_eq_getElem _)⟩
theorem take_get {xs ys : List Value} {n : Nat} (h : xs.take n = ys) {q : Nat} (hq : q < n) : xs[q]? = ys[q]? := by
  rw [← h, List.getElem?_take_of_lt hq]
/-- What is read at place j. -/
theorem DelI.at_ (hcs : ∀ r, (cs r).size = k) (h : DelI k cs kp L T b cur0 j i W) (ht : cur0.toList.take (L.length * k) = flat cs L) {x : α} (hx : L[j]? = some x) {q : Nat} {u : Value} (hu : (cs x)[q]? = some u) : W.cell? ⟨b, j * k + q, none⟩ = some u := by
  obtain ⟨⟨cur, h1, h2, h5, h6⟩, h3, h4⟩ := h
  refine cell_obj h1 _ _ ?_
  rw [h6 _ (by omega), ← Array.getElem?_toList]
  have hj := (List.getElem?_eq_some_iff.1 hx).1
  have hq := (Array.getElem?_eq_some_iff.1 hu).1
  rw [hcs] at hq
  have h7 : (j + 1) * k ≤ L.length * k := Nat.mul_le_mul_right k hj
  rw [Nat.succ_mul] at h7
  rw [take_get ht (by omega)]
  exact flat_at hcs hx q u hu
theorem take_succ_of {x : α} (hx : L[j]? = some x) : (L.take (j + 1)).filter kp = (L.take j).filter kp ++ (if kp x = true then [x] else []) := by
  rw [List.take_add_one, hx, List.filter_append]
  congr 1
  by_cases h : kp x = true <;> simp [h]
theorem DelI.skip (h : DelI k cs kp L T b cur0 j i W) {x : α} (hx : L[j]? = some x) (hk : kp x = false) : DelI k cs kp L T b cur0 (j + 1) i W := by
  obtain ⟨⟨cur, h1, h2, h5, h6⟩, h3, h4⟩ := h
  have e := take_succ_of (kp := kp) hx
  rw [hk, if_neg (by simp), List.append_nil] at e
  refine ⟨⟨cur, h1, h2, by rw [e]; exact h5, fun q hq => h6 q ?_⟩, by rw [e]; exact h3, by omega⟩
  have : j * k ≤ (j + 1) * k := Nat.mul_le_mul_right k (Nat.le_succ j)
  omega
theorem DelI.put (hcs : ∀ r, (cs r).size = k) (h : DelI k cs kp L T b cur0 j i W) (hsz : L.length * k ≤ cur0.size) {x : α} (hx : L[j]? = some x) (hk : kp x = true) : DelI k cs kp L T b cur0 (j + 1) (i + 1) (W.setCells b (i * k) (cs x).toList) := by
  obtain ⟨⟨cur, h1, h2, h5, h6⟩, h3, h4⟩ := h
  have e := take_succ_of (kp := kp) hx
  rw [hk, if_pos rfl] at e
  have hj := (List.getElem?_eq_some_iff.1 hx).1
  have g1 : (i + 1) * k ≤ (j + 1) * k := Nat.mul_le_mul_right k (by omega)
  have g2 : (j + 1) * k ≤ L.length * k := Nat.mul_le_mul_right k hj
  have g3 : (i + 1) * k = i * k + k := Nat.succ_mul i k
  have hl : (cs x).toList.length = k := by rw [Array.length_toList, hcs]
  obtain ⟨cur', c1, c2, c3⟩ := row_setCells (cs x).toList (i * k) h1 (by rw [hl]; omega)
  rw [hl] at c3
  refine ⟨⟨cur', c1, by omega, ?_, fun q hq => ?_⟩, by rw [e, List.length_append, ← h3]; rfl, by omega⟩
  · rw [e, flat_app]
    have hfx : flat cs [x] = (cs x).toList := by simp [flat]
    have hlen : (flat cs ((L.take j).filter kp)).length = i * k := by rw [flat_len1 hcs, ← h3]
    apply List.ext_getElem?
    intro q
    by_cases hq : q < (i + 1) * k
    · rw [List.getElem?_take_of_lt hq, Array.getElem?_toList, c3 q]
      by_cases hq2 : i * k ≤ q
      · rw [if_pos ⟨hq2, by omega⟩, List.getElem?_append_right (by omega), hlen, hfx]
      · rw [if_neg (by omega), List.getElem?_append_left (by omega), ← h5, List.getElem?_take_of_lt (by omega), Array.getElem?_toList]
    · rw [List.getElem?_take_eq_none (by omega), List.getElem?_eq_none (by rw [List.length_append, hlen, hfx, hl]; omega)]
  · have g4 : (j + 1) * k = j * k + k := Nat.succ_mul j k
    rw [c3 q, if_neg (by omega)]
    exact h6 q (by omega)
/-- Behind 'clear' it is a row of what is kept. -/
theorem DelI.done {base cap : Nat} (hcs : ∀ r, (cs r).size = k) (h : DelI k cs kp L T b cur0 L.length i W) (hb : base ≤ b) (hn : L.length ≤ cap) (hm : cap ≤ maxLen) (hs : cur0.size = cap * k) (vs : List Value) (hv : i * k + vs.length ≤ cur0.size) :
    (W.setCells b (i * k) vs).ownsRow base T k (.slice (some ⟨b, 0, none⟩) (L.filter kp).length cap) (L.filter kp).length (flat cs (L.filter kp)) := by
  obtain ⟨⟨cur, h1, h2, h5, h6⟩, h3, h4⟩ := h
  rw [List.take_of_length_le (Nat.le_refl _)] at h3 h5
  obtain ⟨cur', c1, c2, c3⟩ := row_setCells vs (i * k) h1 (by omega)
  refine ⟨by rw [flat_len1 hcs], .inr ⟨b, cap, cur', rfl, hb, c1, by omega, hm, by omega, ?_⟩⟩
  rw [← h5, ← h3]
  apply List.ext_getElem?
  intro q
  by_cases hq : q < i * k
  · rw [List.getElem?_take_of_lt hq, List.getElem?_take_of_lt hq, Array.getElem?_toList, Array.getElem?_toList, c3 q, if_neg (by omega)]
  · rw [List.getElem?_take_eq_none (by omega), List.getElem?_take_eq_none (by omega)]
end
end Go.Proofs.YtmflpeklalgibaaGreat

namespace Go.Proofs.YtmflpeklalgibaaGreat
open Go Go.RowKit
theorem box_store {P : Program} {w : World} {n : Nat} {T : TypeId} {z cs : Array Value} (h : w.heap[n]? = some (.cells z T)) (hs : cs.size = z.size) (hi : (P.info? T).map (·.size) = some cs.size) (h1 : ∀ u ∈ cs.toList, u.oneCell' = true) :
    ∃ w', (Instr.storeAt T (bPtr n) (.agg cs)).run P w = .ok () w' ∧ w'.heap[n]? = some (.cells cs T) ∧ Fr (fun c => c = n) w w' := by
  refine ⟨w.setCells n 0 cs.toList, run_storeAt_mid w n 0 T cs ?_ hi (Array.all_eq_true_iff_forall_mem.2 fun u hu => h1 u (by simpa using hu)), ?_, fr_setCells _ _ (Fr.refl _ w) (fun _ => rfl)⟩
  · exact fun j hj => ⟨by simp [World.cell?, h]; omega, by simpa using obj_frozen h (0 + j)⟩
  · obtain ⟨cur, h2, h3, h4⟩ := row_setCells cs.toList 0 h (by simp [hs])
    rw [h2]
    congr 2
    apply Array.ext_getElem?
    intro q
    rw [h4 q]
    by_cases hq : q < cs.size
    · rw [if_pos (by simpa using hq)]; simp
    · rw [if_neg (by simpa using hq), Array.getElem?_eq_none (by omega), Array.getElem?_eq_none (by omega)]
end Go.Proofs.YtmflpeklalgibaaGreat

