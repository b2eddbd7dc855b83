/- Texts of this claim, joined: hold: Sound; hold: a shelf's Pack and Sound, as one thing; hold, plainly: a shelf stays as it should be; what is taken for an order, and what is shipped; region, plainly: what is put away, what is free, which news there are; region: a region, its parts named and as one thing; append(row, source...) at a step of a region that draws its order; region: New, kindOf, away; strings.Contains at a substring of one byte (the contracts as the shelf's templates have them); ask: Has, within, mayN; ask.May's closures; Arguments: strings, slices of items, opened; Slices of requests, opened; An answer, opened; mail: Has, Answers, mayAnswer, right; entrepotref05.May; entrepotref06: Good, May, Same; entrepotref06: May, Same; slices.Equal at items; ask.Same; ask.May. -/
import Derived.Test.YtmflpeklalgibaaGreatRegionNobodyM5
import Derived.Test.YtmflpeklalgibaaGreatRegionNobodyM3
import Derived.Test.YtmflpeklalgibaaGreatRegionNobodyM2
import Derived.Says
import Derived.Sort.MapsRangeIn
import Derived.Deep.RegionHeld3
import Derived.Test.YtmflpeklalgibaaGreatRegionNobodyM1
import Derived.Test.YtmflpeklalgibaaGreatRows
import Derived.WalkKit
import Derived.Lib.Strings
import Derived.Lib.Slices
import Derived.Lib.Walk
import Derived.Lib.Bytealg
import Derived.Deep.QuietTactic
import Derived.BigQuiet
import Derived.Deep.DeepCutAuto
namespace Go.Proofs.YtmflpeklalgibaaGreat
open Go.RowKit Go.Maps
attribute [local go_sem] Oper.semAt_some
theorem ranges_fr {P : Program} {k : TypeId} {R : Value → Option (DataW Value × List MemPlace)} {b r n cnt : Nat} {D : DataW Value} {left : Lit → Bool} {S : Nat → Prop} {w w' : World} (h : w.ranges P k R b r n D left cnt) (hf : Fr S w w') (hb' : ¬ S b) (hr' : ¬ S r) : w'.ranges P k R b r n D left cnt := by
  have h1 := h.owns.lt
  have h2 := h.lt
  obtain ⟨es, clock, since, seen, c0, hb, F, hs, hD, hr, rest⟩ := h
  exact ⟨es, clock, since, seen, c0, (hf.same b h1 hb').trans hb, F, hs, hD, (hf.same r h2 hr').trans hr, rest⟩
abbrev mkD (D : Nat) : Deferred := { target := .collected D, args := #[] }
/-- A function's end behind any number of marks. -/
theorem leaves_marks {F : Fence} {n : Nat} {P : Program} {fn : Func} {tmps : Array Value} {R : Ending → World → Prop} : ∀ (Ds : List Nat) (W : World), Ds.Nodup → (∀ D ∈ Ds, W.heap[D]? = some (.deferred (some []))) →
    (∀ W', Fr (fun b => b ∈ Ds) W W' → W'.heap.size = W.heap.size → LeavesInM F n P fn tmps R [] .returning W') → LeavesInM F n P fn tmps R (Ds.map mkD) .returning W
  | [], W, _, _, h => h W (Fr.refl _ _) rfl
  | D :: r, W, hn, hd, h => by
    obtain ⟨h1, h2⟩ := List.nodup_cons.1 hn
    refine ⟨by simp, .inl ⟨D, _, rfl, run_takeDeferred (hd D (by simp)), ?_⟩⟩
    refine leaves_marks r _ h2 (fun D' hD' => ?_) (fun W' hf hz => h W' ?_ (by rw [hz]; simp))
    · rw [World.putObj_heap_other (fun e => by subst e; exact h1 hD')]
      exact hd D' (by simp [hD'])
    · exact ((Fr.refl (fun b => b ∈ D :: r) W).putObj (l := D) (fun _ => by simp) _).trans (hf.mono (fun b _ e => by simp [e]))
/-- The call's own blocks. -/
structure SdI (w0 W : World) (n0 g : Nat) (H P : Its) : Prop where
  bs : W.heap[n0]? = some (.cells #[.pointer (some ⟨g, 0, none⟩)] 59)
  rs : W.heap[n0 + 1]? = some (.cells #[.bool false] 4)
  vh : W.heap[n0 + 4]? = some (.cells #[.map (some (n0 + 2))] 76)
  vp : W.heap[n0 + 5]? = some (.cells #[.map (some (n0 + 3))] 76)
  mh : Mp Tryz.prog W 9 ktS encN (n0 + 2) H
  mp : Mp Tryz.prog W 9 ktS encN (n0 + 3) P
  fr : Fr (fun b => n0 ≤ b) w0 W
section
variable {w0 W W' : World} {n0 g : Nat} {H P : Its}
theorem SdI.keep (h : SdI w0 W n0 g H P) (hf : Fr (fun _ => False) W W') : SdI w0 W' n0 g H P :=
  ⟨hf.at_ h.bs (fun e => e), hf.at_ h.rs (fun e => e), hf.at_ h.vh (fun e => e), hf.at_ h.vp (fun e => e), hf.mp h.mh (fun e => e), hf.mp h.mp (fun e => e), h.fr.trans' hf (fun _ _ e => e.elim)⟩
theorem SdI.fr' {S : Nat → Prop} (h : SdI w0 W n0 g H P) (hf : Fr S W W') (hS : ∀ b, S b → n0 + 6 ≤ b) : SdI w0 W' n0 g H P :=
  ⟨hf.at_ h.bs (fun e => by have := hS _ e; omega), hf.at_ h.rs (fun e => by have := hS _ e; omega), hf.at_ h.vh (fun e => by have := hS _ e; omega), hf.at_ h.vp (fun e => by have := hS _ e; omega), hf.mp h.mh (fun e => by have := hS _ e; omega), hf.mp h.mp (fun e => by have := hS _ e; omega), h.fr.trans' hf (fun b _ e => by have := hS b e; omega)⟩
theorem SdI.putH {H' : Its} (h : SdI w0 W n0 g H P) (hf : Fr (fun b => b = n0 + 2) W W') (hm : Mp Tryz.prog W' 9 ktS encN (n0 + 2) H') : SdI w0 W' n0 g H' P :=
  ⟨hf.at_ h.bs (by omega), hf.at_ h.rs (by omega), hf.at_ h.vh (by omega), hf.at_ h.vp (by omega), hm, hf.mp h.mp (by omega), h.fr.trans' hf (fun b _ e => by omega)⟩
theorem SdI.putP {P' : Its} (h : SdI w0 W n0 g H P) (hf : Fr (fun b => b = n0 + 3) W W') (hm : Mp Tryz.prog W' 9 ktS encN (n0 + 3) P') : SdI w0 W' n0 g H P' :=
  ⟨hf.at_ h.bs (by omega), hf.at_ h.rs (by omega), hf.at_ h.vh (by omega), hf.at_ h.vp (by omega), hf.mp h.mh (by omega), hm, h.fr.trans' hf (fun b _ e => by omega)⟩
end
/-- The loop over the holds: what has been added so far; Ds: the marks of the ranges over functions. -/
structure SdL (w0 W : World) (n0 g m nn : Nat) (l : List (Int × HV)) (Ds : List Nat) (left : Lit → Bool) (cnt : Nat) (H P : Its) : Prop where
  sd : SdI w0 W n0 g H P
  rg : W.ranges Tryz.prog 3 heldR m (n0 + 6) nn (ktI.dat HV.enc l) left cnt
  hw : SdW H left l HV.he
  pw : SdW P left l HV.pi
  nd : Ds.Nodup
  ds : ∀ D ∈ Ds, n0 + 7 ≤ D ∧ W.heap[D]? = some (.deferred (some []))
  sz : n0 + 7 ≤ W.heap.size
set_option maxRecDepth 100000 in
set_option maxHeartbeats 16000000 in
theorem hSound (w : World) (g gs m : Nat) (T0 TB : Nat → Prop) (A : Stk) (l : List (Int × HV)) (h : SB w g gs m T0 TB A l) (hk : ShOk A (mapE l)) :
    Calls Tryz.prog 38 #[.pointer (some ⟨g, 0, none⟩)] w fun e w' => e = .returned (.bool (soundE A (mapE l))) ∧ Fr (fun _ => False) w w' := by
  obtain ⟨n0, hn0⟩ : ∃ n0, w.heap.size = n0 := ⟨_, rfl⟩
  have HS := Lib.hid hn0
  have HSB := Lib.hid h; have HK := Lib.hid hk
  have hgc : Hid (∀ W, Fr (fun b => n0 ≤ b) w W → W.cell? ⟨g, 0, none⟩ = some (.pointer (some ⟨gs, 0, none⟩)) ∧ W.cell? ⟨g, 1, none⟩ = some (.map (some m))) := Lib.hid (fun W hf => (HSB.out.keep hf (fun b hb e => by have := HSB.out.lt b hb; omega)).cells)
  have hmd : Hid (∀ W, Fr (fun b => n0 ≤ b) w W → Calls Tryz.prog 64 #[.pointer (some ⟨g, 0, none⟩)] W fun e w' => e = .returned (.bool true) ∧ W = w') := Lib.hid (fun W hf => hmade W g m (hgc.out W hf).2)
  obtain ⟨R, hR⟩ : ∃ R, soundE A (mapE l) = R := ⟨_, rfl⟩
  have HR := Lib.hid hR
  rw [hR]
  clear h hk hR
  refine (callsIn_wide (n := 0)).1 ?_
  refine callsIn_of_wp_marks Tryz.func38 rfl trivial ?_ rfl
  simp only [Tryz.ntmps38, List.size_toArray, List.length_cons, List.length_nil, Nat.reduceAdd, Nat.reduceSub, Array.replicate_succ, Array.replicate_zero, List.push_toArray, List.append_toArray, List.nil_append, List.cons_append]
  have hfn : ∀ f, Fence.wide.fn f := fun _ => trivial
  have hmm := @run_makeMap Tryz.prog
  have hdp : Fence.wide.depth.isSome = false := rfl
  obtain ⟨g0, g1⟩ := hgc.out _ ((((((((Fr.refl (fun b => n0 ≤ b) w).alloc (.cells #[.pointer (some ⟨g, 0, none⟩)] 59)).alloc (.cells #[.bool false] 4))).alloc (.map #[] 0)).alloc (.map #[] 0)).alloc (.cells #[.map (some (n0 + 2))] 76)).alloc (.cells #[.map (some (n0 + 3))] 76))
  have hmp := HSB.out.mp
  obtain ⟨nn, hown0⟩ := hmp
  have hown := hown0
  have HOWN : Hid (∀ W, Fr (fun b => n0 ≤ b) w W → W.ownsMap Tryz.prog 3 heldR m nn (ktI.dat HV.enc l)) := Lib.hid (fun W hf => by
    have hm := HSB.out.lt m (.inr (.inl rfl))
    obtain ⟨es, clock, hb, F, hs, hD⟩ := hown0
    exact ⟨es, clock, (hf.same m hm (by omega)).trans hb, F, hs, hD⟩)
  clear hown hown0
  obtain ⟨W1, hW1⟩ : ∃ W1, ((((((w.alloc (.cells #[.pointer (some ⟨g, 0, none⟩)] 59)).alloc (.cells #[.bool false] 4))).alloc (.map #[] 0)).alloc (.map #[] 0)).alloc (.cells #[.map (some (n0 + 2))] 76)).alloc (.cells #[.map (some (n0 + 3))] 76) = W1 := ⟨_, rfl⟩
  have hI0 : SdI w W1 n0 g [] [] := by
    have hm1 := Mp.made (κ := Str) (ν := Int) Tryz.prog (((w.alloc (.cells #[.pointer (some ⟨g, 0, none⟩)] 59)).alloc (.cells #[.bool false] 4))) 9 ktS encN
    have hm2 := Mp.made (κ := Str) (ν := Int) Tryz.prog (((w.alloc (.cells #[.pointer (some ⟨g, 0, none⟩)] 59)).alloc (.cells #[.bool false] 4)).alloc (.map #[] 0)) 9 ktS encN
    rw [show (((w.alloc (.cells #[.pointer (some ⟨g, 0, none⟩)] 59)).alloc (.cells #[.bool false] 4))).heap.size = n0 + 2 by simp; omega] at hm1
    rw [show (((w.alloc (.cells #[.pointer (some ⟨g, 0, none⟩)] 59)).alloc (.cells #[.bool false] 4)).alloc (.map #[] 0)).heap.size = n0 + 3 by simp; omega] at hm2
    rw [← hW1]
    exact ⟨heap_keep (heap_keep (heap_keep (heap_keep (heap_keep (heap_at hn0.symm _) _) _) _) _) _, heap_keep (heap_keep (heap_keep (heap_keep (heap_at (by simp; omega) _) _) _) _) _, heap_keep (heap_at (by simp; omega) _) _, heap_at (by simp; omega) _, ((hm1.alloc _).alloc _).alloc _, (hm2.alloc _).alloc _, ((((((Fr.refl _ w).alloc _).alloc _).alloc _).alloc _).alloc _).alloc _⟩
  have hs1 : W1.heap.size = n0 + 6 := by rw [← hW1]; simp; omega
  have HI0 := Lib.hid hI0; have HS1 := Lib.hid hs1
  have hown1 := HOWN.out W1 hI0.fr
  have b0 := cell_obj hI0.bs 0 (.pointer (some ⟨g, 0, none⟩)) rfl
  obtain ⟨g2, g3⟩ := hgc.out W1 hI0.fr
  clear hI0 hs1
  gi_wp2_with (first
    | (gi_at_call 64; refine (callsIn_wide.2 (hmd.out _ (((Fr.refl _ _).alloc _).alloc _))).mono ?_; rintro e w1 ⟨rfl, rfl⟩)
    | (gi_at_range; refine wpListIn_range_own _ rfl _ 88 rfl 3 54 kHI.keyed Tryz.underlying88 heldR m nn _ rfl hown1 ?_; intro w3 hrg3 hg3 hs3))
  rw [show n0 + 1 + 1 + 1 + 1 + 1 = n0 + 5 from rfl, show n0 + 1 + 1 + 1 + 1 = n0 + 4 from rfl, show n0 + 1 + 1 + 1 = n0 + 3 from rfl, show n0 + 1 + 1 = n0 + 2 from rfl]
  rw [HS1.out] at hrg3 ⊢
  have hf3 : Fr (fun _ => False) W1 w3 := Fr.grown hg3 (fun r e _ => by cases e)
  have hI3 := HI0.out.keep hf3
  have hs3' : w3.heap.size = n0 + 7 := by rw [hs3, HS1.out]
  have hnd : Hid ((l.map (·.1)).Nodup) := Lib.hid (by
    have h1 := HK.out.rise
    have h2 : (mapE l).map (·.1) = l.map (·.1) := by unfold mapE; rw [List.map_map]; rfl
    rw [← h2, List.Nodup, List.pairwise_map]
    exact h1.imp (fun {p q} e h => by omega))
  have hL3 : SdL w w3 n0 g m nn l [] (Maps.has (ktI.dat HV.enc l)) (Maps.size (ktI.dat HV.enc l)) [] [] := by
    have hall : ∀ p ∈ l, Maps.has (ktI.dat HV.enc l) (ktI.lit p.1) = true := fun p hp => by
      rw [dat_has kHI, getK_of hnd.out (x := p.1) (v := p.2) hp]; rfl
    exact ⟨hI3, hrg3, SdW.start hall, SdW.start hall, List.nodup_nil, fun D hD => (by cases hD), by omega⟩
  have HL3 := Lib.hid hL3
  have hmn : Hid (m < n0) := Lib.hid (by have := HSB.out.lt m (.inr (.inl rfl)); omega)
  clear hmm hrg3 hg3 hs3 hf3 hI3 hs3' hL3 g0 g1 g2 g3 b0 hown1 hW1
  refine wpIn_loop (fun a' w' => ∃ (u6 u7 u8 u9 u10 u23 u24 u25 u26 u27 u28 u29 u30 u31 u32 u33 u34 u35 u36 u37 u38 u39 u40 u41 u42 u43 u44 u45 u46 : Value) (Ds : List Nat) (left : Lit → Bool) (cnt : Nat) (H P : Its), a' = { tmps := List.toArray ((.pointer (some ⟨g, 0, none⟩)) :: (.pointer (some ⟨n0, 0, none⟩)) :: (.pointer (some ⟨n0 + 1, 0, none⟩)) :: (.pointer (some ⟨n0 + 4, 0, none⟩)) :: (.pointer (some ⟨n0 + 5, 0, none⟩)) :: (undef) :: u6 :: u7 :: u8 :: u9 :: u10 :: (undef) :: (undef) :: (.pointer (some ⟨g, 0, none⟩)) :: (.bool true) :: (.bool false) :: (.map (some (n0 + 2))) :: (.map (some (n0 + 3))) :: (.pointer (some ⟨g, 0, none⟩)) :: (.pointer (some ⟨g, 0, none⟩)) :: (.pointer (some ⟨g, 1, none⟩)) :: (.map (some m)) :: (.pointer (some ⟨n0 + 6, 0, none⟩)) :: u23 :: u24 :: u25 :: u26 :: u27 :: u28 :: u29 :: u30 :: u31 :: u32 :: u33 :: u34 :: u35 :: u36 :: u37 :: u38 :: u39 :: u40 :: u41 :: u42 :: u43 :: u44 :: u45 :: u46 :: (undef) :: (undef) :: (undef) :: (undef) :: (undef) :: (undef) :: (undef) :: (undef) :: (undef) :: (undef) :: (undef) :: (undef) :: (undef) :: (undef) :: (undef) :: (undef) :: (undef) :: (undef) :: (undef) :: (undef) :: (undef) :: (undef) :: (undef) :: (undef) :: (undef) :: (undef) :: (undef) :: (undef) :: (undef) :: (undef) :: (undef) :: (undef) :: (undef) :: (undef) :: (undef) :: (undef) :: []), defers := Ds.map mkD } ∧ SdL w w' n0 g m nn l Ds left cnt H P) (fun _ w' => w'.rangeLeft m (n0 + 6)) ⟨_, _, _, _, _, _, _, _, _, _, _, _, _, _, _, _, _, _, _, _, _, _, _, _, _, _, _, _, _, [], _, _, [], [], rfl, HL3.out⟩ ?_
  rintro _ wr ⟨u6, u7, u8, u9, u10, u23, u24, u25, u26, u27, u28, u29, u30, u31, u32, u33, u34, u35, u36, u37, u38, u39, u40, u41, u42, u43, u44, u45, u46, Ds, left, cnt, H, P, rfl, hL⟩
  have HL := Lib.hid hL
  have hrg := hL.rg
  clear hL HL3
  obtain ⟨wo, rfl⟩ : ∃ wo : World, wo = wr := ⟨_, rfl⟩
  gi_wp2_with (gi_at_next; refine wpListIn_next_ranges _ rfl _ rfl 3 kHI.keyed heldR (Value.int .i64) (id : Value → Value) (fun key kl hk => by obtain ⟨x, _, e, _⟩ := kHI.back hk; exact ⟨x, e⟩) (fun v _ _ => ⟨v, rfl⟩) m (n0 + 6) nn _ _ _ rfl hrg ?_ ?_)
  · intro _ hl0
    have hsnd := sound_of (A := A) HL.out.hw HL.out.pw hl0
    rw [HR.out] at hsnd
    have HSND := Lib.hid hsnd
    have hsd := HL.out.sd
    have hDS : Hid (Ds.Nodup ∧ ∀ D ∈ Ds, n0 + 7 ≤ D ∧ D < wo.heap.size ∧ wo.heap[D]? = some (.deferred (some []))) := Lib.hid ⟨HL.out.nd, fun D hD => by
      obtain ⟨h1, h2⟩ := HL.out.ds D hD
      exact ⟨h1, (Array.getElem?_eq_some_iff.1 h2).1, h2⟩⟩
    have hszo := HL.out.sz
    have HSD := Lib.hid hsd
    have b0 := cell_obj hsd.bs 0 (.pointer (some ⟨g, 0, none⟩)) rfl
    obtain ⟨g2, g3⟩ := hgc.out _ hsd.fr
    have hstk := fun W (hf : Fr (fun b => n0 ≤ b) w W) => (HSB.out.keep hf (fun b hb e => by have := HSB.out.lt b hb; omega)).stk
    have HSTK := Lib.hid hstk
    have hA1000 : A.length ≤ 1000 := by have := HK.out.stk.len; omega
    have hokA : Hid (∀ r ∈ A, okS r.1) := Lib.hid (fun r hr => by
      have h2 := HK.out.stk.good r hr
      unfold goodB at h2
      simp only [Bool.and_eq_true, decide_eq_true_eq] at h2
      unfold okS maxLen; omega)
    have hndA : Hid ((A.map (·.1)).Nodup) := Lib.hid (riseS_nd HK.out.stk.rise)
    have HHL : Hid (H.length ≤ 4096 ∧ P.length ≤ 4096) := Lib.hid (by
      have hlen := HK.out.len
      rw [mapE_len] at hlen
      exact ⟨HL.out.hw.bound hlen, HL.out.pw.bound hlen⟩)
    clear hl0 hsnd hrg hsd hstk HL
    gi_wp2_with (gi_at_call 59; refine (callsIn_wide.2 (sGoods (some ⟨gs, 0, none⟩) _)).mono ?_; rintro e w5 ⟨rfl, rfl⟩)
    obtain ⟨W5, hW5⟩ : ∃ W5, wo.alloc (.cells #[.pointer (some ⟨gs, 0, none⟩)] 41) = W5 := ⟨_, rfl⟩
    (try rw [hW5])
    have hF5 : Fr (fun _ => False) wo W5 := by rw [← hW5]; exact (Fr.refl _ _).alloc _
    have hB1 : Boxed W5 wo.heap.size 41 (.pointer (some ⟨gs, 0, none⟩)) := by rw [← hW5]; exact heap_at rfl _
    have hz5 : W5.heap.size = wo.heap.size + 1 := by rw [← hW5]; simp
    have hsd5 := HSD.out.keep hF5
    have hSA5 := HSTK.out W5 hsd5.fr
    have HSD5 := Lib.hid hsd5
    have HDS5 : Hid (∀ D ∈ Ds, n0 + 7 ≤ D ∧ D < wo.heap.size ∧ W5.heap[D]? = some (.deferred (some []))) := Lib.hid (fun D hD => ⟨(hDS.out.2 D hD).1, (hDS.out.2 D hD).2.1, hF5.at_ (hDS.out.2 D hD).2.2 (fun e => e)⟩)
    have hT0 : ∀ b, T0 b → b < n0 := fun b hb => by have := HSB.out.lt b (.inr (.inr (.inl hb))); omega
    clear hW5 hF5 hsd5 b0 g2 g3
    obtain ⟨ks, hks⟩ : ∃ ks, A.map (·.1) = ks := ⟨_, rfl⟩
    have hG1 := sGoods1 (fun b => b = n0 + 1 ∨ b = n0 + 2 ∨ b = n0 + 3) W5 wo.heap.size gs T0 A hB1 hSA5 hA1000 (by omega) (fun b hb e => by have := hT0 b hb; omega)
    rw [hks] at hG1
    have HKS := Lib.hid hks
    clear hB1 hSA5 hA1000 hT0 hks
    refine rangeX (w0 := W5) (X := ks) (S := fun b => b = n0 + 1 ∨ b = n0 + 2 ∨ b = n0 + 3) rfl (enters_of Tryz.func92 (by kernel_rfl) rfl)
      hG1 (Below.refl _ _) (fun b hb => by omega) (fun _ => rfl)
      (fun k _ W => SdI w W n0 g (delAll H (ks.take k)) (delAll P (ks.take k)) ∧ ∀ i r, i < k → A[i]? = some r → r.2.held = (getS H r.1).getD 0 ∧ r.2.picked = (getS P r.1).getD 0) (fun c _ _ W => c = .ret ∧ R = false ∧ W.heap[n0 + 1]? = some (.cells #[.bool false] 4))
      (fun k C W W' hs hf => ⟨⟨Fa.cells hf hs.1.bs, Fa.cells hf hs.1.rs, Fa.cells hf hs.1.vh, Fa.cells hf hs.1.vp, Fa.mp hf hs.1.mh, Fa.mp hf hs.1.mp, hs.1.fr.trans' hf (fun b hb e => by have := e.1; omega)⟩, hs.2⟩) (fun c k C W W' hs hf => ⟨hs.1, hs.2.1, Fa.cells hf hs.2.2⟩)
      ⟨by simpa [delAll] using HSD5.out, fun i r hi => by omega⟩ ?roundG ?doneG ?stopG
    case stopG =>
      rintro D c k C W hD hk ⟨rfl, hRf, hc1⟩ hr hK
      have HDW : Hid (∀ D' ∈ D :: Ds, n0 + 7 ≤ D' ∧ W.heap[D']? = some (.deferred (some []))) := Lib.hid (fun D' hD' => by
        rcases List.mem_cons.1 hD' with rfl | hD'
        · exact ⟨by omega, hK⟩
        · have h1 := HDS5.out D' hD'
          exact ⟨h1.1, hr.at_ h1.2.2 (by omega)⟩)
      have HNDW : Hid ((D :: Ds).Nodup) := Lib.hid (List.nodup_cons.2 ⟨fun e => by have := (HDS5.out D e).2.1; omega, hDS.out.1⟩)
      have HC1 := Lib.hid hc1; have HRF := Lib.hid hRf
      have HFW : Hid (Fr (fun b => n0 ≤ b) w W) := Lib.hid (HSD5.out.fr.trans' hr (fun b _ e => by omega))
      clear hr hK hc1 hRf hG1
      gi_wp2_with fail
      refine leaves_marks (D :: Ds) W HNDW.out (fun D' hD' => (HDW.out D' hD').2) (fun W' hf hz => ?_)
      have hc := cell_obj (hf.at_ HC1.out (fun e => by have := (HDW.out _ e).1; omega)) 0 (.bool false) rfl
      refine ⟨.bool false, by simp [results, Tryz.results38, go_sem, hc], by rw [HRF.out], ?_⟩
      exact (HFW.out.trans' hf (fun b hb e => by have := (HDW.out _ e).1; omega)).mono (fun b hb e => by have := HS.out; omega)
    case roundG =>
      rintro lp k s C W hx hlp hi hr
      dsimp only [encS]
      gi_wp2
      refine Took.mk (Fr.refl _ _) hi ?_
      rintro Wb ⟨hQ, hkn⟩ hrb hf hsz hsw hCC _
      obtain ⟨r, hrA, hrs⟩ : ∃ r, A[k]? = some r ∧ r.1 = s := by
        rw [← HKS.out, List.getElem?_map] at hx
        obtain ⟨r, h1, h2⟩ := Option.map_eq_some_iff.1 hx
        exact ⟨r, h1, h2⟩
      have hsk := hokA.out r (List.mem_of_getElem? hrA)
      rw [hrs] at hsk
      have hnot : s ∉ ks.take k := fun e => by
        obtain ⟨i, hi, hie⟩ := List.getElem_of_mem e
        rw [List.length_take] at hi
        rw [List.getElem_take] at hie
        have hkl := (List.getElem?_eq_some_iff.1 hx).1
        have hxe : ks[k] = s := (List.getElem?_eq_some_iff.1 hx).2
        have hnd := hndA.out
        rw [HKS.out] at hnd
        exact List.pairwise_iff_getElem.1 hnd i k (by omega) hkl (by omega) (hie.trans hxe.symm)
      have hg1 : getS (delAll H (ks.take k)) s = getS H s := by rw [getS_delAll, if_neg hnot]
      have hg2 : getS (delAll P (ks.take k)) s = getS P s := by rw [getS_delAll, if_neg hnot]
      have hrow : rowAt A s = r.2 := by
        unfold rowAt
        have := getK_of hndA.out (x := r.1) (v := r.2) (List.mem_of_getElem? hrA)
        rw [← hrs, this]; rfl
      have hbad : Hid (¬ (r.2.held = (getS H s).getD 0 ∧ r.2.picked = (getS P s).getD 0) → R = false) := Lib.hid (fun hn => by
        cases hRb : R with
        | false => rfl
        | true =>
          have := (HSND.out.1 hRb).1 r (List.mem_of_getElem? hrA)
          rw [hrs] at this
          exact absurd this hn)
      have hgood : Hid (r.2.held = (getS H s).getD 0 ∧ r.2.picked = (getS P s).getD 0 → ∀ i r', i < k + 1 → A[i]? = some r' → r'.2.held = (getS H r'.1).getD 0 ∧ r'.2.picked = (getS P r'.1).getD 0) := Lib.hid (fun hn i r' hi h1 => by
        by_cases e : i = k
        · subst e
          rw [hrA] at h1
          cases h1
          rw [hrs]; exact hn
        · exact hkn i r' (by omega) h1)
      have hLv := sLevel Wb gs T0 A s (HSTK.out Wb hQ.fr) hsk
      have hLV2 := fun W (hf : Fr (fun _ => False) Wb W) => sLevel W gs T0 A s (HSTK.out W (hQ.fr.trans' hf (fun _ _ e => e.elim))) hsk
      rw [hrow] at hLv
      obtain ⟨rr, hrr⟩ : ∃ x, r.2 = x := ⟨_, rfl⟩
      rw [hrr] at hLv hbad hgood
      clear hrr
      obtain ⟨f0, f1, f2, f3, f4, f5, f6, f7, f8, f9, f10⟩ := rr
      dsimp only [SR.lev] at hLv hbad hgood
      obtain ⟨uh, huh⟩ : ∃ u, (getS H s).getD 0 = u := ⟨_, rfl⟩
      obtain ⟨up, hup⟩ : ∃ u, (getS P s).getD 0 = u := ⟨_, rfl⟩
      rw [huh, hup] at hbad hgood
      have hlkH : Hid (∀ W, Fr (fun _ => False) Wb W → (Instr.lookup 76 (.map (some (n0 + 2))) (vS s) false).run Tryz.prog W = .ok (.int .i64 uh) W) := Lib.hid (fun W hf => by
        have := lookN (hf.mp hQ.mh (fun e => e)) hsk
        rw [hg1, huh] at this
        exact this)
      have hlkP : Hid (∀ W, Fr (fun _ => False) Wb W → (Instr.lookup 76 (.map (some (n0 + 3))) (vS s) false).run Tryz.prog W = .ok (.int .i64 up) W) := Lib.hid (fun W hf => by
        have := lookN (hf.mp hQ.mp (fun e => e)) hsk
        rw [hg2, hup] at this
        exact this)
      have HQ := Lib.hid hQ; have HLV := Lib.hid hLv; have HSK := Lib.hid hsk
      have hT1 := Lib.hid (delAll_take (H := H) hx); have hT2 := Lib.hid (delAll_take (H := P) hx)
      have b0 := cell_obj hQ.bs 0 (.pointer (some ⟨g, 0, none⟩)) rfl
      obtain ⟨g2, g3⟩ := hgc.out _ hQ.fr
      clear hi hr hrb hf hx hQ hkn hCC hLv hLV2 hg1 hg2 hrow hnot hrA hrs huh hup hsk
      by_cases hc1 : f1 = uh
      · by_cases hc2 : f2 = up
        · have hgd := Lib.hid (hgood.out ⟨hc1, hc2⟩)
          subst hc1 hc2
          gi_wp2_with (gi_at_call 12; refine (callsIn_wide.2 HLV.out).mono ?_; rintro e w4 ⟨rfl, hf4⟩; obtain ⟨W5b, hW5b⟩ : ∃ W5b, w4.alloc (.cells #[.int .i64 f0, .int .i64 f1, .int .i64 f2, .int .i64 f3] 47) = W5b := ⟨_, rfl⟩; have HF5 : Hid (Fr (fun _ => False) Wb W5b) := Lib.hid (by rw [← hW5b]; exact hf4.alloc _); have hb5 : W5b.heap[w4.heap.size]? = some (.cells #[.int .i64 f0, .int .i64 f1, .int .i64 f2, .int .i64 f3] 47) := (by rw [← hW5b]; exact heap_at rfl _); have z1 := cell_obj hb5 1 (.int .i64 f1) rfl; have z2 := cell_obj hb5 2 (.int .i64 f2) rfl; have vh5 := HF5.out.cell (cell_obj HQ.out.vh 0 (.map (some (n0 + 2))) rfl) (fun e => e); have vp5 := HF5.out.cell (cell_obj HQ.out.vp 0 (.map (some (n0 + 3))) rfl) (fun e => e); have r5 := HF5.out.cell (cell_obj HQ.out.rs 0 (.bool false) rfl) (fun e => e); have fr5 := obj_frozen (HF5.out.at_ HQ.out.rs (fun e => e)) 0; have lk5 := hlkH.out _ HF5.out; have lk6 := hlkP.out _ HF5.out; obtain ⟨w6, hd6, hm6, ht6⟩ := (HQ.out.keep HF5.out).mh.drop kSN Tryz.underlying76 HSK.out 0; have hd6' : (Builtin.delete_ #[76, 9] 0 #[.map (some (n0 + 2)), vS s]).run Tryz.prog W5b = .ok (.tuple #[]) w6 := hd6; have hQ6 := (HQ.out.keep HF5.out).putH (Fr.turned (S := fun b => b = n0 + 2) ht6 rfl) hm6; have vp6 := cell_obj hQ6.vp 0 (.map (some (n0 + 3))) rfl; obtain ⟨w7, hd7, hm7, ht7⟩ := hQ6.mp.drop kSN Tryz.underlying76 HSK.out 0; have hd7' : (Builtin.delete_ #[76, 9] 0 #[.map (some (n0 + 3)), vS s]).run Tryz.prog w6 = .ok (.tuple #[]) w7 := hd7; have HQ7 := Lib.hid (hQ6.putP (Fr.turned (S := fun b => b = n0 + 3) ht7 rfl) hm7); have HT67 : Hid (Fr (fun b => b = n0 + 1 ∨ b = n0 + 2 ∨ b = n0 + 3) W5b w7) := Lib.hid ((Fr.turned ht6 (.inr (.inl rfl))).trans (Fr.turned ht7 (.inr (.inr rfl)))); clear hf4 hb5 hQ6 hd6 hd7 hm6 hm7 ht6 ht7)
          refine ⟨((HF5.out.mono (fun _ _ e => e.elim)).trans HT67.out).mono (fun b _ e => .inl e), ?_, hgd.out⟩
          rw [hT1.out, hT2.out]
          exact HQ7.out
        · have hRf := Lib.hid (hbad.out (fun h => hc2 h.2))
          have q2 : (f2 != up) = true := by simpa using hc2
          subst hc1
          gi_wp2_with (gi_at_call 12; refine (callsIn_wide.2 HLV.out).mono ?_; rintro e w4 ⟨rfl, hf4⟩; obtain ⟨W5b, hW5b⟩ : ∃ W5b, w4.alloc (.cells #[.int .i64 f0, .int .i64 f1, .int .i64 f2, .int .i64 f3] 47) = W5b := ⟨_, rfl⟩; have HF5 : Hid (Fr (fun _ => False) Wb W5b) := Lib.hid (by rw [← hW5b]; exact hf4.alloc _); have hb5 : W5b.heap[w4.heap.size]? = some (.cells #[.int .i64 f0, .int .i64 f1, .int .i64 f2, .int .i64 f3] 47) := (by rw [← hW5b]; exact heap_at rfl _); have z1 := cell_obj hb5 1 (.int .i64 f1) rfl; have z2 := cell_obj hb5 2 (.int .i64 f2) rfl; have vh5 := HF5.out.cell (cell_obj HQ.out.vh 0 (.map (some (n0 + 2))) rfl) (fun e => e); have vp5 := HF5.out.cell (cell_obj HQ.out.vp 0 (.map (some (n0 + 3))) rfl) (fun e => e); have r5 := HF5.out.cell (cell_obj HQ.out.rs 0 (.bool false) rfl) (fun e => e); have fr5 := obj_frozen (HF5.out.at_ HQ.out.rs (fun e => e)) 0; have lk5 := hlkH.out _ HF5.out; have lk6 := hlkP.out _ HF5.out; clear hf4 hb5)
          have hF6 : Fr (fun b => b = n0 + 1) Wb (W5b.setCell ⟨n0 + 1, 0, none⟩ (.bool false)) := Fr.setCell (S := fun b => b = n0 + 1) (HF5.out.mono (fun _ _ e => e.elim)) (p := ⟨n0 + 1, 0, none⟩) (fun _ => rfl) _
          exact ⟨hF6.mono (fun b _ e => .inl (.inl e)), rfl, hRf.out, obj_set (HF5.out.at_ HQ.out.rs (fun e => e)) 0 _⟩
      · have hRf := Lib.hid (hbad.out (fun h => hc1 h.1))
        have q1 : (f1 != uh) = true := by simpa using hc1
        gi_wp2_with (gi_at_call 12; refine (callsIn_wide.2 HLV.out).mono ?_; rintro e w4 ⟨rfl, hf4⟩; obtain ⟨W5b, hW5b⟩ : ∃ W5b, w4.alloc (.cells #[.int .i64 f0, .int .i64 f1, .int .i64 f2, .int .i64 f3] 47) = W5b := ⟨_, rfl⟩; have HF5 : Hid (Fr (fun _ => False) Wb W5b) := Lib.hid (by rw [← hW5b]; exact hf4.alloc _); have hb5 : W5b.heap[w4.heap.size]? = some (.cells #[.int .i64 f0, .int .i64 f1, .int .i64 f2, .int .i64 f3] 47) := (by rw [← hW5b]; exact heap_at rfl _); have z1 := cell_obj hb5 1 (.int .i64 f1) rfl; have z2 := cell_obj hb5 2 (.int .i64 f2) rfl; have vh5 := HF5.out.cell (cell_obj HQ.out.vh 0 (.map (some (n0 + 2))) rfl) (fun e => e); have vp5 := HF5.out.cell (cell_obj HQ.out.vp 0 (.map (some (n0 + 3))) rfl) (fun e => e); have r5 := HF5.out.cell (cell_obj HQ.out.rs 0 (.bool false) rfl) (fun e => e); have fr5 := obj_frozen (HF5.out.at_ HQ.out.rs (fun e => e)) 0; have lk5 := hlkH.out _ HF5.out; have lk6 := hlkP.out _ HF5.out; clear hf4 hb5)
        have hF6 : Fr (fun b => b = n0 + 1) Wb (W5b.setCell ⟨n0 + 1, 0, none⟩ (.bool false)) := Fr.setCell (S := fun b => b = n0 + 1) (HF5.out.mono (fun _ _ e => e.elim)) (p := ⟨n0 + 1, 0, none⟩) (fun _ => rfl) _
        exact ⟨hF6.mono (fun b _ e => .inl (.inl e)), rfl, hRf.out, obj_set (HF5.out.at_ HQ.out.rs (fun e => e)) 0 _⟩
    case doneG =>
      rintro D C W hD ⟨hQ, hkn⟩ hr hK
      rw [List.take_length] at hQ
      have HDW : Hid (∀ D' ∈ D :: Ds, n0 + 7 ≤ D' ∧ W.heap[D']? = some (.deferred (some []))) := Lib.hid (fun D' hD' => by
        rcases List.mem_cons.1 hD' with rfl | hD'
        · exact ⟨by omega, hK⟩
        · have h1 := HDS5.out D' hD'
          exact ⟨h1.1, hr.at_ h1.2.2 (by omega)⟩)
      have HNDW : Hid ((D :: Ds).Nodup) := Lib.hid (List.nodup_cons.2 ⟨fun e => by have := (HDS5.out D e).2.1; omega, hDS.out.1⟩)
      have hres : Hid (R = decide ((delAll H ks).length + (delAll P ks).length = 0)) := Lib.hid (by
        have h1 := HSND.out
        rw [HKS.out] at h1
        have h2 : ∀ r ∈ A, r.2.held = (getS H r.1).getD 0 ∧ r.2.picked = (getS P r.1).getD 0 := fun r hr => by
          obtain ⟨i, hi, rfl⟩ := List.getElem_of_mem hr
          have hkl : ks.length = A.length := by rw [← HKS.out, List.length_map]
          exact hkn i _ (by omega) (List.getElem?_eq_getElem hi)
        rw [Bool.eq_iff_iff, h1, decide_eq_true_eq]
        constructor
        · rintro ⟨-, h3, h4⟩; omega
        · intro h3; exact ⟨h2, by omega, by omega⟩)
      have hlnH := fun ty => hQ.mh.len Tryz.underlying76 ty
      have hlnP := fun ty => hQ.mp.len Tryz.underlying76 ty
      have v0 := cell_obj hQ.vh 0 (.map (some (n0 + 2))) rfl
      have v1 := cell_obj hQ.vp 0 (.map (some (n0 + 3))) rfl
      have r0 := cell_obj hQ.rs 0 (.bool false) rfl
      have q0 := obj_frozen hQ.rs 0
      obtain ⟨lh, hlh⟩ : ∃ n, (delAll H ks).length = n := ⟨_, rfl⟩
      obtain ⟨lp, hlp⟩ : ∃ n, (delAll P ks).length = n := ⟨_, rfl⟩
      rw [hlh] at hlnH
      rw [hlp] at hlnP
      rw [hlh, hlp] at hres
      have hb1 : lh ≤ 4096 := by rw [← hlh]; exact Nat.le_trans (delAll_len ks H) HHL.out.1
      have hb2 : lp ≤ 4096 := by rw [← hlp]; exact Nat.le_trans (delAll_len ks P) HHL.out.2
      have hw : IntKind.i64.wrap ((lh : Int) + lp) = (lh : Int) + lp := IntWalk.i64_in _ ⟨by omega, by omega⟩
      have HQ := Lib.hid hQ
      have hdec : Hid (((lh : Int) + lp == 0) = R) := Lib.hid (by
        rw [hres.out, Bool.eq_iff_iff]
        simp
        omega)
      have HFW : Hid (Fr (fun b => n0 ≤ b) w W) := Lib.hid hQ.fr
      clear hr hK hQ hkn hG1 hlh hlp hb1 hb2 hD
      gi_wp2_with fail
      rw [hdec.out]
      have hF6 : Fr (fun b => b = n0 + 1) W (W.setCell ⟨n0 + 1, 0, none⟩ (.bool R)) := (Fr.refl (fun b => b = n0 + 1) W).setCell (p := ⟨n0 + 1, 0, none⟩) (fun _ => rfl) _
      have hc1 : (W.setCell ⟨n0 + 1, 0, none⟩ (.bool R)).heap[n0 + 1]? = some (.cells #[.bool R] 4) := obj_set HQ.out.rs 0 _
      refine leaves_marks (D :: Ds) _ HNDW.out (fun D' hD' => hF6.at_ (HDW.out D' hD').2 (by have := (HDW.out D' hD').1; omega)) (fun W' hf hz => ?_)
      have hc := cell_obj (hf.at_ hc1 (fun e => by have := (HDW.out _ e).1; omega)) 0 (.bool R) rfl
      refine ⟨.bool R, by simp [results, Tryz.results38, go_sem, hc], rfl, ?_⟩
      exact ((HFW.out.trans' hF6 (fun b _ e => by omega)).trans' hf (fun b hb e => by have := (HDW.out _ e).1; omega)).mono (fun b hb e => by have := HS.out; omega)
  · intro x c kl y1 y2 w4 cnt4 hkey hleft hRc hat hrg4 hlt4 hg4 hs4 hen
    have hkl : kl = ktI.lit x ∧ okI x := by
      obtain ⟨x', h1, h2, h3⟩ := kHI.back hkey
      have h2 : Value.int .i64 x = .int .i64 x' := h2
      injection h2 with _ h2
      subst h2
      exact ⟨h3, h1⟩
    obtain ⟨rfl, hxok⟩ := hkl
    have hgx : ∃ v, getS l x = some v ∧ c = HV.enc v := by
      have hy2 : y1 = .held c := (Prod.ext_iff.1 (Option.some.inj hRc)).1.symm
      have h1 := hat (.held (.bool true))
      have h2 := hat (.held (.bool false))
      rw [dat_at kHI, hy2] at h1 h2
      cases e : getS l x with
      | some u => rw [e] at h1; injection h1 with h1; exact ⟨u, rfl, h1.symm⟩
      | none =>
        rw [e] at h1 h2
        injection h1 with h1
        injection h2 with h2
        rw [← h1] at h2
        cases h2
    obtain ⟨v, hgv, rfl⟩ := hgx
    have hvm := getS_mem hgv
    obtain ⟨hvo, hvk⟩ := HSB.out.rows _ hvm
    have hve : HEok x v.e := HK.out.row (x, v.e) (List.mem_map.2 ⟨_, hvm, rfl⟩)
    have hrbne : ¬ (n0 + 6 = m) := by have := hmn.out; omega
    have hsd := HL.out.sd
    have hF4 : Fr (fun b => b = n0 + 6) wo w4 := Fr.grown hg4 (fun r e _ => by cases e; rfl)
    have hsd4 := hsd.fr' hF4 (fun b e => by omega)
    have hlen := HK.out.len
    rw [mapE_len] at hlen
    have hHb : Hid (∀ k p, v.he[k]? = some p → 0 ≤ (getS (addAll H (v.he.take k)) p.1).getD 0 + p.2 ∧ (getS (addAll H (v.he.take k)) p.1).getD 0 + p.2 ≤ 1125899906842624) := Lib.hid (fun k p hp => snd_bound HL.out.hw (fun q hq => (HK.out.row (q.1, q.2.e) (List.mem_map.2 ⟨q, hq, rfl⟩)).he) hlen hve.he hp)
    have hPb : Hid (∀ k p, v.pi[k]? = some p → 0 ≤ (getS (addAll P (v.pi.take k)) p.1).getD 0 + p.2 ∧ (getS (addAll P (v.pi.take k)) p.1).getD 0 + p.2 ≤ 1125899906842624) := Lib.hid (fun k p hp => snd_bound HL.out.pw (fun q hq => (HK.out.row (q.1, q.2.e) (List.mem_map.2 ⟨q, hq, rfl⟩)).pi) hlen hve.pi hp)
    have HBD1 := hHb; have HBD2 := hPb
    have HOKP1 : Hid (∀ p ∈ v.he, okS p.1 ∧ okI p.2) := Lib.hid (fun p hp => il_okm' hvk.lh.1 hp)
    have HOKP2 : Hid (∀ p ∈ v.pi, okS p.1 ∧ okI p.2) := Lib.hid (fun p hp => il_okm' hvk.lp.1 hp)
    have hl16 : v.he.length ≤ 16 ∧ v.pi.length ≤ 16 := ⟨(mayL_iff.1 hve.he).2, (mayL_iff.1 hve.pi).2⟩
    have HOW1 : Hid (v.he ≠ [] → ∀ b, v.vh.ownBlock = some b → b < n0) := Lib.hid (fun hn b hb => by have := HSB.out.ltb b (hvk.lh.2 hn b hb); omega)
    have HOW2 : Hid (v.pi ≠ [] → ∀ b, v.vp.ownBlock = some b → b < n0) := Lib.hid (fun hn b hb => by have := HSB.out.ltb b (hvk.lp.2 hn b hb); omega)
    have HIl1 : Hid (∀ W, Fr (fun b => n0 ≤ b) w W → Il W v.vh v.he) := Lib.hid (fun W hf => hvk.lh.1.keep hf (fun hn b hb e => by have := HOW1.out hn b hb; omega))
    have HIl2 : Hid (∀ W, Fr (fun b => n0 ≤ b) w W → Il W v.vp v.pi) := Lib.hid (fun W hf => hvk.lp.1.keep hf (fun hn b hb e => by have := HOW2.out hn b hb; omega))
    have HHW := Lib.hid (HL.out.hw.step hleft hnd.out hgv hl16.1); have HPW := Lib.hid (HL.out.pw.step hleft hnd.out hgv hl16.2)
    have hsz4 : n0 + 7 ≤ w4.heap.size := by rw [hs4]; exact HL.out.sz
    have HLT4 : Hid (w4.rangeLeft m (n0 + 6) < wo.rangeLeft m (n0 + 6)) := Lib.hid (by rw [hrg4.left_eq, HL.out.rg.left_eq]; exact hlt4)
    have HLH1 : Hid (H.length + v.he.length < 9223372036854775807) := Lib.hid (by have := HL.out.hw.bound hlen; omega)
    have HLH2 : Hid (P.length + v.pi.length < 9223372036854775807) := Lib.hid (by have := HL.out.pw.bound hlen; omega)
    have HDS : Hid (Ds.Nodup ∧ ∀ D ∈ Ds, n0 + 7 ≤ D ∧ D < w4.heap.size ∧ w4.heap[D]? = some (.deferred (some []))) := Lib.hid ⟨HL.out.nd, fun D hD => by
      obtain ⟨h1, h2⟩ := HL.out.ds D hD
      have h3 := (Array.getElem?_eq_some_iff.1 h2).1
      exact ⟨h1, by omega, hF4.at_ h2 (by omega)⟩⟩
    have HRG4 := Lib.hid hrg4
    obtain ⟨a1, d1, e1⟩ := hvk.lh.1.sl
    obtain ⟨a2, d2, e2⟩ := hvk.lp.1.sl
    obtain ⟨a3, d3, e3⟩ := hvk.ls.1.sl
    obtain ⟨xo, vh, vp, vs, he, pi, sh⟩ := v
    dsimp only at e1 e2 e3 hl16 HHW HPW HIl1 HIl2 HOW1 HOW2 HOKP1 HOKP2 HBD1 HBD2 HLH1 HLH2
    subst e1 e2 e3
    obtain ⟨n1, hn1⟩ : ∃ n, he.length = n := ⟨_, rfl⟩
    obtain ⟨n2, hn2⟩ : ∃ n, pi.length = n := ⟨_, rfl⟩
    obtain ⟨n3, hn3⟩ : ∃ n, sh.length = n := ⟨_, rfl⟩
    have HN1 := Lib.hid hn1; have HN2 := Lib.hid hn2
    rw [hn1] at HIl1 HOW1
    rw [hn2] at HIl2 HOW2
    have hen' : (Instr.entry (.pointer (some ⟨n0 + 6, 0, none⟩))).run Tryz.prog w4 = .ok (.tuple #[.int .i64 x, .agg #[.int .i64 xo, .slice a1 n1 d1, .slice a2 n2 d2, .slice a3 n3 d3]]) w4 := by
      rw [← hn1, ← hn2, ← hn3]; exact hen
    have HSD4 := Lib.hid hsd4
    clear hen hn1 hn2 hn3 hvm hvo hvk hve hgv hHb hPb hl16 hsd hF4 hg4 hrg4 hrg hkey hat hRc hleft hlt4 hsd4 hlen hxok hs4
    obtain ⟨hb, hhb⟩ : ∃ b, w4.heap.size = b := ⟨_, rfl⟩
    gi_wp2_with (gi_at_call 69; refine (callsIn_wide.2 (iAll _ _ _ _)).mono ?_; rintro e w5 ⟨rfl, rfl⟩)
    (try rw [World.size_alloc])
    obtain ⟨W5, hW5⟩ : ∃ W5, (w4.alloc (.cells #[.int .i64 xo, .slice a1 n1 d1, .slice a2 n2 d2, .slice a3 n3 d3] 54)).alloc (.cells #[.slice a1 n1 d1] 23) = W5 := ⟨_, rfl⟩
    (try rw [hhb])
    rw [hW5]
    have hF5 : Fr (fun _ => False) w4 W5 := by rw [← hW5]; exact ((Fr.refl _ _).alloc _).alloc _
    have hbx5 : W5.heap[hb]? = some (.cells #[.int .i64 xo, .slice a1 n1 d1, .slice a2 n2 d2, .slice a3 n3 d3] 54) := by rw [← hW5]; exact heap_keep (heap_at hhb.symm _) _
    have hB1 : Boxed W5 (hb + 1) 23 (.slice a1 n1 d1) := by rw [← hW5]; exact heap_at (by simp; omega) _
    have hz5 : W5.heap.size = hb + 2 := by rw [← hW5]; simp; omega
    have hsd5 := HSD4.out.keep hF5
    have hLi1 := HIl1.out W5 hsd5.fr
    have HSZ1 : Hid (n0 + 7 ≤ hb ∧ W5.heap.size = hb + 2) := Lib.hid ⟨by omega, hz5⟩
    have HF5 := Lib.hid hF5; have HBX5 := Lib.hid hbx5; have HSD5 := Lib.hid hsd5; have HHB := Lib.hid hhb
    clear hW5 hF5 hbx5 hz5 hsd5 hhb hsz4
    refine rangeX (w0 := W5) (X := he) (S := fun b => b = n0 + 2) rfl (enters_of Tryz.func101 (by kernel_rfl) rfl)
      (iAll1 _ W5 _ _ he hB1 hLi1 (by have := HSZ1.out; omega) (fun hl b hb e => by have := HOW1.out hl b e; omega)) (Below.refl _ _) (fun b hb => by have := HSZ1.out; omega) (fun _ => rfl)
      (fun k _ W => Mp Tryz.prog W 9 ktS encN (n0 + 2) (addAll H (he.take k))) (fun _ _ _ _ => False)
      (fun k C W W' hs hf => Fa.mp hf hs) (fun c k C W W' hs hf => hs)
      (by simpa [addAll] using HSD5.out.mh) ?round1 ?done1 ?stop1
    case stop1 => intro D c k C W hD hk hX; exact hX.elim
    case round1 =>
      rintro lp k p C W hx hlp hi hr
      dsimp only [encIt]
      gi_wp2
      refine Took.mk (Fr.refl _ _) hi ?_
      rintro Wb hM hrb hf hsz hsw hCC _
      have hkp := HOKP1.out p (List.mem_of_getElem? hx)
      have hbd := HBD1.out k p hx
      have hlk := lookN hM hkp.1
      have hT := Lib.hid (addAll_take (H := H) hx)
      have hlenH : (addAll H (he.take k)).length < 9223372036854775807 := by
        have h1 := addAll_len H (he.take k)
        have h2 := HLH1.out
        rw [List.length_take] at h1
        omega
      have hvb := cell_obj (hrb.at_ HSD5.out.vh (by omega)) 0 (.map (some (n0 + 2))) rfl
      obtain ⟨gd, n⟩ := p
      dsimp only at hkp hbd hlk hT ⊢
      unfold addAt at hT
      dsimp only at hT
      obtain ⟨u, hu⟩ : ∃ u, (getS (addAll H (he.take k)) gd).getD 0 = u := ⟨_, rfl⟩
      rw [hu] at hlk hbd hT
      obtain ⟨w5, hst5, hm5, ht5⟩ := hM.store kSN Tryz.underlying76 hlenH hkp.1 (u + n)
      have hst5' : (Instr.mapUpdate 76 (.map (some (n0 + 2))) (vS gd) (.int .i64 (u + n))).run Tryz.prog Wb = .ok () w5 := hst5
      have hw : IntKind.i64.wrap (u + n) = u + n := IntWalk.i64_in _ ⟨by omega, by omega⟩
      have HM5 := Lib.hid hm5; have HT5 := Lib.hid ht5
      clear hi hr hrb hf hx hM hm5 ht5 hst5 hu hkp hbd hlenH hCC
      gi_wp2_with fail
      refine ⟨(Fr.turned (S := fun b => b = n0 + 2) HT5.out rfl).mono (fun _ _ e => .inl e), ?_⟩
      dsimp only
      rw [hT.out]
      exact HM5.out
    case done1 =>
    rintro D1 C1 W1 hD1 hM1 hr1 hK1
    rw [List.take_length] at hM1
    have hsd6 := HSD5.out.putH hr1 hM1
    have hbx6 := hr1.at_ HBX5.out (by have := HSZ1.out; omega)
    have y2 := cell_obj hbx6 2 (.slice a2 n2 d2) rfl
    have HSD6 := Lib.hid hsd6; have HR1 := Lib.hid hr1; have HK1 := Lib.hid hK1; have HD1 := Lib.hid hD1
    have hD1l := (Array.getElem?_eq_some_iff.1 hK1).1
    clear hM1 hsd6 hbx6 hr1 hK1 hD1 hB1 hLi1
    gi_wp2_with (gi_at_call 69; refine (callsIn_wide.2 (iAll _ _ _ _)).mono ?_; rintro e w7 ⟨rfl, rfl⟩)
    obtain ⟨W7, hW7⟩ : ∃ W7, W1.alloc (.cells #[.slice a2 n2 d2] 23) = W7 := ⟨_, rfl⟩
    (try rw [hW7])
    have hF7 : Fr (fun _ => False) W1 W7 := by rw [← hW7]; exact (Fr.refl _ _).alloc _
    have hB2 : Boxed W7 W1.heap.size 23 (.slice a2 n2 d2) := by rw [← hW7]; exact heap_at rfl _
    have hz7 : W7.heap.size = W1.heap.size + 1 := by rw [← hW7]; simp
    have hsd7 := HSD6.out.keep hF7
    have hLi2 := HIl2.out W7 hsd7.fr
    have hz1 := HR1.out.size
    have HSZ2 : Hid (n0 + 9 ≤ W1.heap.size ∧ W7.heap.size = W1.heap.size + 1) := Lib.hid ⟨by have := HSZ1.out; omega, hz7⟩
    have HF7 := Lib.hid hF7; have HSD7 := Lib.hid hsd7; have HD1L := Lib.hid hD1l
    clear hW7 hF7 hz7 hsd7 hz1 hD1l
    refine rangeX (w0 := W7) (X := pi) (S := fun b => b = n0 + 3) rfl (enters_of Tryz.func101 (by kernel_rfl) rfl)
      (iAll1 _ W7 _ _ pi hB2 hLi2 (by have := HSZ2.out; omega) (fun hl b hb e => by have := HOW2.out hl b e; omega)) (Below.refl _ _) (fun b hb => by have := HSZ2.out; omega) (fun _ => rfl)
      (fun k _ W => Mp Tryz.prog W 9 ktS encN (n0 + 3) (addAll P (pi.take k))) (fun _ _ _ _ => False)
      (fun k C W W' hs hf => Fa.mp hf hs) (fun c k C W W' hs hf => hs)
      (by simpa [addAll] using HSD7.out.mp) ?round2 ?done2 ?stop2
    case stop2 => intro D c k C W hD hk hX; exact hX.elim
    case round2 =>
      rintro lp k p C W hx hlp hi hr
      dsimp only [encIt]
      gi_wp2
      refine Took.mk (Fr.refl _ _) hi ?_
      rintro Wb hM hrb hf hsz hsw hCC _
      have hkp := HOKP2.out p (List.mem_of_getElem? hx)
      have hbd := HBD2.out k p hx
      have hlk := lookN hM hkp.1
      have hT := Lib.hid (addAll_take (H := P) hx)
      have hlenH : (addAll P (pi.take k)).length < 9223372036854775807 := by
        have h1 := addAll_len P (pi.take k)
        have h2 := HLH2.out
        rw [List.length_take] at h1
        omega
      have hvb := cell_obj (hrb.at_ HSD7.out.vp (by omega)) 0 (.map (some (n0 + 3))) rfl
      obtain ⟨gd, n⟩ := p
      dsimp only at hkp hbd hlk hT ⊢
      unfold addAt at hT
      dsimp only at hT
      obtain ⟨u, hu⟩ : ∃ u, (getS (addAll P (pi.take k)) gd).getD 0 = u := ⟨_, rfl⟩
      rw [hu] at hlk hbd hT
      obtain ⟨w5, hst5, hm5, ht5⟩ := hM.store kSN Tryz.underlying76 hlenH hkp.1 (u + n)
      have hst5' : (Instr.mapUpdate 76 (.map (some (n0 + 3))) (vS gd) (.int .i64 (u + n))).run Tryz.prog Wb = .ok () w5 := hst5
      have hw : IntKind.i64.wrap (u + n) = u + n := IntWalk.i64_in _ ⟨by omega, by omega⟩
      have HM5 := Lib.hid hm5; have HT5 := Lib.hid ht5
      clear hi hr hrb hf hx hM hm5 ht5 hst5 hu hkp hbd hlenH hCC
      gi_wp2_with fail
      refine ⟨(Fr.turned (S := fun b => b = n0 + 3) HT5.out rfl).mono (fun _ _ e => .inl e), ?_⟩
      dsimp only
      rw [hT.out]
      exact HM5.out
    case done2 =>
    rintro D2 C2 W2 hD2 hM2 hr2 hK2
    rw [List.take_length] at hM2
    have hsd8 := HSD7.out.putP hr2 hM2
    have hall : Fr (fun b => b = n0 + 2 ∨ b = n0 + 3) w4 W2 := (((HF5.out.mono (fun _ _ e => e.elim)).trans' (HR1.out.mono (fun _ _ e => .inl e)) (fun _ _ e => e)).trans' (HF7.out.mono (S' := fun _ => False) (fun _ _ e => e)) (fun _ _ e => e.elim)).trans' (hr2.mono (fun _ _ e => .inr e)) (fun _ _ e => e)
    have hzz : w4.heap.size ≤ W2.heap.size := hall.size
    have hD2l := (Array.getElem?_eq_some_iff.1 hK2).1
    have hz72 := hr2.size
    have hK1' : W2.heap[D1]? = some (.deferred (some [])) := hr2.at_ (HF7.out.at_ HK1.out (fun e => e)) (by have := HD1.out; have := HSZ1.out; omega)
    have hnew : SdL w W2 n0 g m nn l (D2 :: D1 :: Ds) (fun z => left z && !z.sameKey (ktI.lit x)) cnt4 (addAll H he) (addAll P pi) := by
      have h1 := HSZ1.out; have h2 := HSZ2.out; have h3 := HD1.out; have h4 := HD1L.out; have h5 := HHB.out; have h6 := hmn.out
      refine ⟨hsd8, ranges_fr HRG4.out hall (by omega) (by omega), HHW.out, HPW.out, List.nodup_cons.2 ⟨fun e => ?_, List.nodup_cons.2 ⟨fun e => ?_, HDS.out.1⟩⟩, fun D hD => ?_, by omega⟩
      · rcases List.mem_cons.1 e with e | e
        · omega
        · have := (HDS.out.2 _ e).2.1; omega
      · have := (HDS.out.2 _ e).2.1; omega
      · rcases List.mem_cons.1 hD with rfl | hD
        · exact ⟨by omega, hK2⟩
        · rcases List.mem_cons.1 hD with rfl | hD
          · exact ⟨by omega, hK1'⟩
          · have := HDS.out.2 D hD
            exact ⟨this.1, hall.at_ this.2.2 (by omega)⟩
    have HNEW := Lib.hid hnew
    have HLT : Hid (W2.rangeLeft m (n0 + 6) < wo.rangeLeft m (n0 + 6)) := Lib.hid (by rw [HNEW.out.rg.left_eq, ← HRG4.out.left_eq]; exact HLT4.out)
    clear hsd8 hall hzz hM2 hr2 hK2 hD2 hD2l hz72 hK1' hnew hB2 hLi2
    gi_wp2_with fail
    exact ⟨⟨_, _, _, _, _, _, _, _, _, _, _, _, _, _, _, _, _, _, _, _, _, _, _, _, _, _, _, _, _, D2 :: D1 :: Ds, _, _, _, _, rfl, HNEW.out⟩, HLT.out⟩
end Go.Proofs.YtmflpeklalgibaaGreat

namespace Go.Proofs.YtmflpeklalgibaaGreat
open Go.RowKit Go.Maps
section
variable {w W W' : World} {g : Nat} {TS : Nat → Prop} {A : Stk} {le : Hes}
theorem eSound (h : SHE w g TS A le) (hk : ShOk A le) : Calls Tryz.prog 38 #[.pointer (some ⟨g, 0, none⟩)] w fun e w' => e = .returned (.bool (soundE A le)) ∧ Fr (fun _ => False) w w' := by
  obtain ⟨l, ⟨gs, m, T0, TB, h1, h2⟩, rfl⟩ := h
  exact hSound w g gs m T0 TB A l h1 hk
end
end Go.Proofs.YtmflpeklalgibaaGreat

namespace Go.Proofs.YtmflpeklalgibaaGreat
open Go.RowKit Go.Maps
section
variable {ν : Type}
theorem riseO_ins {n : Int} {v : ν} : ∀ {l : List (Int × ν)}, l.Pairwise (fun p q => p.1 < q.1) → (∀ p ∈ l, p.1 ≠ n) → (insS ktI.lt (n, v) l).Pairwise (fun p q => p.1 < q.1)
  | [], _, _ => by simp [insS]
  | y :: r, h, hx => by
    obtain ⟨h1, h2⟩ := List.pairwise_cons.1 h
    have hy := hx y (by simp)
    show List.Pairwise _ (if ktI.lt n y.1 = true then (n, v) :: y :: r else y :: insS ktI.lt (n, v) r)
    by_cases hlt : n < y.1
    · have e : ktI.lt n y.1 = true := by show decide (n < y.1) = true; simpa using hlt
      rw [if_pos e]
      refine List.pairwise_cons.2 ⟨fun p hp => ?_, h⟩
      rcases List.mem_cons.1 hp with rfl | hp
      · exact hlt
      · have := h1 p hp; show n < p.1; omega
    · have e : ¬ ktI.lt n y.1 = true := by show ¬ decide (n < y.1) = true; simpa using hlt
      rw [if_neg e]
      refine List.pairwise_cons.2 ⟨fun p hp => ?_, riseO_ins h2 (fun p hp => hx p (List.mem_cons_of_mem _ hp))⟩
      rcases List.mem_cons.1 ((insK_perm ktI.lt (n, v) r).mem_iff.1 hp) with rfl | hp
      · show y.1 < n; omega
      · exact h1 p hp
theorem riseO_put {n : Int} {v : ν} {l : List (Int × ν)} (h : l.Pairwise (fun p q => p.1 < q.1)) : (putS ktI.lt l n v).Pairwise (fun p q => p.1 < q.1) :=
  riseO_ins (h.sublist List.filter_sublist) (fun p hp => by simpa [delS] using (List.mem_filter.1 hp).2)
theorem riseO_nd {l : List (Int × ν)} (h : l.Pairwise (fun p q => p.1 < q.1)) : (l.map (·.1)).Nodup := by
  rw [List.Nodup, List.pairwise_map]
  refine List.Pairwise.imp ?_ h
  intro p q e h
  omega
end
theorem HE.empty {x : HE} (h : x.num = 0) : x = ⟨x.o, [], [], []⟩ := by
  obtain ⟨o, a, b, c⟩ := x
  unfold HE.num at h
  dsimp only at h
  rw [List.eq_nil_of_length_eq_zero (show a.length = 0 by omega), List.eq_nil_of_length_eq_zero (show b.length = 0 by omega), List.eq_nil_of_length_eq_zero (show c.length = 0 by omega)]
theorem heOf_set {le : Hes} (h : le.Pairwise (fun p q => p.1 < q.1)) (x : HE) (y : Int) : heOf (setE le x) y = if x.o = y then x else heOf le y := by
  unfold heOf setE
  by_cases hn : x.num = 0
  · rw [if_pos hn, getS_del]
    by_cases e : x.o = y
    · rw [if_pos e, if_pos e, ← e]
      exact (HE.empty hn).symm
    · rw [if_neg e, if_neg e]
  · rw [if_neg hn, getK_put (riseO_nd h)]
    by_cases e : x.o = y
    · rw [if_pos e, if_pos e]; rfl
    · rw [if_neg e, if_neg e]
theorem del_less {le : Hes} {o : Int} (h : (getS le o).isNone = false) : (delS le o).length < le.length := by
  cases e : getS le o with
  | none => rw [e] at h; cases h
  | some x =>
    have hm := getK_mem e
    unfold delS
    refine List.length_filter_lt_length_iff_exists.2 ⟨_, hm, by simp⟩
theorem ShOk.set {A A' : Stk} {le : Hes} {x : HE} (h : ShOk A le) (hA : SOk A') (ho : 1 ≤ x.o ∧ x.o ≤ 1099511627776) (h1 : mayL x.he = true) (h2 : mayL x.pi = true) (h3 : mayL x.sh = true) (hl : (getS le x.o).isNone = true → le.length < 256) : ShOk A' (setE le x) := by
  unfold setE
  by_cases hn : x.num = 0
  · rw [if_pos hn]
    refine ⟨hA, h.rise.sublist List.filter_sublist, fun p hp => h.row p (List.mem_filter.1 hp).1, ?_⟩
    have := List.length_filter_le (fun p : Int × HE => !decide (p.1 = x.o)) le
    have := h.len
    unfold delS
    omega
  · rw [if_neg hn]
    refine ⟨hA, riseO_put h.rise, fun p hp => ?_, ?_⟩
    · rcases mem_putK.1 hp with rfl | ⟨hp, -⟩
      · exact ⟨rfl, ho, h1, h2, h3, hn⟩
      · exact h.row p hp
    · have h4 := h.len
      cases hg : (getS le x.o).isNone with
      | true =>
        have := putK_len ktI.lt le x.o x
        have := hl hg
        omega
      | false =>
        have h5 := del_less hg
        have h6 : (putS ktI.lt le x.o x).length = (delS le x.o).length + 1 := by
          unfold putS
          rw [(insK_perm ktI.lt (x.o, x) _).length_eq, List.length_cons]
        omega
theorem mayO_may {o : Int} (h : ¬ mayO o ≠ 0) : 1 ≤ o ∧ o ≤ 1099511627776 := by
  unfold mayO at h
  split at h
  · rename_i h2; exact h2
  · exact absurd (by decide) h
theorem heOf_o' {A : Stk} {le : Hes} (h : ShOk A le) (o : Int) : (heOf le o).o = o := heOf_o (fun p hp => (h.row p hp).eq.symm)
/-- What a call leaves of what was taken and what was shipped of one good. -/
def HE.of (x : HE) (s : Str) : Int := getI x.he s + getI x.pi s + getI x.sh s
/-- A call's answer is in order, and the shelf behind it; beside the order nothing changes; no more comes than c says. -/
structure StepOk (le : Hes) (o : Int) (R : (Its × Int) × Stk × Hes) : Prop where
  sh : ShOk R.2.1 R.2.2
  out : mayL R.1.1 = true
  same : ∀ y, y ≠ o → heOf R.2.2 y = heOf le y
theorem HE.get0 (x : HE) : x.get 0 = x.he := rfl
theorem HE.get1 (x : HE) : x.get 1 = x.pi := rfl
theorem HE.get2 (x : HE) : x.get 2 = x.sh := rfl
theorem HE.set0 (x : HE) (L : Its) : x.set 0 L = { x with he := L } := rfl
theorem HE.set1 (x : HE) (L : Its) : x.set 1 L = { x with pi := L } := rfl
theorem HE.set2 (x : HE) (L : Its) : x.set 2 L = { x with sh := L } := rfl
theorem StepOk.no {A : Stk} {le : Hes} {o c : Int} (h : ShOk A le) : StepOk le o (([], c), A, le) := ⟨h, rfl, fun y _ => rfl⟩
theorem take_ok {A : Stk} {le : Hes} {o : Int} {L : Its} (h : ShOk A le) : StepOk le o (takeE A le o L) ∧ ∀ s, (heOf (takeE A le o L).2.2 o).of s = (heOf le o).of s + getI (takeE A le o L).1.1 s ∧ (heOf (takeE A le o L).2.2 o).sh = (heOf le o).sh := by
  unfold takeE
  have hz : ∀ c : Int, StepOk le o (([], c), A, le) ∧ ∀ s, (heOf le o).of s = (heOf le o).of s + getI [] s ∧ (heOf le o).sh = (heOf le o).sh := fun c => ⟨StepOk.no h, fun s => ⟨by rw [getI_nil]; omega, rfl⟩⟩
  split
  · exact hz _
  rename_i ho
  split
  · exact hz _
  split
  · exact hz _
  split
  · exact hz _
  split
  · exact hz _
  rename_i hf
  split
  · exact hz _
  rename_i hp
  split
  · exact hz _
  obtain ⟨r, hr⟩ : ∃ r, plusF (heOf le o).he (offerS A L) = (r, 0) := ⟨_, Prod.ext rfl (by simpa using hp)⟩
  obtain ⟨p1, p2, p3, p4⟩ := plusF_ok hr
  rw [hr]
  have hm := heOf_may h.row o
  have hoo := heOf_o' h o
  have hs : ∀ y, heOf (setE le { heOf le o with he := r }) y = if o = y then { heOf le o with he := r } else heOf le y := fun y => by
    rw [heOf_set h.rise]
    show (if (heOf le o).o = y then _ else _) = _
    rw [hoo]
  refine ⟨⟨h.set (doS_ok h.stk) (by show 1 ≤ (heOf le o).o ∧ _; rw [hoo]; exact mayO_may ho) p1 hm.2.1 hm.2.2 (fun e => ?_), p3, fun y hy => ?_⟩, fun s => ?_⟩
  · have e : (getS le (heOf le o).o).isNone = true := e
    rw [hoo] at e
    exact Nat.lt_of_not_le (fun h2 => hf ⟨e, h2⟩)
  · rw [hs, if_neg (fun e => hy e.symm)]
  · rw [hs, if_pos rfl]
    refine ⟨?_, rfl⟩
    show getI r s + getI (heOf le o).pi s + getI (heOf le o).sh s = (getI (heOf le o).he s + getI (heOf le o).pi s + getI (heOf le o).sh s) + getI (offerS A L) s
    rw [p4]; omega
theorem move_cases (A : Stk) (le : Hes) (o k : Int) (i j : Nat) : (∃ c, moveS A le o k i (some j) = (([], c), A, le)) ∨ (¬ mayO o ≠ 0 ∧ (heOf le o).get i ≠ [] ∧ (plusF ((heOf le o).get j) ((heOf le o).get i)).2 = 0 ∧
    moveS A le o k i (some j) = (((heOf le o).get i, 0), (doS A k ((heOf le o).get i)).2, setE le (((heOf le o).set i []).set j (plusF ((heOf le o).get j) ((heOf le o).get i)).1))) := by
  unfold moveS
  split
  · exact .inl ⟨_, rfl⟩
  rename_i h1
  split
  · exact .inl ⟨_, rfl⟩
  rename_i h2
  dsimp only
  split
  · exact .inl ⟨_, rfl⟩
  rename_i h3
  split
  · exact .inl ⟨_, rfl⟩
  exact .inr ⟨h1, h2, by simpa using h3, rfl⟩
theorem move_cases0 (A : Stk) (le : Hes) (o k : Int) (i : Nat) : (∃ c, moveS A le o k i none = (([], c), A, le)) ∨ (¬ mayO o ≠ 0 ∧ (heOf le o).get i ≠ [] ∧
    moveS A le o k i none = (((heOf le o).get i, 0), (doS A k ((heOf le o).get i)).2, setE le ((heOf le o).set i []))) := by
  unfold moveS
  split
  · exact .inl ⟨_, rfl⟩
  rename_i h1
  split
  · exact .inl ⟨_, rfl⟩
  rename_i h2
  dsimp only
  split
  · exact .inl ⟨_, rfl⟩
  exact .inr ⟨h1, h2, rfl⟩
set_option maxRecDepth 10000 in
theorem freeM_ok {A : Stk} {le : Hes} {o : Int} (h : ShOk A le) : StepOk le o (moveS A le o 3 0 none) ∧ ∀ s, (heOf (moveS A le o 3 0 none).2.2 o).of s ≤ (heOf le o).of s ∧ getI (heOf (moveS A le o 3 0 none).2.2 o).sh s = getI (heOf le o).sh s := by
  have hz : ∀ c : Int, StepOk le o (([], c), A, le) ∧ ∀ s, (heOf le o).of s ≤ (heOf le o).of s ∧ getI (heOf le o).sh s = getI (heOf le o).sh s := fun c => ⟨StepOk.no h, fun s => ⟨Int.le_refl _, rfl⟩⟩
  rcases move_cases0 A le o 3 0 with ⟨c, e⟩ | ⟨ho, hne, e⟩
  · rw [e]; exact hz c
  rw [e]
  simp only [HE.get0, HE.get1, HE.get2, HE.set0, HE.set1, HE.set2] at hne ⊢
  have hm := heOf_may h.row o
  have hoo := heOf_o' h o
  have hs : ∀ y, heOf (setE le { heOf le o with he := [] }) y = if o = y then { heOf le o with he := [] } else heOf le y := fun y => by
    rw [heOf_set h.rise]
    show (if (heOf le o).o = y then _ else _) = _
    rw [hoo]
  refine ⟨⟨h.set (doS_ok h.stk) (by show 1 ≤ (heOf le o).o ∧ _; rw [hoo]; exact mayO_may ho) rfl hm.2.1 hm.2.2 (fun e => ?_), hm.1, fun y hy => ?_⟩, fun s => ?_⟩
  · have e : (getS le (heOf le o).o).isNone = true := e
    rw [hoo] at e
    exact absurd (show (heOf le o).he = [] by unfold heOf; cases e2 : getS le o with | none => rfl | some v => rw [e2] at e; cases e) hne
  · show heOf (setE le { heOf le o with he := [] }) y = _
    rw [hs, if_neg (fun e => hy e.symm)]
  · show (heOf (setE le { heOf le o with he := [] }) o).of s ≤ _ ∧ getI (heOf (setE le { heOf le o with he := [] }) o).sh s = _
    rw [hs, if_pos rfl]
    unfold HE.of
    dsimp only
    have n1 := getI_nn s (L := (heOf le o).he) (fun q hq => by have := (mayL_all hm.1).row q hq; omega)
    refine ⟨by rw [getI_nil]; omega, rfl⟩
set_option maxRecDepth 10000 in
theorem pickM_ok {A : Stk} {le : Hes} {o : Int} (h : ShOk A le) : StepOk le o (moveS A le o 4 0 (some 1)) ∧ ∀ s, (heOf (moveS A le o 4 0 (some 1)).2.2 o).of s ≤ (heOf le o).of s ∧ getI (heOf (moveS A le o 4 0 (some 1)).2.2 o).sh s = getI (heOf le o).sh s := by
  have hz : ∀ c : Int, StepOk le o (([], c), A, le) ∧ ∀ s, (heOf le o).of s ≤ (heOf le o).of s ∧ getI (heOf le o).sh s = getI (heOf le o).sh s := fun c => ⟨StepOk.no h, fun s => ⟨Int.le_refl _, rfl⟩⟩
  rcases move_cases A le o 4 0 1 with ⟨c, e⟩ | ⟨ho, hne, hp, e⟩
  · rw [e]; exact hz c
  rw [e]
  simp only [HE.get0, HE.get1, HE.get2, HE.set0, HE.set1, HE.set2] at hne hp ⊢
  obtain ⟨r, hr⟩ : ∃ r, plusF (heOf le o).pi (heOf le o).he = (r, 0) := ⟨_, Prod.ext rfl hp⟩
  obtain ⟨p1, p2, p3, p4⟩ := plusF_ok hr
  rw [hr]
  have hm := heOf_may h.row o
  have hoo := heOf_o' h o
  have hs : ∀ y, heOf (setE le { heOf le o with he := [], pi := r }) y = if o = y then { heOf le o with he := [], pi := r } else heOf le y := fun y => by
    rw [heOf_set h.rise]
    show (if (heOf le o).o = y then _ else _) = _
    rw [hoo]
  refine ⟨⟨h.set (doS_ok h.stk) (by show 1 ≤ (heOf le o).o ∧ _; rw [hoo]; exact mayO_may ho) rfl p1 hm.2.2 (fun e => ?_), hm.1, fun y hy => ?_⟩, fun s => ?_⟩
  · have e : (getS le (heOf le o).o).isNone = true := e
    rw [hoo] at e
    exact absurd (show (heOf le o).he = [] by unfold heOf; cases e2 : getS le o with | none => rfl | some v => rw [e2] at e; cases e) hne
  · show heOf (setE le { heOf le o with he := [], pi := r }) y = _
    rw [hs, if_neg (fun e => hy e.symm)]
  · show (heOf (setE le { heOf le o with he := [], pi := r }) o).of s ≤ _ ∧ getI (heOf (setE le { heOf le o with he := [], pi := r }) o).sh s = _
    rw [hs, if_pos rfl]
    unfold HE.of
    dsimp only
    have n1 := getI_nn s (L := (heOf le o).he) (fun q hq => by have := (mayL_all hm.1).row q hq; omega)
    have p5 := p4 s; rw [getI_nil]; constructor <;> omega
set_option maxRecDepth 10000 in
theorem shipM_ok {A : Stk} {le : Hes} {o : Int} (h : ShOk A le) : StepOk le o (moveS A le o 6 1 (some 2)) ∧ ∀ s, (heOf (moveS A le o 6 1 (some 2)).2.2 o).of s ≤ (heOf le o).of s ∧ getI (heOf (moveS A le o 6 1 (some 2)).2.2 o).sh s = getI (heOf le o).sh s + getI (moveS A le o 6 1 (some 2)).1.1 s := by
  have hz : ∀ c : Int, StepOk le o (([], c), A, le) ∧ ∀ s, (heOf le o).of s ≤ (heOf le o).of s ∧ getI (heOf le o).sh s = getI (heOf le o).sh s + getI [] s := fun c => ⟨StepOk.no h, fun s => ⟨Int.le_refl _, by rw [getI_nil]; omega⟩⟩
  rcases move_cases A le o 6 1 2 with ⟨c, e⟩ | ⟨ho, hne, hp, e⟩
  · rw [e]; exact hz c
  rw [e]
  simp only [HE.get0, HE.get1, HE.get2, HE.set0, HE.set1, HE.set2] at hne hp ⊢
  obtain ⟨r, hr⟩ : ∃ r, plusF (heOf le o).sh (heOf le o).pi = (r, 0) := ⟨_, Prod.ext rfl hp⟩
  obtain ⟨p1, p2, p3, p4⟩ := plusF_ok hr
  rw [hr]
  have hm := heOf_may h.row o
  have hoo := heOf_o' h o
  have hs : ∀ y, heOf (setE le { heOf le o with pi := [], sh := r }) y = if o = y then { heOf le o with pi := [], sh := r } else heOf le y := fun y => by
    rw [heOf_set h.rise]
    show (if (heOf le o).o = y then _ else _) = _
    rw [hoo]
  refine ⟨⟨h.set (doS_ok h.stk) (by show 1 ≤ (heOf le o).o ∧ _; rw [hoo]; exact mayO_may ho) hm.1 rfl p1 (fun e => ?_), hm.2.1, fun y hy => ?_⟩, fun s => ?_⟩
  · have e : (getS le (heOf le o).o).isNone = true := e
    rw [hoo] at e
    exact absurd (show (heOf le o).pi = [] by unfold heOf; cases e2 : getS le o with | none => rfl | some v => rw [e2] at e; cases e) hne
  · show heOf (setE le { heOf le o with pi := [], sh := r }) y = _
    rw [hs, if_neg (fun e => hy e.symm)]
  · show (heOf (setE le { heOf le o with pi := [], sh := r }) o).of s ≤ _ ∧ getI (heOf (setE le { heOf le o with pi := [], sh := r }) o).sh s = _
    rw [hs, if_pos rfl]
    unfold HE.of
    dsimp only
    have n1 := getI_nn s (L := (heOf le o).he) (fun q hq => by have := (mayL_all hm.1).row q hq; omega)
    have p5 := p4 s; rw [getI_nil]; constructor <;> omega
theorem free_ok {A : Stk} {le : Hes} {o : Int} (h : ShOk A le) : StepOk le o (freeE A le o) ∧ ∀ s, (heOf (freeE A le o).2.2 o).of s ≤ (heOf le o).of s ∧ getI (heOf (freeE A le o).2.2 o).sh s = getI (heOf le o).sh s := by
  have hz : ∀ c : Int, StepOk le o (([], c), A, le) ∧ ∀ s, (heOf le o).of s ≤ (heOf le o).of s ∧ getI (heOf le o).sh s = getI (heOf le o).sh s := fun c => ⟨StepOk.no h, fun s => ⟨Int.le_refl _, rfl⟩⟩
  unfold freeE
  split
  · exact hz _
  split
  · exact hz _
  exact freeM_ok h
theorem do_ok {A : Stk} {le : Hes} {k : Int} {L : Its} (h : ShOk A le) : ShOk (doH A k L).2 le := by
  unfold doH
  split
  · exact ⟨doS_ok h.stk, h.rise, h.row, h.len⟩
  · exact h
end Go.Proofs.YtmflpeklalgibaaGreat

namespace Go.Proofs.YtmflpeklalgibaaGreat
open Go.RowKit Go.Maps
/-- A list is put away, or left. -/
def awayS (x : Stk × List Its) (L : Its) : Stk × List Its := if (doH x.1 11 L).1 = 0 then ((doH x.1 11 L).2, x.2) else (x.1, x.2 ++ [L])
def awayF (A : Stk) (S : List Its) : Stk × List Its := S.foldl awayS (A, [])
theorem awayF_snoc (A : Stk) (S : List Its) (L : Its) : awayF A (S ++ [L]) = awayS (awayF A S) L := by unfold awayF; rw [List.foldl_append]; rfl
/-- How many of each good are free. -/
def freeF (A : Stk) : Its := A.map fun p => (p.1, p.2.free)
/-- Is more free than ahead? -/
def moreF (before now : Its) : Bool := now.any fun p => decide ((getS before p.1).getD 0 < p.2)
end Go.Proofs.YtmflpeklalgibaaGreat

namespace Go.Proofs.YtmflpeklalgibaaGreat
open Go.RowKit Go.Maps
/-- A region at r, its parts named: gs, T0 its shelf's, gm, T1 its moves', vS its stuck lists' row. -/
structure RB (W : World) (r gs gm : Nat) (T0 T1 : Nat → Prop) (vS : Value) (me n : Int) (A : Stk) (le : Hes) (ws : List (Int × WE)) (S : List (Value × Its)) : Prop where
  obj : W.heap[r]? = some (.cells #[.int .i64 me, .int .i64 n, .pointer (some ⟨gs, 0, none⟩), .pointer (some ⟨gm, 0, none⟩), vS] 65)
  sh : SHE W gs T0 A le
  ok : ShOk A le
  mv : WS W gm T1 ws
  row : W.ownsRow 0 23 1 vS S.length (S.map (·.1))
  nr : ¬ T0 r ∧ ¬ T1 r ∧ ∀ b, vS.ownBlock = some b → b ≠ r ∧ ¬ T0 b ∧ ¬ T1 b
  nt : ∀ b, T0 b → ¬ T1 b
  st : ∀ p ∈ S, Il W p.1 p.2 ∧ (p.2 ≠ [] → ∀ b, p.1.ownBlock = some b → b < W.heap.size ∧ b ≠ r ∧ ¬ T0 b ∧ ¬ T1 b ∧ vS.ownBlock ≠ some b)
/-- A region's own blocks. -/
def RB.bl (r : Nat) (T0 T1 : Nat → Prop) (vS : Value) (b : Nat) : Prop := b = r ∨ T0 b ∨ T1 b ∨ vS.ownBlock = some b
section
variable {W W' : World} {r gs gm : Nat} {T0 T1 T0' T1' : Nat → Prop} {vS vS' : Value} {me n : Int} {A A' : Stk} {le le' : Hes} {ws ws' : List (Int × WE)} {S S' : List (Value × Its)}
theorem RB.lt (h : RB W r gs gm T0 T1 vS me n A le ws S) : ∀ b, RB.bl r T0 T1 vS b → b < W.heap.size := fun b hb => by
  rcases hb with rfl | hb | hb | hb
  · exact (Array.getElem?_eq_some_iff.1 h.obj).1
  · exact h.sh.lt b hb
  · exact h.mv.lt b hb
  · exact (h.row.lt b hb).2
theorem RB.keep {K : Nat → Prop} (h : RB W r gs gm T0 T1 vS me n A le ws S) (hf : Fr K W W') (hK : ∀ b, RB.bl r T0 T1 vS b → ¬ K b) (hS : ∀ p ∈ S, p.2 ≠ [] → ∀ b, p.1.ownBlock = some b → ¬ K b) : RB W' r gs gm T0 T1 vS me n A le ws S := by
  obtain ⟨h1, h2, h3, h4, h5, h6, h7, h8⟩ := h
  exact ⟨hf.at_ h1 (hK r (.inl rfl)), h2.keep hf (fun b hb => hK b (.inr (.inl hb))), h3, h4.keep hf (fun b hb => hK b (.inr (.inr (.inl hb)))), hf.row h5 (fun b hb => hK b (.inr (.inr (.inr hb)))), h6, h7, fun p hp => ⟨(h8 p hp).1.keep hf (fun hn b hb => hS p hp hn b hb), fun hn b hb => ⟨Nat.lt_of_lt_of_le ((h8 p hp).2 hn b hb).1 hf.size, ((h8 p hp).2 hn b hb).2⟩⟩⟩
theorem RB.keep0 (h : RB W r gs gm T0 T1 vS me n A le ws S) (hf : Fr (fun _ => False) W W') : RB W' r gs gm T0 T1 vS me n A le ws S := h.keep hf (fun _ _ e => e) (fun _ _ _ _ _ e => e)
/-- The shelf has turned. -/
theorem RB.shelf (h : RB W r gs gm T0 T1 vS me n A le ws S) (hs : SHE W' gs T0' A' le') (hk : ShOk A' le') (st : Stp T0 W W' T0') : RB W' r gs gm T0' T1 vS me n A' le' ws S := by
  have hlt := h.lt
  obtain ⟨h1, h2, h3, h4, h5, h6, h7, h8⟩ := h
  have hn : ∀ b, b < W.heap.size → ¬ T0 b → ¬ T0' b := fun b hb h0 e => (st.2 b e).elim h0 (fun e => by omega)
  refine ⟨st.1.at_ h1 h6.1, hs, hk, h4.keep st.1 (fun b hb e => h7 b e hb), st.1.row h5 (fun b hb => (h6.2.2 b hb).2.1), ⟨hn r (hlt r (.inl rfl)) h6.1, h6.2.1, fun b hb => ⟨(h6.2.2 b hb).1, hn b (hlt b (.inr (.inr (.inr hb)))) (h6.2.2 b hb).2.1, (h6.2.2 b hb).2.2⟩⟩, fun b hb e => (st.2 b hb).elim (fun q => h7 b q e) (fun q => by have := hlt b (.inr (.inr (.inl e))); omega), fun p hp => ⟨(h8 p hp).1.keep st.1 (fun he b hb => ((h8 p hp).2 he b hb).2.2.1), fun he b hb => ?_⟩⟩
  obtain ⟨q1, q2, q3, q4⟩ := (h8 p hp).2 he b hb
  exact ⟨Nat.lt_of_lt_of_le q1 st.1.size, q2, hn b q1 q3, q4⟩
/-- The moves have turned. -/
theorem RB.moves (h : RB W r gs gm T0 T1 vS me n A le ws S) (hs : WS W' gm T1' ws') (st : Stp T1 W W' T1') : RB W' r gs gm T0 T1' vS me n A le ws' S := by
  have hlt := h.lt
  obtain ⟨h1, h2, h3, h4, h5, h6, h7, h8⟩ := h
  have hn : ∀ b, b < W.heap.size → ¬ T1 b → ¬ T1' b := fun b hb h0 e => (st.2 b e).elim h0 (fun e => by omega)
  refine ⟨st.1.at_ h1 h6.2.1, h2.keep st.1 (fun b hb e => h7 b hb e), h3, hs, st.1.row h5 (fun b hb => (h6.2.2 b hb).2.2), ⟨h6.1, hn r (hlt r (.inl rfl)) h6.2.1, fun b hb => ⟨(h6.2.2 b hb).1, (h6.2.2 b hb).2.1, hn b (hlt b (.inr (.inr (.inr hb)))) (h6.2.2 b hb).2.2⟩⟩, fun b hb e => (st.2 b e).elim (fun q => h7 b hb q) (fun q => by have := hlt b (.inr (.inl hb)); omega), fun p hp => ⟨(h8 p hp).1.keep st.1 (fun he b hb => ((h8 p hp).2 he b hb).2.2.2.1), fun he b hb => ?_⟩⟩
  obtain ⟨q1, q2, q3, q4, q5⟩ := (h8 p hp).2 he b hb
  exact ⟨Nat.lt_of_lt_of_le q1 st.1.size, q2, q3, hn b q1 q4, q5⟩
/-- The stuck lists are others: their row lies in new memory, or where it lay. -/
theorem RB.stuck {K : Nat → Prop} (h : RB W r gs gm T0 T1 vS me n A le ws S) (hf : Fr K W W') (hK : ∀ b, K b → ¬ (b = r ∨ T0 b ∨ T1 b)) (ho : W'.ownsRow 0 23 1 vS' S'.length (S'.map (·.1))) (hv : ∀ b, vS'.ownBlock = some b → b ≠ r ∧ ¬ T0 b ∧ ¬ T1 b)
    (hs : ∀ p ∈ S', Il W' p.1 p.2 ∧ (p.2 ≠ [] → ∀ b, p.1.ownBlock = some b → b < W'.heap.size ∧ b ≠ r ∧ ¬ T0 b ∧ ¬ T1 b ∧ vS'.ownBlock ≠ some b)) :
    RB (W'.setCell ⟨r, 4, none⟩ vS') r gs gm T0 T1 vS' me n A le ws S' := by
  have hlt := h.lt
  obtain ⟨h1, h2, h3, h4, h5, h6, h7, h8⟩ := h
  have hF : Fr (fun b => b = r) W' (W'.setCell ⟨r, 4, none⟩ vS') := (Fr.refl (fun b => b = r) W').setCell (p := ⟨r, 4, none⟩) (fun _ => rfl) _
  refine ⟨obj_set (hf.at_ h1 (fun e => hK r e (.inl rfl))) 4 vS', (h2.keep hf (fun b hb e => hK b e (.inr (.inl hb)))).keep hF (fun b hb e => h6.1 (e ▸ hb)), h3, (h4.keep hf (fun b hb e => hK b e (.inr (.inr hb)))).keep hF (fun b hb e => h6.2.1 (e ▸ hb)), hF.row ho (fun b hb e => (hv b hb).1 e), ⟨h6.1, h6.2.1, hv⟩, h7, fun p hp => ⟨(hs p hp).1.keep hF (fun hn b hb e => ((hs p hp).2 hn b hb).2.1 e), fun hn b hb => ?_⟩⟩
  obtain ⟨q1, q2⟩ := (hs p hp).2 hn b hb
  exact ⟨Nat.lt_of_lt_of_le q1 hF.size, q2⟩
theorem RB.cells (h : RB W r gs gm T0 T1 vS me n A le ws S) : W.cell? ⟨r, 0, none⟩ = some (.int .i64 me) ∧ W.cell? ⟨r, 1, none⟩ = some (.int .i64 n) ∧ W.cell? ⟨r, 2, none⟩ = some (.pointer (some ⟨gs, 0, none⟩)) ∧ W.cell? ⟨r, 3, none⟩ = some (.pointer (some ⟨gm, 0, none⟩)) ∧ W.cell? ⟨r, 4, none⟩ = some vS :=
  ⟨cell_obj h.obj 0 _ rfl, cell_obj h.obj 1 _ rfl, cell_obj h.obj 2 _ rfl, cell_obj h.obj 3 _ rfl, cell_obj h.obj 4 _ rfl⟩
end
/-- A region as a thing of its own. -/
def RG (W : World) (r : Nat) (TS : Nat → Prop) (me n : Int) (A : Stk) (le : Hes) (ws : List (Int × WE)) (S : List (Value × Its)) : Prop :=
  ∃ gs gm T0 T1 vS, RB W r gs gm T0 T1 vS me n A le ws S ∧ ∀ b, TS b ↔ RB.bl r T0 T1 vS b
end Go.Proofs.YtmflpeklalgibaaGreat

namespace Go.Proofs.YtmflpeklalgibaaGreat
open Go.RowKit
section
variable {w w' : World} {size m : Nat} {A : Option Addr} {xs : List Value} {P : Program}
theorem rd_obj {w : World} {g : Nat} {cs : List Value} {t : TypeId} {size : Nat} (h : w.heap[g]? = some (.cells cs.toArray t)) (hs : cs.length = size) : Rd w size (some ⟨g, 0, none⟩) 1 cs :=
  ⟨by omega, fun _ => ⟨_, rfl, fun j u hu => by
    have : (⟨g, 0, none⟩ : Addr).add j = ⟨g, j, none⟩ := by unfold Addr.add; split <;> simp_all
    rw [this]
    exact cell_obj h j u (by simpa using hu)⟩⟩
end
end Go.Proofs.YtmflpeklalgibaaGreat

namespace Go.Proofs.YtmflpeklalgibaaGreat
open Go.RowKit Go.Maps
def mayRg (me n : Int) : Bool := decide (1 ≤ n) && decide (n ≤ 8) && decide (0 ≤ me) && decide (me < n)
/-- What New answers. -/
structure RNew (w : World) (me n : Int) (e : Ending) (w' : World) : Prop where
  fr : Fr (fun _ => False) w w'
  no : mayRg me n = false → e = .returned (.tuple #[.pointer none, .int .i64 1])
  yes : mayRg me n = true → ∃ r TS, e = .returned (.tuple #[.pointer (some ⟨r, 0, none⟩), .int .i64 0]) ∧ RG w' r TS me n [] [] [] [] ∧ ∀ b, TS b → w.heap.size ≤ b
set_option maxRecDepth 100000 in
set_option maxHeartbeats 4000000 in
theorem gNew (w : World) (me n : Int) : Calls Tryz.prog 5 #[.int .i64 me, .int .i64 n] w (RNew w me n) := by
  by_cases h : mayRg me n = true
  · have hM := Lib.hid h
    unfold mayRg at h
    simp only [Bool.and_eq_true, decide_eq_true_eq] at h
    obtain ⟨⟨⟨h1, h2⟩, h3⟩, h4⟩ := h
    have g1 : ¬ n < 1 := by omega
    have g2 : ¬ (8 : Int) < n := by omega
    have g3 : ¬ me < 0 := by omega
    have g4 : ¬ n ≤ me := by omega
    clear h1 h2 h3 h4
    go_enter Tryz.func5, Tryz.ntmps5
    go_wp2_with (first
      | (go_at_call 17; refine (eNew _).mono ?_; rintro e w1 ⟨gs, T0, rfl, h1, h2, h3⟩; have H1 := Lib.hid h1; have H2 := Lib.hid h2; have H3 := Lib.hid h3; clear h1 h2 h3)
      | (go_at_call 18; refine (vNew _).mono ?_; rintro e w2 ⟨gm, T1, rfl, h1, h2, h3⟩; have M1 := Lib.hid h1; have M2 := Lib.hid h2; have M3 := Lib.hid h3; clear h1 h2 h3))
    go_returns
    have s1 := H3.out.size
    have s2 := M3.out.size
    have l1 := H1.out.lt
    have l2 := M1.out.lt
    have hf : Fr (fun _ => False) w2 (w2.alloc (.cells #[.int .i64 me, .int .i64 n, .pointer (some ⟨gs, 0, none⟩), .pointer (some ⟨gm, 0, none⟩), .slice none 0 0] 65)) := (Fr.refl _ w2).alloc _
    refine ⟨(H3.out.trans M3.out).trans hf, fun e => (by rw [hM.out] at e; cases e), fun _ => ⟨_, _, rfl, ⟨gs, gm, T0, T1, .slice none 0 0, ⟨heap_new _ _, (H1.out.keep M3.out (fun _ _ e => e)).keep hf (fun _ _ e => e), ⟨⟨List.Pairwise.nil, fun p hp => (by cases hp), fun p hp => (by cases hp), (by simp)⟩, List.Pairwise.nil, fun p hp => (by cases hp), by simp⟩, M1.out.keep hf (fun _ _ e => e), World.ownsRow_nil _ _ _ _, ⟨fun e => by have := l1 _ e; omega, fun e => by have := l2 _ e; omega, fun b hb => (by cases hb)⟩, fun b hb e => by have := l1 b hb; have := M2.out b e; omega, fun p hp => (by cases hp)⟩, fun b => Iff.rfl⟩, fun b hb => ?_⟩⟩
    rcases hb with rfl | hb | hb | hb
    · omega
    · exact H2.out b hb
    · have := M2.out b hb; omega
    · cases hb
  · have hM : Hid (mayRg me n = false) := Lib.hid (by simpa using h)
    have hq : n < 1 ∨ (¬ n < 1 ∧ (8 : Int) < n) ∨ (¬ n < 1 ∧ ¬ (8 : Int) < n ∧ me < 0) ∨ (¬ n < 1 ∧ ¬ (8 : Int) < n ∧ ¬ me < 0 ∧ n ≤ me) := by
      have h2 : ¬ (1 ≤ n ∧ n ≤ 8 ∧ 0 ≤ me ∧ me < n) := fun ⟨a, b, c, d⟩ => h (by unfold mayRg; simp [a, b, c, d])
      omega
    clear h
    rcases hq with q | ⟨q, q2⟩ | ⟨q, q2, q3⟩ | ⟨q, q2, q3, q4⟩
    all_goals
      go_enter Tryz.func5, Tryz.ntmps5
      go_wp2_with fail
      go_returns
      exact ⟨Fr.refl _ _, fun _ => rfl, fun e => (by rw [hM.out] at e; cases e)⟩
/-- What is done with the stock for a request. -/
def kindF (k : Int) : Int × Bool := if k = 6 then (1, true) else if k = 5 then (7, true) else if k = 8 then (8, true) else if k = 9 then (9, true) else (0, false)
theorem gKind (w : World) (k : Int) : Calls Tryz.prog 60 #[.int .i64 k] w fun e w' => e = .returned (.tuple #[.int .i64 (kindF k).1, .bool (kindF k).2]) ∧ w = w' := by
  by_cases hk : k = 6 ∨ k = 5 ∨ k = 8 ∨ k = 9
  · rcases hk with rfl | rfl | rfl | rfl
    all_goals
      go_enter Tryz.func60, Tryz.ntmps60
      go_wp2
      go_returns
      exact ⟨rfl, rfl⟩
  · have hz : kindF k = (0, false) := by unfold kindF; rw [if_neg (by omega), if_neg (by omega), if_neg (by omega), if_neg (by omega)]
    rw [hz]
    have b1 : (k == 6) = false := by simp; omega
    have b2 : (k == 5) = false := by simp; omega
    have b3 : (k == 8) = false := by simp; omega
    have b4 : (k == 9) = false := by simp; omega
    clear hk hz
    go_enter Tryz.func60, Tryz.ntmps60
    go_wp2
    go_returns
    exact ⟨rfl, rfl⟩
end Go.Proofs.YtmflpeklalgibaaGreat

namespace Go.Proofs.YtmflpeklalgibaaGreat
open Go Go.RowKit
set_option maxHeartbeats 1000000 in
set_option maxRecDepth 100000 in
theorem slIndexByte (s : ByteArray) (c : Int) (w : World) :
    Calls Tryz.prog 124 #[.string s, .int .u8 c] w fun e w' => e = .returned (.int .i64 (Lib.indexByte s.data.toList c.toNat.toUInt8)) ∧ w' = w := by
  go_enter Tryz.func124, Tryz.ntmps124
  go_wp2
  rw [run_callFunc_extern Tryz.func136 (by kernel_rfl) (by kernel_rfl) (by kernel_rfl) (e := Extern.BytealgIndexByte.indexByte) (by kernel_rfl), Lib.run_indexByteString]
  simp only [Result.andThen]
  rw [Oper.upon_value]
  go_wp2
  go_ret
  exact ⟨rfl, rfl⟩
set_option maxHeartbeats 2000000 in
set_option maxRecDepth 100000 in
theorem slIndex (s : ByteArray) (c : UInt8) (w : World) :
    Calls Tryz.prog 106 #[.string s, .string ⟨#[c]⟩] w fun e w' => e = .returned (.int .i64 (Lib.indexByte s.data.toList c)) ∧ w' = w := by
  go_enter Tryz.func106, Tryz.ntmps106
  go_wp2_with (go_at_call 124; refine (slIndexByte _ _ _).mono ?_; rintro e w' ⟨rfl, rfl⟩)
  · have h : ([c] == s.toList) = true := by assumption
    go_ret
    refine ⟨?_, rfl⟩
    have e : s.data.toList = [c] := by rw [← Lib.toList_data]; exact (beq_iff_eq.1 h).symm
    rw [e]
    simp [Lib.indexByte]
  · go_ret
    exact ⟨rfl, rfl⟩
set_option maxHeartbeats 1000000 in
theorem stIndex (s : ByteArray) (c : UInt8) (w : World) :
    Calls Tryz.prog 76 #[.string s, .string ⟨#[c]⟩] w fun e w' => e = .returned (.int .i64 (Lib.indexByte s.data.toList c)) ∧ w' = w := by
  go_enter Tryz.func76, Tryz.ntmps76
  go_wp2_with (go_at_call 106; refine (slIndex _ _ _).mono ?_; rintro e w' ⟨rfl, rfl⟩)
  go_ret
  exact ⟨rfl, rfl⟩
set_option maxHeartbeats 1000000 in
theorem stContains (s : ByteArray) (c : UInt8) (w : World) :
    Calls Tryz.prog 43 #[.string s, .string ⟨#[c]⟩] w fun e w' => e = .returned (.bool (decide (0 ≤ Lib.indexByte s.data.toList c))) ∧ w' = w := by
  go_enter Tryz.func43, Tryz.ntmps43
  go_wp2_with (go_at_call 76; refine (stIndex _ _ _).mono ?_; rintro e w' ⟨rfl, rfl⟩)
  go_ret
  exact ⟨rfl, rfl⟩
end Go.Proofs.YtmflpeklalgibaaGreat

namespace Go.Proofs.YtmflpeklalgibaaGreat
open Go.RowKit Go.Maps
/-- A kind's fields. -/
def fldF (k : Int) : Str :=
  if k = 1 then [110, 105] else if k = 2 ∨ k = 3 ∨ k = 4 then [111] else if k = 5 then [111, 114, 105] else if k = 6 ∨ k = 8 ∨ k = 9 then [114, 105] else
  if k = 7 then [114, 110, 103] else if k = 10 then [114, 116, 105] else if k = 11 then [110] else []
theorem fldF_no {k : Int} (h : k < 1 ∨ 11 < k) : fldF k = [] := by
  unfold fldF
  rw [if_neg (by omega), if_neg (by omega), if_neg (by omega), if_neg (by omega), if_neg (by omega), if_neg (by omega), if_neg (by omega)]
set_option maxHeartbeats 2000000 in
theorem kHas (w : World) (k : Int) : Calls Tryz.prog 79 #[.int .i64 k] w fun e w' => e = .returned (vS (fldF k)) ∧ w = w' := by
  by_cases hk : 1 ≤ k ∧ k ≤ 11
  · rcases (by omega : k = 1 ∨ k = 2 ∨ k = 3 ∨ k = 4 ∨ k = 5 ∨ k = 6 ∨ k = 7 ∨ k = 8 ∨ k = 9 ∨ k = 10 ∨ k = 11) with rfl | rfl | rfl | rfl | rfl | rfl | rfl | rfl | rfl | rfl | rfl
    all_goals
      clear hk
      go_enter Tryz.func79, Tryz.ntmps79
      go_wp2
      go_ret
      exact ⟨rfl, rfl⟩
  · rw [fldF_no (by omega)]
    have b1 : (k == 1) = false := by simp; omega
    have b2 : (k == 2) = false := by simp; omega
    have b3 : (k == 3) = false := by simp; omega
    have b4 : (k == 4) = false := by simp; omega
    have b5 : (k == 5) = false := by simp; omega
    have b6 : (k == 6) = false := by simp; omega
    have b7 : (k == 7) = false := by simp; omega
    have b8 : (k == 8) = false := by simp; omega
    have b9 : (k == 9) = false := by simp; omega
    have b10 : (k == 10) = false := by simp; omega
    have b11 : (k == 11) = false := by simp; omega
    clear hk
    go_enter Tryz.func79, Tryz.ntmps79
    go_wp2
    go_ret
    exact ⟨rfl, rfl⟩
def wiB (n a b : Int) : Bool := decide (a ≤ n) && decide (n ≤ b)
theorem kWithin (w : World) (n a b : Int) : Calls Tryz.prog 82 #[.int .i64 n, .int .i64 a, .int .i64 b] w fun e w' => e = .returned (.bool (wiB n a b)) ∧ w = w' := by
  unfold wiB
  by_cases h1 : a ≤ n <;> by_cases h2 : n ≤ b
  all_goals
    simp only [h1, h2, decide_true, decide_false, Bool.and_true, Bool.and_false]
    go_enter Tryz.func82, Tryz.ntmps82
    go_wp2
    go_ret
    exact ⟨rfl, rfl⟩
/-- A request. -/
structure AV where
  c : Int
  n : Int
  k : Int
  o : Int
  r : Int
  t : Int
  m : Int
  g : Str
  l : Value
  its : Its
def AV.cs (a : AV) : Array Value := #[.int .i64 a.c, .int .i64 a.n, .int .i64 a.k, .int .i64 a.o, .int .i64 a.r, .int .i64 a.t, .int .i64 a.m, vS a.g, a.l]
/-- May its N be? -/
def mayN (k m : Int) : Bool := if k = 1 then wiB m 0 1 else if k = 7 then mayI m else if k = 11 then wiB m 1 4294967297 else decide (m = 0)
set_option maxRecDepth 100000 in
set_option maxHeartbeats 2000000 in
theorem kMayN (w : World) (a : AV) : Calls Tryz.prog 83 #[.agg a.cs] w fun e w' => e = .returned (.bool (mayN a.k a.m)) ∧ Fr (fun _ => False) w w' := by
  obtain ⟨c, n, k, o, r, t, m, g, l, its⟩ := a
  unfold AV.cs
  dsimp only
  have h1 := Lib.hid (fun W => kWithin W m 0 1)
  have h2 := Lib.hid (fun W => kMay W m)
  have h3 := Lib.hid (fun W => kWithin W m 1 4294967297)
  rcases (by omega : k = 1 ∨ k = 7 ∨ k = 11 ∨ (k ≠ 1 ∧ k ≠ 7 ∧ k ≠ 11)) with rfl | rfl | rfl | ⟨q1, q2, q3⟩
  · have e : Hid (mayN 1 m = wiB m 0 1) := Lib.hid rfl
    go_enter Tryz.func83, Tryz.ntmps83
    go_wp2_with (go_at_call 82; refine (h1.out _).mono ?_; rintro e w1 ⟨rfl, rfl⟩)
    go_ret
    exact ⟨by rw [e.out]; rfl, (Fr.refl _ _).alloc _⟩
  · have e : Hid (mayN 7 m = mayI m) := Lib.hid rfl
    go_enter Tryz.func83, Tryz.ntmps83
    go_wp2_with (go_at_call 78; refine (h2.out _).mono ?_; rintro e w1 ⟨rfl, rfl⟩)
    go_ret
    exact ⟨by rw [e.out]; rfl, (Fr.refl _ _).alloc _⟩
  · have e : Hid (mayN 11 m = wiB m 1 4294967297) := Lib.hid rfl
    go_enter Tryz.func83, Tryz.ntmps83
    go_wp2_with (go_at_call 82; refine (h3.out _).mono ?_; rintro e w1 ⟨rfl, rfl⟩)
    go_ret
    exact ⟨by rw [e.out]; rfl, (Fr.refl _ _).alloc _⟩
  · have e : Hid (mayN k m = decide (m = 0)) := Lib.hid (by unfold mayN; rw [if_neg q1, if_neg q2, if_neg q3])
    have b1 : (k == 1) = false := by simpa using q1
    have b2 : (k == 7) = false := by simpa using q2
    have b3 : (k == 11) = false := by simpa using q3
    clear q1 q2 q3
    go_enter Tryz.func83, Tryz.ntmps83
    go_wp2_with fail
    go_ret
    exact ⟨by rw [e.out]; exact ret_bool (by rw [Bool.eq_iff_iff]; simp), (Fr.refl _ _).alloc _⟩
end Go.Proofs.YtmflpeklalgibaaGreat

namespace Go.Proofs.YtmflpeklalgibaaGreat
open Go.RowKit Go.Maps
theorem indexByte_has (l : Str) (c : UInt8) : decide (0 ≤ Lib.indexByte l c) = l.contains c := by
  induction l with
  | nil => simp [Lib.indexByte]
  | cons x r ih =>
    have hge := Lib.indexByte_ge r c
    rw [Lib.indexByte, List.contains_cons, ← ih]
    by_cases h : x = c
    · subst h; simp
    · have h1 : (x == c) = false := by simpa using h
      have h2 : (c == x) = false := by simpa using (fun e => h e.symm)
      rw [h1, h2, if_neg (by simp), Bool.false_or]
      by_cases h3 : Lib.indexByte r c = -1
      · rw [h3]; rfl
      · have h4 : (Lib.indexByte r c == -1) = false := by simpa using h3
        rw [h4, if_neg (by simp), Bool.eq_iff_iff]
        simp only [decide_eq_true_eq]
        omega
def rightB (s : Str) (c : UInt8) (may emp : Bool) : Bool := if s.contains c then may else emp
theorem kRight (w : World) (B : Nat) (s : Str) (c : UInt8) (may emp : Bool) (hB : w.cell? ⟨B, 0, none⟩ = some (vS s)) :
    Calls Tryz.prog 80 #[.string ⟨#[c]⟩, .bool may, .bool emp, .pointer (some ⟨B, 0, none⟩)] w fun e w' => e = .returned (.bool (rightB s c may emp)) ∧ w = w' := by
  have hC := Lib.hid (fun W => stContains ⟨s.toArray⟩ c W)
  have hd : Hid (decide (0 ≤ Lib.indexByte s c) = s.contains c) := Lib.hid (indexByte_has s c)
  unfold rightB
  by_cases h : s.contains c = true
  · rw [if_pos h]
    have hd' : Hid (decide (0 ≤ Lib.indexByte s c) = true) := Lib.hid (hd.out.trans h)
    go_enter Tryz.func80, Tryz.ntmps80
    go_wp2_with (go_at_call 43; refine (hC.out _).mono ?_; rintro e w1 ⟨rfl, rfl⟩; have hq := hd'.out)
    all_goals first | (go_ret; exact ⟨rfl, rfl⟩) | skip
  · rw [if_neg h]
    have hd' : Hid (decide (0 ≤ Lib.indexByte s c) = false) := Lib.hid (hd.out.trans (by simpa using h))
    go_enter Tryz.func80, Tryz.ntmps80
    go_wp2_with (go_at_call 43; refine (hC.out _).mono ?_; rintro e w1 ⟨rfl, rfl⟩; have hq := hd'.out)
    all_goals first | (go_ret; exact ⟨rfl, rfl⟩) | skip
theorem kIsRegion (w : World) (n : Int) : Calls Tryz.prog 81 #[.int .i64 n] w fun e w' => e = .returned (.bool (wiB n 0 7)) ∧ w = w' := by
  have hC := Lib.hid (fun W => kWithin W n 0 7)
  go_enter Tryz.func81, Tryz.ntmps81
  go_wp2_with (go_at_call 82; refine (hC.out _).mono ?_; rintro e w1 ⟨rfl, rfl⟩)
  go_ret
  exact ⟨rfl, rfl⟩
end Go.Proofs.YtmflpeklalgibaaGreat

namespace Go.Proofs.YtmflpeklalgibaaGreat
open Go.ChangeShapes Go.WideShapes Go.RowKit Go.Maps
section
variable {H : Type} {enc : TypeId × Value → H} {w : World} {base : Nat} {spare : Nat → Bool} {held : Bool}
theorem leaf_str {P : Program} {t : TypeId} {n : Nat} {v : Value} {y : DataW H × List MemPlace} (ht : P.underlying t = some .string) (h : DataW.trod enc P w base spare held n t [v] = some y) : ∃ s : Str, v = vS s ∧ okS s := by
  obtain ⟨s, e, _, hs⟩ := DataW.trod_string ht h
  injection e with e _
  refine ⟨s.data.toList, e, ?_⟩
  unfold okS
  exact hs
set_option maxRecDepth 100000 in
theorem leaf_items {n : Nat} {v : Value} {y : DataW H × List MemPlace} (h : DataW.trod enc Tryz.prog w base spare held n 23 [v] = some y) : ∃ L, Il w v L := by
  obtain ⟨len, hmax, hs⟩ := leaf_slice (d := 1) Tryz.underlying23 (by kernel_rfl) (by kernel_rfl) h
  have hmax : len ≤ 9223372036854775807 := hmax
  rcases hs with ⟨rfl, rfl⟩ | ⟨a, cap, rfl, hl, hb, hi⟩
  · exact ⟨[], by simp, none, 0, rfl, fun i p hp => by simp at hp⟩
  · have key : ∀ i, i < len → ∃ p : Str × Int, okS p.1 ∧ okI p.2 ∧ w.cell? (a.add (i * 2)) = some (vS p.1) ∧ w.cell? ⟨(a.add (i * 2)).block, (a.add (i * 2)).off + 1, none⟩ = some (.int .i64 p.2) := fun i hil => by
      obtain ⟨u, m, y, hc, ht⟩ := hi i hil 0 9 (by kernel_rfl)
      obtain ⟨u', m', y', hc', ht'⟩ := hi i hil 1 3 (by kernel_rfl)
      obtain ⟨s, rfl, hs⟩ := leaf_str Tryz.underlying9 ht
      obtain ⟨x, rfl, hx⟩ := leaf_i64 Tryz.underlying3 ht'
      have e : (leaves Tryz.prog 1 45).length = 2 := by kernel_rfl
      rw [e] at hc hc'
      exact ⟨(s, x), hs, hx, hc, by rw [← add_field]; exact hc'⟩
    obtain ⟨X, hX⟩ := Go.Deep.choose_lt key
    refine ⟨(List.range len).map X, (by rw [List.length_map, List.length_range]; exact hmax), some a, cap, (by rw [List.length_map, List.length_range]), fun i p hp => ?_⟩
    rw [List.getElem?_map] at hp
    obtain ⟨i', hi', rfl⟩ := Option.map_eq_some_iff.1 hp
    obtain ⟨hlt, e⟩ := List.getElem?_eq_some_iff.1 hi'
    rw [List.getElem_range] at e
    subst e
    obtain ⟨x0, x1, x2, x3⟩ := hX i (by simpa using hlt)
    exact ⟨x0, x1, a, rfl, x2, x3⟩
end
end Go.Proofs.YtmflpeklalgibaaGreat

namespace Go.Proofs.YtmflpeklalgibaaGreat
open Go.ChangeShapes Go.WideShapes Go.RowKit Go.Maps
/-- What holds of a request in memory. -/
structure AOk (w : World) (a : AV) : Prop where
  c : okI a.c
  n : okI a.n
  k : okI a.k
  o : okI a.o
  r : okI a.r
  t : okI a.t
  m : okI a.m
  g : okS a.g
  l : Il w a.l a.its
/-- A slice of requests. -/
abbrev Al (w : World) (v : Value) (L : List AV) : Prop := Sq 9 AV.cs AOk w v L
section
variable {H : Type} {enc : TypeId × Value → H} {w : World} {base : Nat} {spare : Nat → Bool} {held : Bool}
end
end Go.Proofs.YtmflpeklalgibaaGreat

namespace Go.Proofs.YtmflpeklalgibaaGreat
open Go.ChangeShapes Go.WideShapes Go.RowKit Go.Maps
/-- An answer. -/
structure YV where
  c : Int
  n : Int
  code : Int
  m : Int
def YV.cs (y : YV) : Array Value := #[.int .i64 y.c, .int .i64 y.n, .int .i64 y.code, .int .i64 y.m]
structure YOk (w : World) (y : YV) : Prop where
  c : okI y.c
  n : okI y.n
  code : okI y.code
  m : okI y.m
/-- A slice of answers. -/
abbrev Yl (w : World) (v : Value) (L : List YV) : Prop := Sq 4 YV.cs YOk w v L
section
variable {H : Type} {enc : TypeId × Value → H} {w : World} {base : Nat} {spare : Nat → Bool} {held : Bool}
end
end Go.Proofs.YtmflpeklalgibaaGreat

namespace Go.Proofs.YtmflpeklalgibaaGreat
open Go.RowKit Go.Maps
/-- A kind's fields. -/
def mfldF (k : Int) : Str :=
  if k = 1 ∨ k = 11 then [97] else if k = 2 ∨ k = 12 then [121] else if k = 3 ∨ k = 4 ∨ k = 8 ∨ k = 10 ∨ k = 13 then [111, 105] else if k = 5 ∨ k = 6 ∨ k = 7 ∨ k = 9 then [111] else []
theorem mfldF_no {k : Int} (h : k < 1 ∨ 13 < k) : mfldF k = [] := by
  unfold mfldF
  rw [if_neg (by omega), if_neg (by omega), if_neg (by omega), if_neg (by omega)]
set_option maxHeartbeats 4000000 in
theorem mHas (w : World) (k : Int) : Calls Tryz.prog 41 #[.int .i64 k] w fun e w' => e = .returned (vS (mfldF k)) ∧ w = w' := by
  by_cases hk : 1 ≤ k ∧ k ≤ 13
  · rcases (by omega : k = 1 ∨ k = 2 ∨ k = 3 ∨ k = 4 ∨ k = 5 ∨ k = 6 ∨ k = 7 ∨ k = 8 ∨ k = 9 ∨ k = 10 ∨ k = 11 ∨ k = 12 ∨ k = 13) with rfl | rfl | rfl | rfl | rfl | rfl | rfl | rfl | rfl | rfl | rfl | rfl | rfl
    all_goals
      clear hk
      go_enter Tryz.func41, Tryz.ntmps41
      go_wp2
      go_ret
      exact ⟨rfl, rfl⟩
  · rw [mfldF_no (by omega)]
    have b1 : (k == 1) = false := by simp; omega
    have b2 : (k == 2) = false := by simp; omega
    have b3 : (k == 3) = false := by simp; omega
    have b4 : (k == 4) = false := by simp; omega
    have b5 : (k == 5) = false := by simp; omega
    have b6 : (k == 6) = false := by simp; omega
    have b7 : (k == 7) = false := by simp; omega
    have b8 : (k == 8) = false := by simp; omega
    have b9 : (k == 9) = false := by simp; omega
    have b10 : (k == 10) = false := by simp; omega
    have b11 : (k == 11) = false := by simp; omega
    have b12 : (k == 12) = false := by simp; omega
    have b13 : (k == 13) = false := by simp; omega
    clear hk
    go_enter Tryz.func41, Tryz.ntmps41
    go_wp2
    go_ret
    exact ⟨rfl, rfl⟩
/-- The kind by which one is answered. -/
def ansF (k : Int) : Int := if k = 1 then 2 else if k = 3 then 4 else if k = 5 then 6 else if k = 7 then 8 else if k = 9 then 10 else if k = 11 then 12 else 0
set_option maxHeartbeats 4000000 in
theorem mAns (w : World) (k : Int) : Calls Tryz.prog 23 #[.int .i64 k] w fun e w' => e = .returned (.int .i64 (ansF k)) ∧ w = w' := by
  by_cases hk : k = 1 ∨ k = 3 ∨ k = 5 ∨ k = 7 ∨ k = 9 ∨ k = 11
  · rcases hk with rfl | rfl | rfl | rfl | rfl | rfl
    all_goals
      go_enter Tryz.func23, Tryz.ntmps23
      go_wp2
      go_ret
      exact ⟨rfl, rfl⟩
  · have hz : ansF k = 0 := by unfold ansF; rw [if_neg (by omega), if_neg (by omega), if_neg (by omega), if_neg (by omega), if_neg (by omega), if_neg (by omega)]
    rw [hz]
    have b1 : (k == 1) = false := by simp; omega
    have b3 : (k == 3) = false := by simp; omega
    have b5 : (k == 5) = false := by simp; omega
    have b7 : (k == 7) = false := by simp; omega
    have b9 : (k == 9) = false := by simp; omega
    have b11 : (k == 11) = false := by simp; omega
    clear hk hz
    go_enter Tryz.func23, Tryz.ntmps23
    go_wp2
    go_ret
    exact ⟨rfl, rfl⟩
def mayY (y : YV) : Bool := decide (0 ≤ y.c) && decide (y.c < 64) && decide (1 ≤ y.n) && decide (y.n ≤ 4294967296) && decide (0 ≤ y.code) && decide (y.code ≤ 1000)
set_option maxHeartbeats 4000000 in
theorem mMayY (w : World) (y : YV) : Calls Tryz.prog 47 #[.agg y.cs] w fun e w' => e = .returned (.bool (mayY y)) ∧ Fr (fun _ => False) w w' := by
  obtain ⟨c, n, code, m⟩ := y
  obtain ⟨B, hB⟩ : ∃ B, mayY ⟨c, n, code, m⟩ = B := ⟨_, rfl⟩
  have HB : Hid (B = (decide (0 ≤ c) && decide (c < 64) && decide (1 ≤ n) && decide (n ≤ 4294967296) && decide (0 ≤ code) && decide (code ≤ 1000))) := Lib.hid hB.symm
  rw [hB]
  unfold YV.cs
  dsimp only
  clear hB
  have hq : (¬ 0 ≤ c) ∨ (0 ≤ c ∧ ¬ c < 64) ∨ (0 ≤ c ∧ c < 64 ∧ ¬ 1 ≤ n) ∨ (0 ≤ c ∧ c < 64 ∧ 1 ≤ n ∧ ¬ n ≤ 4294967296) ∨ (0 ≤ c ∧ c < 64 ∧ 1 ≤ n ∧ n ≤ 4294967296 ∧ ¬ 0 ≤ code) ∨ (0 ≤ c ∧ c < 64 ∧ 1 ≤ n ∧ n ≤ 4294967296 ∧ 0 ≤ code ∧ ¬ code ≤ 1000) ∨ (0 ≤ c ∧ c < 64 ∧ 1 ≤ n ∧ n ≤ 4294967296 ∧ 0 ≤ code ∧ code ≤ 1000) := by omega
  rcases hq with h1 | ⟨h1, h2⟩ | ⟨h1, h2, h3⟩ | ⟨h1, h2, h3, h4⟩ | ⟨h1, h2, h3, h4, h5⟩ | ⟨h1, h2, h3, h4, h5, h6⟩ | ⟨h1, h2, h3, h4, h5, h6⟩
  · have HV : Hid (B = false) := Lib.hid (HB.out.trans (by simp only [h1, decide_true, decide_false, Bool.true_and, Bool.false_and, Bool.and_true, Bool.and_false]))
    go_enter Tryz.func47, Tryz.ntmps47
    go_wp2
    go_ret
    exact ⟨by (rw [HV.out] <;> first | rfl | simp [*]), ((Fr.refl _ w).alloc _)⟩
  · have HV : Hid (B = false) := Lib.hid (HB.out.trans (by simp only [h1, h2, decide_true, decide_false, Bool.true_and, Bool.false_and, Bool.and_true, Bool.and_false]))
    go_enter Tryz.func47, Tryz.ntmps47
    go_wp2
    go_ret
    exact ⟨by (rw [HV.out] <;> first | rfl | simp [*]), ((Fr.refl _ w).alloc _)⟩
  · have HV : Hid (B = false) := Lib.hid (HB.out.trans (by simp only [h1, h2, h3, decide_true, decide_false, Bool.true_and, Bool.false_and, Bool.and_true, Bool.and_false]))
    go_enter Tryz.func47, Tryz.ntmps47
    go_wp2
    go_ret
    exact ⟨by (rw [HV.out] <;> first | rfl | simp [*]), ((Fr.refl _ w).alloc _)⟩
  · have HV : Hid (B = false) := Lib.hid (HB.out.trans (by simp only [h1, h2, h3, h4, decide_true, decide_false, Bool.true_and, Bool.false_and, Bool.and_true, Bool.and_false]))
    go_enter Tryz.func47, Tryz.ntmps47
    go_wp2
    go_ret
    exact ⟨by (rw [HV.out] <;> first | rfl | simp [*]), ((Fr.refl _ w).alloc _)⟩
  · have HV : Hid (B = false) := Lib.hid (HB.out.trans (by simp only [h1, h2, h3, h4, h5, decide_true, decide_false, Bool.true_and, Bool.false_and, Bool.and_true, Bool.and_false]))
    go_enter Tryz.func47, Tryz.ntmps47
    go_wp2
    go_ret
    exact ⟨by (rw [HV.out] <;> first | rfl | simp [*]), ((Fr.refl _ w).alloc _)⟩
  · have HV : Hid (B = false) := Lib.hid (HB.out.trans (by simp only [h1, h2, h3, h4, h5, h6, decide_true, decide_false, Bool.true_and, Bool.false_and, Bool.and_true, Bool.and_false]))
    go_enter Tryz.func47, Tryz.ntmps47
    go_wp2
    go_ret
    exact ⟨by (rw [HV.out] <;> first | rfl | simp [*]), ((Fr.refl _ w).alloc _)⟩
  · have HV : Hid (B = true) := Lib.hid (HB.out.trans (by simp only [h1, h2, h3, h4, h5, h6, decide_true, decide_false, Bool.true_and, Bool.false_and, Bool.and_true, Bool.and_false]))
    go_enter Tryz.func47, Tryz.ntmps47
    go_wp2
    go_ret
    exact ⟨by (rw [HV.out] <;> first | rfl | simp [*]), ((Fr.refl _ w).alloc _)⟩
theorem mRight (w : World) (B : Nat) (s : Str) (c : UInt8) (may emp : Bool) (hB : w.cell? ⟨B, 0, none⟩ = some (vS s)) :
    Calls Tryz.prog 42 #[.string ⟨#[c]⟩, .bool may, .bool emp, .pointer (some ⟨B, 0, none⟩)] w fun e w' => e = .returned (.bool (rightB s c may emp)) ∧ w = w' := by
  have hC := Lib.hid (fun W => stContains ⟨s.toArray⟩ c W)
  have hd : Hid (decide (0 ≤ Lib.indexByte s c) = s.contains c) := Lib.hid (indexByte_has s c)
  unfold rightB
  by_cases h : s.contains c = true
  · rw [if_pos h]
    have hd' : Hid (decide (0 ≤ Lib.indexByte s c) = true) := Lib.hid (hd.out.trans h)
    go_enter Tryz.func42, Tryz.ntmps42
    go_wp2_with (go_at_call 43; refine (hC.out _).mono ?_; rintro e w1 ⟨rfl, rfl⟩; have hq := hd'.out)
    all_goals first | (go_ret; exact ⟨rfl, rfl⟩) | skip
  · rw [if_neg h]
    have hd' : Hid (decide (0 ≤ Lib.indexByte s c) = false) := Lib.hid (hd.out.trans (by simpa using h))
    go_enter Tryz.func42, Tryz.ntmps42
    go_wp2_with (go_at_call 43; refine (hC.out _).mono ?_; rintro e w1 ⟨rfl, rfl⟩; have hq := hd'.out)
    all_goals first | (go_ret; exact ⟨rfl, rfl⟩) | skip
end Go.Proofs.YtmflpeklalgibaaGreat

namespace Go.Proofs.YtmflpeklalgibaaGreat
open Go.RowKit Go.Maps
end Go.Proofs.YtmflpeklalgibaaGreat

namespace Go.Proofs.YtmflpeklalgibaaGreat
open Go.RowKit Go.Maps
theorem neq_item (w : World) (p q : Str × Int) : (binOp .neq 45 (.agg #[vS p.1, .int .i64 p.2]) (.agg #[vS q.1, .int .i64 q.2])).run Tryz.prog w = .ok (.bool (!decide (p = q))) w := by
  obtain ⟨a, m⟩ := p
  obtain ⟨b, n⟩ := q
  simp only [Prod.mk.injEq]
  by_cases h1 : a = b <;> by_cases h2 : m = n <;> simp [go_sem, h1, h2]
/-- An item's cells, at its place. -/
theorem Il.at_ {w : World} {a : Option Addr} {n c k : Nat} {L : Its} {p : Str × Int} (h : Il w (.slice a n c) L) (hp : L[k]? = some p) : ∃ ad, a = some ad ∧ okS p.1 ∧ okI p.2 ∧ w.cell? (ad.add (k * 2)) = some (vS p.1) ∧ w.cell? ⟨(ad.add (k * 2)).block, (ad.add (k * 2)).off + 1, none⟩ = some (.int .i64 p.2) := by
  obtain ⟨_, a', c', e, h1⟩ := h
  injection e with e1 _ _
  obtain ⟨x1, x2, ad, x3, x4, x5⟩ := h1 k p hp
  exact ⟨ad, e1.trans x3, x1, x2, x4, x5⟩
set_option maxRecDepth 100000 in
set_option maxHeartbeats 4000000 in
theorem r6Same (w : World) (u v : Value) (A B : Its) (hA : Il w u A) (hB : Il w v B) : Calls Tryz.prog 19 #[u, v] w fun e w' => e = .returned (.bool (decide (A = B))) ∧ ∃ n, w' = w.drewN n := by
  obtain ⟨G, hG⟩ : ∃ G, decide (A = B) = G := ⟨_, rfl⟩
  rw [hG]
  have HG := Lib.hid hG
  clear hG
  obtain ⟨a, c, rfl⟩ := hA.sl
  obtain ⟨b, d, rfl⟩ := hB.sl
  obtain ⟨n, hn⟩ : ∃ n, A.length = n := ⟨_, rfl⟩
  obtain ⟨m, hm⟩ : ∃ m, B.length = m := ⟨_, rfl⟩
  have hnI : (n : Int) ≤ 9223372036854775807 := by have := hA.1; omega
  have hmI : (m : Int) ≤ 9223372036854775807 := by have := hB.1; omega
  have HA := Lib.hid hA; have HB := Lib.hid hB; have HN := Lib.hid hn; have HM := Lib.hid hm
  rw [hn] at HA ⊢
  rw [hm] at HB ⊢
  clear hA hB hn hm
  by_cases hnm : n = m
  · subst hnm
    go_enter Tryz.func19, Tryz.ntmps19
    go_wp2_with fail
    go_loopw [5] (fun i wr => ∃ k e : Nat, k ≤ n ∧ i = .int .i64 k ∧ wr = w.drewN e ∧ ∀ j, j < k → A[j]? = B[j]?) (fun i _ => n - (intOf i).toNat)
    case atStart => exact ⟨0, 0, Nat.zero_le _, rfl, rfl, fun j hj => by omega⟩
    case round =>
      obtain ⟨k, e, hk, rfl, hwr, hall⟩ := hrel
      have HW := Lib.hid hwr; have HALL := Lib.hid hall
      have hAr : Il wr (.slice a n c) A := by rw [hwr]; exact HA.out.fr ((Fr.refl (fun _ => False) w).drewN e) (fun _ h => h.elim)
      have hBr : Il wr (.slice b n d) B := by rw [hwr]; exact HB.out.fr ((Fr.refl (fun _ => False) w).drewN e) (fun _ h => h.elim)
      clear hwr hall
      by_cases hlt : k < n
      · obtain ⟨p, hp⟩ : ∃ p, A[k]? = some p := ⟨A[k]'(by rw [HN.out]; exact hlt), List.getElem?_eq_getElem _⟩
        obtain ⟨q, hq⟩ : ∃ q, B[k]? = some q := ⟨B[k]'(by rw [HM.out]; exact hlt), List.getElem?_eq_getElem _⟩
        obtain ⟨aa, rfl, -, -, p0, p1⟩ := hAr.at_ hp
        obtain ⟨ba, rfl, -, -, q0, q1⟩ := hBr.at_ hq
        have hneq := fun W => neq_item W p q
        have HP := Lib.hid hp; have HQ := Lib.hid hq
        have hltI : (k : Int) < n := by omega
        clear hp hq hAr hBr
        by_cases hpq : p = q
        · rw [decide_eq_true hpq] at hneq
          have HPQ := Lib.hid hpq
          clear hpq
          go_wp2_with fail
          go_quiet (fail)
          go_wp2_with fail
          go_roundw
          case rel => exact ⟨k + 1, _, by omega, by go_num, (by rw [HW.out, World.drewN_drewN]), fun j hj => by
            by_cases e : j = k
            · rw [e, HP.out, HQ.out, HPQ.out]
            · exact HALL.out j (by omega)⟩
          case measure => simp [intOf]; omega
        · rw [decide_eq_false hpq] at hneq
          have hg : Hid (G = false) := Lib.hid (by
            rw [← HG.out]
            refine decide_eq_false (fun e => hpq ?_)
            have := HP.out
            rw [e, HQ.out] at this
            exact (Option.some.inj this).symm)
          clear hpq
          go_wp2_with fail
          go_quiet (fail)
          go_wp2_with fail
          go_ret
          exact ⟨by rw [hg.out]; rfl, _, by rw [HW.out, World.drewN_drewN]⟩
      · obtain rfl : k = n := by omega
        have hg : Hid (G = true) := Lib.hid (by
          rw [← HG.out]
          refine decide_eq_true (List.ext_getElem? (fun j => ?_))
          by_cases h : j < k
          · exact HALL.out j h
          · rw [List.getElem?_eq_none (by rw [HN.out]; omega), List.getElem?_eq_none (by rw [HM.out]; omega)])
        go_wp2_with fail
        go_ret
        exact ⟨by rw [hg.out]; rfl, _, HW.out⟩
  · have hg : Hid (G = false) := Lib.hid (by
      rw [← HG.out]
      refine decide_eq_false (fun e => hnm ?_)
      rw [← HN.out, ← HM.out, e])
    have hne : ((n : Int) != m) = true := by simp; omega
    go_enter Tryz.func19, Tryz.ntmps19
    go_wp2_with fail
    go_ret
    exact ⟨by rw [hg.out]; rfl, 0, rfl⟩
end Go.Proofs.YtmflpeklalgibaaGreat

namespace Go.Proofs.YtmflpeklalgibaaGreat
open Go.RowKit Go.Maps
set_option maxRecDepth 100000 in
set_option maxHeartbeats 4000000 in
theorem iEqual (w : World) (u v : Value) (A B : Its) (hA : Il w u A) (hB : Il w v B) : Calls Tryz.prog 84 #[u, v] w fun e w' => e = .returned (.bool (decide (A = B))) ∧ ∃ n, w' = w.drewN n := by
  obtain ⟨G, hG⟩ : ∃ G, decide (A = B) = G := ⟨_, rfl⟩
  rw [hG]
  have HG := Lib.hid hG
  clear hG
  obtain ⟨a, c, rfl⟩ := hA.sl
  obtain ⟨b, d, rfl⟩ := hB.sl
  obtain ⟨n, hn⟩ : ∃ n, A.length = n := ⟨_, rfl⟩
  obtain ⟨m, hm⟩ : ∃ m, B.length = m := ⟨_, rfl⟩
  have hnI : (n : Int) ≤ 9223372036854775807 := by have := hA.1; omega
  have hmI : (m : Int) ≤ 9223372036854775807 := by have := hB.1; omega
  have HA := Lib.hid hA; have HB := Lib.hid hB; have HN := Lib.hid hn; have HM := Lib.hid hm
  rw [hn] at HA ⊢
  rw [hm] at HB ⊢
  clear hA hB hn hm
  by_cases hnm : n = m
  · subst hnm
    go_enter Tryz.func84, Tryz.ntmps84
    go_wp2_with fail
    go_loopw [13] (fun i wr => ∃ k e : Nat, k ≤ n ∧ i = .int .i64 k ∧ wr = w.drewN e ∧ ∀ j, j < k → A[j]? = B[j]?) (fun i _ => n - (intOf i).toNat)
    case atStart => exact ⟨0, 0, Nat.zero_le _, rfl, rfl, fun j hj => by omega⟩
    case round =>
      obtain ⟨k, e, hk, rfl, hwr, hall⟩ := hrel
      have HW := Lib.hid hwr; have HALL := Lib.hid hall
      have hAr : Il wr (.slice a n c) A := by rw [hwr]; exact HA.out.fr ((Fr.refl (fun _ => False) w).drewN e) (fun _ h => h.elim)
      have hBr : Il wr (.slice b n d) B := by rw [hwr]; exact HB.out.fr ((Fr.refl (fun _ => False) w).drewN e) (fun _ h => h.elim)
      clear hwr hall
      by_cases hlt : k < n
      · obtain ⟨p, hp⟩ : ∃ p, A[k]? = some p := ⟨A[k]'(by rw [HN.out]; exact hlt), List.getElem?_eq_getElem _⟩
        obtain ⟨q, hq⟩ : ∃ q, B[k]? = some q := ⟨B[k]'(by rw [HM.out]; exact hlt), List.getElem?_eq_getElem _⟩
        obtain ⟨aa, rfl, -, -, p0, p1⟩ := hAr.at_ hp
        obtain ⟨ba, rfl, -, -, q0, q1⟩ := hBr.at_ hq
        have hneq := fun W => neq_item W p q
        have HP := Lib.hid hp; have HQ := Lib.hid hq
        have hltI : (k : Int) < n := by omega
        clear hp hq hAr hBr
        by_cases hpq : p = q
        · rw [decide_eq_true hpq] at hneq
          have HPQ := Lib.hid hpq
          clear hpq
          go_wp2_with fail
          go_quiet (fail)
          go_wp2_with fail
          go_roundw
          case rel => exact ⟨k + 1, _, by omega, by go_num, (by rw [HW.out, World.drewN_drewN]), fun j hj => by
            by_cases e : j = k
            · rw [e, HP.out, HQ.out, HPQ.out]
            · exact HALL.out j (by omega)⟩
          case measure => simp [intOf]; omega
        · rw [decide_eq_false hpq] at hneq
          have hg : Hid (G = false) := Lib.hid (by
            rw [← HG.out]
            refine decide_eq_false (fun e => hpq ?_)
            have := HP.out
            rw [e, HQ.out] at this
            exact (Option.some.inj this).symm)
          clear hpq
          go_wp2_with fail
          go_quiet (fail)
          go_wp2_with fail
          go_ret
          exact ⟨by rw [hg.out]; rfl, _, by rw [HW.out, World.drewN_drewN]⟩
      · obtain rfl : k = n := by omega
        have hg : Hid (G = true) := Lib.hid (by
          rw [← HG.out]
          refine decide_eq_true (List.ext_getElem? (fun j => ?_))
          by_cases h : j < k
          · exact HALL.out j h
          · rw [List.getElem?_eq_none (by rw [HN.out]; omega), List.getElem?_eq_none (by rw [HM.out]; omega)])
        go_wp2_with fail
        go_ret
        exact ⟨by rw [hg.out]; rfl, _, HW.out⟩
  · have hg : Hid (G = false) := Lib.hid (by
      rw [← HG.out]
      refine decide_eq_false (fun e => hnm ?_)
      rw [← HN.out, ← HM.out, e])
    have hne : ((n : Int) != m) = true := by simp; omega
    go_enter Tryz.func84, Tryz.ntmps84
    go_wp2_with fail
    go_ret
    exact ⟨by rw [hg.out]; rfl, 0, rfl⟩
/-- Are two requests the same? -/
def sameA (a b : AV) : Bool := (a.c == b.c) && (a.n == b.n) && (a.k == b.k) && (a.o == b.o) && (a.r == b.r) && (a.t == b.t) && (a.m == b.m) && (a.g == b.g) && decide (a.its = b.its)
set_option maxRecDepth 100000 in
set_option maxHeartbeats 16000000 in
theorem kSame (w : World) (a b : AV) (ha : Il w a.l a.its) (hb : Il w b.l b.its) : Calls Tryz.prog 46 #[.agg a.cs, .agg b.cs] w fun e w' => e = .returned (.bool (sameA a b)) ∧ Fr (fun _ => False) w w' := by
  obtain ⟨G, hG⟩ : ∃ G, sameA a b = G := ⟨_, rfl⟩
  obtain ⟨a0, a1, a2, a3, a4, a5, a6, a7, al, ai⟩ := a
  obtain ⟨b0, b1, b2, b3, b4, b5, b6, b7, bl, bi⟩ := b
  dsimp only at ha hb
  obtain ⟨pa, ca, rfl⟩ := ha.sl
  obtain ⟨pb, cb, rfl⟩ := hb.sl
  have HG : Hid (G = ((a0 == b0) && (a1 == b1) && (a2 == b2) && (a3 == b3) && (a4 == b4) && (a5 == b5) && (a6 == b6) && (a7 == b7) && decide (ai = bi))) := Lib.hid hG.symm
  rw [hG]
  unfold AV.cs
  dsimp only
  obtain ⟨na, hna⟩ : ∃ n, ai.length = n := ⟨_, rfl⟩
  obtain ⟨nb, hnb⟩ : ∃ n, bi.length = n := ⟨_, rfl⟩
  rw [hna] at ha ⊢
  rw [hnb] at hb ⊢
  have HA := Lib.hid ha; have HB := Lib.hid hb
  clear hG ha hb hna hnb
  have HE := Lib.hid (fun W (hf : Fr (fun _ => False) w W) => iEqual W _ _ ai bi (HA.out.fr hf (fun _ e => e.elim)) (HB.out.fr hf (fun _ e => e.elim)))
  have hq : (a0 == b0) = false ∨ ((a0 == b0) = true ∧ (a1 == b1) = false) ∨ ((a0 == b0) = true ∧ (a1 == b1) = true ∧ (a2 == b2) = false) ∨ ((a0 == b0) = true ∧ (a1 == b1) = true ∧ (a2 == b2) = true ∧ (a3 == b3) = false) ∨ ((a0 == b0) = true ∧ (a1 == b1) = true ∧ (a2 == b2) = true ∧ (a3 == b3) = true ∧ (a4 == b4) = false) ∨ ((a0 == b0) = true ∧ (a1 == b1) = true ∧ (a2 == b2) = true ∧ (a3 == b3) = true ∧ (a4 == b4) = true ∧ (a5 == b5) = false) ∨ ((a0 == b0) = true ∧ (a1 == b1) = true ∧ (a2 == b2) = true ∧ (a3 == b3) = true ∧ (a4 == b4) = true ∧ (a5 == b5) = true ∧ (a6 == b6) = false) ∨ ((a0 == b0) = true ∧ (a1 == b1) = true ∧ (a2 == b2) = true ∧ (a3 == b3) = true ∧ (a4 == b4) = true ∧ (a5 == b5) = true ∧ (a6 == b6) = true ∧ (a7 == b7) = false) ∨ ((a0 == b0) = true ∧ (a1 == b1) = true ∧ (a2 == b2) = true ∧ (a3 == b3) = true ∧ (a4 == b4) = true ∧ (a5 == b5) = true ∧ (a6 == b6) = true ∧ (a7 == b7) = true) := by
    cases (a0 == b0) <;> cases (a1 == b1) <;> cases (a2 == b2) <;> cases (a3 == b3) <;> cases (a4 == b4) <;> cases (a5 == b5) <;> cases (a6 == b6) <;> cases (a7 == b7) <;> simp
  have hfr : Fr (fun _ => False) w ((w.alloc (.cells #[.int .i64 a0, .int .i64 a1, .int .i64 a2, .int .i64 a3, .int .i64 a4, .int .i64 a5, .int .i64 a6, vS a7, .slice pa na ca] 32)).alloc (.cells #[.int .i64 b0, .int .i64 b1, .int .i64 b2, .int .i64 b3, .int .i64 b4, .int .i64 b5, .int .i64 b6, vS b7, .slice pb nb cb] 32)) := ((Fr.refl _ w).alloc _).alloc _
  have HF := Lib.hid hfr
  clear hfr
  rcases hq with h0 | ⟨h0, h1⟩ | ⟨h0, h1, h2⟩ | ⟨h0, h1, h2, h3⟩ | ⟨h0, h1, h2, h3, h4⟩ | ⟨h0, h1, h2, h3, h4, h5⟩ | ⟨h0, h1, h2, h3, h4, h5, h6⟩ | ⟨h0, h1, h2, h3, h4, h5, h6, h7⟩ | ⟨h0, h1, h2, h3, h4, h5, h6, h7⟩
  rotate_right
  · obtain ⟨d, hd⟩ : ∃ d, decide (ai = bi) = d := ⟨_, rfl⟩
    have hz : Hid (G = d) := Lib.hid (by rw [HG.out, h0, h1, h2, h3, h4, h5, h6, h7, hd]; simp)
    have HD := Lib.hid hd
    clear hd
    go_enter Tryz.func46, Tryz.ntmps46
    go_wp2_with (go_at_call 84; refine (HE.out _ HF.out).mono ?_; rw [HD.out]; rintro e w2 ⟨rfl, nd, rfl⟩)
    go_ret
    exact ⟨by (rw [hz.out] <;> first | rfl | simp [*]), HF.out.drewN _⟩
  all_goals
    have hz : Hid (G = false) := Lib.hid (by rw [HG.out]; first | simp only [h0, h1, h2, h3, h4, h5, h6, h7, Bool.true_and, Bool.false_and, Bool.and_false] | simp only [h0, h1, h2, h3, h4, h5, h6, Bool.true_and, Bool.false_and, Bool.and_false] | simp only [h0, h1, h2, h3, h4, h5, Bool.true_and, Bool.false_and, Bool.and_false] | simp only [h0, h1, h2, h3, h4, Bool.true_and, Bool.false_and, Bool.and_false] | simp only [h0, h1, h2, h3, Bool.true_and, Bool.false_and, Bool.and_false] | simp only [h0, h1, h2, Bool.true_and, Bool.false_and, Bool.and_false] | simp only [h0, h1, Bool.true_and, Bool.false_and, Bool.and_false] | simp only [h0, Bool.true_and, Bool.false_and, Bool.and_false])
    go_enter Tryz.func46, Tryz.ntmps46
    go_wp2_with fail
    go_ret
    exact ⟨by (rw [hz.out] <;> first | rfl | simp [*]), HF.out⟩
end Go.Proofs.YtmflpeklalgibaaGreat

namespace Go.Proofs.YtmflpeklalgibaaGreat
open Go.RowKit Go.Maps
/-- A request's parts within May. -/
def AV.ro (a : AV) : Bool := rightB (fldF a.k) 111 (wiB a.o 1 1099511627776) (decide (a.o = 0))
def AV.rr (a : AV) : Bool := rightB (fldF a.k) 114 (wiB a.r 0 7) (decide (a.r = 0))
def AV.rt (a : AV) : Bool := rightB (fldF a.k) 116 (wiB a.t 0 7 && decide (a.t ≠ a.r)) (decide (a.t = 0))
def AV.rg (a : AV) : Bool := rightB (fldF a.k) 103 (goodB a.g) (decide (a.g = []))
def AV.ri (a : AV) : Bool := rightB (fldF a.k) 105 (decide (0 < (a.its.length : Int)) && mayL a.its) (decide ((a.its.length : Int) = 0))
def AV.may (a : AV) : Bool := decide (fldF a.k ≠ []) && wiB a.c 0 63 && wiB a.n 1 4294967296 && a.ro && a.rr && a.rt && a.rg && a.ri && mayN a.k a.m
structure AskW (w0 W : World) (a : AV) (F : Str) : Prop where
  bx : W.heap[w0.heap.size]? = some (.cells a.cs 32)
  fb : W.heap[w0.heap.size + 1]? = some (.cells #[vS F] 9)
  il : Il W a.l a.its
  fr : Fr (fun _ => False) w0 W
theorem AskW.keep {w0 W W' : World} {a : AV} {F : Str} (h : AskW w0 W a F) (hf : Fr (fun _ => False) W W') : AskW w0 W' a F :=
  ⟨hf.at_ h.bx (fun h => h), hf.at_ h.fb (fun h => h), h.il.fr hf (fun _ h => h.elim), h.fr.trans hf⟩
attribute [local irreducible] rightB wiB
set_option maxRecDepth 100000 in
set_option maxHeartbeats 8000000 in
theorem kMayA (w : World) (a : AV) (hl : Il w a.l a.its) (hg : okS a.g) : Calls Tryz.prog 45 #[.agg a.cs] w fun e w' => e = .returned (.bool a.may) ∧ Fr (fun _ => False) w w' := by
  obtain ⟨c, n, k, o, r, t, m, g, l, its⟩ := a
  dsimp only at hl hg
  obtain ⟨pp, cc, rfl⟩ := hl.sl
  obtain ⟨F, hF⟩ : ∃ F, fldF k = F := ⟨_, rfl⟩
  obtain ⟨A, hA⟩ : ∃ A : AV, A = ⟨c, n, k, o, r, t, m, g, .slice pp its.length cc, its⟩ := ⟨_, rfl⟩
  obtain ⟨N, hN⟩ : ∃ N : Nat, its.length = N := ⟨_, rfl⟩
  have HM : Hid (A.may = (decide (F ≠ []) && wiB c 0 63 && wiB n 1 4294967296 && rightB F 111 (wiB o 1 1099511627776) (decide (o = 0)) && rightB F 114 (wiB r 0 7) (decide (r = 0)) && rightB F 116 (wiB t 0 7 && decide (t ≠ r)) (decide (t = 0)) && rightB F 103 (goodB g) (decide (g = [])) && rightB F 105 (decide (0 < (N : Int)) && mayL its) (decide ((N : Int) = 0)) && mayN k m)) := Lib.hid (by subst hA; rw [← hF, ← hN]; rfl)
  rw [← hA]
  obtain ⟨B, hB⟩ : ∃ B, A.may = B := ⟨_, rfl⟩
  rw [hB] at HM ⊢
  have hH := Lib.hid (fun W => kHas W k)
  rw [hF] at hH
  obtain ⟨b2, hb2⟩ : ∃ b, wiB c 0 63 = b := ⟨_, rfl⟩
  obtain ⟨b3, hb3⟩ : ∃ b, wiB n 1 4294967296 = b := ⟨_, rfl⟩
  have HB2 := Lib.hid hb2
  have HB3 := Lib.hid hb3
  rw [hb2, hb3] at HM
  have hAW : Hid (AskW w ((w.alloc (.cells #[.int .i64 c, .int .i64 n, .int .i64 k, .int .i64 o, .int .i64 r, .int .i64 t, .int .i64 m, vS g, .slice pp N cc] 32)).alloc (.cells #[vS F] 9)) A F) := by
    have hf : Fr (fun _ => False) w ((w.alloc (.cells A.cs 32)).alloc (.cells #[vS F] 9)) := ((Fr.refl _ w).alloc _).alloc _
    rw [← hN]
    subst hA
    exact Lib.hid ⟨heap_keep (heap_at rfl _) _, heap_at (by simp) _, hl.fr hf (fun _ h => h.elim), hf⟩
  have hcs : A.cs = #[.int .i64 c, .int .i64 n, .int .i64 k, .int .i64 o, .int .i64 r, .int .i64 t, .int .i64 m, vS g, .slice pp N cc] := by subst hA; rw [← hN]; rfl
  have HMN : Hid (∀ W, Calls Tryz.prog 83 #[.agg #[.int .i64 c, .int .i64 n, .int .i64 k, .int .i64 o, .int .i64 r, .int .i64 t, .int .i64 m, vS g, .slice pp N cc]] W fun e w' => e = .returned (.bool (mayN k m)) ∧ Fr (fun _ => False) W w') := Lib.hid (fun W => by have := kMayN W A; rw [hcs] at this; subst hA; exact this)
  have HG := Lib.hid hg
  have HCS := Lib.hid hcs
  rw [hcs]
  have HL : Hid (A.l = .slice pp N cc ∧ A.its = its) := Lib.hid (by subst hA; rw [← hN]; exact ⟨rfl, rfl⟩)
  clear hl hg hF hB hA hcs hN hb2 hb3
  by_cases hF0 : F = []
  · have hBf : Hid (B = false) := Lib.hid (by rw [HM.out]; simp [hF0])
    clear HM
    subst hF0
    have h0 : (([] : Str) == []) = true := rfl
    go_enter Tryz.func45, Tryz.ntmps45
    go_wp2_with (first | (go_at_call 79; refine (hH.out _).mono ?_; rintro e w1 ⟨rfl, rfl⟩) | (go_at_call 82; refine (kWithin _ _ _ _).mono ?_; rintro e w2 ⟨rfl, rfl⟩; first | rw [HB2.out] | rw [HB3.out]))
    go_ret
    exact ⟨by rw [hBf.out]; rfl, hAW.out.fr⟩
  have h0 : (F == []) = false := by simpa using hF0
  cases b2 with
  | false =>
    have hBf : Hid (B = false) := Lib.hid (by rw [HM.out]; simp)
    clear HM
    go_enter Tryz.func45, Tryz.ntmps45
    go_wp2_with (first | (go_at_call 79; refine (hH.out _).mono ?_; rintro e w1 ⟨rfl, rfl⟩) | (go_at_call 82; refine (kWithin _ _ _ _).mono ?_; rintro e w2 ⟨rfl, rfl⟩; first | rw [HB2.out] | rw [HB3.out]))
    go_ret
    exact ⟨by rw [hBf.out]; rfl, hAW.out.fr⟩
  | true =>
  cases b3 with
  | false =>
    have hBf : Hid (B = false) := Lib.hid (by rw [HM.out]; simp)
    clear HM
    go_enter Tryz.func45, Tryz.ntmps45
    go_wp2_with (first | (go_at_call 79; refine (hH.out _).mono ?_; rintro e w1 ⟨rfl, rfl⟩) | (go_at_call 82; refine (kWithin _ _ _ _).mono ?_; rintro e w2 ⟨rfl, rfl⟩; first | rw [HB2.out] | rw [HB3.out]))
    go_ret
    exact ⟨by rw [hBf.out]; rfl, hAW.out.fr⟩
  | true =>
  go_enter Tryz.func45, Tryz.ntmps45
  go_upto_region 6 with (first | (go_at_call 79; refine (hH.out _).mono ?_; rintro e w1 ⟨rfl, rfl⟩) | (go_at_call 82; refine (kWithin _ _ _ _).mono ?_; rintro e w2 ⟨rfl, rfl⟩; first | rw [HB2.out] | rw [HB3.out]))
  have hbx := hAW.out.bx
  rw [HCS.out] at hbx
  have p3 := FrW.cell (cell_obj hbx 3 (.int .i64 o) rfl)
  have p4 := FrW.cell (cell_obj hbx 4 (.int .i64 r) rfl)
  have pF := FrW.cell (cell_obj hAW.out.fb 0 (vS F) rfl)
  have hK := Lib.hid (fun X c a b => kRight (FrW.val X) (w.heap.size + 1) F c a b (pF X))
  cases hro : rightB F 111 (wiB o 1 1099511627776) (decide (o = 0)) with
  | false =>
    have hBf : Hid (B = false) := Lib.hid (by rw [HM.out, hro]; simp)
    have HRO := Lib.hid hro
    have HRR := Lib.hid hro
    clear HM hro
    refine wp_region_fr (by kernel_rfl) (by kernel_rfl) ?_
    repeat (go_big_quiet_step (first | (go_at_call 82; rename_i X; refine (kWithin _ _ _ _).mono ?_; rintro e w2 ⟨rfl, rfl⟩; exact ⟨rfl, X, rfl⟩) | (go_at_call 81; rename_i X; refine (kIsRegion _ _).mono ?_; rintro e w2 ⟨rfl, rfl⟩; exact ⟨rfl, X, rfl⟩) | (go_at_call 80; rename_i X; refine (hK.out X _ _ _).mono ?_; rintro e w2 ⟨rfl, rfl⟩; first | exact ⟨congrArg (fun b => Ending.returned (.bool b)) HRO.out, X, rfl⟩ | exact ⟨congrArg (fun b => Ending.returned (.bool b)) HRR.out, X, rfl⟩)))
    refine wpQuiet_nil ?_
    rintro _ ⟨⟨V, hV⟩, rfl⟩
    go_wp2_with fail
    go_ret
    exact ⟨by rw [hBf.out]; rfl, hAW.out.fr.trans hV⟩
  | true =>
  have HRO := Lib.hid hro
  cases hrr : rightB F 114 (wiB r 0 7) (decide (r = 0)) with
  | false =>
    have hBf : Hid (B = false) := Lib.hid (by rw [HM.out, hrr]; simp)
    have HRR := Lib.hid hrr
    clear HM hro hrr
    refine wp_region_fr (by kernel_rfl) (by kernel_rfl) ?_
    repeat (go_big_quiet_step (first | (go_at_call 82; rename_i X; refine (kWithin _ _ _ _).mono ?_; rintro e w2 ⟨rfl, rfl⟩; exact ⟨rfl, X, rfl⟩) | (go_at_call 81; rename_i X; refine (kIsRegion _ _).mono ?_; rintro e w2 ⟨rfl, rfl⟩; exact ⟨rfl, X, rfl⟩) | (go_at_call 80; rename_i X; refine (hK.out X _ _ _).mono ?_; rintro e w2 ⟨rfl, rfl⟩; first | exact ⟨congrArg (fun b => Ending.returned (.bool b)) HRO.out, X, rfl⟩ | exact ⟨congrArg (fun b => Ending.returned (.bool b)) HRR.out, X, rfl⟩)))
    refine wpQuiet_nil ?_
    rintro _ ⟨⟨V, hV⟩, rfl⟩
    go_wp2_with fail
    go_ret
    exact ⟨by rw [hBf.out]; rfl, hAW.out.fr.trans hV⟩
  | true =>
  have HRR := Lib.hid hrr
  rw [hro, hrr] at HM
  clear hro hrr
  refine wp_region_fr (by kernel_rfl) (by kernel_rfl) ?_
  repeat (go_big_quiet_step (first | (go_at_call 82; rename_i X; refine (kWithin _ _ _ _).mono ?_; rintro e w2 ⟨rfl, rfl⟩; exact ⟨rfl, X, rfl⟩) | (go_at_call 81; rename_i X; refine (kIsRegion _ _).mono ?_; rintro e w2 ⟨rfl, rfl⟩; exact ⟨rfl, X, rfl⟩) | (go_at_call 80; rename_i X; refine (hK.out X _ _ _).mono ?_; rintro e w2 ⟨rfl, rfl⟩; first | exact ⟨congrArg (fun b => Ending.returned (.bool b)) HRO.out, X, rfl⟩ | exact ⟨congrArg (fun b => Ending.returned (.bool b)) HRR.out, X, rfl⟩)))
  refine wpQuiet_nil ?_
  rintro _ ⟨⟨V, hV⟩, rfl⟩
  have hA2 := Lib.hid (hAW.out.keep hV)
  clear p3 p4 pF hK hbx hV
  go_upto_region 8 with (fail)
  have hbx := hA2.out.bx
  rw [HCS.out] at hbx
  have p4 := FrW.cell (cell_obj hbx 4 (.int .i64 r) rfl)
  have p5 := FrW.cell (cell_obj hbx 5 (.int .i64 t) rfl)
  have p7 := FrW.cell (cell_obj hbx 7 (vS g) rfl)
  have pF := FrW.cell (cell_obj hA2.out.fb 0 (vS F) rfl)
  have hK := Lib.hid (fun X c a b => kRight (FrW.val X) (w.heap.size + 1) F c a b (pF X))
  have hGd := Lib.hid (fun W => iGood W g HG.out)
  have hgg : decide (g = []) = (g == []) := by rw [Bool.eq_iff_iff]; simp
  have hne : decide (t ≠ r) = (t != r) := by rw [Bool.eq_iff_iff]; simp
  cases hT : wiB t 0 7 with
  | false =>
    rw [hT] at HM
    have HT := Lib.hid hT
    cases hrt : rightB F 116 false (decide (t = 0)) with
    | false =>
      have hBf : Hid (B = false) := Lib.hid (by rw [HM.out]; simp only [Bool.true_and, Bool.false_and]; rw [hrt]; simp)
      have HRT := Lib.hid hrt
      have HRG := Lib.hid hrt
      clear HM hT hrt
      refine wp_region_fr (by kernel_rfl) (by kernel_rfl) ?_
      repeat (go_big_quiet_step (first | (go_at_call 81; rename_i X; refine (kIsRegion _ _).mono ?_; rintro e w2 ⟨rfl, rfl⟩; exact ⟨congrArg (fun b => Ending.returned (.bool b)) HT.out, X, rfl⟩) | (go_at_call 77; rename_i X; refine (hGd.out _).mono ?_; rintro e w2 ⟨rfl, hF⟩; exact ⟨rfl, ⟨w2, X.fr.trans hF⟩, rfl⟩) | (go_at_call 80; rename_i X; refine (hK.out X _ _ _).mono ?_; rintro e w2 ⟨rfl, rfl⟩; first | exact ⟨congrArg (fun b => Ending.returned (.bool b)) HRT.out, X, rfl⟩ | exact ⟨congrArg (fun b => Ending.returned (.bool b)) HRG.out, X, rfl⟩ | exact ⟨congrArg (fun b => Ending.returned (.bool b)) (Eq.trans (congrArg (rightB F 103 (goodB g)) (by first | rfl | simp | (rw [Bool.eq_iff_iff]; simp))) HRG.out), X, rfl⟩)))
      refine wpQuiet_nil ?_
      rintro _ ⟨⟨V2, hV2⟩, rfl⟩
      go_wp2_with fail
      go_ret
      exact ⟨by rw [hBf.out]; rfl, hA2.out.fr.trans hV2⟩
    | true =>
    have HRT := Lib.hid hrt
    cases hrg : rightB F 103 (goodB g) (g == []) with
    | false =>
      have hBf : Hid (B = false) := Lib.hid (by rw [HM.out, hgg, hrg]; simp)
      have HRG := Lib.hid hrg
      clear HM hT hrt hrg
      refine wp_region_fr (by kernel_rfl) (by kernel_rfl) ?_
      repeat (go_big_quiet_step (first | (go_at_call 81; rename_i X; refine (kIsRegion _ _).mono ?_; rintro e w2 ⟨rfl, rfl⟩; exact ⟨congrArg (fun b => Ending.returned (.bool b)) HT.out, X, rfl⟩) | (go_at_call 77; rename_i X; refine (hGd.out _).mono ?_; rintro e w2 ⟨rfl, hF⟩; exact ⟨rfl, ⟨w2, X.fr.trans hF⟩, rfl⟩) | (go_at_call 80; rename_i X; refine (hK.out X _ _ _).mono ?_; rintro e w2 ⟨rfl, rfl⟩; first | exact ⟨congrArg (fun b => Ending.returned (.bool b)) HRT.out, X, rfl⟩ | exact ⟨congrArg (fun b => Ending.returned (.bool b)) HRG.out, X, rfl⟩ | exact ⟨congrArg (fun b => Ending.returned (.bool b)) (Eq.trans (congrArg (rightB F 103 (goodB g)) (by first | rfl | simp | (rw [Bool.eq_iff_iff]; simp))) HRG.out), X, rfl⟩)))
      refine wpQuiet_nil ?_
      rintro _ ⟨⟨V2, hV2⟩, rfl⟩
      go_wp2_with fail
      go_ret
      exact ⟨by rw [hBf.out]; rfl, hA2.out.fr.trans hV2⟩
    | true =>
    have HRG := Lib.hid hrg
    have HM2 : Hid (B = (rightB F 105 (decide (0 < (N : Int)) && mayL its) (decide ((N : Int) = 0)) && mayN k m)) := Lib.hid (by rw [HM.out, hgg, hrg]; simp only [Bool.true_and, Bool.false_and]; rw [hrt]; simp [hF0])
    clear HM hT hrt hrg
    refine wp_region_fr (by kernel_rfl) (by kernel_rfl) ?_
    repeat (go_big_quiet_step (first | (go_at_call 81; rename_i X; refine (kIsRegion _ _).mono ?_; rintro e w2 ⟨rfl, rfl⟩; exact ⟨congrArg (fun b => Ending.returned (.bool b)) HT.out, X, rfl⟩) | (go_at_call 77; rename_i X; refine (hGd.out _).mono ?_; rintro e w2 ⟨rfl, hF⟩; exact ⟨rfl, ⟨w2, X.fr.trans hF⟩, rfl⟩) | (go_at_call 80; rename_i X; refine (hK.out X _ _ _).mono ?_; rintro e w2 ⟨rfl, rfl⟩; first | exact ⟨congrArg (fun b => Ending.returned (.bool b)) HRT.out, X, rfl⟩ | exact ⟨congrArg (fun b => Ending.returned (.bool b)) HRG.out, X, rfl⟩ | exact ⟨congrArg (fun b => Ending.returned (.bool b)) (Eq.trans (congrArg (rightB F 103 (goodB g)) (by first | rfl | simp | (rw [Bool.eq_iff_iff]; simp))) HRG.out), X, rfl⟩)))
    refine wpQuiet_nil ?_
    rintro _ ⟨⟨V2, hV2⟩, rfl⟩
    have hA3 := Lib.hid (hA2.out.keep hV2)
    clear p4 p5 p7 pF hK hbx hV2
    go_upto_region 10 with (fail)
    have hbx := hA3.out.bx
    rw [HCS.out] at hbx
    have p0 := FrW.cell (cell_obj hbx 0 (.int .i64 c) rfl)
    have p1 := FrW.cell (cell_obj hbx 1 (.int .i64 n) rfl)
    have p2 := FrW.cell (cell_obj hbx 2 (.int .i64 k) rfl)
    have p3 := FrW.cell (cell_obj hbx 3 (.int .i64 o) rfl)
    have p4 := FrW.cell (cell_obj hbx 4 (.int .i64 r) rfl)
    have p5 := FrW.cell (cell_obj hbx 5 (.int .i64 t) rfl)
    have p6 := FrW.cell (cell_obj hbx 6 (.int .i64 m) rfl)
    have p7 := FrW.cell (cell_obj hbx 7 (vS g) rfl)
    have p8 := FrW.cell (cell_obj hbx 8 (.slice pp N cc) rfl)
    have pF := FrW.cell (cell_obj hA3.out.fb 0 (vS F) rfl)
    have hK := Lib.hid (fun X c a b => kRight (FrW.val X) (w.heap.size + 1) F c a b (pF X))
    have hIl := hA3.out.il
    rw [HL.out.1, HL.out.2] at hIl
    have hMy := Lib.hid (fun X => iMay (FrW.val X) _ _ (hIl.fr (FrW.fr X) (fun _ h => h.elim)))
    clear hbx hIl
    by_cases hN0 : 0 < N
    · have hN1 : (0 : Int) < (N : Int) := by omega
      have hN2 : ((N : Int) == 0) = false := by simp; omega
      have hN3 : decide ((N : Int) = 0) = false := by simp; omega
      have hN4 : decide ((0 : Int) < (N : Int)) = true := by simpa using hN1
      rw [hN3, hN4, Bool.true_and] at HM2
      cases hri : rightB F 105 (mayL its) false with
      | false =>
        have hBf : Hid (B = false) := Lib.hid (by rw [HM2.out, hri]; rfl)
        have HRI := Lib.hid hri
        have hN5 : decide (0 < N) = true := by simpa using hN0
        clear HM2 hri hN3
        refine wp_region_fr (by kernel_rfl) (by kernel_rfl) ?_
        repeat (go_big_quiet_step (first | (go_at_call 44; rename_i X; refine (hMy.out X).mono ?_; rintro e w2 ⟨rfl, hF⟩; exact ⟨rfl, ⟨w2, X.fr.trans hF⟩, rfl⟩) | (go_at_call 80; rename_i X; refine (hK.out X _ _ _).mono ?_; rintro e w2 ⟨rfl, rfl⟩; exact ⟨congrArg (fun b => Ending.returned (.bool b)) HRI.out, X, rfl⟩) | (go_at_call 83; rename_i X; refine (HMN.out _).mono ?_; rintro e w2 ⟨rfl, hF⟩; exact ⟨rfl, ⟨w2, X.fr.trans hF⟩, rfl⟩)))
        refine wpQuiet_nil ?_
        rintro _ ⟨⟨V3, hV3⟩, rfl⟩
        go_wp2_with fail
        go_ret
        exact ⟨by rw [hBf.out]; rfl, hA3.out.fr.trans hV3⟩
      | true =>
        have hBf : Hid (B = mayN k m) := Lib.hid (by rw [HM2.out, hri]; rfl)
        have HRI := Lib.hid hri
        have hN5 : decide (0 < N) = true := by simpa using hN0
        clear HM2 hri hN3
        refine wp_region_fr (by kernel_rfl) (by kernel_rfl) ?_
        repeat (go_big_quiet_step (first | (go_at_call 44; rename_i X; refine (hMy.out X).mono ?_; rintro e w2 ⟨rfl, hF⟩; exact ⟨rfl, ⟨w2, X.fr.trans hF⟩, rfl⟩) | (go_at_call 80; rename_i X; refine (hK.out X _ _ _).mono ?_; rintro e w2 ⟨rfl, rfl⟩; exact ⟨congrArg (fun b => Ending.returned (.bool b)) HRI.out, X, rfl⟩) | (go_at_call 83; rename_i X; refine (HMN.out _).mono ?_; rintro e w2 ⟨rfl, hF⟩; exact ⟨rfl, ⟨w2, X.fr.trans hF⟩, rfl⟩)))
        refine wpQuiet_nil ?_
        rintro _ ⟨⟨V3, hV3⟩, rfl⟩
        go_wp2_with fail
        go_ret
        exact ⟨by rw [hBf.out]; rfl, hA3.out.fr.trans hV3⟩
    · obtain rfl : N = 0 := by omega
      have HM3 : Hid (B = (rightB F 105 false true && mayN k m)) := Lib.hid (by rw [HM2.out]; rfl)
      clear HM2 hN0
      cases hri : rightB F 105 false true with
      | false =>
        have hBf : Hid (B = false) := Lib.hid (by rw [HM3.out, hri]; rfl)
        have HRI := Lib.hid hri
        clear HM3 hri
        refine wp_region_fr (by kernel_rfl) (by kernel_rfl) ?_
        repeat (go_big_quiet_step (first | (go_at_call 44; rename_i X; refine (hMy.out X).mono ?_; rintro e w2 ⟨rfl, hF⟩; exact ⟨rfl, ⟨w2, X.fr.trans hF⟩, rfl⟩) | (go_at_call 80; rename_i X; refine (hK.out X _ _ _).mono ?_; rintro e w2 ⟨rfl, rfl⟩; exact ⟨congrArg (fun b => Ending.returned (.bool b)) HRI.out, X, rfl⟩) | (go_at_call 83; rename_i X; refine (HMN.out _).mono ?_; rintro e w2 ⟨rfl, hF⟩; exact ⟨rfl, ⟨w2, X.fr.trans hF⟩, rfl⟩)))
        refine wpQuiet_nil ?_
        rintro _ ⟨⟨V3, hV3⟩, rfl⟩
        go_wp2_with fail
        go_ret
        exact ⟨by rw [hBf.out]; rfl, hA3.out.fr.trans hV3⟩
      | true =>
        have hBf : Hid (B = mayN k m) := Lib.hid (by rw [HM3.out, hri]; rfl)
        have HRI := Lib.hid hri
        clear HM3 hri
        refine wp_region_fr (by kernel_rfl) (by kernel_rfl) ?_
        repeat (go_big_quiet_step (first | (go_at_call 44; rename_i X; refine (hMy.out X).mono ?_; rintro e w2 ⟨rfl, hF⟩; exact ⟨rfl, ⟨w2, X.fr.trans hF⟩, rfl⟩) | (go_at_call 80; rename_i X; refine (hK.out X _ _ _).mono ?_; rintro e w2 ⟨rfl, rfl⟩; exact ⟨congrArg (fun b => Ending.returned (.bool b)) HRI.out, X, rfl⟩) | (go_at_call 83; rename_i X; refine (HMN.out _).mono ?_; rintro e w2 ⟨rfl, hF⟩; exact ⟨rfl, ⟨w2, X.fr.trans hF⟩, rfl⟩)))
        refine wpQuiet_nil ?_
        rintro _ ⟨⟨V3, hV3⟩, rfl⟩
        go_wp2_with fail
        go_ret
        exact ⟨by rw [hBf.out]; rfl, hA3.out.fr.trans hV3⟩
  | true =>
    rw [hT] at HM
    have HT := Lib.hid hT
    cases hrt : rightB F 116 (t != r) (decide (t = 0)) with
    | false =>
      have hBf : Hid (B = false) := Lib.hid (by rw [HM.out, hne]; simp only [Bool.true_and, Bool.false_and]; rw [hrt]; simp)
      have HRT := Lib.hid hrt
      have HRG := Lib.hid hrt
      clear HM hT hrt
      refine wp_region_fr (by kernel_rfl) (by kernel_rfl) ?_
      repeat (go_big_quiet_step (first | (go_at_call 81; rename_i X; refine (kIsRegion _ _).mono ?_; rintro e w2 ⟨rfl, rfl⟩; exact ⟨congrArg (fun b => Ending.returned (.bool b)) HT.out, X, rfl⟩) | (go_at_call 77; rename_i X; refine (hGd.out _).mono ?_; rintro e w2 ⟨rfl, hF⟩; exact ⟨rfl, ⟨w2, X.fr.trans hF⟩, rfl⟩) | (go_at_call 80; rename_i X; refine (hK.out X _ _ _).mono ?_; rintro e w2 ⟨rfl, rfl⟩; first | exact ⟨congrArg (fun b => Ending.returned (.bool b)) HRT.out, X, rfl⟩ | exact ⟨congrArg (fun b => Ending.returned (.bool b)) HRG.out, X, rfl⟩ | exact ⟨congrArg (fun b => Ending.returned (.bool b)) (Eq.trans (congrArg (rightB F 103 (goodB g)) (by first | rfl | simp | (rw [Bool.eq_iff_iff]; simp))) HRG.out), X, rfl⟩)))
      refine wpQuiet_nil ?_
      rintro _ ⟨⟨V2, hV2⟩, rfl⟩
      go_wp2_with fail
      go_ret
      exact ⟨by rw [hBf.out]; rfl, hA2.out.fr.trans hV2⟩
    | true =>
    have HRT := Lib.hid hrt
    cases hrg : rightB F 103 (goodB g) (g == []) with
    | false =>
      have hBf : Hid (B = false) := Lib.hid (by rw [HM.out, hgg, hrg]; simp)
      have HRG := Lib.hid hrg
      clear HM hT hrt hrg
      refine wp_region_fr (by kernel_rfl) (by kernel_rfl) ?_
      repeat (go_big_quiet_step (first | (go_at_call 81; rename_i X; refine (kIsRegion _ _).mono ?_; rintro e w2 ⟨rfl, rfl⟩; exact ⟨congrArg (fun b => Ending.returned (.bool b)) HT.out, X, rfl⟩) | (go_at_call 77; rename_i X; refine (hGd.out _).mono ?_; rintro e w2 ⟨rfl, hF⟩; exact ⟨rfl, ⟨w2, X.fr.trans hF⟩, rfl⟩) | (go_at_call 80; rename_i X; refine (hK.out X _ _ _).mono ?_; rintro e w2 ⟨rfl, rfl⟩; first | exact ⟨congrArg (fun b => Ending.returned (.bool b)) HRT.out, X, rfl⟩ | exact ⟨congrArg (fun b => Ending.returned (.bool b)) HRG.out, X, rfl⟩ | exact ⟨congrArg (fun b => Ending.returned (.bool b)) (Eq.trans (congrArg (rightB F 103 (goodB g)) (by first | rfl | simp | (rw [Bool.eq_iff_iff]; simp))) HRG.out), X, rfl⟩)))
      refine wpQuiet_nil ?_
      rintro _ ⟨⟨V2, hV2⟩, rfl⟩
      go_wp2_with fail
      go_ret
      exact ⟨by rw [hBf.out]; rfl, hA2.out.fr.trans hV2⟩
    | true =>
    have HRG := Lib.hid hrg
    have HM2 : Hid (B = (rightB F 105 (decide (0 < (N : Int)) && mayL its) (decide ((N : Int) = 0)) && mayN k m)) := Lib.hid (by rw [HM.out, hgg, hrg, hne]; simp only [Bool.true_and, Bool.false_and]; rw [hrt]; simp [hF0])
    clear HM hT hrt hrg
    refine wp_region_fr (by kernel_rfl) (by kernel_rfl) ?_
    repeat (go_big_quiet_step (first | (go_at_call 81; rename_i X; refine (kIsRegion _ _).mono ?_; rintro e w2 ⟨rfl, rfl⟩; exact ⟨congrArg (fun b => Ending.returned (.bool b)) HT.out, X, rfl⟩) | (go_at_call 77; rename_i X; refine (hGd.out _).mono ?_; rintro e w2 ⟨rfl, hF⟩; exact ⟨rfl, ⟨w2, X.fr.trans hF⟩, rfl⟩) | (go_at_call 80; rename_i X; refine (hK.out X _ _ _).mono ?_; rintro e w2 ⟨rfl, rfl⟩; first | exact ⟨congrArg (fun b => Ending.returned (.bool b)) HRT.out, X, rfl⟩ | exact ⟨congrArg (fun b => Ending.returned (.bool b)) HRG.out, X, rfl⟩ | exact ⟨congrArg (fun b => Ending.returned (.bool b)) (Eq.trans (congrArg (rightB F 103 (goodB g)) (by first | rfl | simp | (rw [Bool.eq_iff_iff]; simp))) HRG.out), X, rfl⟩)))
    refine wpQuiet_nil ?_
    rintro _ ⟨⟨V2, hV2⟩, rfl⟩
    have hA3 := Lib.hid (hA2.out.keep hV2)
    clear p4 p5 p7 pF hK hbx hV2
    go_upto_region 10 with (fail)
    have hbx := hA3.out.bx
    rw [HCS.out] at hbx
    have p0 := FrW.cell (cell_obj hbx 0 (.int .i64 c) rfl)
    have p1 := FrW.cell (cell_obj hbx 1 (.int .i64 n) rfl)
    have p2 := FrW.cell (cell_obj hbx 2 (.int .i64 k) rfl)
    have p3 := FrW.cell (cell_obj hbx 3 (.int .i64 o) rfl)
    have p4 := FrW.cell (cell_obj hbx 4 (.int .i64 r) rfl)
    have p5 := FrW.cell (cell_obj hbx 5 (.int .i64 t) rfl)
    have p6 := FrW.cell (cell_obj hbx 6 (.int .i64 m) rfl)
    have p7 := FrW.cell (cell_obj hbx 7 (vS g) rfl)
    have p8 := FrW.cell (cell_obj hbx 8 (.slice pp N cc) rfl)
    have pF := FrW.cell (cell_obj hA3.out.fb 0 (vS F) rfl)
    have hK := Lib.hid (fun X c a b => kRight (FrW.val X) (w.heap.size + 1) F c a b (pF X))
    have hIl := hA3.out.il
    rw [HL.out.1, HL.out.2] at hIl
    have hMy := Lib.hid (fun X => iMay (FrW.val X) _ _ (hIl.fr (FrW.fr X) (fun _ h => h.elim)))
    clear hbx hIl
    by_cases hN0 : 0 < N
    · have hN1 : (0 : Int) < (N : Int) := by omega
      have hN2 : ((N : Int) == 0) = false := by simp; omega
      have hN3 : decide ((N : Int) = 0) = false := by simp; omega
      have hN4 : decide ((0 : Int) < (N : Int)) = true := by simpa using hN1
      rw [hN3, hN4, Bool.true_and] at HM2
      cases hri : rightB F 105 (mayL its) false with
      | false =>
        have hBf : Hid (B = false) := Lib.hid (by rw [HM2.out, hri]; rfl)
        have HRI := Lib.hid hri
        have hN5 : decide (0 < N) = true := by simpa using hN0
        clear HM2 hri hN3
        refine wp_region_fr (by kernel_rfl) (by kernel_rfl) ?_
        repeat (go_big_quiet_step (first | (go_at_call 44; rename_i X; refine (hMy.out X).mono ?_; rintro e w2 ⟨rfl, hF⟩; exact ⟨rfl, ⟨w2, X.fr.trans hF⟩, rfl⟩) | (go_at_call 80; rename_i X; refine (hK.out X _ _ _).mono ?_; rintro e w2 ⟨rfl, rfl⟩; exact ⟨congrArg (fun b => Ending.returned (.bool b)) HRI.out, X, rfl⟩) | (go_at_call 83; rename_i X; refine (HMN.out _).mono ?_; rintro e w2 ⟨rfl, hF⟩; exact ⟨rfl, ⟨w2, X.fr.trans hF⟩, rfl⟩)))
        refine wpQuiet_nil ?_
        rintro _ ⟨⟨V3, hV3⟩, rfl⟩
        go_wp2_with fail
        go_ret
        exact ⟨by rw [hBf.out]; rfl, hA3.out.fr.trans hV3⟩
      | true =>
        have hBf : Hid (B = mayN k m) := Lib.hid (by rw [HM2.out, hri]; rfl)
        have HRI := Lib.hid hri
        have hN5 : decide (0 < N) = true := by simpa using hN0
        clear HM2 hri hN3
        refine wp_region_fr (by kernel_rfl) (by kernel_rfl) ?_
        repeat (go_big_quiet_step (first | (go_at_call 44; rename_i X; refine (hMy.out X).mono ?_; rintro e w2 ⟨rfl, hF⟩; exact ⟨rfl, ⟨w2, X.fr.trans hF⟩, rfl⟩) | (go_at_call 80; rename_i X; refine (hK.out X _ _ _).mono ?_; rintro e w2 ⟨rfl, rfl⟩; exact ⟨congrArg (fun b => Ending.returned (.bool b)) HRI.out, X, rfl⟩) | (go_at_call 83; rename_i X; refine (HMN.out _).mono ?_; rintro e w2 ⟨rfl, hF⟩; exact ⟨rfl, ⟨w2, X.fr.trans hF⟩, rfl⟩)))
        refine wpQuiet_nil ?_
        rintro _ ⟨⟨V3, hV3⟩, rfl⟩
        go_wp2_with fail
        go_ret
        exact ⟨by rw [hBf.out]; rfl, hA3.out.fr.trans hV3⟩
    · obtain rfl : N = 0 := by omega
      have HM3 : Hid (B = (rightB F 105 false true && mayN k m)) := Lib.hid (by rw [HM2.out]; rfl)
      clear HM2 hN0
      cases hri : rightB F 105 false true with
      | false =>
        have hBf : Hid (B = false) := Lib.hid (by rw [HM3.out, hri]; rfl)
        have HRI := Lib.hid hri
        clear HM3 hri
        refine wp_region_fr (by kernel_rfl) (by kernel_rfl) ?_
        repeat (go_big_quiet_step (first | (go_at_call 44; rename_i X; refine (hMy.out X).mono ?_; rintro e w2 ⟨rfl, hF⟩; exact ⟨rfl, ⟨w2, X.fr.trans hF⟩, rfl⟩) | (go_at_call 80; rename_i X; refine (hK.out X _ _ _).mono ?_; rintro e w2 ⟨rfl, rfl⟩; exact ⟨congrArg (fun b => Ending.returned (.bool b)) HRI.out, X, rfl⟩) | (go_at_call 83; rename_i X; refine (HMN.out _).mono ?_; rintro e w2 ⟨rfl, hF⟩; exact ⟨rfl, ⟨w2, X.fr.trans hF⟩, rfl⟩)))
        refine wpQuiet_nil ?_
        rintro _ ⟨⟨V3, hV3⟩, rfl⟩
        go_wp2_with fail
        go_ret
        exact ⟨by rw [hBf.out]; rfl, hA3.out.fr.trans hV3⟩
      | true =>
        have hBf : Hid (B = mayN k m) := Lib.hid (by rw [HM3.out, hri]; rfl)
        have HRI := Lib.hid hri
        clear HM3 hri
        refine wp_region_fr (by kernel_rfl) (by kernel_rfl) ?_
        repeat (go_big_quiet_step (first | (go_at_call 44; rename_i X; refine (hMy.out X).mono ?_; rintro e w2 ⟨rfl, hF⟩; exact ⟨rfl, ⟨w2, X.fr.trans hF⟩, rfl⟩) | (go_at_call 80; rename_i X; refine (hK.out X _ _ _).mono ?_; rintro e w2 ⟨rfl, rfl⟩; exact ⟨congrArg (fun b => Ending.returned (.bool b)) HRI.out, X, rfl⟩) | (go_at_call 83; rename_i X; refine (HMN.out _).mono ?_; rintro e w2 ⟨rfl, hF⟩; exact ⟨rfl, ⟨w2, X.fr.trans hF⟩, rfl⟩)))
        refine wpQuiet_nil ?_
        rintro _ ⟨⟨V3, hV3⟩, rfl⟩
        go_wp2_with fail
        go_ret
        exact ⟨by rw [hBf.out]; rfl, hA3.out.fr.trans hV3⟩
end Go.Proofs.YtmflpeklalgibaaGreat

