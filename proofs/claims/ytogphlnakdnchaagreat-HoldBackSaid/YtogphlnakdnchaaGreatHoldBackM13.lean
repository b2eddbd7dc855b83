/- Texts of this claim, joined: hold: Sound; stock: Unpack, walked; hold: Unpack (written by wip/tools/unp08.py); stock's laws: lives: the states that its program goes through; hold: a shelf's Pack, Unpack and Sound; a law's own shelf; the states of lives; hold's laws: lives; ref06: Of; HoldShips on its way: the shelf, the two books of what was taken and what was shipped; hold: a shelf and the document's side by side (written by wip/tools/bkA8.py); Arguments: strings, slices of items, opened; Arguments of whatever structs, opened to their leaves, with a bound on the weights of what they hold; hold's laws: Op and slices of it opened. -/
import Derived.Test.YtogphlnakdnchaaGreatHoldBackM8
import Derived.Test.YtogphlnakdnchaaGreatHoldBackM3
import Derived.Test.YtogphlnakdnchaaGreatHoldBackM12
import Derived.Test.YtogphlnakdnchaaGreatHoldBackM5
import Derived.Test.YtogphlnakdnchaaGreatHoldBackM6
import Derived.Test.YtogphlnakdnchaaGreatHoldBackM10
import Derived.Says
import Derived.Sort.MapsRangeIn
import Derived.Test.YtogphlnakdnchaaGreatHoldBackM9
import Derived.Test.YtogphlnakdnchaaGreatHoldBackM1
import Derived.Deep.RegionWith
import Derived.LoopN
import Derived.Test.YtogphlnakdnchaaGreatHoldBackM11
import Derived.Deep.RegionHeld3
import Derived.Test.YtogphlnakdnchaaGreatHoldBackM2
import Derived.SizedLaws
namespace Go.Proofs.YtogphlnakdnchaaGreat
open Go.RowKit Go.Maps
attribute [local go_sem] Oper.semAt_some
theorem ranges_fr {P : Program} {k : TypeId} {R : Value → Option (DataW Value × List MemPlace)} {b r n cnt : Nat} {D : DataW Value} {left : Lit → Bool} {S : Nat → Prop} {w w' : World} (h : w.ranges P k R b r n D left cnt) (hf : Fr S w w') (hb' : ¬ S b) (hr' : ¬ S r) : w'.ranges P k R b r n D left cnt := by
  have h1 := h.owns.lt
  have h2 := h.lt
  obtain ⟨es, clock, since, seen, c0, hb, F, hs, hD, hr, rest⟩ := h
  exact ⟨es, clock, since, seen, c0, (hf.same b h1 hb').trans hb, F, hs, hD, (hf.same r h2 hr').trans hr, rest⟩
abbrev mkD (D : Nat) : Deferred := { target := .collected D, args := #[] }
/-- A function's end behind any number of marks. -/
theorem leaves_marks {F : Fence} {n : Nat} {P : Program} {fn : Func} {tmps : Array Value} {R : Ending → World → Prop} : ∀ (Ds : List Nat) (W : World), Ds.Nodup → (∀ D ∈ Ds, W.heap[D]? = some (.deferred (some []))) →
    (∀ W', Fr (fun b => b ∈ Ds) W W' → W'.heap.size = W.heap.size → LeavesInM F n P fn tmps R [] .returning W') → LeavesInM F n P fn tmps R (Ds.map mkD) .returning W
  | [], W, _, _, h => h W (Fr.refl _ _) rfl
  | D :: r, W, hn, hd, h => by
    obtain ⟨h1, h2⟩ := List.nodup_cons.1 hn
    refine ⟨by simp, .inl ⟨D, _, rfl, run_takeDeferred (hd D (by simp)), ?_⟩⟩
    refine leaves_marks r _ h2 (fun D' hD' => ?_) (fun W' hf hz => h W' ?_ (by rw [hz]; simp))
    · rw [World.putObj_heap_other (fun e => by subst e; exact h1 hD')]
      exact hd D' (by simp [hD'])
    · exact ((Fr.refl (fun b => b ∈ D :: r) W).putObj (l := D) (fun _ => by simp) _).trans (hf.mono (fun b _ e => by simp [e]))
/-- The call's own blocks. -/
structure SdI (w0 W : World) (n0 g : Nat) (H P : Its) : Prop where
  bs : W.heap[n0]? = some (.cells #[.pointer (some ⟨g, 0, none⟩)] 23)
  rs : W.heap[n0 + 1]? = some (.cells #[.bool false] 4)
  vh : W.heap[n0 + 4]? = some (.cells #[.map (some (n0 + 2))] 90)
  vp : W.heap[n0 + 5]? = some (.cells #[.map (some (n0 + 3))] 90)
  mh : Mp Tryz.prog W 9 ktS encN (n0 + 2) H
  mp : Mp Tryz.prog W 9 ktS encN (n0 + 3) P
  fr : Fr (fun b => n0 ≤ b) w0 W
section
variable {w0 W W' : World} {n0 g : Nat} {H P : Its}
theorem SdI.keep (h : SdI w0 W n0 g H P) (hf : Fr (fun _ => False) W W') : SdI w0 W' n0 g H P :=
  ⟨hf.at_ h.bs (fun e => e), hf.at_ h.rs (fun e => e), hf.at_ h.vh (fun e => e), hf.at_ h.vp (fun e => e), hf.mp h.mh (fun e => e), hf.mp h.mp (fun e => e), h.fr.trans' hf (fun _ _ e => e.elim)⟩
theorem SdI.fr' {S : Nat → Prop} (h : SdI w0 W n0 g H P) (hf : Fr S W W') (hS : ∀ b, S b → n0 + 6 ≤ b) : SdI w0 W' n0 g H P :=
  ⟨hf.at_ h.bs (fun e => by have := hS _ e; omega), hf.at_ h.rs (fun e => by have := hS _ e; omega), hf.at_ h.vh (fun e => by have := hS _ e; omega), hf.at_ h.vp (fun e => by have := hS _ e; omega), hf.mp h.mh (fun e => by have := hS _ e; omega), hf.mp h.mp (fun e => by have := hS _ e; omega), h.fr.trans' hf (fun b _ e => by have := hS b e; omega)⟩
theorem SdI.putH {H' : Its} (h : SdI w0 W n0 g H P) (hf : Fr (fun b => b = n0 + 2) W W') (hm : Mp Tryz.prog W' 9 ktS encN (n0 + 2) H') : SdI w0 W' n0 g H' P :=
  ⟨hf.at_ h.bs (by omega), hf.at_ h.rs (by omega), hf.at_ h.vh (by omega), hf.at_ h.vp (by omega), hm, hf.mp h.mp (by omega), h.fr.trans' hf (fun b _ e => by omega)⟩
theorem SdI.putP {P' : Its} (h : SdI w0 W n0 g H P) (hf : Fr (fun b => b = n0 + 3) W W') (hm : Mp Tryz.prog W' 9 ktS encN (n0 + 3) P') : SdI w0 W' n0 g H P' :=
  ⟨hf.at_ h.bs (by omega), hf.at_ h.rs (by omega), hf.at_ h.vh (by omega), hf.at_ h.vp (by omega), hf.mp h.mh (by omega), hm, h.fr.trans' hf (fun b _ e => by omega)⟩
end
/-- The loop over the holds: what has been added so far; Ds: the marks of the ranges over functions. -/
structure SdL (w0 W : World) (n0 g m nn : Nat) (l : List (Int × HV)) (Ds : List Nat) (left : Lit → Bool) (cnt : Nat) (H P : Its) : Prop where
  sd : SdI w0 W n0 g H P
  rg : W.ranges Tryz.prog 3 heldR m (n0 + 6) nn (ktI.dat HV.enc l) left cnt
  hw : SdW H left l HV.he
  pw : SdW P left l HV.pi
  nd : Ds.Nodup
  ds : ∀ D ∈ Ds, n0 + 7 ≤ D ∧ W.heap[D]? = some (.deferred (some []))
  sz : n0 + 7 ≤ W.heap.size
set_option maxRecDepth 100000 in
set_option maxHeartbeats 16000000 in
theorem hSound (w : World) (g gs m : Nat) (T0 TB : Nat → Prop) (A : Stk) (l : List (Int × HV)) (h : SB w g gs m T0 TB A l) (hk : ShOk A (mapE l)) :
    Calls Tryz.prog 23 #[.pointer (some ⟨g, 0, none⟩)] w fun e w' => e = .returned (.bool (soundE A (mapE l))) ∧ Fr (fun _ => False) w w' := by
  obtain ⟨n0, hn0⟩ : ∃ n0, w.heap.size = n0 := ⟨_, rfl⟩
  have HS := Lib.hid hn0
  have HSB := Lib.hid h; have HK := Lib.hid hk
  have hgc : Hid (∀ W, Fr (fun b => n0 ≤ b) w W → W.cell? ⟨g, 0, none⟩ = some (.pointer (some ⟨gs, 0, none⟩)) ∧ W.cell? ⟨g, 1, none⟩ = some (.map (some m))) := Lib.hid (fun W hf => (HSB.out.keep hf (fun b hb e => by have := HSB.out.lt b hb; omega)).cells)
  have hmd : Hid (∀ W, Fr (fun b => n0 ≤ b) w W → Calls Tryz.prog 39 #[.pointer (some ⟨g, 0, none⟩)] W fun e w' => e = .returned (.bool true) ∧ W = w') := Lib.hid (fun W hf => hmade W g m (hgc.out W hf).2)
  obtain ⟨R, hR⟩ : ∃ R, soundE A (mapE l) = R := ⟨_, rfl⟩
  have HR := Lib.hid hR
  rw [hR]
  clear h hk hR
  refine (callsIn_wide (n := 0)).1 ?_
  refine callsIn_of_wp_marks Tryz.func23 rfl trivial ?_ rfl
  simp only [Tryz.ntmps23, List.size_toArray, List.length_cons, List.length_nil, Nat.reduceAdd, Nat.reduceSub, Array.replicate_succ, Array.replicate_zero, List.push_toArray, List.append_toArray, List.nil_append, List.cons_append]
  have hfn : ∀ f, Fence.wide.fn f := fun _ => trivial
  have hmm := @run_makeMap Tryz.prog
  have hdp : Fence.wide.depth.isSome = false := rfl
  obtain ⟨g0, g1⟩ := hgc.out _ ((((((((Fr.refl (fun b => n0 ≤ b) w).alloc (.cells #[.pointer (some ⟨g, 0, none⟩)] 23)).alloc (.cells #[.bool false] 4))).alloc (.map #[] 0)).alloc (.map #[] 0)).alloc (.cells #[.map (some (n0 + 2))] 90)).alloc (.cells #[.map (some (n0 + 3))] 90))
  have hmp := HSB.out.mp
  obtain ⟨nn, hown0⟩ := hmp
  have hown := hown0
  have HOWN : Hid (∀ W, Fr (fun b => n0 ≤ b) w W → W.ownsMap Tryz.prog 3 heldR m nn (ktI.dat HV.enc l)) := Lib.hid (fun W hf => by
    have hm := HSB.out.lt m (.inr (.inl rfl))
    obtain ⟨es, clock, hb, F, hs, hD⟩ := hown0
    exact ⟨es, clock, (hf.same m hm (by omega)).trans hb, F, hs, hD⟩)
  clear hown hown0
  obtain ⟨W1, hW1⟩ : ∃ W1, ((((((w.alloc (.cells #[.pointer (some ⟨g, 0, none⟩)] 23)).alloc (.cells #[.bool false] 4))).alloc (.map #[] 0)).alloc (.map #[] 0)).alloc (.cells #[.map (some (n0 + 2))] 90)).alloc (.cells #[.map (some (n0 + 3))] 90) = W1 := ⟨_, rfl⟩
  have hI0 : SdI w W1 n0 g [] [] := by
    have hm1 := Mp.made (κ := Str) (ν := Int) Tryz.prog (((w.alloc (.cells #[.pointer (some ⟨g, 0, none⟩)] 23)).alloc (.cells #[.bool false] 4))) 9 ktS encN
    have hm2 := Mp.made (κ := Str) (ν := Int) Tryz.prog (((w.alloc (.cells #[.pointer (some ⟨g, 0, none⟩)] 23)).alloc (.cells #[.bool false] 4)).alloc (.map #[] 0)) 9 ktS encN
    rw [show (((w.alloc (.cells #[.pointer (some ⟨g, 0, none⟩)] 23)).alloc (.cells #[.bool false] 4))).heap.size = n0 + 2 by simp; omega] at hm1
    rw [show (((w.alloc (.cells #[.pointer (some ⟨g, 0, none⟩)] 23)).alloc (.cells #[.bool false] 4)).alloc (.map #[] 0)).heap.size = n0 + 3 by simp; omega] at hm2
    rw [← hW1]
    exact ⟨heap_keep (heap_keep (heap_keep (heap_keep (heap_keep (heap_at hn0.symm _) _) _) _) _) _, heap_keep (heap_keep (heap_keep (heap_keep (heap_at (by simp; omega) _) _) _) _) _, heap_keep (heap_at (by simp; omega) _) _, heap_at (by simp; omega) _, ((hm1.alloc _).alloc _).alloc _, (hm2.alloc _).alloc _, ((((((Fr.refl _ w).alloc _).alloc _).alloc _).alloc _).alloc _).alloc _⟩
  have hs1 : W1.heap.size = n0 + 6 := by rw [← hW1]; simp; omega
  have HI0 := Lib.hid hI0; have HS1 := Lib.hid hs1
  have hown1 := HOWN.out W1 hI0.fr
  have b0 := cell_obj hI0.bs 0 (.pointer (some ⟨g, 0, none⟩)) rfl
  obtain ⟨g2, g3⟩ := hgc.out W1 hI0.fr
  clear hI0 hs1
  gi_wp2_with (first
    | (gi_at_call 39; refine (callsIn_wide.2 (hmd.out _ (((Fr.refl _ _).alloc _).alloc _))).mono ?_; rintro e w1 ⟨rfl, rfl⟩)
    | (gi_at_range; refine wpListIn_range_own _ rfl _ 61 rfl 3 37 kHI.keyed Tryz.underlying61 heldR m nn _ rfl hown1 ?_; intro w3 hrg3 hg3 hs3))
  rw [show n0 + 1 + 1 + 1 + 1 + 1 = n0 + 5 from rfl, show n0 + 1 + 1 + 1 + 1 = n0 + 4 from rfl, show n0 + 1 + 1 + 1 = n0 + 3 from rfl, show n0 + 1 + 1 = n0 + 2 from rfl]
  rw [HS1.out] at hrg3 ⊢
  have hf3 : Fr (fun _ => False) W1 w3 := Fr.grown hg3 (fun r e _ => by cases e)
  have hI3 := HI0.out.keep hf3
  have hs3' : w3.heap.size = n0 + 7 := by rw [hs3, HS1.out]
  have hnd : Hid ((l.map (·.1)).Nodup) := Lib.hid (by
    have h1 := HK.out.rise
    have h2 : (mapE l).map (·.1) = l.map (·.1) := by unfold mapE; rw [List.map_map]; rfl
    rw [← h2, List.Nodup, List.pairwise_map]
    exact h1.imp (fun {p q} e h => by omega))
  have hL3 : SdL w w3 n0 g m nn l [] (Maps.has (ktI.dat HV.enc l)) (Maps.size (ktI.dat HV.enc l)) [] [] := by
    have hall : ∀ p ∈ l, Maps.has (ktI.dat HV.enc l) (ktI.lit p.1) = true := fun p hp => by
      rw [dat_has kHI, getK_of hnd.out (x := p.1) (v := p.2) hp]; rfl
    exact ⟨hI3, hrg3, SdW.start hall, SdW.start hall, List.nodup_nil, fun D hD => (by cases hD), by omega⟩
  have HL3 := Lib.hid hL3
  have hmn : Hid (m < n0) := Lib.hid (by have := HSB.out.lt m (.inr (.inl rfl)); omega)
  clear hmm hrg3 hg3 hs3 hf3 hI3 hs3' hL3 g0 g1 g2 g3 b0 hown1 hW1
  refine wpIn_loop (fun a' w' => ∃ (u6 u7 u8 u9 u10 u23 u24 u25 u26 u27 u28 u29 u30 u31 u32 u33 u34 u35 u36 u37 u38 u39 u40 u41 u42 u43 u44 u45 u46 : Value) (Ds : List Nat) (left : Lit → Bool) (cnt : Nat) (H P : Its), a' = { tmps := List.toArray ((.pointer (some ⟨g, 0, none⟩)) :: (.pointer (some ⟨n0, 0, none⟩)) :: (.pointer (some ⟨n0 + 1, 0, none⟩)) :: (.pointer (some ⟨n0 + 4, 0, none⟩)) :: (.pointer (some ⟨n0 + 5, 0, none⟩)) :: (undef) :: u6 :: u7 :: u8 :: u9 :: u10 :: (undef) :: (undef) :: (.pointer (some ⟨g, 0, none⟩)) :: (.bool true) :: (.bool false) :: (.map (some (n0 + 2))) :: (.map (some (n0 + 3))) :: (.pointer (some ⟨g, 0, none⟩)) :: (.pointer (some ⟨g, 0, none⟩)) :: (.pointer (some ⟨g, 1, none⟩)) :: (.map (some m)) :: (.pointer (some ⟨n0 + 6, 0, none⟩)) :: u23 :: u24 :: u25 :: u26 :: u27 :: u28 :: u29 :: u30 :: u31 :: u32 :: u33 :: u34 :: u35 :: u36 :: u37 :: u38 :: u39 :: u40 :: u41 :: u42 :: u43 :: u44 :: u45 :: u46 :: (undef) :: (undef) :: (undef) :: (undef) :: (undef) :: (undef) :: (undef) :: (undef) :: (undef) :: (undef) :: (undef) :: (undef) :: (undef) :: (undef) :: (undef) :: (undef) :: (undef) :: (undef) :: (undef) :: (undef) :: (undef) :: (undef) :: (undef) :: (undef) :: (undef) :: (undef) :: (undef) :: (undef) :: (undef) :: (undef) :: (undef) :: (undef) :: (undef) :: (undef) :: (undef) :: (undef) :: []), defers := Ds.map mkD } ∧ SdL w w' n0 g m nn l Ds left cnt H P) (fun _ w' => w'.rangeLeft m (n0 + 6)) ⟨_, _, _, _, _, _, _, _, _, _, _, _, _, _, _, _, _, _, _, _, _, _, _, _, _, _, _, _, _, [], _, _, [], [], rfl, HL3.out⟩ ?_
  rintro _ wr ⟨u6, u7, u8, u9, u10, u23, u24, u25, u26, u27, u28, u29, u30, u31, u32, u33, u34, u35, u36, u37, u38, u39, u40, u41, u42, u43, u44, u45, u46, Ds, left, cnt, H, P, rfl, hL⟩
  have HL := Lib.hid hL
  have hrg := hL.rg
  clear hL HL3
  obtain ⟨wo, rfl⟩ : ∃ wo : World, wo = wr := ⟨_, rfl⟩
  gi_wp2_with (gi_at_next; refine wpListIn_next_ranges _ rfl _ rfl 3 kHI.keyed heldR (Value.int .i64) (id : Value → Value) (fun key kl hk => by obtain ⟨x, _, e, _⟩ := kHI.back hk; exact ⟨x, e⟩) (fun v _ _ => ⟨v, rfl⟩) m (n0 + 6) nn _ _ _ rfl hrg ?_ ?_)
  · intro _ hl0
    have hsnd := sound_of (A := A) HL.out.hw HL.out.pw hl0
    rw [HR.out] at hsnd
    have HSND := Lib.hid hsnd
    have hsd := HL.out.sd
    have hDS : Hid (Ds.Nodup ∧ ∀ D ∈ Ds, n0 + 7 ≤ D ∧ D < wo.heap.size ∧ wo.heap[D]? = some (.deferred (some []))) := Lib.hid ⟨HL.out.nd, fun D hD => by
      obtain ⟨h1, h2⟩ := HL.out.ds D hD
      exact ⟨h1, (Array.getElem?_eq_some_iff.1 h2).1, h2⟩⟩
    have hszo := HL.out.sz
    have HSD := Lib.hid hsd
    have b0 := cell_obj hsd.bs 0 (.pointer (some ⟨g, 0, none⟩)) rfl
    obtain ⟨g2, g3⟩ := hgc.out _ hsd.fr
    have hstk := fun W (hf : Fr (fun b => n0 ≤ b) w W) => (HSB.out.keep hf (fun b hb e => by have := HSB.out.lt b hb; omega)).stk
    have HSTK := Lib.hid hstk
    have hA1000 : A.length ≤ 1000 := by have := HK.out.stk.len; omega
    have hokA : Hid (∀ r ∈ A, okS r.1) := Lib.hid (fun r hr => by
      have h2 := HK.out.stk.good r hr
      unfold goodB at h2
      simp only [Bool.and_eq_true, decide_eq_true_eq] at h2
      unfold okS maxLen; omega)
    have hndA : Hid ((A.map (·.1)).Nodup) := Lib.hid (riseS_nd HK.out.stk.rise)
    have HHL : Hid (H.length ≤ 4096 ∧ P.length ≤ 4096) := Lib.hid (by
      have hlen := HK.out.len
      rw [mapE_len] at hlen
      exact ⟨HL.out.hw.bound hlen, HL.out.pw.bound hlen⟩)
    clear hl0 hsnd hrg hsd hstk HL
    gi_wp2_with (gi_at_call 59; refine (callsIn_wide.2 (sGoods (some ⟨gs, 0, none⟩) _)).mono ?_; rintro e w5 ⟨rfl, rfl⟩)
    obtain ⟨W5, hW5⟩ : ∃ W5, wo.alloc (.cells #[.pointer (some ⟨gs, 0, none⟩)] 58) = W5 := ⟨_, rfl⟩
    (try rw [hW5])
    have hF5 : Fr (fun _ => False) wo W5 := by rw [← hW5]; exact (Fr.refl _ _).alloc _
    have hB1 : Boxed W5 wo.heap.size 58 (.pointer (some ⟨gs, 0, none⟩)) := by rw [← hW5]; exact heap_at rfl _
    have hz5 : W5.heap.size = wo.heap.size + 1 := by rw [← hW5]; simp
    have hsd5 := HSD.out.keep hF5
    have hSA5 := HSTK.out W5 hsd5.fr
    have HSD5 := Lib.hid hsd5
    have HDS5 : Hid (∀ D ∈ Ds, n0 + 7 ≤ D ∧ D < wo.heap.size ∧ W5.heap[D]? = some (.deferred (some []))) := Lib.hid (fun D hD => ⟨(hDS.out.2 D hD).1, (hDS.out.2 D hD).2.1, hF5.at_ (hDS.out.2 D hD).2.2 (fun e => e)⟩)
    have hT0 : ∀ b, T0 b → b < n0 := fun b hb => by have := HSB.out.lt b (.inr (.inr (.inl hb))); omega
    clear hW5 hF5 hsd5 b0 g2 g3
    obtain ⟨ks, hks⟩ : ∃ ks, A.map (·.1) = ks := ⟨_, rfl⟩
    have hG1 := sGoods1 (fun b => b = n0 + 1 ∨ b = n0 + 2 ∨ b = n0 + 3) W5 wo.heap.size gs T0 A hB1 hSA5 hA1000 (by omega) (fun b hb e => by have := hT0 b hb; omega)
    rw [hks] at hG1
    have HKS := Lib.hid hks
    clear hB1 hSA5 hA1000 hT0 hks
    refine rangeX (w0 := W5) (X := ks) (S := fun b => b = n0 + 1 ∨ b = n0 + 2 ∨ b = n0 + 3) rfl (enters_of Tryz.func96 (by kernel_rfl) rfl)
      hG1 (Below.refl _ _) (fun b hb => by omega) (fun _ => rfl)
      (fun k _ W => SdI w W n0 g (delAll H (ks.take k)) (delAll P (ks.take k)) ∧ ∀ i r, i < k → A[i]? = some r → r.2.held = (getS H r.1).getD 0 ∧ r.2.picked = (getS P r.1).getD 0) (fun c _ _ W => c = .ret ∧ R = false ∧ W.heap[n0 + 1]? = some (.cells #[.bool false] 4))
      (fun k C W W' hs hf => ⟨⟨Fa.cells hf hs.1.bs, Fa.cells hf hs.1.rs, Fa.cells hf hs.1.vh, Fa.cells hf hs.1.vp, Fa.mp hf hs.1.mh, Fa.mp hf hs.1.mp, hs.1.fr.trans' hf (fun b hb e => by have := e.1; omega)⟩, hs.2⟩) (fun c k C W W' hs hf => ⟨hs.1, hs.2.1, Fa.cells hf hs.2.2⟩)
      ⟨by simpa [delAll] using HSD5.out, fun i r hi => by omega⟩ ?roundG ?doneG ?stopG
    case stopG =>
      rintro D c k C W hD hk ⟨rfl, hRf, hc1⟩ hr hK
      have HDW : Hid (∀ D' ∈ D :: Ds, n0 + 7 ≤ D' ∧ W.heap[D']? = some (.deferred (some []))) := Lib.hid (fun D' hD' => by
        rcases List.mem_cons.1 hD' with rfl | hD'
        · exact ⟨by omega, hK⟩
        · have h1 := HDS5.out D' hD'
          exact ⟨h1.1, hr.at_ h1.2.2 (by omega)⟩)
      have HNDW : Hid ((D :: Ds).Nodup) := Lib.hid (List.nodup_cons.2 ⟨fun e => by have := (HDS5.out D e).2.1; omega, hDS.out.1⟩)
      have HC1 := Lib.hid hc1; have HRF := Lib.hid hRf
      have HFW : Hid (Fr (fun b => n0 ≤ b) w W) := Lib.hid (HSD5.out.fr.trans' hr (fun b _ e => by omega))
      clear hr hK hc1 hRf hG1
      gi_wp2_with fail
      refine leaves_marks (D :: Ds) W HNDW.out (fun D' hD' => (HDW.out D' hD').2) (fun W' hf hz => ?_)
      have hc := cell_obj (hf.at_ HC1.out (fun e => by have := (HDW.out _ e).1; omega)) 0 (.bool false) rfl
      refine ⟨.bool false, by simp [results, Tryz.results23, go_sem, hc], by rw [HRF.out], ?_⟩
      exact (HFW.out.trans' hf (fun b hb e => by have := (HDW.out _ e).1; omega)).mono (fun b hb e => by have := HS.out; omega)
    case roundG =>
      rintro lp k s C W hx hlp hi hr
      dsimp only [encS]
      gi_wp2
      refine Took.mk (Fr.refl _ _) hi ?_
      rintro Wb ⟨hQ, hkn⟩ hrb hf hsz hsw hCC _
      obtain ⟨r, hrA, hrs⟩ : ∃ r, A[k]? = some r ∧ r.1 = s := by
        rw [← HKS.out, List.getElem?_map] at hx
        obtain ⟨r, h1, h2⟩ := Option.map_eq_some_iff.1 hx
        exact ⟨r, h1, h2⟩
      have hsk := hokA.out r (List.mem_of_getElem? hrA)
      rw [hrs] at hsk
      have hnot : s ∉ ks.take k := fun e => by
        obtain ⟨i, hi, hie⟩ := List.getElem_of_mem e
        rw [List.length_take] at hi
        rw [List.getElem_take] at hie
        have hkl := (List.getElem?_eq_some_iff.1 hx).1
        have hxe : ks[k] = s := (List.getElem?_eq_some_iff.1 hx).2
        have hnd := hndA.out
        rw [HKS.out] at hnd
        exact List.pairwise_iff_getElem.1 hnd i k (by omega) hkl (by omega) (hie.trans hxe.symm)
      have hg1 : getS (delAll H (ks.take k)) s = getS H s := by rw [getS_delAll, if_neg hnot]
      have hg2 : getS (delAll P (ks.take k)) s = getS P s := by rw [getS_delAll, if_neg hnot]
      have hrow : rowAt A s = r.2 := by
        unfold rowAt
        have := getK_of hndA.out (x := r.1) (v := r.2) (List.mem_of_getElem? hrA)
        rw [← hrs, this]; rfl
      have hbad : Hid (¬ (r.2.held = (getS H s).getD 0 ∧ r.2.picked = (getS P s).getD 0) → R = false) := Lib.hid (fun hn => by
        cases hRb : R with
        | false => rfl
        | true =>
          have := (HSND.out.1 hRb).1 r (List.mem_of_getElem? hrA)
          rw [hrs] at this
          exact absurd this hn)
      have hgood : Hid (r.2.held = (getS H s).getD 0 ∧ r.2.picked = (getS P s).getD 0 → ∀ i r', i < k + 1 → A[i]? = some r' → r'.2.held = (getS H r'.1).getD 0 ∧ r'.2.picked = (getS P r'.1).getD 0) := Lib.hid (fun hn i r' hi h1 => by
        by_cases e : i = k
        · subst e
          rw [hrA] at h1
          cases h1
          rw [hrs]; exact hn
        · exact hkn i r' (by omega) h1)
      have hLv := sLevel Wb gs T0 A s (HSTK.out Wb hQ.fr) hsk
      have hLV2 := fun W (hf : Fr (fun _ => False) Wb W) => sLevel W gs T0 A s (HSTK.out W (hQ.fr.trans' hf (fun _ _ e => e.elim))) hsk
      rw [hrow] at hLv
      obtain ⟨rr, hrr⟩ : ∃ x, r.2 = x := ⟨_, rfl⟩
      rw [hrr] at hLv hbad hgood
      clear hrr
      obtain ⟨f0, f1, f2, f3, f4, f5, f6, f7, f8, f9, f10⟩ := rr
      dsimp only [SR.lev] at hLv hbad hgood
      obtain ⟨uh, huh⟩ : ∃ u, (getS H s).getD 0 = u := ⟨_, rfl⟩
      obtain ⟨up, hup⟩ : ∃ u, (getS P s).getD 0 = u := ⟨_, rfl⟩
      rw [huh, hup] at hbad hgood
      have hlkH : Hid (∀ W, Fr (fun _ => False) Wb W → (Instr.lookup 90 (.map (some (n0 + 2))) (vS s) false).run Tryz.prog W = .ok (.int .i64 uh) W) := Lib.hid (fun W hf => by
        have := lookN (hf.mp hQ.mh (fun e => e)) hsk
        rw [hg1, huh] at this
        exact this)
      have hlkP : Hid (∀ W, Fr (fun _ => False) Wb W → (Instr.lookup 90 (.map (some (n0 + 3))) (vS s) false).run Tryz.prog W = .ok (.int .i64 up) W) := Lib.hid (fun W hf => by
        have := lookN (hf.mp hQ.mp (fun e => e)) hsk
        rw [hg2, hup] at this
        exact this)
      have HQ := Lib.hid hQ; have HLV := Lib.hid hLv; have HSK := Lib.hid hsk
      have hT1 := Lib.hid (delAll_take (H := H) hx); have hT2 := Lib.hid (delAll_take (H := P) hx)
      have b0 := cell_obj hQ.bs 0 (.pointer (some ⟨g, 0, none⟩)) rfl
      obtain ⟨g2, g3⟩ := hgc.out _ hQ.fr
      clear hi hr hrb hf hx hQ hkn hCC hLv hLV2 hg1 hg2 hrow hnot hrA hrs huh hup hsk
      by_cases hc1 : f1 = uh
      · by_cases hc2 : f2 = up
        · have hgd := Lib.hid (hgood.out ⟨hc1, hc2⟩)
          subst hc1 hc2
          gi_wp2_with (gi_at_call 60; refine (callsIn_wide.2 HLV.out).mono ?_; rintro e w4 ⟨rfl, hf4⟩; obtain ⟨W5b, hW5b⟩ : ∃ W5b, w4.alloc (.cells #[.int .i64 f0, .int .i64 f1, .int .i64 f2, .int .i64 f3] 98) = W5b := ⟨_, rfl⟩; have HF5 : Hid (Fr (fun _ => False) Wb W5b) := Lib.hid (by rw [← hW5b]; exact hf4.alloc _); have hb5 : W5b.heap[w4.heap.size]? = some (.cells #[.int .i64 f0, .int .i64 f1, .int .i64 f2, .int .i64 f3] 98) := (by rw [← hW5b]; exact heap_at rfl _); have z1 := cell_obj hb5 1 (.int .i64 f1) rfl; have z2 := cell_obj hb5 2 (.int .i64 f2) rfl; have vh5 := HF5.out.cell (cell_obj HQ.out.vh 0 (.map (some (n0 + 2))) rfl) (fun e => e); have vp5 := HF5.out.cell (cell_obj HQ.out.vp 0 (.map (some (n0 + 3))) rfl) (fun e => e); have r5 := HF5.out.cell (cell_obj HQ.out.rs 0 (.bool false) rfl) (fun e => e); have fr5 := obj_frozen (HF5.out.at_ HQ.out.rs (fun e => e)) 0; have lk5 := hlkH.out _ HF5.out; have lk6 := hlkP.out _ HF5.out; obtain ⟨w6, hd6, hm6, ht6⟩ := (HQ.out.keep HF5.out).mh.drop kSN Tryz.underlying90 HSK.out 0; have hd6' : (Builtin.delete_ #[90, 9] 0 #[.map (some (n0 + 2)), vS s]).run Tryz.prog W5b = .ok (.tuple #[]) w6 := hd6; have hQ6 := (HQ.out.keep HF5.out).putH (Fr.turned (S := fun b => b = n0 + 2) ht6 rfl) hm6; have vp6 := cell_obj hQ6.vp 0 (.map (some (n0 + 3))) rfl; obtain ⟨w7, hd7, hm7, ht7⟩ := hQ6.mp.drop kSN Tryz.underlying90 HSK.out 0; have hd7' : (Builtin.delete_ #[90, 9] 0 #[.map (some (n0 + 3)), vS s]).run Tryz.prog w6 = .ok (.tuple #[]) w7 := hd7; have HQ7 := Lib.hid (hQ6.putP (Fr.turned (S := fun b => b = n0 + 3) ht7 rfl) hm7); have HT67 : Hid (Fr (fun b => b = n0 + 1 ∨ b = n0 + 2 ∨ b = n0 + 3) W5b w7) := Lib.hid ((Fr.turned ht6 (.inr (.inl rfl))).trans (Fr.turned ht7 (.inr (.inr rfl)))); clear hf4 hb5 hQ6 hd6 hd7 hm6 hm7 ht6 ht7)
          refine ⟨((HF5.out.mono (fun _ _ e => e.elim)).trans HT67.out).mono (fun b _ e => .inl e), ?_, hgd.out⟩
          rw [hT1.out, hT2.out]
          exact HQ7.out
        · have hRf := Lib.hid (hbad.out (fun h => hc2 h.2))
          have q2 : (f2 != up) = true := by simpa using hc2
          subst hc1
          gi_wp2_with (gi_at_call 60; refine (callsIn_wide.2 HLV.out).mono ?_; rintro e w4 ⟨rfl, hf4⟩; obtain ⟨W5b, hW5b⟩ : ∃ W5b, w4.alloc (.cells #[.int .i64 f0, .int .i64 f1, .int .i64 f2, .int .i64 f3] 98) = W5b := ⟨_, rfl⟩; have HF5 : Hid (Fr (fun _ => False) Wb W5b) := Lib.hid (by rw [← hW5b]; exact hf4.alloc _); have hb5 : W5b.heap[w4.heap.size]? = some (.cells #[.int .i64 f0, .int .i64 f1, .int .i64 f2, .int .i64 f3] 98) := (by rw [← hW5b]; exact heap_at rfl _); have z1 := cell_obj hb5 1 (.int .i64 f1) rfl; have z2 := cell_obj hb5 2 (.int .i64 f2) rfl; have vh5 := HF5.out.cell (cell_obj HQ.out.vh 0 (.map (some (n0 + 2))) rfl) (fun e => e); have vp5 := HF5.out.cell (cell_obj HQ.out.vp 0 (.map (some (n0 + 3))) rfl) (fun e => e); have r5 := HF5.out.cell (cell_obj HQ.out.rs 0 (.bool false) rfl) (fun e => e); have fr5 := obj_frozen (HF5.out.at_ HQ.out.rs (fun e => e)) 0; have lk5 := hlkH.out _ HF5.out; have lk6 := hlkP.out _ HF5.out; clear hf4 hb5)
          have hF6 : Fr (fun b => b = n0 + 1) Wb (W5b.setCell ⟨n0 + 1, 0, none⟩ (.bool false)) := Fr.setCell (S := fun b => b = n0 + 1) (HF5.out.mono (fun _ _ e => e.elim)) (p := ⟨n0 + 1, 0, none⟩) (fun _ => rfl) _
          exact ⟨hF6.mono (fun b _ e => .inl (.inl e)), rfl, hRf.out, obj_set (HF5.out.at_ HQ.out.rs (fun e => e)) 0 _⟩
      · have hRf := Lib.hid (hbad.out (fun h => hc1 h.1))
        have q1 : (f1 != uh) = true := by simpa using hc1
        gi_wp2_with (gi_at_call 60; refine (callsIn_wide.2 HLV.out).mono ?_; rintro e w4 ⟨rfl, hf4⟩; obtain ⟨W5b, hW5b⟩ : ∃ W5b, w4.alloc (.cells #[.int .i64 f0, .int .i64 f1, .int .i64 f2, .int .i64 f3] 98) = W5b := ⟨_, rfl⟩; have HF5 : Hid (Fr (fun _ => False) Wb W5b) := Lib.hid (by rw [← hW5b]; exact hf4.alloc _); have hb5 : W5b.heap[w4.heap.size]? = some (.cells #[.int .i64 f0, .int .i64 f1, .int .i64 f2, .int .i64 f3] 98) := (by rw [← hW5b]; exact heap_at rfl _); have z1 := cell_obj hb5 1 (.int .i64 f1) rfl; have z2 := cell_obj hb5 2 (.int .i64 f2) rfl; have vh5 := HF5.out.cell (cell_obj HQ.out.vh 0 (.map (some (n0 + 2))) rfl) (fun e => e); have vp5 := HF5.out.cell (cell_obj HQ.out.vp 0 (.map (some (n0 + 3))) rfl) (fun e => e); have r5 := HF5.out.cell (cell_obj HQ.out.rs 0 (.bool false) rfl) (fun e => e); have fr5 := obj_frozen (HF5.out.at_ HQ.out.rs (fun e => e)) 0; have lk5 := hlkH.out _ HF5.out; have lk6 := hlkP.out _ HF5.out; clear hf4 hb5)
        have hF6 : Fr (fun b => b = n0 + 1) Wb (W5b.setCell ⟨n0 + 1, 0, none⟩ (.bool false)) := Fr.setCell (S := fun b => b = n0 + 1) (HF5.out.mono (fun _ _ e => e.elim)) (p := ⟨n0 + 1, 0, none⟩) (fun _ => rfl) _
        exact ⟨hF6.mono (fun b _ e => .inl (.inl e)), rfl, hRf.out, obj_set (HF5.out.at_ HQ.out.rs (fun e => e)) 0 _⟩
    case doneG =>
      rintro D C W hD ⟨hQ, hkn⟩ hr hK
      rw [List.take_length] at hQ
      have HDW : Hid (∀ D' ∈ D :: Ds, n0 + 7 ≤ D' ∧ W.heap[D']? = some (.deferred (some []))) := Lib.hid (fun D' hD' => by
        rcases List.mem_cons.1 hD' with rfl | hD'
        · exact ⟨by omega, hK⟩
        · have h1 := HDS5.out D' hD'
          exact ⟨h1.1, hr.at_ h1.2.2 (by omega)⟩)
      have HNDW : Hid ((D :: Ds).Nodup) := Lib.hid (List.nodup_cons.2 ⟨fun e => by have := (HDS5.out D e).2.1; omega, hDS.out.1⟩)
      have hres : Hid (R = decide ((delAll H ks).length + (delAll P ks).length = 0)) := Lib.hid (by
        have h1 := HSND.out
        rw [HKS.out] at h1
        have h2 : ∀ r ∈ A, r.2.held = (getS H r.1).getD 0 ∧ r.2.picked = (getS P r.1).getD 0 := fun r hr => by
          obtain ⟨i, hi, rfl⟩ := List.getElem_of_mem hr
          have hkl : ks.length = A.length := by rw [← HKS.out, List.length_map]
          exact hkn i _ (by omega) (List.getElem?_eq_getElem hi)
        rw [Bool.eq_iff_iff, h1, decide_eq_true_eq]
        constructor
        · rintro ⟨-, h3, h4⟩; omega
        · intro h3; exact ⟨h2, by omega, by omega⟩)
      have hlnH := fun ty => hQ.mh.len Tryz.underlying90 ty
      have hlnP := fun ty => hQ.mp.len Tryz.underlying90 ty
      have v0 := cell_obj hQ.vh 0 (.map (some (n0 + 2))) rfl
      have v1 := cell_obj hQ.vp 0 (.map (some (n0 + 3))) rfl
      have r0 := cell_obj hQ.rs 0 (.bool false) rfl
      have q0 := obj_frozen hQ.rs 0
      obtain ⟨lh, hlh⟩ : ∃ n, (delAll H ks).length = n := ⟨_, rfl⟩
      obtain ⟨lp, hlp⟩ : ∃ n, (delAll P ks).length = n := ⟨_, rfl⟩
      rw [hlh] at hlnH
      rw [hlp] at hlnP
      rw [hlh, hlp] at hres
      have hb1 : lh ≤ 4096 := by rw [← hlh]; exact Nat.le_trans (delAll_len ks H) HHL.out.1
      have hb2 : lp ≤ 4096 := by rw [← hlp]; exact Nat.le_trans (delAll_len ks P) HHL.out.2
      have hw : IntKind.i64.wrap ((lh : Int) + lp) = (lh : Int) + lp := IntWalk.i64_in _ ⟨by omega, by omega⟩
      have HQ := Lib.hid hQ
      have hdec : Hid (((lh : Int) + lp == 0) = R) := Lib.hid (by
        rw [hres.out, Bool.eq_iff_iff]
        simp
        omega)
      have HFW : Hid (Fr (fun b => n0 ≤ b) w W) := Lib.hid hQ.fr
      clear hr hK hQ hkn hG1 hlh hlp hb1 hb2 hD
      gi_wp2_with fail
      rw [hdec.out]
      have hF6 : Fr (fun b => b = n0 + 1) W (W.setCell ⟨n0 + 1, 0, none⟩ (.bool R)) := (Fr.refl (fun b => b = n0 + 1) W).setCell (p := ⟨n0 + 1, 0, none⟩) (fun _ => rfl) _
      have hc1 : (W.setCell ⟨n0 + 1, 0, none⟩ (.bool R)).heap[n0 + 1]? = some (.cells #[.bool R] 4) := obj_set HQ.out.rs 0 _
      refine leaves_marks (D :: Ds) _ HNDW.out (fun D' hD' => hF6.at_ (HDW.out D' hD').2 (by have := (HDW.out D' hD').1; omega)) (fun W' hf hz => ?_)
      have hc := cell_obj (hf.at_ hc1 (fun e => by have := (HDW.out _ e).1; omega)) 0 (.bool R) rfl
      refine ⟨.bool R, by simp [results, Tryz.results23, go_sem, hc], rfl, ?_⟩
      exact ((HFW.out.trans' hF6 (fun b _ e => by omega)).trans' hf (fun b hb e => by have := (HDW.out _ e).1; omega)).mono (fun b hb e => by have := HS.out; omega)
  · intro x c kl y1 y2 w4 cnt4 hkey hleft hRc hat hrg4 hlt4 hg4 hs4 hen
    have hkl : kl = ktI.lit x ∧ okI x := by
      obtain ⟨x', h1, h2, h3⟩ := kHI.back hkey
      have h2 : Value.int .i64 x = .int .i64 x' := h2
      injection h2 with _ h2
      subst h2
      exact ⟨h3, h1⟩
    obtain ⟨rfl, hxok⟩ := hkl
    have hgx : ∃ v, getS l x = some v ∧ c = HV.enc v := by
      have hy2 : y1 = .held c := (Prod.ext_iff.1 (Option.some.inj hRc)).1.symm
      have h1 := hat (.held (.bool true))
      have h2 := hat (.held (.bool false))
      rw [dat_at kHI, hy2] at h1 h2
      cases e : getS l x with
      | some u => rw [e] at h1; injection h1 with h1; exact ⟨u, rfl, h1.symm⟩
      | none =>
        rw [e] at h1 h2
        injection h1 with h1
        injection h2 with h2
        rw [← h1] at h2
        cases h2
    obtain ⟨v, hgv, rfl⟩ := hgx
    have hvm := getS_mem hgv
    obtain ⟨hvo, hvk⟩ := HSB.out.rows _ hvm
    have hve : HEok x v.e := HK.out.row (x, v.e) (List.mem_map.2 ⟨_, hvm, rfl⟩)
    have hrbne : ¬ (n0 + 6 = m) := by have := hmn.out; omega
    have hsd := HL.out.sd
    have hF4 : Fr (fun b => b = n0 + 6) wo w4 := Fr.grown hg4 (fun r e _ => by cases e; rfl)
    have hsd4 := hsd.fr' hF4 (fun b e => by omega)
    have hlen := HK.out.len
    rw [mapE_len] at hlen
    have hHb : Hid (∀ k p, v.he[k]? = some p → 0 ≤ (getS (addAll H (v.he.take k)) p.1).getD 0 + p.2 ∧ (getS (addAll H (v.he.take k)) p.1).getD 0 + p.2 ≤ 1125899906842624) := Lib.hid (fun k p hp => snd_bound HL.out.hw (fun q hq => (HK.out.row (q.1, q.2.e) (List.mem_map.2 ⟨q, hq, rfl⟩)).he) hlen hve.he hp)
    have hPb : Hid (∀ k p, v.pi[k]? = some p → 0 ≤ (getS (addAll P (v.pi.take k)) p.1).getD 0 + p.2 ∧ (getS (addAll P (v.pi.take k)) p.1).getD 0 + p.2 ≤ 1125899906842624) := Lib.hid (fun k p hp => snd_bound HL.out.pw (fun q hq => (HK.out.row (q.1, q.2.e) (List.mem_map.2 ⟨q, hq, rfl⟩)).pi) hlen hve.pi hp)
    have HBD1 := hHb; have HBD2 := hPb
    have HOKP1 : Hid (∀ p ∈ v.he, okS p.1 ∧ okI p.2) := Lib.hid (fun p hp => il_okm' hvk.lh.1 hp)
    have HOKP2 : Hid (∀ p ∈ v.pi, okS p.1 ∧ okI p.2) := Lib.hid (fun p hp => il_okm' hvk.lp.1 hp)
    have hl16 : v.he.length ≤ 16 ∧ v.pi.length ≤ 16 := ⟨(mayL_iff.1 hve.he).2, (mayL_iff.1 hve.pi).2⟩
    have HOW1 : Hid (v.he ≠ [] → ∀ b, v.vh.ownBlock = some b → b < n0) := Lib.hid (fun hn b hb => by have := HSB.out.ltb b (hvk.lh.2 hn b hb); omega)
    have HOW2 : Hid (v.pi ≠ [] → ∀ b, v.vp.ownBlock = some b → b < n0) := Lib.hid (fun hn b hb => by have := HSB.out.ltb b (hvk.lp.2 hn b hb); omega)
    have HIl1 : Hid (∀ W, Fr (fun b => n0 ≤ b) w W → Il W v.vh v.he) := Lib.hid (fun W hf => hvk.lh.1.keep hf (fun hn b hb e => by have := HOW1.out hn b hb; omega))
    have HIl2 : Hid (∀ W, Fr (fun b => n0 ≤ b) w W → Il W v.vp v.pi) := Lib.hid (fun W hf => hvk.lp.1.keep hf (fun hn b hb e => by have := HOW2.out hn b hb; omega))
    have HHW := Lib.hid (HL.out.hw.step hleft hnd.out hgv hl16.1); have HPW := Lib.hid (HL.out.pw.step hleft hnd.out hgv hl16.2)
    have hsz4 : n0 + 7 ≤ w4.heap.size := by rw [hs4]; exact HL.out.sz
    have HLT4 : Hid (w4.rangeLeft m (n0 + 6) < wo.rangeLeft m (n0 + 6)) := Lib.hid (by rw [hrg4.left_eq, HL.out.rg.left_eq]; exact hlt4)
    have HLH1 : Hid (H.length + v.he.length < 9223372036854775807) := Lib.hid (by have := HL.out.hw.bound hlen; omega)
    have HLH2 : Hid (P.length + v.pi.length < 9223372036854775807) := Lib.hid (by have := HL.out.pw.bound hlen; omega)
    have HDS : Hid (Ds.Nodup ∧ ∀ D ∈ Ds, n0 + 7 ≤ D ∧ D < w4.heap.size ∧ w4.heap[D]? = some (.deferred (some []))) := Lib.hid ⟨HL.out.nd, fun D hD => by
      obtain ⟨h1, h2⟩ := HL.out.ds D hD
      have h3 := (Array.getElem?_eq_some_iff.1 h2).1
      exact ⟨h1, by omega, hF4.at_ h2 (by omega)⟩⟩
    have HRG4 := Lib.hid hrg4
    obtain ⟨a1, d1, e1⟩ := hvk.lh.1.sl
    obtain ⟨a2, d2, e2⟩ := hvk.lp.1.sl
    obtain ⟨a3, d3, e3⟩ := hvk.ls.1.sl
    obtain ⟨xo, vh, vp, vs, he, pi, sh⟩ := v
    dsimp only at e1 e2 e3 hl16 HHW HPW HIl1 HIl2 HOW1 HOW2 HOKP1 HOKP2 HBD1 HBD2 HLH1 HLH2
    subst e1 e2 e3
    obtain ⟨n1, hn1⟩ : ∃ n, he.length = n := ⟨_, rfl⟩
    obtain ⟨n2, hn2⟩ : ∃ n, pi.length = n := ⟨_, rfl⟩
    obtain ⟨n3, hn3⟩ : ∃ n, sh.length = n := ⟨_, rfl⟩
    have HN1 := Lib.hid hn1; have HN2 := Lib.hid hn2
    rw [hn1] at HIl1 HOW1
    rw [hn2] at HIl2 HOW2
    have hen' : (Instr.entry (.pointer (some ⟨n0 + 6, 0, none⟩))).run Tryz.prog w4 = .ok (.tuple #[.int .i64 x, .agg #[.int .i64 xo, .slice a1 n1 d1, .slice a2 n2 d2, .slice a3 n3 d3]]) w4 := by
      rw [← hn1, ← hn2, ← hn3]; exact hen
    have HSD4 := Lib.hid hsd4
    clear hen hn1 hn2 hn3 hvm hvo hvk hve hgv hHb hPb hl16 hsd hF4 hg4 hrg4 hrg hkey hat hRc hleft hlt4 hsd4 hlen hxok hs4
    obtain ⟨hb, hhb⟩ : ∃ b, w4.heap.size = b := ⟨_, rfl⟩
    gi_wp2_with (gi_at_call 58; refine (callsIn_wide.2 (iAll _ _ _ _)).mono ?_; rintro e w5 ⟨rfl, rfl⟩)
    (try rw [World.size_alloc])
    obtain ⟨W5, hW5⟩ : ∃ W5, (w4.alloc (.cells #[.int .i64 xo, .slice a1 n1 d1, .slice a2 n2 d2, .slice a3 n3 d3] 37)).alloc (.cells #[.slice a1 n1 d1] 27) = W5 := ⟨_, rfl⟩
    (try rw [hhb])
    rw [hW5]
    have hF5 : Fr (fun _ => False) w4 W5 := by rw [← hW5]; exact ((Fr.refl _ _).alloc _).alloc _
    have hbx5 : W5.heap[hb]? = some (.cells #[.int .i64 xo, .slice a1 n1 d1, .slice a2 n2 d2, .slice a3 n3 d3] 37) := by rw [← hW5]; exact heap_keep (heap_at hhb.symm _) _
    have hB1 : Boxed W5 (hb + 1) 27 (.slice a1 n1 d1) := by rw [← hW5]; exact heap_at (by simp; omega) _
    have hz5 : W5.heap.size = hb + 2 := by rw [← hW5]; simp; omega
    have hsd5 := HSD4.out.keep hF5
    have hLi1 := HIl1.out W5 hsd5.fr
    have HSZ1 : Hid (n0 + 7 ≤ hb ∧ W5.heap.size = hb + 2) := Lib.hid ⟨by omega, hz5⟩
    have HF5 := Lib.hid hF5; have HBX5 := Lib.hid hbx5; have HSD5 := Lib.hid hsd5; have HHB := Lib.hid hhb
    clear hW5 hF5 hbx5 hz5 hsd5 hhb hsz4
    refine rangeX (w0 := W5) (X := he) (S := fun b => b = n0 + 2) rfl (enters_of Tryz.func95 (by kernel_rfl) rfl)
      (iAll1 _ W5 _ _ he hB1 hLi1 (by have := HSZ1.out; omega) (fun hl b hb e => by have := HOW1.out hl b e; omega)) (Below.refl _ _) (fun b hb => by have := HSZ1.out; omega) (fun _ => rfl)
      (fun k _ W => Mp Tryz.prog W 9 ktS encN (n0 + 2) (addAll H (he.take k))) (fun _ _ _ _ => False)
      (fun k C W W' hs hf => Fa.mp hf hs) (fun c k C W W' hs hf => hs)
      (by simpa [addAll] using HSD5.out.mh) ?round1 ?done1 ?stop1
    case stop1 => intro D c k C W hD hk hX; exact hX.elim
    case round1 =>
      rintro lp k p C W hx hlp hi hr
      dsimp only [encIt]
      gi_wp2
      refine Took.mk (Fr.refl _ _) hi ?_
      rintro Wb hM hrb hf hsz hsw hCC _
      have hkp := HOKP1.out p (List.mem_of_getElem? hx)
      have hbd := HBD1.out k p hx
      have hlk := lookN hM hkp.1
      have hT := Lib.hid (addAll_take (H := H) hx)
      have hlenH : (addAll H (he.take k)).length < 9223372036854775807 := by
        have h1 := addAll_len H (he.take k)
        have h2 := HLH1.out
        rw [List.length_take] at h1
        omega
      have hvb := cell_obj (hrb.at_ HSD5.out.vh (by omega)) 0 (.map (some (n0 + 2))) rfl
      obtain ⟨gd, n⟩ := p
      dsimp only at hkp hbd hlk hT ⊢
      unfold addAt at hT
      dsimp only at hT
      obtain ⟨u, hu⟩ : ∃ u, (getS (addAll H (he.take k)) gd).getD 0 = u := ⟨_, rfl⟩
      rw [hu] at hlk hbd hT
      obtain ⟨w5, hst5, hm5, ht5⟩ := hM.store kSN Tryz.underlying90 hlenH hkp.1 (u + n)
      have hst5' : (Instr.mapUpdate 90 (.map (some (n0 + 2))) (vS gd) (.int .i64 (u + n))).run Tryz.prog Wb = .ok () w5 := hst5
      have hw : IntKind.i64.wrap (u + n) = u + n := IntWalk.i64_in _ ⟨by omega, by omega⟩
      have HM5 := Lib.hid hm5; have HT5 := Lib.hid ht5
      clear hi hr hrb hf hx hM hm5 ht5 hst5 hu hkp hbd hlenH hCC
      gi_wp2_with fail
      refine ⟨(Fr.turned (S := fun b => b = n0 + 2) HT5.out rfl).mono (fun _ _ e => .inl e), ?_⟩
      dsimp only
      rw [hT.out]
      exact HM5.out
    case done1 =>
    rintro D1 C1 W1 hD1 hM1 hr1 hK1
    rw [List.take_length] at hM1
    have hsd6 := HSD5.out.putH hr1 hM1
    have hbx6 := hr1.at_ HBX5.out (by have := HSZ1.out; omega)
    have y2 := cell_obj hbx6 2 (.slice a2 n2 d2) rfl
    have HSD6 := Lib.hid hsd6; have HR1 := Lib.hid hr1; have HK1 := Lib.hid hK1; have HD1 := Lib.hid hD1
    have hD1l := (Array.getElem?_eq_some_iff.1 hK1).1
    clear hM1 hsd6 hbx6 hr1 hK1 hD1 hB1 hLi1
    gi_wp2_with (gi_at_call 58; refine (callsIn_wide.2 (iAll _ _ _ _)).mono ?_; rintro e w7 ⟨rfl, rfl⟩)
    obtain ⟨W7, hW7⟩ : ∃ W7, W1.alloc (.cells #[.slice a2 n2 d2] 27) = W7 := ⟨_, rfl⟩
    (try rw [hW7])
    have hF7 : Fr (fun _ => False) W1 W7 := by rw [← hW7]; exact (Fr.refl _ _).alloc _
    have hB2 : Boxed W7 W1.heap.size 27 (.slice a2 n2 d2) := by rw [← hW7]; exact heap_at rfl _
    have hz7 : W7.heap.size = W1.heap.size + 1 := by rw [← hW7]; simp
    have hsd7 := HSD6.out.keep hF7
    have hLi2 := HIl2.out W7 hsd7.fr
    have hz1 := HR1.out.size
    have HSZ2 : Hid (n0 + 9 ≤ W1.heap.size ∧ W7.heap.size = W1.heap.size + 1) := Lib.hid ⟨by have := HSZ1.out; omega, hz7⟩
    have HF7 := Lib.hid hF7; have HSD7 := Lib.hid hsd7; have HD1L := Lib.hid hD1l
    clear hW7 hF7 hz7 hsd7 hz1 hD1l
    refine rangeX (w0 := W7) (X := pi) (S := fun b => b = n0 + 3) rfl (enters_of Tryz.func95 (by kernel_rfl) rfl)
      (iAll1 _ W7 _ _ pi hB2 hLi2 (by have := HSZ2.out; omega) (fun hl b hb e => by have := HOW2.out hl b e; omega)) (Below.refl _ _) (fun b hb => by have := HSZ2.out; omega) (fun _ => rfl)
      (fun k _ W => Mp Tryz.prog W 9 ktS encN (n0 + 3) (addAll P (pi.take k))) (fun _ _ _ _ => False)
      (fun k C W W' hs hf => Fa.mp hf hs) (fun c k C W W' hs hf => hs)
      (by simpa [addAll] using HSD7.out.mp) ?round2 ?done2 ?stop2
    case stop2 => intro D c k C W hD hk hX; exact hX.elim
    case round2 =>
      rintro lp k p C W hx hlp hi hr
      dsimp only [encIt]
      gi_wp2
      refine Took.mk (Fr.refl _ _) hi ?_
      rintro Wb hM hrb hf hsz hsw hCC _
      have hkp := HOKP2.out p (List.mem_of_getElem? hx)
      have hbd := HBD2.out k p hx
      have hlk := lookN hM hkp.1
      have hT := Lib.hid (addAll_take (H := P) hx)
      have hlenH : (addAll P (pi.take k)).length < 9223372036854775807 := by
        have h1 := addAll_len P (pi.take k)
        have h2 := HLH2.out
        rw [List.length_take] at h1
        omega
      have hvb := cell_obj (hrb.at_ HSD7.out.vp (by omega)) 0 (.map (some (n0 + 3))) rfl
      obtain ⟨gd, n⟩ := p
      dsimp only at hkp hbd hlk hT ⊢
      unfold addAt at hT
      dsimp only at hT
      obtain ⟨u, hu⟩ : ∃ u, (getS (addAll P (pi.take k)) gd).getD 0 = u := ⟨_, rfl⟩
      rw [hu] at hlk hbd hT
      obtain ⟨w5, hst5, hm5, ht5⟩ := hM.store kSN Tryz.underlying90 hlenH hkp.1 (u + n)
      have hst5' : (Instr.mapUpdate 90 (.map (some (n0 + 3))) (vS gd) (.int .i64 (u + n))).run Tryz.prog Wb = .ok () w5 := hst5
      have hw : IntKind.i64.wrap (u + n) = u + n := IntWalk.i64_in _ ⟨by omega, by omega⟩
      have HM5 := Lib.hid hm5; have HT5 := Lib.hid ht5
      clear hi hr hrb hf hx hM hm5 ht5 hst5 hu hkp hbd hlenH hCC
      gi_wp2_with fail
      refine ⟨(Fr.turned (S := fun b => b = n0 + 3) HT5.out rfl).mono (fun _ _ e => .inl e), ?_⟩
      dsimp only
      rw [hT.out]
      exact HM5.out
    case done2 =>
    rintro D2 C2 W2 hD2 hM2 hr2 hK2
    rw [List.take_length] at hM2
    have hsd8 := HSD7.out.putP hr2 hM2
    have hall : Fr (fun b => b = n0 + 2 ∨ b = n0 + 3) w4 W2 := (((HF5.out.mono (fun _ _ e => e.elim)).trans' (HR1.out.mono (fun _ _ e => .inl e)) (fun _ _ e => e)).trans' (HF7.out.mono (S' := fun _ => False) (fun _ _ e => e)) (fun _ _ e => e.elim)).trans' (hr2.mono (fun _ _ e => .inr e)) (fun _ _ e => e)
    have hzz : w4.heap.size ≤ W2.heap.size := hall.size
    have hD2l := (Array.getElem?_eq_some_iff.1 hK2).1
    have hz72 := hr2.size
    have hK1' : W2.heap[D1]? = some (.deferred (some [])) := hr2.at_ (HF7.out.at_ HK1.out (fun e => e)) (by have := HD1.out; have := HSZ1.out; omega)
    have hnew : SdL w W2 n0 g m nn l (D2 :: D1 :: Ds) (fun z => left z && !z.sameKey (ktI.lit x)) cnt4 (addAll H he) (addAll P pi) := by
      have h1 := HSZ1.out; have h2 := HSZ2.out; have h3 := HD1.out; have h4 := HD1L.out; have h5 := HHB.out; have h6 := hmn.out
      refine ⟨hsd8, ranges_fr HRG4.out hall (by omega) (by omega), HHW.out, HPW.out, List.nodup_cons.2 ⟨fun e => ?_, List.nodup_cons.2 ⟨fun e => ?_, HDS.out.1⟩⟩, fun D hD => ?_, by omega⟩
      · rcases List.mem_cons.1 e with e | e
        · omega
        · have := (HDS.out.2 _ e).2.1; omega
      · have := (HDS.out.2 _ e).2.1; omega
      · rcases List.mem_cons.1 hD with rfl | hD
        · exact ⟨by omega, hK2⟩
        · rcases List.mem_cons.1 hD with rfl | hD
          · exact ⟨by omega, hK1'⟩
          · have := HDS.out.2 D hD
            exact ⟨this.1, hall.at_ this.2.2 (by omega)⟩
    have HNEW := Lib.hid hnew
    have HLT : Hid (W2.rangeLeft m (n0 + 6) < wo.rangeLeft m (n0 + 6)) := Lib.hid (by rw [HNEW.out.rg.left_eq, ← HRG4.out.left_eq]; exact HLT4.out)
    clear hsd8 hall hzz hM2 hr2 hK2 hD2 hD2l hz72 hK1' hnew hB2 hLi2
    gi_wp2_with fail
    exact ⟨⟨_, _, _, _, _, _, _, _, _, _, _, _, _, _, _, _, _, _, _, _, _, _, _, _, _, _, _, _, _, D2 :: D1 :: Ds, _, _, _, _, rfl, HNEW.out⟩, HLT.out⟩
end Go.Proofs.YtogphlnakdnchaaGreat

namespace Go.Proofs.YtogphlnakdnchaaGreat
open Go.RowKit Go.Maps
theorem tkT_len (t : Tst) {m : Int} (hm : 0 ≤ m) : ((tkT t m).1.length : Int) ≤ m := by
  have h := tk_in t (a := 0) (b := m) (Int.le_refl _) hm
  unfold tkT
  dsimp only
  split <;> (try split) <;> simp [bS, List.length_take] <;> omega
/-- What Unpack leaves. -/
def UpP (w : World) (Z : Option Stk) (e : Ending) (w' : World) : Prop := Fr (fun _ => False) w w' ∧ match Z with
  | some A => ∃ g TS, e = .returned (.tuple #[.pointer (some ⟨g, 0, none⟩), .int .i64 0]) ∧ SA w' g TS A ∧ ∀ b, TS b → w.heap.size ≤ b
  | none => e = .returned (.tuple #[.pointer none, .int .i64 10])
def ZU (Z : Option Stk) (U : Option (Stk × Tst)) : Prop := match U with | none => Z = none | some (A, t) => Z = if doneT t.1 t.2 = 0 then some A else none
theorem rowCells {W : World} {b : Nat} {f0 f1 f2 f3 f4 f5 f6 f7 f8 f9 f10 : Int} (h : RowAt W b ⟨f0, f1, f2, f3, f4, f5, f6, f7, f8, f9, f10⟩) :
    W.cell? ⟨b, 0, none⟩ = some (.int .i64 f0) ∧ W.cell? ⟨b, 1, none⟩ = some (.int .i64 f1) ∧ W.cell? ⟨b, 2, none⟩ = some (.int .i64 f2) ∧ W.cell? ⟨b, 3, none⟩ = some (.int .i64 f3) ∧ W.cell? ⟨b, 4, none⟩ = some (.int .i64 f4) ∧ W.cell? ⟨b, 5, none⟩ = some (.int .i64 f5) ∧ W.cell? ⟨b, 6, none⟩ = some (.int .i64 f6) ∧ W.cell? ⟨b, 7, none⟩ = some (.int .i64 f7) ∧ W.cell? ⟨b, 8, none⟩ = some (.int .i64 f8) ∧ W.cell? ⟨b, 9, none⟩ = some (.int .i64 f9) ∧ W.cell? ⟨b, 10, none⟩ = some (.int .i64 f10) :=
  ⟨cell_obj h 0 _ rfl, cell_obj h 1 _ rfl, cell_obj h 2 _ rfl, cell_obj h 3 _ rfl, cell_obj h 4 _ rfl, cell_obj h 5 _ rfl, cell_obj h 6 _ rfl, cell_obj h 7 _ rfl, cell_obj h 8 _ rfl, cell_obj h 9 _ rfl, cell_obj h 10 _ rfl⟩
/-- On the way of Unpack: what is taken, what is left, what is laid. -/
structure UpI (w w1 : World) (gt : Nat) (TT : Nat → Prop) (gs s0 : Nat) (U : Option (Stk × Tst)) (n : Nat) (t : Tst) (last : Str) (B : Stk) (W : World) : Prop where
  tk : TK W gt TT t.1 t.2
  st : SA W gs (fun b => b = s0 ∨ b = s0 + 1) B
  fr : Fr (fun _ => False) w W
  rest : unpL n t last B = U
  len : B.length + n ≤ 64
  ok : okS last
set_option maxRecDepth 100000 in
set_option maxHeartbeats 8000000 in
theorem sUnpack (w : World) (v : Value) (bs : List Int) (h : Bs w v bs) (hl : (bs.length : Int) ≤ 140737488351232) (hb : Byt bs) (ho : ∀ b, v.ownBlock = some b → b < w.heap.size) :
    Calls Tryz.prog 62 #[v] w (UpP w (unpS bs)) := by
  obtain ⟨Z, hZ⟩ : ∃ Z, unpS bs = Z := ⟨_, rfl⟩
  rw [hZ]
  have HZ := Lib.hid hZ
  obtain ⟨n0, hn0⟩ : ∃ n0, w.heap.size = n0 := ⟨_, rfl⟩
  have HS := Lib.hid hn0
  have HTk := Lib.hid (cTake w v bs h hl hb)
  clear hZ h hl hb ho
  go_enter Tryz.func62, Tryz.ntmps62
  go_wp2_with (first
    | (go_at_call 61; refine HTk.out.mono ?_; rintro e w1 ⟨gt, TT, rfl, ht1, hf1, hl1⟩; have HT1 := Lib.hid ht1; have HF1 := Lib.hid hf1; have HL1 := Lib.hid hl1; clear ht1 hf1 hl1)
    | (go_at_call 24; refine (sNew _).mono ?_; rintro e w2 ⟨rfl, hs2, hf2, hz2⟩; have HS2 := Lib.hid hs2; have HF2 := Lib.hid hf2; have HZ2 := Lib.hid hz2; clear hs2 hf2 hz2)
    | (go_at_call 64; refine (xTk w2 gt TT (bs, false) 0 64 (HT1.out.fr HF2.out (fun _ _ h => h))).mono ?_; rintro e w3 ⟨rfl, ht3, hf3⟩; have HT3 := Lib.hid ht3; have HF3 := Lib.hid hf3; clear ht3 hf3))
  obtain ⟨q0, hq0⟩ : ∃ q, tk (bs, false) 0 64 = q := ⟨_, rfl⟩
  have hqi := tk_in (bs, false) (a := 0) (b := 64) (by omega) (by omega)
  rw [hq0] at hqi HT3 ⊢
  obtain ⟨N, hN⟩ : ∃ N : Nat, q0.1 = N := ⟨q0.1.toNat, by omega⟩
  have hUU : Hid (ZU Z (unpL N q0.2 [] [])) := Lib.hid (by
    have := HZ.out
    unfold unpS at this
    rw [hq0, hN] at this
    rw [show ((N : Int)).toNat = N by omega] at this
    unfold ZU
    cases e : unpL N q0.2 [] [] with
    | none => rw [e] at this; exact this.symm
    | some p => rw [e] at this; exact this.symm)
  obtain ⟨U, hU⟩ : ∃ U, unpL N q0.2 [] [] = U := ⟨_, rfl⟩
  rw [hU] at hUU
  rw [hN] at hqi ⊢
  have hz1 : Hid (w1.heap.size + 1 < w3.heap.size) := Lib.hid (by have := HF3.out.size; have := HZ2.out; omega)
  have hI0 : UpI w w1 gt TT (w1.heap.size + 1) w1.heap.size U N q0.2 [] [] w3 := ⟨HT3.out, HS2.out.fr HF3.out (fun b hb e => by have := HT1.out.lt b e; omega), (HF1.out.trans HF2.out).trans' HF3.out (fun b hb e => by have := HL1.out b e; have := HS.out; omega), hU, by simp; omega, by simp [okS]⟩
  have HI0 := Lib.hid hI0
  obtain ⟨s0, hs0⟩ : ∃ s0, w1.heap.size = s0 := ⟨_, rfl⟩
  have HLT : Hid (∀ b, TT b → b < s0) := Lib.hid (by rw [← hs0]; exact HT1.out.lt)
  have hs1 : Hid (n0 ≤ s0) := Lib.hid (by have := HF1.out.size; have := HS.out; omega)
  rw [hs0] at hI0 HI0 hz1 ⊢
  have HQ := Lib.hid hq0; have HNN := Lib.hid hN; have HU := Lib.hid hU
  have hN64 : (N : Int) ≤ 64 := hqi.2
  clear HTk hI0 hq0 hN hU HF1 HT1 HS2 HF2 HZ2 HT3 HF3 hs0 hqi
  go_loopw [16, 6] (fun i ls wr => ∃ (k : Nat) (t : Tst) (last : Str) (B : Stk), k ≤ N ∧ i = .int .i64 k ∧ ls = vS last ∧ UpI w w1 gt TT (s0 + 1) s0 U (N - k) t last B wr) (fun i _ _ => N - (intOf i).toNat)
  case atStart => exact ⟨0, q0.2, [], [], Nat.zero_le _, rfl, rfl, HI0.out⟩
  case round =>
    obtain ⟨k, t, last, B, hk, rfl, rfl, hI⟩ := hrel
    have HI := Lib.hid hI
    clear hI
    by_cases hlt : k < N
    · have hlI : (k : Int) < N := by omega
      have hrest : Hid (unpL (N - k) t last B = U) := Lib.hid HI.out.rest
      obtain ⟨T1, hT1⟩ : ∃ T, tkT t 16 = T := ⟨_, rfl⟩
      have hTx := Lib.hid (cTText wr gt TT t 16 HI.out.tk (by omega))
      rw [hT1] at hTx
      have hgl := tkT_len t (m := 16) (by omega)
      rw [hT1] at hgl
      obtain ⟨gd, t1⟩ := T1
      dsimp only at hTx hgl
      have HT1 := Lib.hid hT1; have HGL := Lib.hid hgl
      clear hT1 hgl
      go_wp2_with (first
        | (go_at_call 63; refine hTx.out.mono ?_; rintro e w4 ⟨rfl, ht4, hf4⟩; have HT4 := Lib.hid ht4; have HF4 := Lib.hid hf4; clear ht4 hf4)
        | (go_at_call 91; refine (sNumbers _ _).mono ?_; rintro e w6 ⟨rfl, hf6⟩; have HF6 := Lib.hid hf6; clear hf6))
      obtain ⟨rb, hrb⟩ : ∃ rb, w4.heap.size = rb := ⟨_, rfl⟩
      have hrow0 : RowAt (w4.alloc (.cells SR.zero.cs 121)) w4.heap.size SR.zero := heap_new _ _
      have hrow6 := HF6.out.at_ hrow0 (fun h => h)
      have hf46 : Fr (fun _ => False) w4 w6 := ((Fr.refl _ w4).alloc _).trans HF6.out
      have hT6 := HT4.out.fr hf46 (fun _ _ h => h)
      have hnT : Hid (¬ TT rb) := Lib.hid (fun e => by have := HT4.out.lt _ e; omega)
      rw [hrb] at hrow6 ⊢
      obtain ⟨Pt, hPt⟩ : ∃ Pt, ptrs rb = Pt := ⟨_, rfl⟩
      rw [hPt]
      have HPT := Lib.hid hPt; have HRW0 := Lib.hid hrow6; have HF46 := Lib.hid hf46; have HT6 := Lib.hid hT6; have HRB := Lib.hid hrb
      clear hrow0 hrow6 hf46 hT6 hPt hrb HF6 hTx HT4
      have hzr : s0 + 1 < wr.heap.size := by have := HI.out.st.lt (s0 + 1) (.inr rfl); exact this
      obtain ⟨wo, hwo⟩ : ∃ wo, wr = wo := ⟨_, rfl⟩
      rw [hwo] at HI HF4 hzr
      have HWO := Lib.hid hzr
      clear hwo hzr
      go_loopw [22] (fun i wq => ∃ j : Nat, j ≤ 11 ∧ i = .int .i64 j ∧ TK wq gt TT (tkNums t1 j).2.1 (tkNums t1 j).2.2 ∧ RowAt wq rb (tkNums t1 j).1 ∧ Fr (fun b => TT b ∨ b = rb) w6 wq) (fun i _ => 11 - (intOf i).toNat)
      case atStart => exact ⟨0, Nat.zero_le _, rfl, HT6.out, HRW0.out, Fr.refl _ _⟩
      case round =>
        obtain ⟨j, hj, rfl, hTj, hRj, hFj⟩ := hrel
        by_cases hlj : j < 11
        · have hix := idxPtr wr rb hlj
          rw [HPT.out] at hix
          have hlJ : (j : Int) < 11 := by omega
          have hnum := Lib.hid (xTk wr gt TT (tkNums t1 j).2 minI maxI hTj)
          obtain ⟨R, hR⟩ : ∃ R, (tkNums t1 j).1 = R := ⟨_, rfl⟩
          obtain ⟨q, hq⟩ : ∃ q, tk (tkNums t1 j).2 minI maxI = q := ⟨_, rfl⟩
          have hnext : Hid (tkNums t1 (j + 1) = (R.set j q.1, q.2)) := Lib.hid (by show ((tkNums t1 j).1.set j (tk (tkNums t1 j).2 minI maxI).1, (tk (tkNums t1 j).2 minI maxI).2) = _; rw [hR, hq])
          rw [hR] at hRj
          rw [hq] at hnum
          have HRj := Lib.hid hRj; have HFj := Lib.hid hFj
          clear hTj hRj hFj hR hq
          go_wp2_with (go_at_call 64; refine hnum.out.mono ?_; rintro e wz ⟨rfl, htz, hfz⟩; have hRz := hfz.at_ HRj.out hnT.out; have hcz := cell_obj hRz j _ (R.cs_get hlj); have hzz := obj_frozen hRz j; have HTZ := Lib.hid htz; have HFZ := Lib.hid hfz; have HRZ := Lib.hid hRz; clear htz hfz hRz)
          go_roundw
          case rel =>
            have hset := obj_set HRZ.out j (.int .i64 q.1)
            rw [R.cs_set hlj] at hset
            have hfs : Fr (fun b => b = rb) wz (wz.setCell ⟨rb, j, none⟩ (.int .i64 q.1)) := (Fr.refl (fun b => b = rb) wz).setCell (p := ⟨rb, j, none⟩) (fun _ => rfl) _
            refine ⟨j + 1, by omega, by go_num, ?_, ?_, ?_⟩
            · rw [hnext.out]; exact HTZ.out.fr hfs (fun b hb e => hnT.out (e ▸ hb))
            · rw [hnext.out]; exact hset
            · exact (HFj.out.trans (HFZ.out.mono (fun _ _ e => .inl e))).trans (hfs.mono (fun _ _ e => .inr e))
          case measure => simp [intOf]; omega
        · obtain rfl : j = 11 := by omega
          obtain ⟨RT, hRT⟩ : ∃ RT, tkNums t1 11 = RT := ⟨_, rfl⟩
          rw [hRT] at hTj hRj
          have htr : Hid (tkRow t = (gd, RT)) := Lib.hid (by unfold tkRow; rw [HT1.out, hRT])
          obtain ⟨R, t2⟩ := RT
          dsimp only at hTj hRj
          have hokg : Hid (okS gd) := Lib.hid (by have := HGL.out; unfold okS maxLen; omega)
          obtain ⟨M, hM⟩ : ∃ M, N - k = M + 1 := ⟨N - k - 1, by omega⟩
          have hstep : Hid (U = if rowMay last gd R = true then unpL M t2 gd (putS ktS.lt B gd R) else none) := Lib.hid (by
            rw [← hrest.out, hM]
            show (if rowMay last (tkRow t).1 (tkRow t).2.1 = true then unpL M (tkRow t).2.2 (tkRow t).1 (putS ktS.lt B (tkRow t).1 (tkRow t).2.1) else none) = _
            rw [htr.out])
          have hfw : Hid (Fr (fun b => TT b ∨ rb ≤ b) wo wr) := Lib.hid (by
            have h1 := HF4.out
            have h2 := HF46.out
            have hs := HRB.out
            exact ((h1.mono (S' := fun b => TT b ∨ rb ≤ b) (fun b _ e => .inl e)).trans (h2.mono (fun b _ e => e.elim))).trans (hFj.mono (fun b _ e => e.elim .inl (fun e => .inr (by omega)))))
          have HRW := Lib.hid hRj; have HTj := Lib.hid hTj; have HMM := Lib.hid hM
          clear hTj hRj hFj hRT hM hrest
          obtain ⟨f0, f1, f2, f3, f4, f5, f6, f7, f8, f9, f10⟩ := R
          have HFQ : Hid (Fr (fun _ => False) w wr) := Lib.hid (HI.out.fr.trans' hfw.out (fun b hb e => by have := HL1.out; have := HI.out.fr.size; have := HRB.out; have := HF4.out.size; have := HS.out; exact e.elim (fun e => by have := HL1.out b e; omega) (fun e => by omega)))
          have hbad : Hid (rowMay last gd ⟨f0, f1, f2, f3, f4, f5, f6, f7, f8, f9, f10⟩ = false → Z = none) := Lib.hid (fun e => by
            have h1 := hstep.out
            rw [e] at h1
            have h2 := hUU.out
            rw [h1] at h2
            exact h2)
          obtain ⟨bal, hbal⟩ : ∃ b, (SR.mk f0 f1 f2 f3 f4 f5 f6 f7 f8 f9 f10).bal = b := ⟨_, rfl⟩
          obtain ⟨ri, hri⟩ : ∃ b, (SR.mk f0 f1 f2 f3 f4 f5 f6 f7 f8 f9 f10).right = b := ⟨_, rfl⟩
          have hBal : Hid (∀ W, Calls Tryz.prog 99 #[.agg #[.int .i64 f0, .int .i64 f1, .int .i64 f2, .int .i64 f3], .agg #[.int .i64 f4, .int .i64 f5, .int .i64 f6, .int .i64 f7, .int .i64 f8, .int .i64 f9, .int .i64 f10]] W fun e w' => e = .returned (.bool bal) ∧ Fr (fun _ => False) W w') := Lib.hid (fun W => by rw [← hbal]; exact sBalanced W ⟨f0, f1, f2, f3, f4, f5, f6, f7, f8, f9, f10⟩)
          by_cases hg : goodB gd = true
          · rcases str_tri last gd with hlt2 | heq | hgt
            · have q1 : Op.bytesLess gd last = false := by rw [bytesLess_eq]; simpa using str_asym hlt2
              have q2 : (gd == last) = false := by
                simp only [beq_eq_false_iff_ne, ne_eq]
                rintro rfl; exact str_irr _ hlt2
              have HL2 := Lib.hid hlt2
              clear hlt2
              cases bal with
              | false =>
                have hZ0 := Lib.hid (hbad.out (by unfold rowMay; rw [hbal]; simp))
                clear hbal
                go_wp2_with (first
                  | (go_at_call 67; refine (iGood _ gd hokg.out).mono ?_; rw [hg]; rintro e w7 ⟨rfl, hf7⟩; have hr7 := hf7.at_ HRW.out (fun h => h); have HR7 := Lib.hid hr7; obtain ⟨d0, d1, d2, d3, d4, d5, d6, d7, d8, d9, d10⟩ := rowCells hr7; have HF7 := Lib.hid hf7; clear hr7 hf7)
                  | (go_at_call 99; refine (hBal.out _).mono ?_; rintro e w8 ⟨rfl, hf8⟩; have HF8 := Lib.hid hf8; have HR8 := Lib.hid (hf8.at_ HR7.out (fun h => h)); clear hf8)
                  | (go_at_call 76; refine (sRight _ _ _ HR8.out).mono ?_; rw [HRI.out]; rintro e w9 ⟨rfl, hf9⟩; have HF9 := Lib.hid hf9; clear hf9))
                go_ret2
                exact ⟨(HFQ.out.trans HF7.out).trans HF8.out, by rw [hZ0.out]; rfl⟩
              | true =>
                cases ri with
                | false =>
                  have hZ0 := Lib.hid (hbad.out (by unfold rowMay; rw [hri]; simp))
                  have HRI := Lib.hid hri
                  clear hbal hri
                  go_wp2_with (first
                    | (go_at_call 67; refine (iGood _ gd hokg.out).mono ?_; rw [hg]; rintro e w7 ⟨rfl, hf7⟩; have hr7 := hf7.at_ HRW.out (fun h => h); have HR7 := Lib.hid hr7; obtain ⟨d0, d1, d2, d3, d4, d5, d6, d7, d8, d9, d10⟩ := rowCells hr7; have HF7 := Lib.hid hf7; clear hr7 hf7)
                    | (go_at_call 99; refine (hBal.out _).mono ?_; rintro e w8 ⟨rfl, hf8⟩; have HF8 := Lib.hid hf8; have HR8 := Lib.hid (hf8.at_ HR7.out (fun h => h)); clear hf8)
                    | (go_at_call 76; refine (sRight _ _ _ HR8.out).mono ?_; rw [HRI.out]; rintro e w9 ⟨rfl, hf9⟩; have HF9 := Lib.hid hf9; clear hf9))
                  go_ret2
                  exact ⟨((HFQ.out.trans HF7.out).trans HF8.out).trans HF9.out, by rw [hZ0.out]; rfl⟩
                | true =>
                  have hyes : Hid (rowMay last gd ⟨f0, f1, f2, f3, f4, f5, f6, f7, f8, f9, f10⟩ = true) := Lib.hid (by unfold rowMay; rw [hbal, hri, hg, decide_eq_true HL2.out]; rfl)
                  have HRI := Lib.hid hri
                  clear hbal hri
                  go_wp2_with (first
                    | (go_at_call 67; refine (iGood _ gd hokg.out).mono ?_; rw [hg]; rintro e w7 ⟨rfl, hf7⟩; have hr7 := hf7.at_ HRW.out (fun h => h); have HR7 := Lib.hid hr7; obtain ⟨d0, d1, d2, d3, d4, d5, d6, d7, d8, d9, d10⟩ := rowCells hr7; have HF7 := Lib.hid hf7; clear hr7 hf7)
                    | (go_at_call 99; refine (hBal.out _).mono ?_; rintro e w8 ⟨rfl, hf8⟩; have HF8 := Lib.hid hf8; have HR8 := Lib.hid (hf8.at_ HR7.out (fun h => h)); clear hf8)
                    | (go_at_call 76; refine (sRight _ _ _ HR8.out).mono ?_; rw [HRI.out]; rintro e w9 ⟨rfl, hf9⟩; have HF9 := Lib.hid hf9; clear hf9))
                  have hF : Fr (fun _ => False) wr w9.drew := ((HF7.out.trans HF8.out).trans HF9.out).drew
                  have hB3 : RowAt w9.drew rb ⟨f0, f1, f2, f3, f4, f5, f6, f7, f8, f9, f10⟩ := hF.at_ HRW.out (fun h => h)
                  have hrs : Hid (s0 + 1 < rb) := Lib.hid (by have := hz1.out; have := HRB.out; have := HF4.out.size; have := HWO.out; omega)
                  have hsA := (HI.out.st.fr hfw.out (fun b hb e => by have := hrs.out; exact e.elim (fun e => by have := HLT.out b e; omega) (fun e => by omega))).fr hF (fun _ _ h => h)
                  have hmm : ∃ m, w9.drew.heap[s0 + 1]? = some (.cells #[.map (some m)] 102) ∧ Mp Tryz.prog w9.drew 9 ktS SR.enc m B ∧ (m = s0 ∨ m = s0 + 1) := hsA.ex
                  obtain ⟨m, hgc, hmp, hTm⟩ := hmm
                  obtain ⟨w5, hst5, hm5, ht5⟩ := hmp.store kS Tryz.underlying100 (by have := HI.out.len; omega) hokg.out (SR.mk f0 f1 f2 f3 f4 f5 f6 f7 f8 f9 f10)
                  have hne : s0 + 1 ≠ m := map_ne_cells hmp hgc
                  have hltA := hsA.lt
                  obtain ⟨d0, d1, d2, d3, d4, d5, d6, d7, d8, d9, d10⟩ := rowCells hB3
                  have cg := cell_obj hgc 0 (.map (some m)) rfl
                  have hst6 : (Instr.mapUpdate 100 (.map (some m)) (vS gd) (.agg #[.int .i64 f0, .int .i64 f1, .int .i64 f2, .int .i64 f3, .int .i64 f4, .int .i64 f5, .int .i64 f6, .int .i64 f7, .int .i64 f8, .int .i64 f9, .int .i64 f10])).run Tryz.prog w9.drew = .ok () w5 := hst5
                  clear hst5
                  have HF := Lib.hid hF; have HM5 := Lib.hid hm5; have HT5 := Lib.hid ht5; have HGC := Lib.hid hgc; have HTM := Lib.hid hTm; have HNE := Lib.hid hne; have HLA := Lib.hid hltA
                  refine wp_region_still_tail 6 (by kernel_rfl) (by kernel_rfl) ?_
                  simp only [List.take_succ_cons, List.take_zero, List.drop_succ_cons, List.drop_zero]
                  change wpStill _ _ w9.drew (fun a' => wpList _ _ _ _ a' w9.drew) _ _
                  clear hF hB3 hsA hgc hmp hTm hm5 ht5 hne hltA
                  generalize w9.drew = V at *
                  repeat still_step
                  refine wpStill_nil ?_
                  go_wp2_with fail
                  have hF5 : Fr (fun b => b = m) wr w5 := (HF.out.mono (fun _ _ h => h.elim)).trans' (Fr.turned (S := fun b => b = m) HT5.out rfl) (fun b _ e => e)
                  have hF5v : Fr (fun b => b = m) V w5 := Fr.turned (S := fun b => b = m) HT5.out rfl
                  have hms : s0 ≤ m := by have := HTM.out; omega
                  go_roundw
                  case rel =>
                    refine ⟨k + 1, t2, gd, putS ktS.lt B gd ⟨f0, f1, f2, f3, f4, f5, f6, f7, f8, f9, f10⟩, by omega, by go_num, rfl, ?_⟩
                    refine ⟨HTj.out.fr hF5 (fun b hb e => by have := HLT.out b hb; omega), ⟨⟨m, hF5v.at_ HGC.out HNE.out, HM5.out, HTM.out⟩, .inr rfl, fun b hb => Nat.lt_of_lt_of_le (HLA.out b hb) hF5v.size⟩, HFQ.out.trans' hF5 (fun b hb e => by have := hs1.out; have := HS.out; omega), ?_, ?_, hokg.out⟩
                    · have h1 := hstep.out
                      rw [if_pos hyes.out] at h1
                      rw [show N - (k + 1) = M by have := HMM.out; omega]
                      exact h1.symm
                    · have := putK_len ktS.lt B gd (SR.mk f0 f1 f2 f3 f4 f5 f6 f7 f8 f9 f10)
                      have := HI.out.len
                      omega
                  case measure => simp [intOf]; omega
            · have hZ0 := Lib.hid (hbad.out (by unfold rowMay; rw [heq, decide_eq_false (str_irr gd)]; simp))
              have q2 : (gd == last) = true := by simp [heq]
              clear hbal heq
              go_wp2_with (first
                | (go_at_call 67; refine (iGood _ gd hokg.out).mono ?_; rw [hg]; rintro e w7 ⟨rfl, hf7⟩; have hr7 := hf7.at_ HRW.out (fun h => h); have HR7 := Lib.hid hr7; obtain ⟨d0, d1, d2, d3, d4, d5, d6, d7, d8, d9, d10⟩ := rowCells hr7; have HF7 := Lib.hid hf7; clear hr7 hf7)
                | (go_at_call 99; refine (hBal.out _).mono ?_; rintro e w8 ⟨rfl, hf8⟩; have HF8 := Lib.hid hf8; have HR8 := Lib.hid (hf8.at_ HR7.out (fun h => h)); clear hf8)
                | (go_at_call 76; refine (sRight _ _ _ HR8.out).mono ?_; rw [HRI.out]; rintro e w9 ⟨rfl, hf9⟩; have HF9 := Lib.hid hf9; clear hf9))
              go_ret2
              exact ⟨HFQ.out.trans HF7.out, by rw [hZ0.out]; rfl⟩
            · have hZ0 := Lib.hid (hbad.out (by unfold rowMay; rw [decide_eq_false (str_asym hgt)]; simp))
              have q1 : Op.bytesLess gd last = true := by rw [bytesLess_eq]; simpa using hgt
              clear hbal hgt
              go_wp2_with (first
                | (go_at_call 67; refine (iGood _ gd hokg.out).mono ?_; rw [hg]; rintro e w7 ⟨rfl, hf7⟩; have hr7 := hf7.at_ HRW.out (fun h => h); have HR7 := Lib.hid hr7; obtain ⟨d0, d1, d2, d3, d4, d5, d6, d7, d8, d9, d10⟩ := rowCells hr7; have HF7 := Lib.hid hf7; clear hr7 hf7)
                | (go_at_call 99; refine (hBal.out _).mono ?_; rintro e w8 ⟨rfl, hf8⟩; have HF8 := Lib.hid hf8; have HR8 := Lib.hid (hf8.at_ HR7.out (fun h => h)); clear hf8)
                | (go_at_call 76; refine (sRight _ _ _ HR8.out).mono ?_; rw [HRI.out]; rintro e w9 ⟨rfl, hf9⟩; have HF9 := Lib.hid hf9; clear hf9))
              go_ret2
              exact ⟨HFQ.out.trans HF7.out, by rw [hZ0.out]; rfl⟩
          · have hg : goodB gd = false := by simpa using hg
            have hZ0 := Lib.hid (hbad.out (by unfold rowMay; rw [hg]; simp))
            clear hbal
            go_wp2_with (first
              | (go_at_call 67; refine (iGood _ gd hokg.out).mono ?_; rw [hg]; rintro e w7 ⟨rfl, hf7⟩; have hr7 := hf7.at_ HRW.out (fun h => h); have HR7 := Lib.hid hr7; obtain ⟨d0, d1, d2, d3, d4, d5, d6, d7, d8, d9, d10⟩ := rowCells hr7; have HF7 := Lib.hid hf7; clear hr7 hf7)
              | (go_at_call 99; refine (hBal.out _).mono ?_; rintro e w8 ⟨rfl, hf8⟩; have HF8 := Lib.hid hf8; have HR8 := Lib.hid (hf8.at_ HR7.out (fun h => h)); clear hf8)
              | (go_at_call 76; refine (sRight _ _ _ HR8.out).mono ?_; rw [HRI.out]; rintro e w9 ⟨rfl, hf9⟩; have HF9 := Lib.hid hf9; clear hf9))
            go_ret2
            exact ⟨HFQ.out.trans HF7.out, by rw [hZ0.out]; rfl⟩
    · have : k = N := by omega
      subst this
      have hZe : Hid (Z = if doneT t.1 t.2 = 0 then some B else none) := Lib.hid (by
        have h1 := HI.out.rest
        rw [Nat.sub_self] at h1
        have h2 := hUU.out
        rw [← h1] at h2
        exact h2)
      have hDone := Lib.hid (cTDone wr gt TT t.1 t.2 HI.out.tk)
      obtain ⟨Dn, hDn⟩ : ∃ D, doneT t.1 t.2 = D := ⟨_, rfl⟩
      rw [hDn] at hZe hDone
      clear hDn
      by_cases hd : Dn = 0
      · subst hd
        have hz := hZe.out
        rw [if_pos rfl] at hz
        have HZE := Lib.hid hz
        clear hz
        go_wp2_with (go_at_call 66; refine hDone.out.mono ?_; rintro e w4 ⟨rfl, rfl⟩)
        go_ret2
        refine ⟨HI.out.fr, ?_⟩
        rw [HZE.out]
        exact ⟨_, _, rfl, HI.out.st, fun b hb => by have := hs1.out; have := HS.out; omega⟩
      · have hz := hZe.out
        rw [if_neg hd] at hz
        have HZE := Lib.hid hz
        clear hz
        go_wp2_with (go_at_call 66; refine hDone.out.mono ?_; rintro e w4 ⟨rfl, rfl⟩)
        go_ret2
        exact ⟨HI.out.fr, by rw [HZE.out]; rfl⟩
end Go.Proofs.YtogphlnakdnchaaGreat

namespace Go.Proofs.YtogphlnakdnchaaGreat
open Go.RowKit Go.Maps
theorem bytesWorld_bsN (w : World) (s : Str) (c : Nat) (hs : s.length ≤ 1000000) : Bs (Lib.bytesWorld w 5 ⟨s.toArray⟩) (.slice (some ⟨w.heap.size, 0, none⟩) s.length c) (sB s) := by
  refine ⟨by rw [sB_len]; omega, some ⟨w.heap.size, 0, none⟩, c, by rw [sB_len], fun i x hx => ?_⟩
  have hb := sB_byt s x (List.mem_of_getElem? hx)
  refine ⟨hb.1, hb.2, _, rfl, ?_⟩
  have hi : i < s.length := by have := (List.getElem?_eq_some_iff.1 hx).1; rwa [sB_len] at this
  have := Lib.bytesWorld_cell w 5 ⟨s.toArray⟩ i (by simpa [ByteArray.size] using hi)
  rw [show (⟨w.heap.size, 0, none⟩ : Addr).add i = ⟨w.heap.size, i, none⟩ by simp [Addr.add]; omega, this]
  unfold sB at hx
  rw [List.getElem?_map, List.getElem?_eq_getElem hi] at hx
  injection hx with hx
  subst hx
  simp [List.getD, hi]
theorem tkT_lenU (t : Tst) {m : Int} (hm : 0 ≤ m) : ((tkT t m).1.length : Int) ≤ m := ftkT_len t hm
/-- What Unpack leaves. -/
def UhP (w : World) (Z : Option (Stk × Hes)) (e : Ending) (w' : World) : Prop := Fr (fun _ => False) w w' ∧ match Z with
  | some (A, le) => ∃ g TS, e = .returned (.tuple #[.pointer (some ⟨g, 0, none⟩), .int .i64 0]) ∧ SHE w' g TS A le ∧ ∀ b, TS b → w.heap.size ≤ b
  | none => e = .returned (.tuple #[.pointer none, .int .i64 10])
/-- On the way of Unpack: what is left to take, the shelf so far. -/
structure UhI (w W : World) (gt : Nat) (TT : Nat → Prop) (z1 g gs m : Nat) (T0 TB : Nat → Prop) (A : Stk) (l : List (Int × HV)) (t : Tst) : Prop where
  tk : TK W gt TT t.1 t.2
  sb : SB W g gs m T0 TB A l
  fr : Fr (fun _ => False) w W
  lo : ∀ b, (b = g ∨ b = m ∨ T0 b ∨ TB b) → z1 ≤ b
  tt : ∀ b, TT b → w.heap.size ≤ b ∧ b < z1
section
variable {w W W' : World} {gt z1 g gs m : Nat} {TT T0 TB : Nat → Prop} {A : Stk} {l : List (Int × HV)} {t t' : Tst}
theorem UhI.take (h : UhI w W gt TT z1 g gs m T0 TB A l t) (hf : Fr TT W W') (ht : TK W' gt TT t'.1 t'.2) : UhI w W' gt TT z1 g gs m T0 TB A l t' :=
  ⟨ht, h.sb.keep hf (fun b hb e => by have := h.lo b hb; have := h.tt b e; omega), h.fr.trans' hf (fun b hb e => by have := h.tt b e; omega), h.lo, h.tt⟩
theorem UhI.keep {S : Nat → Prop} (h : UhI w W gt TT z1 g gs m T0 TB A l t) (hf : Fr S W W') (hS : ∀ b, S b → z1 ≤ b ∧ ¬ (b = g ∨ b = m ∨ T0 b ∨ TB b)) (hz : w.heap.size ≤ z1) : UhI w W' gt TT z1 g gs m T0 TB A l t :=
  ⟨h.tk.fr hf (fun b hb e => by have := hS b e; have := h.tt b hb; omega), h.sb.keep hf (fun b hb e => (hS b e).2 hb), h.fr.trans' hf (fun b hb e => by have := hS b e; omega), h.lo, h.tt⟩
end
def nilV : Value := .slice none 0 0
/-- The box of a hold that is being read: j lists are there. -/
structure BxI (W : World) (hb : Nat) (o : Int) (f : Nat → Value) (t1 : Tst) (j : Nat) : Prop where
  bx : W.heap[hb]? = some (.cells #[.int .i64 o, f 0, f 1, f 2] 37)
  ar : W.heap[hb + 1]? = some (.cells #[.pointer (some ⟨hb, 1, none⟩), .pointer (some ⟨hb, 2, none⟩), .pointer (some ⟨hb, 3, none⟩)] 76)
  li : ∀ i, i < j → Il W (f i) (readT (rdF t1 i).1).1 ∧ ∀ b, (f i).ownBlock = some b → hb + 2 ≤ b ∧ b < W.heap.size
  nl : ∀ i, j ≤ i → f i = nilV
theorem BxI.keep {S : Nat → Prop} {W W' : World} {hb : Nat} {o : Int} {f : Nat → Value} {t1 : Tst} {j : Nat} (h : BxI W hb o f t1 j) (hf : Fr S W W') (hS : ∀ b, S b → b < hb) : BxI W' hb o f t1 j :=
  ⟨hf.at_ h.bx (fun e => by have := hS _ e; omega), hf.at_ h.ar (fun e => by have := hS _ e; omega), fun i hi => ⟨(h.li i hi).1.keep hf (fun _ b hb' e => by have := (h.li i hi).2 b hb'; have := hS _ e; omega), fun b hb' => ⟨((h.li i hi).2 b hb').1, Nat.lt_of_lt_of_le ((h.li i hi).2 b hb').2 hf.size⟩⟩, h.nl⟩
theorem BxI.put {W : World} {hb : Nat} {o : Int} {f : Nat → Value} {t1 : Tst} {j : Nat} {v : Value} (h : BxI W hb o f t1 j) (hj : j < 3) (hv : Il W v (readT (rdF t1 j).1).1) (hvb : ∀ b, v.ownBlock = some b → hb + 2 ≤ b ∧ b < W.heap.size) :
    BxI (W.setCell ⟨hb, j + 1, none⟩ v) hb o (fun i => if i = j then v else f i) t1 (j + 1) := by
  have hF : Fr (fun b => b = hb) W (W.setCell ⟨hb, j + 1, none⟩ v) := (Fr.refl (fun b => b = hb) W).setCell (p := ⟨hb, j + 1, none⟩) (fun _ => rfl) _
  refine ⟨?_, hF.at_ h.ar (by omega), fun i hi => ?_, fun i hi => ?_⟩
  · rw [obj_set h.bx (j + 1) v]
    match j, hj with
    | 0, _ => rfl
    | 1, _ => rfl
    | 2, _ => rfl
  · by_cases e : i = j
    · subst e
      simp only [if_true]
      exact ⟨hv.keep hF (fun _ b hb' e => by have := hvb b hb'; omega), fun b hb' => by have := hvb b hb'; simpa using this⟩
    · simp only [if_neg e]
      have := h.li i (by omega)
      exact ⟨this.1.keep hF (fun _ b hb' e => by have := this.2 b hb'; omega), fun b hb' => by have := this.2 b hb'; simpa using this⟩
  · simp only [if_neg (show ¬ i = j by omega)]
    exact h.nl i (by omega)
theorem BxI.ptr {W : World} {hb : Nat} {o : Int} {f : Nat → Value} {t1 : Tst} {n j : Nat} (h : BxI W hb o f t1 n) (hj : j < 3) : W.cell? ⟨hb + 1, j, none⟩ = some (.pointer (some ⟨hb, j + 1, none⟩)) := by
  refine cell_obj h.ar j _ ?_
  match j, hj with
  | 0, _ => rfl
  | 1, _ => rfl
  | 2, _ => rfl
theorem BxI.cellf {W : World} {hb : Nat} {o : Int} {f : Nat → Value} {t1 : Tst} {n j : Nat} (h : BxI W hb o f t1 n) (hj : j < 3) : W.cell? ⟨hb, j + 1, none⟩ = some (f j) := by
  refine cell_obj h.bx (j + 1) _ ?_
  match j, hj with
  | 0, _ => rfl
  | 1, _ => rfl
  | 2, _ => rfl
theorem SB.ltn {W : World} {g gs m : Nat} {T0 TB : Nat → Prop} {A : Stk} {l : List (Int × HV)} (h : SB W g gs m T0 TB A l) : ∀ b, TB b → ¬ T0 b ∧ b ≠ g ∧ b ≠ m := fun b e => ⟨h.nb b e, fun e2 => h.ng.2.1 (e2 ▸ e), fun e2 => h.nm.2 (e2 ▸ e)⟩
set_option maxRecDepth 100000 in
set_option maxHeartbeats 32000000 in
theorem hUnpack (w : World) (v : Value) (bs : List Int) (h : Bs w v bs) (hl : (bs.length : Int) ≤ 140737488351232) (hb : Byt bs) : Calls Tryz.prog 25 #[v] w (UhP w (unpackH bs)) := by
  obtain ⟨Z, hZ⟩ : ∃ Z, unpackH bs = Z := ⟨_, rfl⟩
  have hZd := hZ.symm
  rw [hZ]
  unfold unpackH at hZd
  have HOKZ : Hid (∀ A le, Z = some (A, le) → ShOk A le) := Lib.hid (fun A le e => unpackH_ok (hZ.trans e))
  have hT := Lib.hid (cTake w v bs h hl hb)
  obtain ⟨_, va, vc, rfl, _⟩ := id h
  obtain ⟨q1, hq1⟩ : ∃ q, tkT (bs, false) 262144 = q := ⟨_, rfl⟩
  have hq1l := tkT_lenU (bs, false) (m := 262144) (by omega)
  have hTx := fun W g TS (h : TK W g TS bs false) => cTText W g TS (bs, false) 262144 h (by omega)
  rw [hq1] at hZd hq1l hTx
  obtain ⟨s, t1⟩ := q1
  dsimp only at hZd hq1l hTx
  have HTX := Lib.hid hTx
  have hcv := fun (W : World) => Lib.run_convert_string_bytes (P := Tryz.prog) W 9 48 5 ⟨s.toArray⟩ Tryz.underlying9 Tryz.underlying48 Tryz.underlying5
  have hsz : (ByteArray.mk s.toArray).size = s.length := by simp [ByteArray.size]
  simp only [hsz] at hcv
  have hsl : s.length ≤ 1000000 := by omega
  have HSL := Lib.hid hsl
  obtain ⟨US, hUS⟩ : ∃ U, unpS (sB s) = U := ⟨_, rfl⟩
  have hUn : Hid (∀ W c, Calls Tryz.prog 62 #[.slice (some ⟨W.heap.size, 0, none⟩) s.length c] (Lib.bytesWorld W 5 ⟨s.toArray⟩) (UpP (Lib.bytesWorld W 5 ⟨s.toArray⟩) US)) := Lib.hid (fun W c => by
    rw [← hUS]
    refine sUnpack _ _ (sB s) (bytesWorld_bsN W s c HSL.out) (by rw [sB_len]; have := HSL.out; omega) (sB_byt s) (fun b e => ?_)
    have e2 : W.heap.size = b := by simpa [Value.ownBlock] using e
    rw [Lib.bytesWorld_size]; omega)
  rw [hUS] at hZd
  have hmm := @run_makeMap Tryz.prog
  have HUS := Lib.hid hUS
  clear h hl hb hTx hq1 hq1l hsz hsl hUS
  cases US with
  | none =>
    have HZ := Lib.hid hZd
    clear hZd hmm
    go_enter Tryz.func25, Tryz.ntmps25
    go_wp2_with (first
      | (go_at_call 61; refine hT.out.mono ?_; rintro e w1 ⟨gt, TT, rfl, hk, hf, hlo⟩; have HK := Lib.hid hk; have HF1 := Lib.hid hf; have HLO := Lib.hid hlo; clear hk hf hlo)
      | (go_at_call 63; refine (HTX.out _ _ _ HK.out).mono ?_; rintro e w2 ⟨rfl, hk, hf⟩; have HF2 : Hid (Fr (fun _ => False) w w2) := Lib.hid (HF1.out.trans' hf (fun b hb e => by have := HLO.out b e; omega)); clear hk hf)
      | (go_at_call 62; refine (hUn.out _ _).mono ?_; rintro e w4 ⟨hf, rfl⟩; have HF4 := Lib.hid ((HF2.out.trans (bytesWorld_fr _ _ _)).trans hf); clear hf))
    go_ret2
    rw [HZ.out]
    exact ⟨HF4.out, rfl⟩
  | some A =>
    dsimp only at hZd
    obtain ⟨q2, hq2⟩ : ∃ q, tk t1 0 256 = q := ⟨_, rfl⟩
    have hqi := tk_in t1 (a := 0) (b := 256) (by omega) (by omega)
    have hNm := fun W g TS (h : TK W g TS t1.1 t1.2) => xTk W g TS t1 0 256 h
    rw [hq2] at hZd hqi hNm
    obtain ⟨nI, t2⟩ := q2
    obtain ⟨N, rfl⟩ : ∃ N : Nat, nI = N := ⟨nI.toNat, by dsimp only at hqi; omega⟩
    dsimp only at hZd hqi hNm
    rw [Int.toNat_natCast] at hZd
    have hN : N ≤ 256 := by omega
    obtain ⟨U, hU⟩ : ∃ U, unhL N t2 0 [] = U := ⟨_, rfl⟩
    rw [hU] at hZd
    have HNm := Lib.hid hNm; have HZD := Lib.hid hZd; have HU := Lib.hid hU; have HN := Lib.hid hN
    clear hZd hq2 hqi hNm hU hN
    go_enter Tryz.func25, Tryz.ntmps25
    go_wp2_with (first
      | (go_at_call 61; refine hT.out.mono ?_; rintro e w1 ⟨gt, TT, rfl, hk, hf, hlo⟩; have HK := Lib.hid hk; have HF1 := Lib.hid hf; have HLO := Lib.hid hlo; have HTL := Lib.hid hk.lt; clear hk hf hlo)
      | (go_at_call 63; refine (HTX.out _ _ _ HK.out).mono ?_; rintro e w2 ⟨rfl, hk, hf⟩; have HK2 := Lib.hid hk; have HF12 := Lib.hid hf.size; have HF2 : Hid (Fr (fun _ => False) w w2) := Lib.hid (HF1.out.trans' hf (fun b hb e => by have := HLO.out b e; omega)); clear hk hf)
      | (go_at_call 62; refine (hUn.out _ _).mono ?_; rintro e w4 ⟨hf, gs, T0, rfl, hsa, hlo4⟩; have HF4b := Lib.hid ((bytesWorld_fr w2 _ _).trans hf); have HSA4 := Lib.hid hsa; have HLO4 := Lib.hid hlo4; clear hf hsa hlo4)
      | (go_at_call 64; refine (HNm.out _ gt TT (HK2.out.fr (HF4b.out.trans (((Fr.refl (fun _ => False) _).alloc _).alloc _)) (fun _ _ e => e))).mono ?_; rintro e w6 ⟨rfl, hk6, hf6⟩; have HK6 := Lib.hid hk6; have HF6 := Lib.hid hf6; clear hk6 hf6))
    clear hmm
    obtain ⟨z1, hz1⟩ : ∃ z, w2.heap.size = z := ⟨_, rfl⟩
    have hI0 : UhI w w6 gt TT z1 (w4.heap.size + 1) gs w4.heap.size T0 (fun _ => False) A [] t2 := by
      have h24 := HF4b.out.size
      have hbl := Lib.bytesWorld_size w2 5 ⟨s.toArray⟩
      have hst := HSA4.out
      have hsb : SB ((w4.alloc (.map #[] 0)).alloc (.cells #[.pointer (some ⟨gs, 0, none⟩), .map (some w4.heap.size)] 63)) (w4.heap.size + 1) gs w4.heap.size T0 (fun _ => False) A [] :=
        ⟨heap_at (by simp) _, (hst.fr ((Fr.refl (fun _ => False) w4).alloc _) (fun _ _ e => e)).fr ((Fr.refl (fun _ => False) _).alloc _) (fun _ _ e => e), (Mp.made Tryz.prog w4 3 ktI HV.enc).alloc _, fun p hp => (by cases hp), ⟨fun e => by have := hst.lt _ e; omega, fun e => e, by omega⟩, ⟨fun e => by have := hst.lt _ e; omega, fun e => e⟩, fun b e => e.elim, fun b e => e.elim⟩
      have htl : ∀ b, TT b → b < z1 := fun b hb => by have := HTL.out b hb; have := HF12.out; omega
      have hlo : ∀ b, (b = w4.heap.size + 1 ∨ b = w4.heap.size ∨ T0 b ∨ (fun _ => False) b) → z1 ≤ b := fun b hb => by
        rcases hb with e | e | e | e
        · omega
        · omega
        · have := HLO4.out b e; omega
        · exact e.elim
      refine ⟨HK6.out, hsb.keep HF6.out (fun b hb e => by have := hlo b hb; have := htl b e; omega), ?_, hlo, fun b hb => ⟨HLO.out b hb, htl b hb⟩⟩
      exact ((HF2.out.trans HF4b.out).trans (((Fr.refl (fun _ => False) _).alloc _).alloc _)).trans' HF6.out (fun b hb e => by have := HLO.out b e; omega)
    obtain ⟨m, hm⟩ : ∃ m, w4.heap.size = m := ⟨_, rfl⟩
    obtain ⟨g, hg⟩ : ∃ g, m + 1 = g := ⟨_, rfl⟩
    rw [hm, hg] at hI0
    try rw [hm, hg]
    try rw [hm]
    try rw [hg]
    have HI0 := Lib.hid hI0
    have HZ1 : Hid (w.heap.size ≤ z1) := Lib.hid (by have := HF2.out.size; omega)
    clear hI0 hm hg hz1 HF2 HF4b HSA4 HLO4 HK6 HF6 HTL HF12 HK2 HF1 HLO HK
    go_loopw [8, 32] (fun vl vi wr => ∃ (k : Nat) (t : Tst) (last : Int) (l : List (Int × HV)) (TB : Nat → Prop), k ≤ N ∧ vi = .int .i64 k ∧ vl = .int .i64 last ∧ UhI w wr gt TT z1 g gs m T0 TB A l t ∧ LeOk (mapE l) last ∧ l.length ≤ k ∧ unhL (N - k) t last (mapE l) = U) (fun _ vi _ => N - (intOf vi).toNat)
    case atStart => exact ⟨0, t2, 0, [], _, Nat.zero_le _, rfl, rfl, HI0.out, LeOk.nil, Nat.le_refl _, HU.out⟩
    case round =>
      obtain ⟨k, t, last, l, TB, hk, rfl, rfl, hI, hle, hll, hu⟩ := hrel
      have HI := Lib.hid hI; have HLE := Lib.hid hle; have HU2 := Lib.hid hu
      clear hI hle hu HU HI0
      by_cases hlt : k < N
      · have hkI : (k : Int) < N := by omega
        obtain ⟨M, hM⟩ : ∃ M, N - k = M + 1 := ⟨N - k - 1, by omega⟩
        obtain ⟨q, hq⟩ : ∃ q, tk t 1 1099511627776 = q := ⟨_, rfl⟩
        have hNm := Lib.hid (xTk wr gt TT t 1 1099511627776 HI.out.tk)
        have hqi := tk_in1 t (b := 1099511627776) (by omega)
        have hstep : Hid (U = if rdG (decide (last < q.1)) q.2 3 = true ∧ (HE.mk q.1 (readT (rdF q.2 0).1).1 (readT (rdF q.2 1).1).1 (readT (rdF q.2 2).1).1).num ≠ 0 then unhL M (rdF q.2 3).1 q.1 (putS ktI.lt (mapE l) q.1 ⟨q.1, (readT (rdF q.2 0).1).1, (readT (rdF q.2 1).1).1, (readT (rdF q.2 2).1).1⟩) else none) := Lib.hid (by
          have h1 := HU2.out
          rw [hM] at h1
          rw [← h1, ← hq]
          rfl)
        rw [hq] at hNm hqi
        obtain ⟨o, t1⟩ := q
        dsimp only at hNm hqi hstep
        have HQI := Lib.hid hqi
        obtain ⟨g0, hg0⟩ : ∃ b, decide (last < o) = b := ⟨_, rfl⟩
        rw [hg0] at hstep
        clear hq HU2
        have HG0 := Lib.hid hg0
        clear hqi
        go_wp2_with (go_at_call 64; refine hNm.out.mono ?_; rintro e w7 ⟨rfl, hk7, hf7⟩; have HI7 := Lib.hid (HI.out.take hf7 hk7); clear hk7 hf7)
        have hI8 := HI7.out.keep (S := fun _ => False) (((Fr.refl (fun _ => False) w7).alloc (.cells #[.int .i64 o, .slice none 0 0, .slice none 0 0, .slice none 0 0] 37)).alloc (.cells #[.pointer (some ⟨w7.heap.size, 1, none⟩), .pointer (some ⟨w7.heap.size, 2, none⟩), .pointer (some ⟨w7.heap.size, 3, none⟩)] 76)) (fun b e => e.elim) HZ1.out
        have hB8 : BxI ((w7.alloc (.cells #[.int .i64 o, .slice none 0 0, .slice none 0 0, .slice none 0 0] 37)).alloc (.cells #[.pointer (some ⟨w7.heap.size, 1, none⟩), .pointer (some ⟨w7.heap.size, 2, none⟩), .pointer (some ⟨w7.heap.size, 3, none⟩)] 76)) w7.heap.size o (fun _ => nilV) t1 0 := ⟨heap_keep (heap_at rfl _) _, heap_at (by simp) _, fun i hi => by omega, fun i hi => rfl⟩
        have hhi : Hid (z1 ≤ w7.heap.size ∧ ∀ b, (b = g ∨ b = m ∨ T0 b ∨ TB b) → b < w7.heap.size) := Lib.hid ⟨by have := HI7.out.lo g (.inl rfl); have := HI7.out.sb.lt g (.inl rfl); omega, HI7.out.sb.lt⟩
        obtain ⟨w8, hw8⟩ : ∃ W, (w7.alloc (.cells #[.int .i64 o, .slice none 0 0, .slice none 0 0, .slice none 0 0] 37)).alloc (.cells #[.pointer (some ⟨w7.heap.size, 1, none⟩), .pointer (some ⟨w7.heap.size, 2, none⟩), .pointer (some ⟨w7.heap.size, 3, none⟩)] 76) = W := ⟨_, rfl⟩
        rw [hw8] at hI8 hB8
        try rw [hw8]
        obtain ⟨hb, hhb⟩ : ∃ b, w7.heap.size = b := ⟨_, rfl⟩
        rw [hhb] at hhi hB8
        try rw [hhb]
        have HI8 := Lib.hid hI8; have HB8 := Lib.hid hB8
        clear hI8 hB8 hw8 hhb HI7 HI hNm
        go_loopw [10, 46] (fun vg vi wq => ∃ (j : Nat) (f : Nat → Value), j ≤ 3 ∧ vg = .bool (rdG g0 t1 j) ∧ vi = .int .i64 j ∧ UhI w wq gt TT z1 g gs m T0 TB A l (rdF t1 j).1 ∧ BxI wq hb o f t1 j) (fun _ vi _ => 3 - (intOf vi).toNat)
        case atStart => exact ⟨0, _, by omega, rfl, rfl, HI8.out, HB8.out⟩
        case round =>
          obtain ⟨j, f, hj, rfl, rfl, hI, hB⟩ := hrel
          have HI9 := Lib.hid hI; have HB := Lib.hid hB
          clear HI8 HB8
          by_cases hlj : j < 3
          · have hlJ : (j : Int) < 3 := by omega
            have hcp := hB.ptr hlj
            have hread := Lib.hid (hRead wr gt TT (rdF t1 j).1 hI.tk)
            have hgn : Hid (rdG g0 t1 (j + 1) = (rdG g0 t1 j && mayL (readT (rdF t1 j).1).1)) := Lib.hid rfl
            obtain ⟨gj, hgj⟩ : ∃ b, rdG g0 t1 j = b := ⟨_, rfl⟩
            obtain ⟨mj, hmj⟩ : ∃ b, mayL (readT (rdF t1 j).1).1 = b := ⟨_, rfl⟩
            rw [hgj, hmj] at hgn
            rw [hmj] at hread
            rw [hgj]
            have hTT : Hid (∀ b, TT b → b < hb) := Lib.hid (fun b e => by have := HI9.out.tt b e; have := hhi.out.1; omega)
            have hbz : Hid (hb + 1 < wr.heap.size) := Lib.hid (Array.getElem?_eq_some_iff.1 hB.ar).1
            clear hI hB hgj hmj
            cases gj with
            | false =>
              go_wp2_with (go_at_call 65; refine hread.out.mono ?_; rintro e wz ⟨v, rfl, hiz, hoz, htz, hfz⟩; obtain ⟨av, cv, rfl⟩ := hiz.sl; have hIZ := Lib.hid (HI9.out.take hfz htz); have hBz := HB.out.keep hfz hTT.out; have hcz := hBz.cellf hlj; have hzz := obj_frozen hBz.bx (j + 1); have HBZ := Lib.hid hBz; have HIL := Lib.hid hiz; have HOZ := Lib.hid hoz; clear hiz hoz htz hfz hBz)
              go_roundw
              case rel =>
                have hbz := hbz.out
                have hh := hhi.out
                refine ⟨j + 1, _, by omega, by rw [hgn.out]; rfl, by go_num, ?_, HBZ.out.put hlj HIL.out (fun b e => by have := HOZ.out b e; omega)⟩
                exact hIZ.out.keep (S := fun b => b = hb) ((Fr.refl (fun b => b = hb) wz).setCell (p := ⟨hb, j + 1, none⟩) (fun _ => rfl) _) (fun b e => ⟨by omega, fun e2 => by have := hh.2 b e2; omega⟩) HZ1.out
              case measure => simp [intOf]; omega
            | true =>
              go_wp2_with (go_at_call 65; refine hread.out.mono ?_; rintro e wz ⟨v, rfl, hiz, hoz, htz, hfz⟩; obtain ⟨av, cv, rfl⟩ := hiz.sl; have hIZ := Lib.hid (HI9.out.take hfz htz); have hBz := HB.out.keep hfz hTT.out; have hcz := hBz.cellf hlj; have hzz := obj_frozen hBz.bx (j + 1); have HBZ := Lib.hid hBz; have HIL := Lib.hid hiz; have HOZ := Lib.hid hoz; clear hiz hoz htz hfz hBz)
              go_roundw
              case rel =>
                have hbz := hbz.out
                have hh := hhi.out
                refine ⟨j + 1, _, by omega, by rw [hgn.out]; rfl, by go_num, ?_, HBZ.out.put hlj HIL.out (fun b e => by have := HOZ.out b e; omega)⟩
                exact hIZ.out.keep (S := fun b => b = hb) ((Fr.refl (fun b => b = hb) wz).setCell (p := ⟨hb, j + 1, none⟩) (fun _ => rfl) _) (fun b e => ⟨by omega, fun e2 => by have := hh.2 b e2; omega⟩) HZ1.out
              case measure => simp [intOf]; omega
          · obtain rfl : j = 3 := by omega
            have hI3 := hI
            obtain ⟨E0, hE0⟩ : ∃ E, (readT (rdF t1 0).1).1 = E := ⟨_, rfl⟩
            obtain ⟨E1, hE1⟩ : ∃ E, (readT (rdF t1 1).1).1 = E := ⟨_, rfl⟩
            obtain ⟨E2, hE2⟩ : ∃ E, (readT (rdF t1 2).1).1 = E := ⟨_, rfl⟩
            have l0 := hB.li 0 (by omega)
            have l1 := hB.li 1 (by omega)
            have l2 := hB.li 2 (by omega)
            have hbx := hB.bx
            rw [hE0] at l0; rw [hE1] at l1; rw [hE2] at l2
            rw [hE0, hE1, hE2] at hstep
            obtain ⟨b3, hb3⟩ : ∃ b, rdG g0 t1 3 = b := ⟨_, rfl⟩
            have hall : Hid (b3 = true → last < o ∧ mayL E0 = true ∧ mayL E1 = true ∧ mayL E2 = true) := Lib.hid (fun e => by
              obtain ⟨h1, h2⟩ := rdG_all (hb3.trans e)
              exact ⟨of_decide_eq_true (HG0.out.trans h1), hE0 ▸ h2 0 (by omega), hE1 ▸ h2 1 (by omega), hE2 ▸ h2 2 (by omega)⟩)
            obtain ⟨t3, ht3⟩ : ∃ t, (rdF t1 3).1 = t := ⟨_, rfl⟩
            rw [hb3, ht3] at hstep
            rw [hb3]
            rw [ht3] at hI3
            have HI3 := Lib.hid hI3
            obtain ⟨v0, hv0⟩ : ∃ v, f 0 = v := ⟨_, rfl⟩
            obtain ⟨v1, hv1⟩ : ∃ v, f 1 = v := ⟨_, rfl⟩
            obtain ⟨v2, hv2⟩ : ∃ v, f 2 = v := ⟨_, rfl⟩
            rw [hv0] at l0; rw [hv1] at l1; rw [hv2] at l2
            rw [hv0, hv1, hv2] at hbx
            obtain ⟨a0, c0, e0⟩ := l0.1.sl
            obtain ⟨a1, c1, e1⟩ := l1.1.sl
            obtain ⟨a2, c2, e2⟩ := l2.1.sl
            subst e0 e1 e2
            have hnum : Hid ((HE.mk o E0 E1 E2).num = E0.length + E1.length + E2.length) := Lib.hid rfl
            obtain ⟨n0, hn0⟩ : ∃ n, E0.length = n := ⟨_, rfl⟩
            obtain ⟨n1, hn1⟩ : ∃ n, E1.length = n := ⟨_, rfl⟩
            obtain ⟨n2, hn2⟩ : ∃ n, E2.length = n := ⟨_, rfl⟩
            rw [hn0, hn1, hn2] at hbx hnum
            rw [hn0] at l0; rw [hn1] at l1; rw [hn2] at l2
            have h16 : Hid (b3 = true → n0 ≤ 16 ∧ n1 ≤ 16 ∧ n2 ≤ 16) := Lib.hid (fun e => by
              obtain ⟨-, h1, h2, h3⟩ := hall.out e
              rw [← hn0, ← hn1, ← hn2]
              exact ⟨(mayL_iff.1 h1).2, (mayL_iff.1 h2).2, (mayL_iff.1 h3).2⟩)
            have HBX := Lib.hid hbx; have L0 := Lib.hid l0; have L1 := Lib.hid l1; have L2 := Lib.hid l2
            have hbz : Hid (hb + 1 < wr.heap.size) := Lib.hid (Array.getElem?_eq_some_iff.1 hB.ar).1
            have d0 := cell_obj hbx 0 _ rfl
            have d1 := cell_obj hbx 1 _ rfl
            have d2 := cell_obj hbx 2 _ rfl
            have d3 := cell_obj hbx 3 _ rfl
            clear hI hB HI9 HB hI3 hE0 hE1 hE2 hb3 ht3 hv0 hv1 hv2 hn0 hn1 hn2 l0 l1 l2 hbx HG0
            cases b3 with
            | false =>
              have hU0 : U = none := by rw [hstep.out, if_neg (by simp)]
              have hZ0 : Z = none := by rw [HZD.out, hU0]
              have HZ0 := Lib.hid hZ0
              clear hU0 hZ0
              go_wp2_with fail
              go_ret2
              exact ⟨HI3.out.fr, by rw [HZ0.out]; rfl⟩
            | true =>
              have h16' := h16.out rfl
              have hw1 : IntKind.i64.wrap ((n0 : Int) + n1) = (n0 : Int) + n1 := IntWalk.i64_in _ ⟨by omega, by omega⟩
              have hw2 : IntKind.i64.wrap ((n0 : Int) + n1 + n2) = (n0 : Int) + n1 + n2 := IntWalk.i64_in _ ⟨by omega, by omega⟩
              by_cases hz : n0 + n1 + n2 = 0
              · have hU0 : U = none := by rw [hstep.out, if_neg (by rw [hnum.out, hz]; simp)]
                have hZ0 : Z = none := by rw [HZD.out, hU0]
                have HZ0 := Lib.hid hZ0
                clear hU0 hZ0
                have hzI : ((n0 : Int) + n1 + n2 == 0) = true := by simp; omega
                clear hz h16'
                go_wp2_with fail
                go_ret2
                exact ⟨HI3.out.fr, by rw [HZ0.out]; rfl⟩
              · have hU1 : Hid (U = unhL M t3 o (putS ktI.lt (mapE l) o ⟨o, E0, E1, E2⟩)) := Lib.hid (by rw [hstep.out, if_pos ⟨rfl, by rw [hnum.out]; exact hz⟩])
                have hzI : ((n0 : Int) + n1 + n2 == 0) = false := by simp; omega
                have HZN := Lib.hid hz
                have HALL := Lib.hid (hall.out rfl)
                clear hz h16' hstep
                have hst : ∀ W, Fr (fun _ => False) wr W → ∃ w', (Instr.mapUpdate 61 (.map (some m)) (.int .i64 o) (.agg #[.int .i64 o, .slice a0 n0 c0, .slice a1 n1 c1, .slice a2 n2 c2])).run Tryz.prog W = .ok () w' ∧ Mp Tryz.prog w' 3 ktI HV.enc m (putS ktI.lt l o ⟨o, .slice a0 n0 c0, .slice a1 n1 c1, .slice a2 n2 c2, E0, E1, E2⟩) ∧ W.mapTurned w' m := fun W hW =>
                  (hW.mp HI3.out.sb.mp (fun h => h)).store kHI Tryz.underlying61 (by have := HN.out; omega) (show okI o by have := HQI.out; unfold okI; omega) (⟨o, .slice a0 n0 c0, .slice a1 n1 c1, .slice a2 n2 c2, E0, E1, E2⟩ : HV)
                have HST := Lib.hid hst
                clear hst
                go_wp2_with fail
                refine wp_region_still_tail 7 (by kernel_rfl) (by kernel_rfl) ?_
                simp only [List.take_succ_cons, List.take_zero, List.drop_succ_cons, List.drop_zero]
                have hF : Fr (fun _ => False) wr wr.drew := (Fr.refl _ _).drew
                have hB3 := hF.at_ HBX.out (fun e => e)
                clear d0 d1 d2 d3
                change wpStill _ _ wr.drew (fun a' => wpList _ _ _ _ a' wr.drew) _ _
                generalize wr.drew = V at hF hB3 ⊢
                obtain ⟨w5, hst5, hm5, ht5⟩ := HST.out V hF
                have hSV := HI3.out.sb.keep hF (fun _ _ e => e)
                obtain ⟨cg0, cg1⟩ := hSV.cells
                have d0 := cell_obj hB3 0 (.int .i64 o) rfl
                have d1 := cell_obj hB3 1 (.slice a0 n0 c0) rfl
                have d2 := cell_obj hB3 2 (.slice a1 n1 c1) rfl
                have d3 := cell_obj hB3 3 (.slice a2 n2 c2) rfl
                have HSV := Lib.hid hSV; have HF := Lib.hid hF; have HM5 := Lib.hid hm5; have HT5 := Lib.hid ht5
                clear hSV hF hB3 hm5 ht5
                repeat still_step
                refine wpStill_nil ?_
                have hN256 := HN.out
                go_wp2_with fail
                go_roundw
                case rel =>
                  have hFt : Fr (fun b => b = m) V w5 := Fr.turned HT5.out rfl
                  have hsz := HF.out.size
                  have hlo := HI3.out.lo
                  have htt := HI3.out.tt
                  have hh := hhi.out
                  have hmz := hlo m (.inr (.inl rfl))
                  have hz1 := HZ1.out
                  have hok := HALL.out
                  have hq := HQI.out
                  have hN : ∀ b, hb + 2 ≤ b → ¬ T0 b ∧ b ≠ g ∧ b ≠ m := fun b hb' => ⟨fun e => by have := hh.2 b (.inr (.inr (.inl e))); omega, fun e => by have := hh.2 b (.inl e); omega, fun e => by have := hh.2 b (.inr (.inl e)); omega⟩
                  have hsb : SB w5 g gs m T0 (fun b => TB b ∨ (hb + 2 ≤ b ∧ b < wr.heap.size)) A (putS ktI.lt l o ⟨o, .slice a0 n0 c0, .slice a1 n1 c1, .slice a2 n2 c2, E0, E1, E2⟩) :=
                    HSV.out.put (h' := ⟨o, .slice a0 n0 c0, .slice a1 n1 c1, .slice a2 n2 c2, E0, E1, E2⟩) HM5.out HT5.out (fun b e => .inl e)
                      ⟨by show okI o; unfold okI; omega, ⟨L0.out.1.keep HF.out (fun _ _ _ e => e), fun _ b e => .inr (L0.out.2 b e)⟩, ⟨L1.out.1.keep HF.out (fun _ _ _ e => e), fun _ b e => .inr (L1.out.2 b e)⟩, ⟨L2.out.1.keep HF.out (fun _ _ _ e => e), fun _ b e => .inr (L2.out.2 b e)⟩⟩
                      (fun b e => e.elim (fun e => ⟨by have := hh.2 b (.inr (.inr (.inr e))); have := hbz.out; omega, HI3.out.sb.ltn b e⟩) (fun e => ⟨by omega, hN b e.1⟩))
                  have hle := HLE.out.step (x := ⟨o, E0, E1, E2⟩) hok.1 hq.2 hok.2.1 hok.2.2.1 hok.2.2.2 (by rw [hnum.out]; exact HZN.out)
                  have hpm : mapE (putS ktI.lt l o ⟨o, .slice a0 n0 c0, .slice a1 n1 c1, .slice a2 n2 c2, E0, E1, E2⟩) = putS ktI.lt (mapE l) o ⟨o, E0, E1, E2⟩ := (putS_map (fun x : HV => x.e) ktI.lt l o ⟨o, .slice a0 n0 c0, .slice a1 n1 c1, .slice a2 n2 c2, E0, E1, E2⟩).symm
                  have hln := putK_len ktI.lt l o (⟨o, .slice a0 n0 c0, .slice a1 n1 c1, .slice a2 n2 c2, E0, E1, E2⟩ : HV)
                  refine ⟨k + 1, t3, o, _, _, by omega, by go_num, rfl, ⟨?_, hsb, ?_, ?_, htt⟩, ?_, by omega, ?_⟩
                  · exact (HI3.out.tk.fr HF.out (fun _ _ e => e)).fr hFt (fun b e1 e2 => by have := htt b e1; omega)
                  · exact (HI3.out.fr.trans HF.out).trans' hFt (fun b _ e => by omega)
                  · rintro b (e | e | e | e | e)
                    · exact hlo b (.inl e)
                    · exact hlo b (.inr (.inl e))
                    · exact hlo b (.inr (.inr (.inl e)))
                    · exact hlo b (.inr (.inr (.inr e)))
                    · have := hh.1; omega
                  · rw [hpm]; exact hle
                  · rw [hpm, hU1.out, show N - (k + 1) = M by omega]
                case measure => simp [intOf]; omega
      · obtain rfl : k = N := by omega
        have hkI : ¬ (k : Int) < k := by omega
        have hU0 : U = some (mapE l, t) := by
          have := HU2.out
          rw [Nat.sub_self] at this
          exact this.symm
        have hZe : Z = if doneT t.1 t.2 = 0 ∧ soundE A (mapE l) = true then some (A, mapE l) else none := by rw [HZD.out, hU0]
        have hsk : Hid (ShOk A (mapE l)) := Lib.hid ⟨(unpS_take (sB_byt s) HUS.out).1, HLE.out.rise, HLE.out.row, by rw [mapE_len]; have := HN.out; omega⟩
        have hDone := Lib.hid (cTDone wr gt TT t.1 t.2 HI.out.tk)
        have hSo := Lib.hid (hSound wr g gs m T0 TB A l HI.out.sb hsk.out)
        obtain ⟨so, hso⟩ : ∃ b, soundE A (mapE l) = b := ⟨_, rfl⟩
        rw [hso] at hSo hZe
        obtain ⟨dn, hdn⟩ : ∃ b, doneT t.1 t.2 = b := ⟨_, rfl⟩
        rw [hdn] at hDone hZe
        clear hU0 hso hdn HU2
        by_cases hd : dn = 0
        · subst hd
          cases so with
          | true =>
            rw [if_pos ⟨rfl, rfl⟩] at hZe
            have HZE := Lib.hid hZe
            clear hZe
            go_wp2_with (first
              | (go_at_call 66; refine hDone.out.mono ?_; rintro e w4 ⟨rfl, rfl⟩)
              | (go_at_call 23; refine hSo.out.mono ?_; rintro e w5 ⟨rfl, hf5⟩; have HF5 := Lib.hid hf5; clear hf5))
            go_ret2
            refine ⟨HI.out.fr.trans HF5.out, ?_⟩
            rw [HZE.out]
            exact ⟨g, fun b => b = g ∨ b = m ∨ T0 b ∨ TB b, rfl, ⟨l, ⟨gs, m, T0, TB, HI.out.sb.keep HF5.out (fun _ _ e => e), fun _ => Iff.rfl⟩, rfl⟩, fun b hb => by have := HI.out.lo b hb; have := HZ1.out; omega⟩
          | false =>
            rw [if_neg (by simp)] at hZe
            have HZE := Lib.hid hZe
            clear hZe
            go_wp2_with (first
              | (go_at_call 66; refine hDone.out.mono ?_; rintro e w4 ⟨rfl, rfl⟩)
              | (go_at_call 23; refine hSo.out.mono ?_; rintro e w5 ⟨rfl, hf5⟩; have HF5 := Lib.hid hf5; clear hf5))
            go_ret2
            exact ⟨HI.out.fr.trans HF5.out, by rw [HZE.out]; rfl⟩
        · rw [if_neg (fun e => hd e.1)] at hZe
          have HZE := Lib.hid hZe
          clear hZe
          go_wp2_with (go_at_call 66; refine hDone.out.mono ?_; rintro e w4 ⟨rfl, rfl⟩)
          go_ret2
          exact ⟨HI.out.fr, by rw [HZE.out]; rfl⟩
end Go.Proofs.YtogphlnakdnchaaGreat

namespace Go.Proofs.YtogphlnakdnchaaGreat
open Go.RowKit Go.Maps
def gA : Str := [97]
def L5 : Its := [(gA, 5)]
def L3 : Its := [(gA, 3)]
def B1 : Stk := [(gA, ⟨5, 0, 0, 0, 5, 0, 0, 0, 0, 0, 0⟩)]
def B2 : Stk := [(gA, ⟨2, 3, 0, 0, 5, 0, 0, 0, 0, 0, 0⟩)]
theorem okB {R : SR} (h : SRok R) : SOk [(gA, R)] := by
  have hm : ∀ p ∈ [(gA, R)], p = (gA, R) := fun p hp => by simpa using hp
  refine ⟨List.pairwise_singleton _ _, fun p hp => ?_, fun p hp => ?_, by simp⟩
  · rw [hm p hp]; rfl
  · rw [hm p hp]; exact h
theorem ok0 : SOk [] := by
  refine ⟨List.Pairwise.nil, fun p hp => ?_, fun p hp => ?_, by simp⟩ <;> exact absurd hp (by simp)
theorem ok1 : SOk B1 := okB (SRok.of rfl rfl)
theorem ok2 : SOk B2 := okB (SRok.of rfl rfl)
end Go.Proofs.YtogphlnakdnchaaGreat

namespace Go.Proofs.YtogphlnakdnchaaGreat
open Go.RowKit Go.Maps
section
variable {w W W' : World} {g : Nat} {TS : Nat → Prop} {A : Stk} {le : Hes}
theorem ePack (h : SHE w g TS A le) (hk : ShOk A le) : Calls Tryz.prog 17 #[.pointer (some ⟨g, 0, none⟩)] w fun e w' => ∃ v, e = .returned v ∧ Bs w' v (packH A le) ∧ (∀ b, v.ownBlock = some b → w.heap.size ≤ b) ∧ Fr (fun _ => False) w w' := by
  obtain ⟨l, ⟨gs, m, T0, TB, h1, h2⟩, rfl⟩ := h
  refine (hPack w g gs m T0 TB A l h1 hk).mono ?_
  rintro e w' ⟨v, rfl, q1, q2⟩
  have := Bs.own q1 (packH_byt hk)
  exact ⟨v, rfl, this.1, fun b hb => this.2 b hb, q2⟩
theorem eSound (h : SHE w g TS A le) (hk : ShOk A le) : Calls Tryz.prog 23 #[.pointer (some ⟨g, 0, none⟩)] w fun e w' => e = .returned (.bool (soundE A le)) ∧ Fr (fun _ => False) w w' := by
  obtain ⟨l, ⟨gs, m, T0, TB, h1, h2⟩, rfl⟩ := h
  exact hSound w g gs m T0 TB A l h1 hk
end
/-- A law's own shelf, and a list that is kept. -/
structure LvH (w W : World) (g : Nat) (A : Stk) (le : Hes) (v : Value) (L : Its) : Prop where
  ex : ∃ TS, SHE W g TS A le ∧ (∀ b, TS b → w.heap.size ≤ b) ∧ ∀ b, v.ownBlock = some b → ¬ TS b
  il : Il W v L
  vlt : ∀ b, v.ownBlock = some b → b < W.heap.size
  fr : Fr (fun _ => False) w W
  ok : ShOk A le
section
variable {w W W' : World} {g : Nat} {A A' : Stk} {le le' : Hes} {v u : Value} {L L' M : Its} {o c k : Int}
theorem LvH.keep (h : LvH w W g A le v L) (hf : Fr (fun _ => False) W W') : LvH w W' g A le v L := by
  obtain ⟨⟨TS, h1, h2, h3⟩, h4, h5, h6, h7⟩ := h
  exact ⟨⟨TS, h1.keep hf (fun _ _ e => e), h2, h3⟩, h4.fr hf (fun _ e => e.elim), fun b hb => Nat.lt_of_lt_of_le (h5 b hb) hf.size, h6.trans hf, h7⟩
theorem LvH.do (h : LvH w W g A le v L) (hu : Il W u M) (e : doH A k M = (c, A')) (hk : ShOk A' le) : Calls Tryz.prog 14 #[.pointer (some ⟨g, 0, none⟩), .int .i64 k, u] W fun e w' => e = .returned (.int .i64 c) ∧ LvH w w' g A' le v L := by
  obtain ⟨⟨TS, h1, h2, h3⟩, h4, h5, h6, h7⟩ := h
  refine (eDo k u M h1 h7 hu).mono ?_
  rintro e2 w' ⟨TS', rfl, q1, q2⟩
  rw [e] at q1 ⊢
  exact ⟨rfl, ⟨TS', q1, fun b hb => (q2.2 b hb).elim (h2 b) (fun e => Nat.le_trans h6.size e), fun b hb e => (q2.2 b e).elim (h3 b hb) (fun e => by have := h5 b hb; omega)⟩,
    h4.keep q2.1 (fun _ b hb => h3 b hb), fun b hb => Nat.lt_of_lt_of_le (h5 b hb) q2.1.size, h6.trans' q2.1 (fun b hl e => by have := h2 b e; omega), hk⟩
theorem LvH.ans (h : LvH w W g A le v L) {TS : Nat → Prop} (h1 : ∀ b, TS b → w.heap.size ≤ b) {e : Ending} (hA : Ans W g TS ((L', c), A', le') e W') (hk : ShOk A' le') : ∃ v', e = .returned (.tuple #[v', .int .i64 c]) ∧ LvH w W' g A' le' v' L' := by
  obtain ⟨v', TS', rfl, q1, q2, q3, q4⟩ := hA
  have h6 := h.fr
  exact ⟨v', rfl, ⟨TS', q1, fun b hb => (q4.2 b hb).elim (h1 b) (fun e => Nat.le_trans h6.size e), fun b hb => (q3 b hb).2.2⟩, q2, fun b hb => (q3 b hb).2.1, h6.trans' q4.1 (fun b hl e => by have := h1 b e; omega), hk⟩
theorem LvH.take (h : LvH w W g A le v L) (hu : Il W u M) (ho : okI o) (e : takeE A le o M = ((L', c), A', le')) (hk : ShOk A' le') : Calls Tryz.prog 8 #[.pointer (some ⟨g, 0, none⟩), .int .i64 o, u] W fun e w' => ∃ v', e = .returned (.tuple #[v', .int .i64 c]) ∧ LvH w w' g A' le' v' L' := by
  obtain ⟨TS, h1, h2, h3⟩ := h.ex
  refine (eTake o u M h1 h.ok ho hu).mono ?_
  intro e2 w' q
  rw [e] at q
  exact h.ans h2 q hk
/-- A call beside which the kept list stays. -/
theorem LvH.ans2 (h : LvH w W g A le v L) {TS : Nat → Prop} (h1 : ∀ b, TS b → w.heap.size ≤ b) (h3 : ∀ b, v.ownBlock = some b → ¬ TS b) {e : Ending} (hA : Ans W g TS ((L', c), A', le') e W') (hk : ShOk A' le') : ∃ v', e = .returned (.tuple #[v', .int .i64 c]) ∧ LvH w W' g A' le' v L ∧ Il W' v' L' := by
  obtain ⟨v', TS', rfl, q1, q2, q3, q4⟩ := hA
  have h6 := h.fr
  have h5 := h.vlt
  exact ⟨v', rfl, ⟨⟨TS', q1, fun b hb => (q4.2 b hb).elim (h1 b) (fun e => Nat.le_trans h6.size e), fun b hb e => (q4.2 b e).elim (h3 b hb) (fun e => by have := h5 b hb; omega)⟩, h.il.keep q4.1 (fun _ b hb => h3 b hb), fun b hb => Nat.lt_of_lt_of_le (h5 b hb) q4.1.size, h6.trans' q4.1 (fun b hl e => by have := h1 b e; omega), hk⟩, q2⟩
theorem LvH.free (h : LvH w W g A le v L) (ho : okI o) (e : freeE A le o = ((L', c), A', le')) (hk : ShOk A' le') : Calls Tryz.prog 10 #[.pointer (some ⟨g, 0, none⟩), .int .i64 o] W fun e w' => ∃ v', e = .returned (.tuple #[v', .int .i64 c]) ∧ LvH w w' g A' le' v L ∧ Il w' v' L' := by
  obtain ⟨TS, h1, h2, h3⟩ := h.ex
  refine (eFree o h1 h.ok ho).mono ?_
  intro e2 w' q
  rw [e] at q
  exact h.ans2 h2 h3 q hk
theorem LvH.pack (h : LvH w W g A le v L) : Calls Tryz.prog 17 #[.pointer (some ⟨g, 0, none⟩)] W fun e w' => ∃ u, e = .returned u ∧ Bs w' u (packH A le) ∧ LvH w w' g A le v L := by
  obtain ⟨TS, h1, h2, h3⟩ := h.ex
  refine (ePack h1 h.ok).mono ?_
  rintro e w' ⟨u, rfl, q1, -, q2⟩
  exact ⟨u, rfl, q1, h.keep q2⟩
theorem LvH.stock (h : LvH w W g A le v L) : Calls Tryz.prog 22 #[.pointer (some ⟨g, 0, none⟩)] W fun e w' => ∃ g', e = .returned (.pointer (some ⟨g', 0, none⟩)) ∧ LvH w w' g A le v L := by
  obtain ⟨TS, h1, h2, h3⟩ := h.ex
  refine (eStock h1).mono ?_
  rintro e w' ⟨g', TS', rfl, q1, q2, -⟩
  exact ⟨g', rfl, h.keep q2⟩
theorem LvH.new (w : World) : Calls Tryz.prog 6 #[] w fun e w' => ∃ g, e = .returned (.pointer (some ⟨g, 0, none⟩)) ∧ LvH w w' g [] [] (.slice none 0 0) [] := by
  refine (eNew w).mono ?_
  rintro e w' ⟨g, TS, rfl, h1, h2, h3⟩
  exact ⟨g, rfl, ⟨TS, h1, h2, fun b hb => (by cases hb)⟩, il_nil _, fun b hb => (by cases hb), h3, ⟨ok0, List.Pairwise.nil, fun p hp => (by cases hp), by simp⟩⟩
end
def HA2 : Stk := [(gA, ⟨0, 5, 0, 0, 5, 0, 0, 0, 0, 0, 0⟩)]
def hl2 : Hes := [(1, ⟨1, L5, [], []⟩)]
theorem hv1 : doH [] 1 L5 = (0, B1) := by kernel_rfl
theorem hv2 : takeE B1 [] 1 [(gA, 7)] = ((L5, 0), HA2, hl2) := by kernel_rfl
theorem hv3 : unpackH (packH HA2 hl2) = some (HA2, hl2) := by kernel_rfl
theorem hv4 : freeE HA2 hl2 1 = ((L5, 0), B1, []) := by kernel_rfl
theorem hv5 : freeE B1 [] 1 = (([], 4), B1, []) := by kernel_rfl
theorem hv6 : soundE HA2 hl2 = true := by kernel_rfl
theorem hkB : ShOk B1 [] := ⟨ok1, List.Pairwise.nil, fun p hp => (by cases hp), by simp⟩
theorem hk2 : ShOk HA2 hl2 := ⟨okB (SRok.of rfl rfl), List.pairwise_singleton _ _, fun p hp => by
  have : p = (1, ⟨1, L5, [], []⟩) := by simpa [hl2] using hp
  subst this
  exact ⟨rfl, by decide, rfl, rfl, rfl, by decide⟩, by decide⟩
theorem hlLen : (packH HA2 hl2).length = 23 := by kernel_rfl
end Go.Proofs.YtogphlnakdnchaaGreat

namespace Go.Proofs.YtogphlnakdnchaaGreat
open Go.RowKit Go.Maps
theorem ilAt1 {W : World} {b : Nat} {n : Int} (h : W.heap[b]? = some (.cells #[.string ⟨#[97]⟩, .int .i64 n] 65)) (hn : okI n) : Il W (.slice (some ⟨b, 0, none⟩) 1 1) [(gA, n)] := by
  refine ⟨by simp, some ⟨b, 0, none⟩, 1, rfl, fun i p hp => ?_⟩
  match i, hp with
  | 0, hp =>
    cases hp
    exact ⟨by simp [okS, gA, maxLen], hn, _, rfl, cell_obj h 0 _ rfl, cell_obj h 1 _ rfl⟩
/-- Two shelves of a law's own, and two lists. -/
structure LvX (w W : World) (g : Nat) (A : Stk) (le : Hes) (v : Value) (L : Its) (u : Value) (M : Its) (gx : Nat) (B : Stk) (lx : Hes) : Prop where
  ex : ∃ TS TX, SHE W g TS A le ∧ SHE W gx TX B lx ∧ (∀ b, TS b → w.heap.size ≤ b) ∧ (∀ b, v.ownBlock = some b → ¬ TS b) ∧ (∀ b, u.ownBlock = some b → ¬ TS b) ∧ ∀ b, TX b → ¬ TS b
  il : Il W v L
  vlt : ∀ b, v.ownBlock = some b → b < W.heap.size
  iu : Il W u M
  ult : ∀ b, u.ownBlock = some b → b < W.heap.size
  fr : Fr (fun _ => False) w W
  ok : ShOk A le
section
variable {w W W' : World} {g gx : Nat} {A A' B : Stk} {le le' lx : Hes} {v u : Value} {L L' M : Its} {o c k : Int}
theorem LvX.of (h : LvH w W g A le v L) {TX : Nat → Prop} (hf : Fr (fun _ => False) W W') (hx : SHE W' gx TX B lx) (hl : ∀ b, TX b → W.heap.size ≤ b) : LvX w W' g A le v L (.slice none 0 0) [] gx B lx := by
  have h2 := h.keep hf
  obtain ⟨TS, q1, q2, q3⟩ := h.ex
  exact ⟨⟨TS, TX, q1.keep hf (fun _ _ e => e), hx, q2, q3, fun b hb => (by cases hb), fun b hb e => by have := q1.lt b e; have := hl b hb; omega⟩, h2.il, h2.vlt, il_nil _, fun b hb => (by cases hb), h2.fr, h2.ok⟩
theorem LvX.keep (h : LvX w W g A le v L u M gx B lx) (hf : Fr (fun _ => False) W W') : LvX w W' g A le v L u M gx B lx := by
  obtain ⟨⟨TS, TX, h1, h1x, h2, h3, h3u, h3x⟩, h4, h5, h4u, h5u, h6, h7⟩ := h
  exact ⟨⟨TS, TX, h1.keep hf (fun _ _ e => e), h1x.keep hf (fun _ _ e => e), h2, h3, h3u, h3x⟩, h4.fr hf (fun _ e => e.elim), fun b hb => Nat.lt_of_lt_of_le (h5 b hb) hf.size, h4u.fr hf (fun _ e => e.elim), fun b hb => Nat.lt_of_lt_of_le (h5u b hb) hf.size, h6.trans hf, h7⟩
theorem LvX.h (h : LvX w W g A le v L u M gx B lx) : LvH w W g A le v L := by
  obtain ⟨⟨TS, TX, h1, h1x, h2, h3, h3u, h3x⟩, h4, h5, h4u, h5u, h6, h7⟩ := h
  exact ⟨⟨TS, h1, h2, h3⟩, h4, h5, h6, h7⟩
theorem LvX.free (h : LvX w W g A le v L u M gx B lx) (ho : okI o) (e : freeE A le o = ((L', c), A', le')) (hk : ShOk A' le') : Calls Tryz.prog 10 #[.pointer (some ⟨g, 0, none⟩), .int .i64 o] W fun e w' => ∃ v', e = .returned (.tuple #[v', .int .i64 c]) ∧ LvX w w' g A' le' v L u M gx B lx ∧ LvX w w' g A' le' v L v' L' gx B lx := by
  obtain ⟨⟨TS, TX, h1, h1x, h2, h3, h3u, h3x⟩, h4, h5, h4u, h5u, h6, h7⟩ := h
  refine (eFree o h1 h7 ho).mono ?_
  intro e2 w' q
  rw [e] at q
  obtain ⟨v', TS', rfl, q1, q2, q3, q4⟩ := q
  have hlx := h1x.lt
  have a1 : ∀ b, TS' b → w.heap.size ≤ b := fun b hb => (q4.2 b hb).elim (h2 b) (fun e => Nat.le_trans h6.size e)
  have a2 : ∀ b, v.ownBlock = some b → ¬ TS' b := fun b hb e => (q4.2 b e).elim (h3 b hb) (fun e => by have := h5 b hb; omega)
  have a3 : ∀ b, u.ownBlock = some b → ¬ TS' b := fun b hb e => (q4.2 b e).elim (h3u b hb) (fun e => by have := h5u b hb; omega)
  have a4 : ∀ b, TX b → ¬ TS' b := fun b hb e => (q4.2 b e).elim (h3x b hb) (fun e => by have := hlx b hb; omega)
  have a5 := h1x.keep q4.1 h3x
  have a6 := h4.keep q4.1 (fun _ b hb => h3 b hb)
  have a7 : ∀ b, v.ownBlock = some b → b < w'.heap.size := fun b hb => Nat.lt_of_lt_of_le (h5 b hb) q4.1.size
  have a8 : Fr (fun _ => False) w w' := h6.trans' q4.1 (fun b hl e => by have := h2 b e; omega)
  exact ⟨v', rfl, ⟨⟨TS', TX, q1, a5, a1, a2, a3, a4⟩, a6, a7, h4u.keep q4.1 (fun _ b hb => h3u b hb), fun b hb => Nat.lt_of_lt_of_le (h5u b hb) q4.1.size, a8, hk⟩,
    ⟨⟨TS', TX, q1, a5, a1, a2, fun b hb => (q3 b hb).2.2, a4⟩, a6, a7, q2, fun b hb => (q3 b hb).2.1, a8, hk⟩⟩
theorem LvX.sound (h : LvX w W g A le v L u M gx B lx) (hk : ShOk B lx) : Calls Tryz.prog 23 #[.pointer (some ⟨gx, 0, none⟩)] W fun e w' => e = .returned (.bool (soundE B lx)) ∧ LvX w w' g A le v L u M gx B lx := by
  obtain ⟨TS, TX, h1, h1x, h2, h3, h3u, h3x⟩ := h.ex
  refine (eSound h1x hk).mono ?_
  rintro e w' ⟨rfl, hf⟩
  exact ⟨rfl, h.keep hf⟩
end
theorem ilCell {w : World} {ia : Addr} {n c : Nat} {p : Str × Int} {r : Its} (h : Il w (.slice (some ia) n c) (p :: r)) : w.cell? ia = some (vS p.1) ∧ w.cell? ⟨ia.block, ia.off + 1, none⟩ = some (.int .i64 p.2) := by
  obtain ⟨ad, e, -, -, h1, h2⟩ := Il.at_ (k := 0) (p := p) h rfl
  injection e with e
  subst e
  have e0 : ia.add (0 * 2) = ia := by unfold Addr.add; simp
  rw [e0] at h1 h2
  exact ⟨h1, h2⟩
set_option maxRecDepth 100000 in
set_option maxHeartbeats 8000000 in
theorem hLives (w : World) : Calls Tryz.prog 7 #[] w fun e w' => e = .returned (.bool true) ∧ Fr (fun _ => False) w w' := by
  have hnf := fun (w : World) (f : Fn) (x y : Array Value) => run_eql_func_nil (P := Tryz.prog) w 53 _ _ _ f x y Tryz.underlying53
  go_enter Tryz.func7, Tryz.ntmps7
  go_wp2_with (first
    | (go_at_call 22; refine HV7.out.stock.mono ?_; rintro e w13 ⟨gk, rfl, hv⟩; have HV8 := Lib.hid hv; clear hv)
    | (go_at_call 18; refine (r6Same _ _ _ _ _ HX6.out.il HX6.out.iu).mono ?_; rw [decide_eq_true rfl]; rintro e w12 ⟨rfl, n12, rfl⟩; have HV7 := Lib.hid (HX6.out.keep ((Fr.refl _ _).drewN n12)).h)
    | (go_at_call 23; refine (HXb.out.sound hk2).mono ?_; rw [hv6]; rintro e w11 ⟨rfl, hx⟩; have HX6 := Lib.hid hx; clear hx)
    | (go_at_call 10; refine (HXa.out.free (by simp [okI]) hv5 hkB).mono ?_; rintro e w10 ⟨v10, rfl, hx, hz⟩; obtain ⟨b10, d10, e10⟩ := hz.iu.sl; obtain rfl : v10 = .slice b10 0 d10 := e10; have HXb := Lib.hid hx; obtain ⟨i0, i1⟩ := ilCell hx.il; clear hx hz)
    | (go_at_call 10; refine (HX5.out.free (by simp [okI]) hv4 hkB).mono ?_; rintro e w9 ⟨v9, rfl, -, hx⟩; obtain ⟨b9, d9, e9⟩ := hx.iu.sl; obtain rfl : v9 = .slice b9 1 d9 := e9; have HXa := Lib.hid hx; clear hx)
    | (go_at_call 25; refine (hUnpack _ _ (packH HA2 hl2) HB6.out (by rw [hlLen]; decide) (packH_byt hk2)).mono ?_; rw [hv3]; rintro e w8 ⟨hf, gx, TX, rfl, hx, hlx⟩; have HX5 := Lib.hid (LvX.of HV4.out hf hx hlx); clear hf hx hlx)
    | (go_at_call 17; refine HV3.out.pack.mono ?_; rintro e w7 ⟨u7, rfl, hb, hv⟩; have HB6 := Lib.hid hb; have HV4 := Lib.hid hv; clear hb hv)
    | (go_at_call 8; refine ((HV2.out.keep ((Fr.refl _ _).alloc _)).take (ilAt1 (n := 7) (heap_new _ _) (by simp [okI])) (by simp [okI]) hv2 hk2).mono ?_; rintro e w6 ⟨v6, rfl, hv⟩; obtain ⟨ta, tc, e6⟩ := hv.il.sl; obtain rfl : v6 = .slice ta 1 tc := e6; obtain ⟨ia, rfl, -⟩ := Il.at_ (k := 0) (p := (gA, 5)) hv.il rfl; have HV3 := Lib.hid hv; clear hv)
    | (go_at_call 14; refine ((HV1.out.keep (((Fr.refl _ _).alloc _).alloc _)).do (ilAt1 (n := 5) (heap_at (by simp) _) (by simp [okI])) hv1 hkB).mono ?_; rintro e w4 ⟨rfl, hv⟩; have HV2 := Lib.hid hv; clear hv)
    | (go_at_call 19; refine (hOrders _ _).mono ?_; rintro e w2 ⟨rfl, rfl⟩)
    | (go_at_call 6; refine (LvH.new _).mono ?_; rintro e w1 ⟨g, rfl, hv⟩; have HV1 := Lib.hid hv; clear hv))
  go_ret
  exact ⟨rfl, HV8.out.fr⟩
end Go.Proofs.YtogphlnakdnchaaGreat

namespace Go.Proofs.YtogphlnakdnchaaGreat
open Go.RowKit Go.Maps
end Go.Proofs.YtogphlnakdnchaaGreat

namespace Go.Proofs.YtogphlnakdnchaaGreat
open Go.RowKit Go.Maps
abbrev encK : Int → Value := fun n => .int .i64 n
abbrev Bk := List (Int × Int)
def bk (T : Bk) (y : Int) : Int := (getS T y).getD 0
structure LgS (w W : World) (g mt ms : Nat) (A : Stk) (le : Hes) (T S : Bk) (n1 : Nat) (ob : Option Obj) : Prop where
  sh : ∃ TS, SHE W g TS A le ∧ (∀ b, TS b → w.heap.size ≤ b) ∧ ¬ TS mt ∧ ¬ TS ms ∧ ∀ o, ob = some o → ¬ TS n1
  ok : ShOk A le
  bt : Mp Tryz.prog W 3 ktI encK mt T
  bs : Mp Tryz.prog W 3 ktI encK ms S
  lo : w.heap.size ≤ mt ∧ w.heap.size ≤ ms ∧ mt ≠ ms
  fr : Fr (fun _ => False) w W
  bx : ∀ o, ob = some o → W.heap[n1]? = some o ∧ n1 ≠ mt ∧ n1 ≠ ms
/-- What the books say. -/
structure Led (le : Hes) (T S : Bk) (k : Nat) : Prop where
  tk : ∀ y, (heOf le y).of gA ≤ bk T y
  sp : ∀ y, getI (heOf le y).sh gA = bk S y
  top : ∀ y, bk T y ≤ k * 17592186044416
  len : T.length ≤ k ∧ S.length ≤ k
  rt : T.Pairwise (fun p q => p.1 < q.1) ∧ S.Pairwise (fun p q => p.1 < q.1)
section
variable {w W W' : World} {g mt ms k : Nat} {A A' : Stk} {le le' : Hes} {T S : Bk} {n1 : Nat} {ob : Option Obj} {o : Int}
theorem LgS.keep (h : LgS w W g mt ms A le T S n1 ob) (hf : Fr (fun _ => False) W W') : LgS w W' g mt ms A le T S n1 ob := by
  obtain ⟨⟨TS, h1, h2, h3, h4⟩, h5, h6, h7, h8, h9, h10⟩ := h
  exact ⟨⟨TS, h1.keep hf (fun _ _ e => e), h2, h3, h4⟩, h5, h6.at_ (hf.same mt h6.lt (fun e => e)), h7.at_ (hf.same ms h7.lt (fun e => e)), h8, h9.trans hf, fun o ho => ⟨hf.at_ (h10 o ho).1 (fun e => e), (h10 o ho).2⟩⟩
theorem LgS.box (h : LgS w W g mt ms A le T S n1 none) (o : Obj) : LgS w (W.alloc o) g mt ms A le T S W.heap.size (some o) := by
  obtain ⟨⟨TS, h1, h2, h3, h4, -⟩, h5, h6, h7, h8, h9, -⟩ := h
  have hf : Fr (fun _ => False) W (W.alloc o) := (Fr.refl _ W).alloc _
  have l1 := h6.lt
  have l2 := h7.lt
  exact ⟨⟨TS, h1.keep hf (fun _ _ e => e), h2, h3, h4, fun _ _ e => by have := h1.lt _ e; omega⟩, h5, h6.at_ (hf.same mt h6.lt (fun e => e)), h7.at_ (hf.same ms h7.lt (fun e => e)), h8, h9.trans hf, fun o' ho => by cases ho; exact ⟨heap_new _ _, by omega, by omega⟩⟩
theorem LgS.drop (h : LgS w W g mt ms A le T S n1 ob) (n2 : Nat) : LgS w W g mt ms A le T S n2 none := by
  obtain ⟨⟨TS, h1, h2, h3, h4, -⟩, h5, h6, h7, h8, h9, -⟩ := h
  exact ⟨⟨TS, h1, h2, h3, h4, fun _ e => by cases e⟩, h5, h6, h7, h8, h9, fun _ e => by cases e⟩
theorem LgS.ans (h : LgS w W g mt ms A le T S n1 ob) {TS : Nat → Prop} (h2 : ∀ b, TS b → w.heap.size ≤ b) (h3 : ¬ TS mt) (h4 : ¬ TS ms) (hx : ∀ o, ob = some o → ¬ TS n1) {R : (Its × Int) × Stk × Hes} (hR : ShOk R.2.1 R.2.2) {e : Ending} (q : Ans W g TS R e W') :
    ∃ v', e = .returned (.tuple #[v', .int .i64 R.1.2]) ∧ Il W' v' R.1.1 ∧ LgS w W' g mt ms R.2.1 R.2.2 T S n1 ob := by
  obtain ⟨v', TS', rfl, q1, q2, q3, q4⟩ := q
  have l1 := h.bt.lt
  have l2 := h.bs.lt
  have h9 := h.fr
  exact ⟨v', rfl, q2, ⟨TS', q1, fun b hb => (q4.2 b hb).elim (h2 b) (fun e => Nat.le_trans h9.size e), fun e => (q4.2 _ e).elim h3 (fun e => by omega), fun e => (q4.2 _ e).elim h4 (fun e => by omega), fun o ho e => (q4.2 _ e).elim (hx o ho) (fun e => by have := (Array.getElem?_eq_some_iff.1 (h.bx o ho).1).1; omega)⟩, hR, h.bt.at_ (q4.1.same mt l1 h3), h.bs.at_ (q4.1.same ms l2 h4), h.lo, h9.trans' q4.1 (fun b hl e => by have := h2 b e; omega), fun o ho => ⟨q4.1.at_ (h.bx o ho).1 (hx o ho), (h.bx o ho).2⟩⟩
theorem LgS.take {v : Value} {L : Its} (h : LgS w W g mt ms A le T S n1 ob) (ho : okI o) (hv : Il W v L) : Calls Tryz.prog 8 #[.pointer (some ⟨g, 0, none⟩), .int .i64 o, v] W fun e w' => ∃ v', e = .returned (.tuple #[v', .int .i64 (takeE A le o L).1.2]) ∧ Il w' v' (takeE A le o L).1.1 ∧ LgS w w' g mt ms (takeE A le o L).2.1 (takeE A le o L).2.2 T S n1 ob := by
  obtain ⟨TS, h1, h2, h3, h4, hx⟩ := h.sh
  refine (eTake o v L h1 h.ok ho hv).mono ?_
  intro e w' q
  exact h.ans h2 h3 h4 hx (take_ok h.ok).1.sh q
theorem LgS.free (h : LgS w W g mt ms A le T S n1 ob) (ho : okI o) : Calls Tryz.prog 10 #[.pointer (some ⟨g, 0, none⟩), .int .i64 o] W fun e w' => ∃ v', e = .returned (.tuple #[v', .int .i64 (freeE A le o).1.2]) ∧ Il w' v' (freeE A le o).1.1 ∧ LgS w w' g mt ms (freeE A le o).2.1 (freeE A le o).2.2 T S n1 ob := by
  obtain ⟨TS, h1, h2, h3, h4, hx⟩ := h.sh
  refine (eFree o h1 h.ok ho).mono ?_
  intro e w' q
  exact h.ans h2 h3 h4 hx (free_ok h.ok).1.sh q
theorem LgS.pick (h : LgS w W g mt ms A le T S n1 ob) (ho : okI o) : Calls Tryz.prog 11 #[.pointer (some ⟨g, 0, none⟩), .int .i64 o] W fun e w' => ∃ v', e = .returned (.tuple #[v', .int .i64 (pickE A le o).1.2]) ∧ Il w' v' (pickE A le o).1.1 ∧ LgS w w' g mt ms (pickE A le o).2.1 (pickE A le o).2.2 T S n1 ob := by
  obtain ⟨TS, h1, h2, h3, h4, hx⟩ := h.sh
  refine (ePick o h1 h.ok ho).mono ?_
  intro e w' q
  exact h.ans h2 h3 h4 hx (pickM_ok h.ok).1.sh q
theorem LgS.unpick (h : LgS w W g mt ms A le T S n1 ob) (ho : okI o) : Calls Tryz.prog 12 #[.pointer (some ⟨g, 0, none⟩), .int .i64 o] W fun e w' => ∃ v', e = .returned (.tuple #[v', .int .i64 (unpickE A le o).1.2]) ∧ Il w' v' (unpickE A le o).1.1 ∧ LgS w w' g mt ms (unpickE A le o).2.1 (unpickE A le o).2.2 T S n1 ob := by
  obtain ⟨TS, h1, h2, h3, h4, hx⟩ := h.sh
  refine (eUnpick o h1 h.ok ho).mono ?_
  intro e w' q
  exact h.ans h2 h3 h4 hx (unpickM_ok h.ok).1.sh q
theorem LgS.ship (h : LgS w W g mt ms A le T S n1 ob) (ho : okI o) : Calls Tryz.prog 13 #[.pointer (some ⟨g, 0, none⟩), .int .i64 o] W fun e w' => ∃ v', e = .returned (.tuple #[v', .int .i64 (shipE A le o).1.2]) ∧ Il w' v' (shipE A le o).1.1 ∧ LgS w w' g mt ms (shipE A le o).2.1 (shipE A le o).2.2 T S n1 ob := by
  obtain ⟨TS, h1, h2, h3, h4, hx⟩ := h.sh
  refine (eShip o h1 h.ok ho).mono ?_
  intro e w' q
  exact h.ans h2 h3 h4 hx (shipM_ok h.ok).1.sh q
theorem LgS.do {v : Value} {L : Its} {d : Int} (h : LgS w W g mt ms A le T S n1 ob) (hv : Il W v L) : Calls Tryz.prog 14 #[.pointer (some ⟨g, 0, none⟩), .int .i64 d, v] W fun e w' => e = .returned (.int .i64 (doH A d L).1) ∧ LgS w w' g mt ms (doH A d L).2 le T S n1 ob := by
  obtain ⟨TS, h1, h2, h3, h4, hx⟩ := h.sh
  have l1 := h.bt.lt
  have l2 := h.bs.lt
  have h9 := h.fr
  refine (eDo d v L h1 h.ok hv).mono ?_
  rintro e w' ⟨TS', rfl, q1, q4⟩
  exact ⟨rfl, ⟨TS', q1, fun b hb => (q4.2 b hb).elim (h2 b) (fun e => Nat.le_trans h9.size e), fun e => (q4.2 _ e).elim h3 (fun e => by omega), fun e => (q4.2 _ e).elim h4 (fun e => by omega), fun o ho e => (q4.2 _ e).elim (hx o ho) (fun e => by have := (Array.getElem?_eq_some_iff.1 (h.bx o ho).1).1; omega)⟩, do_ok h.ok, h.bt.at_ (q4.1.same mt l1 h3), h.bs.at_ (q4.1.same ms l2 h4), h.lo, h9.trans' q4.1 (fun b hl e => by have := h2 b e; omega), fun o ho => ⟨q4.1.at_ (h.bx o ho).1 (hx o ho), (h.bx o ho).2⟩⟩
theorem LgS.hold (h : LgS w W g mt ms A le T S n1 ob) (ho : okI o) : Calls Tryz.prog 15 #[.pointer (some ⟨g, 0, none⟩), .int .i64 o] W fun e w' => ∃ v, e = .returned v ∧ Hd w' W.heap.size v (heOf le o) ∧ Fr (fun _ => False) W w' := by
  obtain ⟨TS, h1, h2, h3, h4, hx⟩ := h.sh
  exact eHold o h1 h.ok ho
theorem LgS.look (h : LgS w W g mt ms A le T S n1 ob) (ho : okI o) : (Instr.lookup 26 (.map (some mt)) (.int .i64 o) false).run Tryz.prog W = .ok (.int .i64 (bk T o)) W ∧ (Instr.lookup 26 (.map (some ms)) (.int .i64 o) false).run Tryz.prog W = .ok (.int .i64 (bk S o)) W := by
  have h1 := h.bt.look kHI Tryz.underlying26 (z := .int .i64 0) (by kernel_rfl) (x := o) ho
  have h2 := h.bs.look kHI Tryz.underlying26 (z := .int .i64 0) (by kernel_rfl) (x := o) ho
  refine ⟨h1.trans ?_, h2.trans ?_⟩
  · unfold bk; cases getS T o <;> rfl
  · unfold bk; cases getS S o <;> rfl
end
end Go.Proofs.YtogphlnakdnchaaGreat

namespace Go.Proofs.YtogphlnakdnchaaGreat
open Go.RowKit Go.Maps
structure XC (w : World) (g : Nat) (TS : Nat → Prop) (k : Nat) (e : Ending) (w' : World) : Prop where
  ex : ∃ a c TS', e = .returned (.tuple #[.int .i64 a, .int .i64 c]) ∧ XE w' g TS' (k + 1) ∧ Stp TS w w' TS'
theorem r8Count (w : World) (g k : Nat) (TS : Nat → Prop) (s : Str) (n : Int) (h : XE w g TS k) : Calls Tryz.prog 47 #[.pointer (some ⟨g, 0, none⟩), vS s, .int .i64 n] w (XC w g TS k) := by
  obtain ⟨T0, TL, A, L, vL, hx, hl, hT⟩ := h
  refine (r7Count w g T0 A s n hx.rs hx.ok).mono ?_
  rintro e w' ⟨rfl, T0', hr, hs⟩
  obtain ⟨⟨v', L', c', TS', -, -, h1, h2⟩⟩ := hx.err hl hT (Fr.refl _ _) hr (countS_ok hx.ok) hs 0
  exact ⟨⟨_, _, TS', rfl, h1, h2⟩⟩
/-- Two shelves of the law's own: s at g says (A, le), the document's at gx answers; a box at n1, and a list that is kept. -/
structure Tw (w W : World) (g gx : Nat) (A : Stk) (le : Hes) (k n1 : Nat) (ob : Option Obj) (u : Value) (M : Its) : Prop where
  sh : ∃ TS TX, SHE W g TS A le ∧ XE W gx TX k ∧ (∀ b, TS b → w.heap.size ≤ b) ∧ (∀ b, TX b → w.heap.size ≤ b) ∧ (∀ b, TS b → ¬ TX b) ∧ (∀ o, ob = some o → ¬ TS n1 ∧ ¬ TX n1) ∧ ∀ b, u.ownBlock = some b → ¬ TS b ∧ ¬ TX b
  ok : ShOk A le
  fr : Fr (fun _ => False) w W
  bx : ∀ o, ob = some o → W.heap[n1]? = some o
  kl : Il W u M
  kb : ∀ b, u.ownBlock = some b → b < W.heap.size
section
variable {w W W' : World} {g gx k n1 : Nat} {A A' : Stk} {le le' : Hes} {ob : Option Obj} {u : Value} {M : Its} {o : Int}
theorem Tw.keep (h : Tw w W g gx A le k n1 ob u M) (hf : Fr (fun _ => False) W W') : Tw w W' g gx A le k n1 ob u M := by
  obtain ⟨⟨TS, TX, h1, h2, h3, h4, h5, h6, h7⟩, q1, q2, q3, q4, q5⟩ := h
  exact ⟨⟨TS, TX, h1.keep hf (fun _ _ e => e), h2.keep hf (fun _ _ e => e), h3, h4, h5, h6, h7⟩, q1, q2.trans hf, fun o ho => hf.at_ (q3 o ho) (fun e => e), q4.keep hf (fun _ _ _ e => e), fun b hb => Nat.lt_of_lt_of_le (q5 b hb) hf.size⟩
theorem Tw.nokl (h : Tw w W g gx A le k n1 ob u M) : Tw w W g gx A le k n1 ob (.slice none 0 0) [] := by
  obtain ⟨⟨TS, TX, h1, h2, h3, h4, h5, h6, h7⟩, q1, q2, q3, q4, q5⟩ := h
  exact ⟨⟨TS, TX, h1, h2, h3, h4, h5, h6, fun b hb => by cases hb⟩, q1, q2, q3, nilIl _, fun b hb => by cases hb⟩
theorem Tw.nobox (h : Tw w W g gx A le k n1 ob u M) (n2 : Nat) : Tw w W g gx A le k n2 none u M := by
  obtain ⟨⟨TS, TX, h1, h2, h3, h4, h5, h6, h7⟩, q1, q2, q3, q4, q5⟩ := h
  exact ⟨⟨TS, TX, h1, h2, h3, h4, h5, fun _ e => (by cases e), h7⟩, q1, q2, fun _ e => (by cases e), q4, q5⟩
theorem Tw.up (h : Tw w W g gx A le k n1 ob u M) {k' : Nat} (hk : k ≤ k') : Tw w W g gx A le k' n1 ob u M := by
  obtain ⟨⟨TS, TX, h1, h2, h3, h4, h5, h6, h7⟩, q1, q2, q3, q4, q5⟩ := h
  exact ⟨⟨TS, TX, h1, h2.up hk, h3, h4, h5, h6, h7⟩, q1, q2, q3, q4, q5⟩
theorem Tw.box (h : Tw w W g gx A le k n1 ob u M) (o : Obj) : Tw w (W.alloc o) g gx A le k W.heap.size (some o) u M := by
  have hk := h.keep ((Fr.refl (fun _ => False) W).alloc o)
  obtain ⟨⟨TS, TX, h1, h2, h3, h4, h5, h6, h7⟩, -, -, -, -, -⟩ := h
  obtain ⟨-, q1, q2, q3, q4, q5⟩ := hk
  have hf : Fr (fun _ => False) W (W.alloc o) := (Fr.refl _ W).alloc _
  exact ⟨⟨TS, TX, h1.keep hf (fun _ _ e => e), h2.keep hf (fun _ _ e => e), h3, h4, h5, fun _ _ => ⟨fun e => by have := h1.lt _ e; omega, fun e => by have := h2.lt _ e; omega⟩, h7⟩, q1, q2, fun o' ho => by cases ho; exact heap_new _ _, q4, q5⟩
/-- The shelf has turned; a list was answered. -/
theorem Tw.sstep {TS TX TS' : Nat → Prop} {v' : Value} {L' : Its} (h : Tw w W g gx A le k n1 ob u M) (h2 : XE W gx TX k) (h1 : SHE W g TS A le) (h3 : ∀ b, TS b → w.heap.size ≤ b) (h4 : ∀ b, TX b → w.heap.size ≤ b) (h5 : ∀ b, TS b → ¬ TX b) (h6 : ∀ o, ob = some o → ¬ TS n1 ∧ ¬ TX n1)
    (hs : SHE W' g TS' A' le') (hk : ShOk A' le') (st : Stp TS W W' TS') (hi : Il W' v' L') (hv : ∀ b, v'.ownBlock = some b → W.heap.size ≤ b ∧ b < W'.heap.size ∧ ¬ TS' b) : Tw w W' g gx A' le' k n1 ob v' L' := by
  have s1 := h.fr.size
  refine ⟨⟨TS', TX, hs, h2.keep st.1 (fun b hb e => h5 b e hb), fun b hb => (st.2 b hb).elim (h3 b) (fun e => Nat.le_trans s1 e), h4, fun b hb e => (st.2 b hb).elim (fun q => h5 b q e) (fun q => by have := h2.lt b e; omega), fun o ho => ⟨fun e => (st.2 _ e).elim (h6 o ho).1 (fun q => by have := (Array.getElem?_eq_some_iff.1 (h.bx o ho)).1; omega), (h6 o ho).2⟩, fun b hb => ⟨(hv b hb).2.2, fun e => by have := h2.lt b e; have := (hv b hb).1; omega⟩⟩, hk, h.fr.trans' st.1 (fun b hb e => by have := h3 b e; omega), fun o ho => st.1.at_ (h.bx o ho) (h6 o ho).1, hi, fun b hb => (hv b hb).2.1⟩
/-- The document's shelf has turned. -/
theorem Tw.xstep {TS TX TX' : Nat → Prop} (h : Tw w W g gx A le k n1 ob u M) (h1 : SHE W g TS A le) (h2 : XE W gx TX k) (h3 : ∀ b, TS b → w.heap.size ≤ b) (h4 : ∀ b, TX b → w.heap.size ≤ b) (h5 : ∀ b, TS b → ¬ TX b) (h6 : ∀ o, ob = some o → ¬ TS n1 ∧ ¬ TX n1) (h7 : ∀ b, u.ownBlock = some b → ¬ TS b ∧ ¬ TX b)
    (hx : XE W' gx TX' (k + 1)) (st : Stp TX W W' TX') : Tw w W' g gx A le (k + 1) n1 ob u M := by
  have s1 := h.fr.size
  have s2 := st.1.size
  refine ⟨⟨TS, TX', h1.keep st.1 (fun b hb e => h5 b hb e), hx, h3, fun b hb => (st.2 b hb).elim (h4 b) (fun e => Nat.le_trans s1 e), fun b hb e => (st.2 b e).elim (fun q => h5 b hb q) (fun q => by have := h1.lt b hb; omega), fun o ho => ⟨(h6 o ho).1, fun e => (st.2 _ e).elim (h6 o ho).2 (fun q => by have := (Array.getElem?_eq_some_iff.1 (h.bx o ho)).1; omega)⟩, fun b hb => ⟨(h7 b hb).1, fun e => (st.2 b e).elim (h7 b hb).2 (fun q => by have := h.kb b hb; omega)⟩⟩, h.ok, h.fr.trans' st.1 (fun b hb e => by have := h4 b e; omega), fun o ho => st.1.at_ (h.bx o ho) (h6 o ho).2, h.kl.keep st.1 (fun _ b hb => (h7 b hb).2), fun b hb => by have := h.kb b hb; omega⟩
theorem Tw.ans (h : Tw w W g gx A le k n1 ob u M) {TS TX : Nat → Prop} (h1 : SHE W g TS A le) (h2 : XE W gx TX k) (h3 : ∀ b, TS b → w.heap.size ≤ b) (h4 : ∀ b, TX b → w.heap.size ≤ b) (h5 : ∀ b, TS b → ¬ TX b) (h6 : ∀ o, ob = some o → ¬ TS n1 ∧ ¬ TX n1)
    {R : (Its × Int) × Stk × Hes} (hR : ShOk R.2.1 R.2.2) {e : Ending} (q : Ans W g TS R e W') : ∃ v', e = .returned (.tuple #[v', .int .i64 R.1.2]) ∧ Tw w W' g gx R.2.1 R.2.2 k n1 ob v' R.1.1 := by
  obtain ⟨v', TS', rfl, q1, q2, q3, q4⟩ := q
  exact ⟨v', rfl, h.sstep h2 h1 h3 h4 h5 h6 q1 hR q4 q2 q3⟩
/-- What the document's shelf answers, beside the other. -/
structure TwA (w W : World) (g gx : Nat) (A : Stk) (le : Hes) (k n1 : Nat) (ob : Option Obj) (u : Value) (M : Its) (e : Ending) (w' : World) : Prop where
  ex : ∃ v' L' c, e = .returned (.tuple #[v', .int .i64 c]) ∧ Il w' v' L' ∧ Tw w w' g gx A le (k + 1) n1 ob u M
theorem Tw.take {v : Value} {L : Its} (h : Tw w W g gx A le k n1 ob u M) (ho : okI o) (hv : Il W v L) : Calls Tryz.prog 8 #[.pointer (some ⟨g, 0, none⟩), .int .i64 o, v] W fun e w' => ∃ v', e = .returned (.tuple #[v', .int .i64 (takeE A le o L).1.2]) ∧ Tw w w' g gx (takeE A le o L).2.1 (takeE A le o L).2.2 k n1 ob v' (takeE A le o L).1.1 := by
  obtain ⟨TS, TX, h1, h2, h3, h4, h5, h6, h7⟩ := h.sh
  refine (eTake o v L h1 h.ok ho hv).mono ?_
  intro e w' q
  exact h.ans h1 h2 h3 h4 h5 h6 (take_ok h.ok).1.sh q
theorem Tw.xtake {v : Value} {L : Its} (h : Tw w W g gx A le k n1 ob u M) (ho : okI o) (hv : Il W v L) (hk : k ≤ 1000) : Calls Tryz.prog 41 #[.pointer (some ⟨gx, 0, none⟩), .int .i64 o, v] W (TwA w W g gx A le k n1 ob u M) := by
  obtain ⟨TS, TX, h1, h2, h3, h4, h5, h6, h7⟩ := h.sh
  refine (r8Take W gx k TX o v L h2 ho hv hk).mono ?_
  rintro e w' ⟨⟨v', L', c, TX', rfl, q1, q2, q3⟩⟩
  exact ⟨⟨v', L', c, rfl, q1, h.xstep h1 h2 h3 h4 h5 h6 h7 q2 q3⟩⟩
theorem Tw.free (h : Tw w W g gx A le k n1 ob u M) (ho : okI o) : Calls Tryz.prog 10 #[.pointer (some ⟨g, 0, none⟩), .int .i64 o] W fun e w' => ∃ v', e = .returned (.tuple #[v', .int .i64 (freeE A le o).1.2]) ∧ Tw w w' g gx (freeE A le o).2.1 (freeE A le o).2.2 k n1 ob v' (freeE A le o).1.1 := by
  obtain ⟨TS, TX, h1, h2, h3, h4, h5, h6, h7⟩ := h.sh
  refine (eFree o h1 h.ok ho).mono ?_
  intro e w' q
  exact h.ans h1 h2 h3 h4 h5 h6 (free_ok h.ok).1.sh q
theorem Tw.xfree (h : Tw w W g gx A le k n1 ob u M) (ho : okI o) (hk : k ≤ 1000) : Calls Tryz.prog 42 #[.pointer (some ⟨gx, 0, none⟩), .int .i64 o] W (TwA w W g gx A le k n1 ob u M) := by
  obtain ⟨TS, TX, h1, h2, h3, h4, h5, h6, h7⟩ := h.sh
  refine (r8Free W gx k TX o h2 ho hk).mono ?_
  rintro e w' ⟨⟨v', L', c, TX', rfl, q1, q2, q3⟩⟩
  exact ⟨⟨v', L', c, rfl, q1, h.xstep h1 h2 h3 h4 h5 h6 h7 q2 q3⟩⟩
theorem Tw.pick (h : Tw w W g gx A le k n1 ob u M) (ho : okI o) : Calls Tryz.prog 11 #[.pointer (some ⟨g, 0, none⟩), .int .i64 o] W fun e w' => ∃ v', e = .returned (.tuple #[v', .int .i64 (pickE A le o).1.2]) ∧ Tw w w' g gx (pickE A le o).2.1 (pickE A le o).2.2 k n1 ob v' (pickE A le o).1.1 := by
  obtain ⟨TS, TX, h1, h2, h3, h4, h5, h6, h7⟩ := h.sh
  refine (ePick o h1 h.ok ho).mono ?_
  intro e w' q
  exact h.ans h1 h2 h3 h4 h5 h6 (pickM_ok h.ok).1.sh q
theorem Tw.xpick (h : Tw w W g gx A le k n1 ob u M) (ho : okI o) (hk : k ≤ 1000) : Calls Tryz.prog 43 #[.pointer (some ⟨gx, 0, none⟩), .int .i64 o] W (TwA w W g gx A le k n1 ob u M) := by
  obtain ⟨TS, TX, h1, h2, h3, h4, h5, h6, h7⟩ := h.sh
  refine (r8Pick W gx k TX o h2 ho hk).mono ?_
  rintro e w' ⟨⟨v', L', c, TX', rfl, q1, q2, q3⟩⟩
  exact ⟨⟨v', L', c, rfl, q1, h.xstep h1 h2 h3 h4 h5 h6 h7 q2 q3⟩⟩
theorem Tw.unpick (h : Tw w W g gx A le k n1 ob u M) (ho : okI o) : Calls Tryz.prog 12 #[.pointer (some ⟨g, 0, none⟩), .int .i64 o] W fun e w' => ∃ v', e = .returned (.tuple #[v', .int .i64 (unpickE A le o).1.2]) ∧ Tw w w' g gx (unpickE A le o).2.1 (unpickE A le o).2.2 k n1 ob v' (unpickE A le o).1.1 := by
  obtain ⟨TS, TX, h1, h2, h3, h4, h5, h6, h7⟩ := h.sh
  refine (eUnpick o h1 h.ok ho).mono ?_
  intro e w' q
  exact h.ans h1 h2 h3 h4 h5 h6 (unpickM_ok h.ok).1.sh q
theorem Tw.xunpick (h : Tw w W g gx A le k n1 ob u M) (ho : okI o) (hk : k ≤ 1000) : Calls Tryz.prog 44 #[.pointer (some ⟨gx, 0, none⟩), .int .i64 o] W (TwA w W g gx A le k n1 ob u M) := by
  obtain ⟨TS, TX, h1, h2, h3, h4, h5, h6, h7⟩ := h.sh
  refine (r8Unpick W gx k TX o h2 ho hk).mono ?_
  rintro e w' ⟨⟨v', L', c, TX', rfl, q1, q2, q3⟩⟩
  exact ⟨⟨v', L', c, rfl, q1, h.xstep h1 h2 h3 h4 h5 h6 h7 q2 q3⟩⟩
theorem Tw.ship (h : Tw w W g gx A le k n1 ob u M) (ho : okI o) : Calls Tryz.prog 13 #[.pointer (some ⟨g, 0, none⟩), .int .i64 o] W fun e w' => ∃ v', e = .returned (.tuple #[v', .int .i64 (shipE A le o).1.2]) ∧ Tw w w' g gx (shipE A le o).2.1 (shipE A le o).2.2 k n1 ob v' (shipE A le o).1.1 := by
  obtain ⟨TS, TX, h1, h2, h3, h4, h5, h6, h7⟩ := h.sh
  refine (eShip o h1 h.ok ho).mono ?_
  intro e w' q
  exact h.ans h1 h2 h3 h4 h5 h6 (shipM_ok h.ok).1.sh q
theorem Tw.xship (h : Tw w W g gx A le k n1 ob u M) (ho : okI o) (hk : k ≤ 1000) : Calls Tryz.prog 45 #[.pointer (some ⟨gx, 0, none⟩), .int .i64 o] W (TwA w W g gx A le k n1 ob u M) := by
  obtain ⟨TS, TX, h1, h2, h3, h4, h5, h6, h7⟩ := h.sh
  refine (r8Ship W gx k TX o h2 ho hk).mono ?_
  rintro e w' ⟨⟨v', L', c, TX', rfl, q1, q2, q3⟩⟩
  exact ⟨⟨v', L', c, rfl, q1, h.xstep h1 h2 h3 h4 h5 h6 h7 q2 q3⟩⟩
theorem Tw.do {v : Value} {L : Its} {d : Int} (h : Tw w W g gx A le k n1 ob u M) (hv : Il W v L) : Calls Tryz.prog 14 #[.pointer (some ⟨g, 0, none⟩), .int .i64 d, v] W fun e w' => e = .returned (.int .i64 (doH A d L).1) ∧ Tw w w' g gx (doH A d L).2 le k n1 ob (.slice none 0 0) [] ∧ W.heap.size ≤ w'.heap.size := by
  obtain ⟨TS, TX, h1, h2, h3, h4, h5, h6, h7⟩ := h.sh
  refine (eDo d v L h1 h.ok hv).mono ?_
  rintro e w' ⟨TS', rfl, q1, q4⟩
  exact ⟨rfl, h.sstep h2 h1 h3 h4 h5 h6 q1 (do_ok h.ok) q4 (nilIl _) (fun b hb => by cases hb), q4.1.size⟩
structure TwD (w W : World) (g gx : Nat) (A : Stk) (le : Hes) (k n1 : Nat) (ob : Option Obj) (u : Value) (M : Its) (e : Ending) (w' : World) : Prop where
  ex : ∃ c, e = .returned (.int .i64 c) ∧ Tw w w' g gx A le (k + 1) n1 ob u M ∧ W.heap.size ≤ w'.heap.size
theorem Tw.xdo {v : Value} {L : Its} {d : Int} (h : Tw w W g gx A le k n1 ob u M) (hv : Il W v L) : Calls Tryz.prog 46 #[.pointer (some ⟨gx, 0, none⟩), .int .i64 d, v] W (TwD w W g gx A le k n1 ob u M) := by
  obtain ⟨TS, TX, h1, h2, h3, h4, h5, h6, h7⟩ := h.sh
  refine (r8Do W gx k TX d v L h2 hv).mono ?_
  rintro e w' ⟨⟨c, TX', rfl, q2, q3⟩⟩
  exact ⟨⟨c, rfl, h.xstep h1 h2 h3 h4 h5 h6 h7 q2 q3, q3.1.size⟩⟩
/-- All but the box may have turned. -/
theorem Tw.frn {gx' k' : Nat} {u' : Value} {M' : Its} {o : Obj} (h : Tw w W g gx A le k n1 (some o) u M) (h' : Tw w W' g gx' A' le' k' n1 (some o) u' M') (hz : W.heap.size ≤ W'.heap.size) : Fr (fun c => c ≠ n1) W W' :=
  ⟨h'.fr.os.trans h.fr.os.symm, h'.fr.tape.trans h.fr.tape.symm, h'.fr.output.trans h.fr.output.symm, hz, fun b _ hb => by
    have e : b = n1 := Decidable.not_not.1 hb
    rw [e, h.bx o rfl, h'.bx o rfl]⟩
theorem Tw.count {s : Str} {n : Int} (h : Tw w W g gx A le k n1 ob u M) (hs : okS s) : Calls Tryz.prog 20 #[.pointer (some ⟨g, 0, none⟩), vS s, .int .i64 n] W fun e w' => e = .returned (.tuple #[.int .i64 (countS A s n).1, .int .i64 (countS A s n).2.1]) ∧ Tw w w' g gx (countS A s n).2.2 le k n1 ob (.slice none 0 0) [] := by
  obtain ⟨TS, TX, h1, h2, h3, h4, h5, h6, h7⟩ := h.sh
  refine (eCount s n h1 h.ok hs).mono ?_
  rintro e w' ⟨TS', rfl, q1, q4⟩
  have hk := h.ok
  exact ⟨rfl, h.sstep h2 h1 h3 h4 h5 h6 q1 ⟨countS_ok hk.stk, hk.rise, hk.row, hk.len⟩ q4 (nilIl _) (fun b hb => by cases hb)⟩
structure TwC (w W : World) (g gx : Nat) (A : Stk) (le : Hes) (k n1 : Nat) (ob : Option Obj) (u : Value) (M : Its) (e : Ending) (w' : World) : Prop where
  ex : ∃ a c, e = .returned (.tuple #[.int .i64 a, .int .i64 c]) ∧ Tw w w' g gx A le (k + 1) n1 ob u M
theorem Tw.xcount {s : Str} {n : Int} (h : Tw w W g gx A le k n1 ob u M) : Calls Tryz.prog 47 #[.pointer (some ⟨gx, 0, none⟩), vS s, .int .i64 n] W (TwC w W g gx A le k n1 ob u M) := by
  obtain ⟨TS, TX, h1, h2, h3, h4, h5, h6, h7⟩ := h.sh
  refine (r8Count W gx k TX s n h2).mono ?_
  rintro e w' ⟨⟨a, c, TX', rfl, q2, q3⟩⟩
  exact ⟨⟨a, c, rfl, h.xstep h1 h2 h3 h4 h5 h6 h7 q2 q3⟩⟩
end
end Go.Proofs.YtogphlnakdnchaaGreat

namespace Go.Proofs.YtogphlnakdnchaaGreat
open Go.ChangeShapes Go.WideShapes Go.RowKit Go.Maps
section
variable {H : Type} {enc : TypeId × Value → H} {w : World} {base : Nat} {spare : Nat → Bool} {held : Bool}
theorem leaf_str {P : Program} {t : TypeId} {n : Nat} {v : Value} {y : DataW H × List MemPlace} (ht : P.underlying t = some .string) (h : DataW.trod enc P w base spare held n t [v] = some y) : ∃ s : Str, v = vS s ∧ okS s := by
  obtain ⟨s, e, _, hs⟩ := DataW.trod_string ht h
  injection e with e _
  refine ⟨s.data.toList, e, ?_⟩
  unfold okS
  exact hs
set_option maxRecDepth 100000 in
theorem leaf_items {n : Nat} {v : Value} {y : DataW H × List MemPlace} (h : DataW.trod enc Tryz.prog w base spare held n 27 [v] = some y) : ∃ L, Il w v L := by
  obtain ⟨len, hmax, hs⟩ := leaf_slice (d := 1) Tryz.underlying27 (by kernel_rfl) (by kernel_rfl) h
  have hmax : len ≤ 9223372036854775807 := hmax
  rcases hs with ⟨rfl, rfl⟩ | ⟨a, cap, rfl, hl, hb, hi⟩
  · exact ⟨[], by simp, none, 0, rfl, fun i p hp => by simp at hp⟩
  · have key : ∀ i, i < len → ∃ p : Str × Int, okS p.1 ∧ okI p.2 ∧ w.cell? (a.add (i * 2)) = some (vS p.1) ∧ w.cell? ⟨(a.add (i * 2)).block, (a.add (i * 2)).off + 1, none⟩ = some (.int .i64 p.2) := fun i hil => by
      obtain ⟨u, m, y, hc, ht⟩ := hi i hil 0 9 (by kernel_rfl)
      obtain ⟨u', m', y', hc', ht'⟩ := hi i hil 1 3 (by kernel_rfl)
      obtain ⟨s, rfl, hs⟩ := leaf_str Tryz.underlying9 ht
      obtain ⟨x, rfl, hx⟩ := leaf_i64 Tryz.underlying3 ht'
      have e : (leaves Tryz.prog 1 65).length = 2 := by kernel_rfl
      rw [e] at hc hc'
      exact ⟨(s, x), hs, hx, hc, by rw [← add_field]; exact hc'⟩
    obtain ⟨X, hX⟩ := Go.Deep.choose_lt key
    refine ⟨(List.range len).map X, (by rw [List.length_map, List.length_range]; exact hmax), some a, cap, (by rw [List.length_map, List.length_range]), fun i p hp => ?_⟩
    rw [List.getElem?_map] at hp
    obtain ⟨i', hi', rfl⟩ := Option.map_eq_some_iff.1 hp
    obtain ⟨hlt, e⟩ := List.getElem?_eq_some_iff.1 hi'
    rw [List.getElem_range] at e
    subst e
    obtain ⟨x0, x1, x2, x3⟩ := hX i (by simpa using hlt)
    exact ⟨x0, x1, a, rfl, x2, x3⟩
set_option maxRecDepth 100000 in
theorem open_items {r : Reach} {b0 : Nat} {v : Value} {d : DataW H} {p : List MemPlace} (hv : Value.okWide Tryz.prog w r b0 27 v) (h : DataW.Trod enc Tryz.prog w base spare held 27 v d p) : ∃ L, Il w v L := by
  obtain ⟨fuel, h⟩ := h
  obtain ⟨a0, l0, c0, rfl⟩ := okWide_slice Tryz.underlying27 hv
  have h' := h
  simp only [Value.cells] at h'
  exact leaf_items (n := fuel) (v := .slice a0 l0 c0) h'
end
end Go.Proofs.YtogphlnakdnchaaGreat

namespace Go.Proofs.YtogphlnakdnchaaGreat
open Go.ChangeShapes Go.WideShapes Go.RowKit Go.Deep
section
variable {H : Type} {enc : TypeId × Value → H} {P : Program} {w : World} {base : Nat} {spare : Nat → Bool} {held : Bool} {Z : Nat → Prop}
/-- The leaves lie in these cells; their weights meet Z. -/
def LeafsZ (Z : Nat → Prop) (enc : TypeId × Value → H) (P : Program) (w : World) (base : Nat) (spare : Nat → Bool) (held : Bool) (ts : List TypeId) (cs : List Value) : Prop :=
  ∀ (j : Nat) (t : TypeId), ts[j]? = some t → ∃ (v : Value) (n : Nat) (y : DataW H × List MemPlace), cs[j]? = some v ∧ DataW.trod enc P w base spare held n t [v] = some y ∧ ∀ m ∈ y.1.weights P t, Z m
theorem LeafsZ.nil {cs : List Value} : LeafsZ Z enc P w base spare held [] cs := fun j t h => by simp at h
theorem LeafsZ.append {ts us : List TypeId} {cs : List Value} (h : LeafsZ Z enc P w base spare held ts (cs.take ts.length)) (h' : LeafsZ Z enc P w base spare held us (cs.drop ts.length)) : LeafsZ Z enc P w base spare held (ts ++ us) cs := by
  intro j t hj
  by_cases hl : j < ts.length
  · rw [List.getElem?_append_left hl] at hj
    obtain ⟨v, n, y, h1, h2⟩ := h j t hj
    rw [List.getElem?_take, if_pos hl] at h1
    exact ⟨v, n, y, h1, h2⟩
  · rw [List.getElem?_append_right (by omega)] at hj
    obtain ⟨v, n, y, h1, h2⟩ := h' _ t hj
    rw [List.getElem?_drop, show ts.length + (j - ts.length) = j by omega] at h1
    exact ⟨v, n, y, h1, h2⟩
end
end Go.Proofs.YtogphlnakdnchaaGreat

namespace Go.Proofs.YtogphlnakdnchaaGreat
open Go.ChangeShapes Go.WideShapes Go.RowKit Go.Maps
structure HOp where
  kd : Int
  o : Int
  l : Value
  its : Its
  d : Int
  g : Str
  n : Int
def hopC (r : HOp) : Array Value := #[.int .i64 r.kd, .int .i64 r.o, r.l, .int .i64 r.d, vS r.g, .int .i64 r.n]
def okHop (w : World) (r : HOp) : Prop := okI r.kd ∧ okI r.o ∧ Il w r.l r.its ∧ okI r.d ∧ okS r.g ∧ okI r.n
section
variable {H : Type} {enc : TypeId × Value → H} {w : World} {base : Nat} {spare : Nat → Bool} {held : Bool}
set_option maxRecDepth 100000 in
theorem open_hop (cell : Nat → Option Value) (h : ∀ (j : Nat) (t : TypeId), (leaves Tryz.prog 3 29)[j]? = some t → ∃ (u : Value) (m : Nat) (y : DataW H × List MemPlace), cell j = some u ∧ DataW.trod enc Tryz.prog w base spare held m t [u] = some y) :
    ∃ r : HOp, okHop w r ∧ ∀ (j : Nat) (u : Value), (hopC r)[j]? = some u → cell j = some u := by
  obtain ⟨u0, m0, y0, c0, t0⟩ := h 0 3 (by kernel_rfl)
  obtain ⟨u1, m1, y1, c1, t1⟩ := h 1 3 (by kernel_rfl)
  obtain ⟨u2, m2, y2, c2, t2⟩ := h 2 27 (by kernel_rfl)
  obtain ⟨u3, m3, y3, c3, t3⟩ := h 3 3 (by kernel_rfl)
  obtain ⟨u4, m4, y4, c4, t4⟩ := h 4 9 (by kernel_rfl)
  obtain ⟨u5, m5, y5, c5, t5⟩ := h 5 3 (by kernel_rfl)
  obtain ⟨x0, rfl, k0⟩ := leaf_i64 Tryz.underlying3 t0
  obtain ⟨x1, rfl, k1⟩ := leaf_i64 Tryz.underlying3 t1
  obtain ⟨L, hL⟩ := leaf_items t2
  obtain ⟨x3, rfl, k3⟩ := leaf_i64 Tryz.underlying3 t3
  obtain ⟨s, rfl, k4⟩ := leaf_str Tryz.underlying9 t4
  obtain ⟨x5, rfl, k5⟩ := leaf_i64 Tryz.underlying3 t5
  refine ⟨⟨x0, x1, u2, L, x3, s, x5⟩, ⟨k0, k1, hL, k3, k4, k5⟩, fun j u hu => ?_⟩
  match j, hu with
  | 0, hu => cases hu; exact c0
  | 1, hu => cases hu; exact c1
  | 2, hu => cases hu; exact c2
  | 3, hu => cases hu; exact c3
  | 4, hu => cases hu; exact c4
  | 5, hu => cases hu; exact c5
  | j + 6, hu => simp [hopC] at hu
end
end Go.Proofs.YtogphlnakdnchaaGreat

