/- items.Put. -/
import Derived.Test.YtlniekobijcanaaGreatBinsRoutesM28
import Derived.Test.YtlniekobijcanaaGreatBinsRoutesM2
namespace Go.Proofs.YtlniekobijcanaaGreat
open Go.RowKit Go.Maps
attribute [local go_sem] Oper.semAt_some
/-- Items' bytes. -/
def itsQ (L : Its) : List Int := L.flatMap fun p => textB p.1 ++ numB p.2
theorem itsQ_take {L : Its} {j : Nat} {p : Str × Int} (h : L[j]? = some p) : itsQ (L.take (j + 1)) = itsQ (L.take j) ++ textB p.1 ++ numB p.2 := by
  unfold itsQ
  rw [List.take_add_one, h, List.flatMap_append]
  simp
theorem itsQ_len : ∀ {L : Its}, (∀ p ∈ L, p.1.length ≤ 16 ∧ okI p.2) → (itsQ L).length ≤ 34 * L.length
  | [], _ => by simp [itsQ]
  | p :: r, h => by
    have ih := itsQ_len (L := r) (fun q hq => h q (List.mem_cons_of_mem _ hq))
    obtain ⟨h1, h2⟩ := h p (by simp)
    have e : itsQ (p :: r) = (textB p.1 ++ numB p.2) ++ itsQ r := by simp [itsQ]
    have := textB_len h1
    have := (numB_len h2).2
    rw [e, List.length_append, List.length_append, List.length_cons]
    omega
structure PiS (w : World) (TS0 : Nat → Prop) (n0 : Nat) (W : World) (g : Nat) (TM : Nat → Prop) (bs : List Int) : Prop where
  mkr : MK W g TM bs false
  box : W.heap[n0]? = some (.cells #[.pointer (some ⟨g, 0, none⟩)] 109)
  nb : ¬ TM n0
  st : Stp TS0 w W TM
theorem PiS.fa {B : Nat} {W0 W W' : World} {TS0 : Nat → Prop} {n0 g : Nat} {TM : Nat → Prop} {bs : List Int} (h : PiS W0 TS0 n0 W g TM bs) (hf : Fa B W W') (hB : W0.heap.size ≤ B) : PiS W0 TS0 n0 W' g TM bs :=
  ⟨h.mkr.fa hf, Fa.cells hf h.box, h.nb, Fa.old hf h.st.1 hB, h.st.2⟩
theorem PiS.step {W0 W W' : World} {TS0 : Nat → Prop} {n0 g : Nat} {TM TM' : Nat → Prop} {bs bs' : List Int} (h : PiS W0 TS0 n0 W g TM bs) (hm : MK W' g TM' bs' false) (hs : Stp TM W W' TM') : PiS W0 TS0 n0 W' g TM' bs' :=
  have hl := (Array.getElem?_eq_some_iff.1 h.box).1
  ⟨hm, hs.1.at_ h.box h.nb, fun e => (hs.2 _ e).elim h.nb (fun e => by omega), h.st.trans hs⟩
theorem PiS.set {W0 W : World} {TS0 : Nat → Prop} {n0 g : Nat} {TM : Nat → Prop} {bs : List Int} (h : PiS W0 TS0 n0 W g TM bs) (hn : W0.heap.size ≤ n0) : PiS W0 TS0 n0 (W.setCell ⟨n0, 0, none⟩ (.pointer (some ⟨g, 0, none⟩))) g TM bs :=
  ⟨h.mkr.fr ((Fr.refl (fun c => c = n0) W).setCell (p := ⟨n0, 0, none⟩) (fun _ => rfl) _) (fun b hb e => h.nb (by have e : b = n0 := e; rw [← e]; exact hb)), by rw [obj_set h.box 0 _]; rfl, h.nb,
    ⟨h.st.1.setCell (p := ⟨n0, 0, none⟩) (fun e => by have e : n0 < W0.heap.size := e; omega) _, h.st.2⟩⟩
theorem PiS.keep {W0 W W' : World} {TS0 : Nat → Prop} {n0 g : Nat} {TM : Nat → Prop} {bs : List Int} (h : PiS W0 TS0 n0 W g TM bs) (hf : Fr (fun _ => False) W W') : PiS W0 TS0 n0 W' g TM bs :=
  ⟨h.mkr.fr hf (fun _ _ e => e), hf.at_ h.box (fun e => e), h.nb, h.st.trans (Stp.refl hf)⟩
def PiI (W0 : World) (TS0 : Nat → Prop) (n0 g : Nat) (TM0 : Nat → Prop) (bs : List Int) (L : Its) (k : Nat) (C : Nat → Prop) (W : World) : Prop :=
  ∃ TM, PiS W0 TS0 n0 W g TM (bs ++ itsQ (L.take k)) ∧ ∀ b, TM b → TM0 b ∨ C b
set_option maxRecDepth 100000 in
set_option maxHeartbeats 8000000 in
theorem iPut (w : World) (g : Nat) (TS : Nat → Prop) (bs : List Int) (v : Value) (its : Its) (h : MK w g TS bs false) (hl : bs.length ≤ 200000) (hi : Il w v its) (hT : its ≠ [] → ∀ b, v.ownBlock = some b → ¬ TS b) (hlen : its.length ≤ 16) (hits : ∀ p ∈ its, p.1.length ≤ 16 ∧ okI p.2) :
    Calls Tryz.prog 73 #[.pointer (some ⟨g, 0, none⟩), v] w fun e w' => e = .returned (.pointer (some ⟨g, 0, none⟩)) ∧ ∃ TS', MK w' g TS' (bs ++ (numB (its.length : Int) ++ itsQ its)) false ∧ Stp TS w w' TS' := by
  obtain ⟨n0, hn0⟩ : ∃ n0, w.heap.size = n0 := ⟨_, rfl⟩
  obtain ⟨la, lc, rfl⟩ := hi.sl
  obtain ⟨N, hN⟩ : ∃ N : Nat, its.length = N := ⟨_, rfl⟩
  obtain ⟨W0, hW0⟩ : ∃ W0, w.alloc (.cells #[.pointer (some ⟨g, 0, none⟩)] 109) = W0 := ⟨_, rfl⟩
  have hF0 : Fr (fun _ => False) w W0 := by rw [← hW0]; exact (Fr.refl _ w).alloc _
  have hb0 : W0.heap[n0]? = some (.cells #[.pointer (some ⟨g, 0, none⟩)] 109) := by rw [← hW0]; exact heap_at hn0.symm _
  have hP0 : PiS w TS n0 W0 g TS bs := ⟨h.fr hF0 (fun _ _ e => e), hb0, fun e => by have := h.lt _ e; omega, Stp.refl hF0⟩
  have HIL := Lib.hid hi; have HOB := Lib.hid hi.lt; have HT := Lib.hid hT
  have okN : Hid (okI (N : Int)) := Lib.hid (by unfold okI; omega)
  have hits := Lib.hid hits; have hlen := Lib.hid hlen; have HBS := Lib.hid hl
  have HN := Lib.hid hN; have HS := Lib.hid hn0; have HP0 := Lib.hid hP0; have HF0 := Lib.hid hF0
  have hTlt := Lib.hid h.lt
  rw [hN] at HIL HOB HT ⊢
  have c0 := cell_obj hb0 0 (.pointer (some ⟨g, 0, none⟩)) rfl
  clear h hl hi hT hN hP0 hb0
  refine (callsIn_wide (n := 0)).1 ?_
  refine callsIn_of_wp_marks Tryz.func73 rfl trivial ?_ rfl
  simp only [Tryz.ntmps73, List.size_toArray, List.length_cons, List.length_nil, Nat.reduceAdd, Nat.reduceSub, Array.replicate_succ, Array.replicate_zero, List.push_toArray, List.append_toArray, List.nil_append, List.cons_append]
  have hfn : ∀ f, Fence.wide.fn f := fun _ => trivial
  have hdp : Fence.wide.depth.isSome = false := rfl
  gi_wp2_with (first
    | (gi_at_call 72; refine (callsIn_wide.2 (mNum _ HP0.out.mkr okN.out (by have := HBS.out; omega))).mono ?_; rintro e w1 ⟨rfl, TS1, hM1, hs1⟩; have hP1 := HP0.out.step hM1 hs1; have k0 := cell_obj hP1.box 0 (.pointer (some ⟨g, 0, none⟩)) rfl; have f0 := obj_frozen hP1.box 0; have HP1 := Lib.hid hP1; clear hM1 hs1 hP1)
    | (gi_at_call 102; refine (callsIn_wide.2 (iAll _ _ _ _)).mono ?_; rintro e w2 ⟨rfl, rfl⟩))
  obtain ⟨bs1, hbs1⟩ : ∃ bs1, bs ++ numB (N : Int) = bs1 := ⟨_, rfl⟩
  have hbl : Hid (bs1.length ≤ 200020) := Lib.hid (by rw [← hbs1]; have := HBS.out; have := (numB_len okN.out).2; (try simp only [List.length_append]); omega)
  have hfin : Hid (bs ++ (numB (N : Int) ++ itsQ its) = bs1 ++ itsQ its) := Lib.hid (by rw [← hbs1, List.append_assoc])
  have hPs := HP1.out.set (Nat.le_of_eq HS.out)
  rw [hbs1] at hPs
  obtain ⟨WS, hWS⟩ : ∃ WS, w1.setCell ⟨n0, 0, none⟩ (.pointer (some ⟨g, 0, none⟩)) = WS := ⟨_, rfl⟩
  rw [hWS] at hPs ⊢
  obtain ⟨z1, hzw⟩ : ∃ z1, w1.heap.size = z1 := ⟨_, rfl⟩
  have hz1 : WS.heap.size = z1 := by rw [← hWS, ← hzw]; simp
  clear hWS hbs1 k0 f0 c0 hW0 HP1 HP0
  have hF2 : Fr (fun _ => False) WS (WS.alloc (.cells #[.slice la N lc] 65)) := (Fr.refl _ _).alloc _
  have hBx : Boxed (WS.alloc (.cells #[.slice la N lc] 65)) WS.heap.size 65 (.slice la N lc) := heap_new _ _
  have hs2 : (WS.alloc (.cells #[.slice la N lc] 65)).heap.size = WS.heap.size + 1 := by simp
  obtain ⟨W2, hW2⟩ : ∃ W2, WS.alloc (.cells #[.slice la N lc] 65) = W2 := ⟨_, rfl⟩
  rw [hW2] at hF2 hBx hs2 ⊢
  rw [hz1] at hBx hs2
  rw [hzw]
  have hn1 : n0 < z1 := by rw [← hz1]; exact (Array.getElem?_eq_some_iff.1 hPs.box).1
  have hT1 : Hid (∀ b, TS1 b → b < z1) := Lib.hid (fun b hb => by rw [← hz1]; exact hPs.mkr.lt b hb)
  have hne : Hid (its ≠ [] → ∀ b, la.map (·.block) = some b → ¬ (TS1 b ∨ b = n0)) := Lib.hid (fun hne b hb e => by
    have h2 : (Value.slice la N lc).ownBlock = some b := by cases la <;> simp_all [Value.ownBlock]
    have h3 := HOB.out hne b h2
    have hs := HS.out
    rcases e with e | e
    · rcases hPs.st.2 b e with e | e
      · exact HT.out hne b h2 e
      · omega
    · omega)
  have hP2 := hPs.keep hF2
  have hIL2 : Il W2 (.slice la N lc) its := HIL.out.keep hP2.st.1 (fun hne b hb => HT.out hne b hb)
  have HP2 := Lib.hid hP2; have HS2 := Lib.hid hs2
  have hz0 : Hid (w.heap.size ≤ W2.heap.size) := Lib.hid hP2.st.1.size
  have HN1 := Lib.hid hn1
  clear hPs hP2 hF2 hz1 hW2 hn1
  refine rangeX (w0 := W2) (X := its) (S := fun b => TS1 b ∨ b = n0) rfl (enters_of Tryz.func131 (by kernel_rfl) rfl)
    (iAll1 _ W2 z1 _ its hBx hIL2 (fun e => by have := HN1.out; rcases e with e | e; (have := hT1.out _ e; omega); omega) (fun hne' b hb e => hne.out hne' b (by cases la <;> simp_all [Value.ownBlock]) hb)) (Below.refl _ _) (fun b hb => by have := HS2.out; have := HN1.out; rcases hb with e | e; (have := hT1.out _ e; omega); omega) (fun _ => rfl)
    (PiI w TS n0 g TS1 bs1 its) (fun _ _ _ _ => False)
    (fun k C W W' hs hf => hs.elim fun TM h => ⟨TM, h.1.fa hf hz0.out, h.2⟩) (fun c k C W W' hs hf => hs)
    ⟨TS1, by simpa [itsQ] using HP2.out, fun b hb => .inl hb⟩ ?round ?done ?stop
  case stop => intro D c k C W hD hk hX; exact hX.elim
  case round =>
    rintro lp j x C W hx hlp hi hr
    dsimp only [encIt]
    gi_wp2
    refine Took.mk (Fr.refl _ _) hi ?_
    rintro Wb ⟨TM, hPb, hTC⟩ hrb hf hsz hsw hCC _
    obtain ⟨ok1, ok2⟩ := hits.out x (List.mem_of_getElem? hx)
    have hlj : (itsQ (its.take j)).length ≤ 544 := by
      have h1 := itsQ_len (L := its.take j) (fun p hp => hits.out p (List.mem_of_mem_take hp))
      have h2 : (its.take j).length ≤ its.length := by rw [List.length_take]; omega
      have := hlen.out
      omega
    have hcm := cell_obj hPb.box 0 (.pointer (some ⟨g, 0, none⟩)) rfl
    have HX := Lib.hid (itsQ_take hx)
    obtain ⟨gx, nx⟩ := x
    dsimp only at ok1 ok2 HX
    have HPB := Lib.hid hPb; have HTC := Lib.hid hTC; have HCC := Lib.hid hCC; have HSZ := Lib.hid hsz
    have OK1 := Lib.hid ok1; have OK2 := Lib.hid ok2; have HLJ := Lib.hid hlj
    clear hi hr hf hrb hx hPb hTC hCC ok1 ok2 hlj
    gi_wp2_with (first
      | (gi_at_call 115; refine (callsIn_wide.2 (mText gx HPB.out.mkr OK1.out (by have := HLJ.out; have := hbl.out; (try simp only [List.length_append]); omega))).mono ?_; rintro e w8 ⟨rfl, TM8, hM8, hS8⟩; have HM8 := Lib.hid hM8; have HS8 := Lib.hid hS8; clear hM8 hS8)
      | (gi_at_call 72; refine (callsIn_wide.2 (mNum nx HM8.out OK2.out (by have := HLJ.out; have := hbl.out; have := textB_len OK1.out; (try simp only [List.length_append]); omega))).mono ?_; rintro e w9 ⟨rfl, TM9, hM9, hS9⟩; have hP9 := HPB.out.step hM9 (HS8.out.trans hS9); have k9 := cell_obj hP9.box 0 (.pointer (some ⟨g, 0, none⟩)) rfl; have f9 := obj_frozen hP9.box 0; have HM9 := Lib.hid hM9; have HS9 := Lib.hid hS9; have HP9 := Lib.hid hP9; clear hM9 hS9 hP9))
    have hst := HS8.out.trans HS9.out
    refine ⟨(hst.1.mono (fun b hb e => (HTC.out b e).elim (fun e => .inl (.inl e)) (fun e => .inr (.inl e)))).setCell (p := ⟨n0, 0, none⟩) (fun _ => .inl (.inr rfl)) _, TM9, ?_, ?_⟩
    · have := HP9.out.set (Nat.le_of_eq HS.out)
      rw [HX.out, ← List.append_assoc, ← List.append_assoc]
      exact this
    · intro b hb
      rcases hst.2 b hb with e | e
      · exact (HTC.out b e).elim .inl (fun e => .inr (.inl e))
      · exact .inr (.inr ⟨by have := HSZ.out; omega, by have := HM9.out.lt b hb; simpa using this⟩)
  case done =>
    rintro D C W hD ⟨TM, hPS, -⟩ hr hK
    rw [List.take_length] at hPS
    have c1 := cell_obj hPS.box 0 (.pointer (some ⟨g, 0, none⟩)) rfl
    have HPS := Lib.hid hPS; have HKK := Lib.hid hK
    clear hPS hK hr
    gi_wp2_with fail
    have hz := hz0.out
    have hs := HS.out
    refine ⟨by simp, .inl ⟨_, _, rfl, run_takeDeferred HKK.out, ?_⟩⟩
    refine ⟨.pointer (some ⟨g, 0, none⟩), by simp [results, Tryz.results73, go_sem], rfl, TM, ?_, ?_⟩
    · rw [hfin.out]
      exact HPS.out.mkr.fa (frPut (B := n0) (.deferred none) (by omega) HKK.out rfl)
    · exact ⟨HPS.out.st.1.trans' ((Fr.refl (fun b => b = D) W).putObj (l := D) (fun _ => rfl) _) (fun b hb e => by omega), HPS.out.st.2⟩
end Go.Proofs.YtlniekobijcanaaGreat
