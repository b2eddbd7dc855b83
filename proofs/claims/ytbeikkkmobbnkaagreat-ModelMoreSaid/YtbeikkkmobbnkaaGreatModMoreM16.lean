/- ask.put. -/
import Derived.Test.YtbeikkkmobbnkaaGreatModMoreM15
import Derived.Test.YtbeikkkmobbnkaaGreatModMoreM1
import Derived.Deep.RegionHeld3
namespace Go.Proofs.YtbeikkkmobbnkaaGreat
open Go.RowKit Go.Maps
attribute [local go_sem] Oper.semAt_some
/-- Items' and a request's body's bytes. -/
def itsP (L : Its) : List Int := L.flatMap fun p => textB p.1 ++ numB p.2
def bodyF (a : AV) : List Int := numB a.k ++ numB a.o ++ numB a.r ++ numB a.t ++ numB a.m ++ textB a.g ++ numB (a.its.length : Int) ++ itsP a.its
structure BdOk (a : AV) : Prop where
  k : okI a.k
  o : okI a.o
  r : okI a.r
  t : okI a.t
  m : okI a.m
  g : a.g.length ≤ 16
  len : a.its.length ≤ 16
  its : ∀ p ∈ a.its, p.1.length ≤ 16 ∧ okI p.2
theorem itsP_take {L : Its} {j : Nat} {p : Str × Int} (h : L[j]? = some p) : itsP (L.take (j + 1)) = itsP (L.take j) ++ textB p.1 ++ numB p.2 := by
  unfold itsP
  rw [List.take_add_one, h, List.flatMap_append]
  simp
theorem itsP_len : ∀ {L : Its}, (∀ p ∈ L, p.1.length ≤ 16 ∧ okI p.2) → (itsP L).length ≤ 34 * L.length
  | [], _ => by simp [itsP]
  | p :: r, h => by
    have ih := itsP_len (L := r) (fun q hq => h q (List.mem_cons_of_mem _ hq))
    obtain ⟨h1, h2⟩ := h p (by simp)
    have e : itsP (p :: r) = (textB p.1 ++ numB p.2) ++ itsP r := by simp [itsP]
    have := textB_len h1
    have := (numB_len h2).2
    rw [e, List.length_append, List.length_append, List.length_cons]
    omega
structure PuS (W0 : World) (TS0 : Nat → Prop) (n0 : Nat) (W : World) (g : Nat) (TM : Nat → Prop) (bs : List Int) : Prop where
  mkr : MK W g TM bs false
  box : W.heap[n0]? = some (.cells #[.pointer (some ⟨g, 0, none⟩)] 97)
  nb : ¬ TM n0
  st : Stp TS0 W0 W TM
theorem PuS.fa {B : Nat} {W0 W W' : World} {TS0 : Nat → Prop} {n0 g : Nat} {TM : Nat → Prop} {bs : List Int} (h : PuS W0 TS0 n0 W g TM bs) (hf : Fa B W W') (hB : W0.heap.size ≤ B) : PuS W0 TS0 n0 W' g TM bs :=
  ⟨h.mkr.fa hf, Fa.cells hf h.box, h.nb, Fa.old hf h.st.1 hB, h.st.2⟩
theorem PuS.step {W0 W W' : World} {TS0 : Nat → Prop} {n0 g : Nat} {TM TM' : Nat → Prop} {bs bs' : List Int} (h : PuS W0 TS0 n0 W g TM bs) (hm : MK W' g TM' bs' false) (hs : Stp TM W W' TM') : PuS W0 TS0 n0 W' g TM' bs' :=
  have hl := (Array.getElem?_eq_some_iff.1 h.box).1
  ⟨hm, hs.1.at_ h.box h.nb, fun e => (hs.2 _ e).elim h.nb (fun e => by omega), h.st.trans hs⟩
def PuI (W0 : World) (TS0 : Nat → Prop) (n0 g : Nat) (TM0 : Nat → Prop) (bs : List Int) (L : Its) (k : Nat) (C : Nat → Prop) (W : World) : Prop :=
  ∃ TM, PuS W0 TS0 n0 W g TM (bs ++ itsP (L.take k)) ∧ ∀ b, TM b → TM0 b ∨ C b
set_option maxRecDepth 100000 in
set_option maxHeartbeats 8000000 in
theorem kPut (w : World) (g : Nat) (TS : Nat → Prop) (bs : List Int) (a : AV) (h : MK w g TS bs false) (hl : bs.length ≤ 1000) (hi : Il w a.l a.its) (hT : a.its ≠ [] → ∀ b, a.l.ownBlock = some b → ¬ TS b) (hb : BdOk a) :
    Calls Tryz.prog 63 #[.pointer (some ⟨g, 0, none⟩), .agg a.cs] w fun e w' => (∃ v, e = .returned v) ∧ ∃ TS', MK w' g TS' (bs ++ bodyF a) false ∧ Stp TS w w' TS' := by
  obtain ⟨n0, hn0⟩ : ∃ n0, w.heap.size = n0 := ⟨_, rfl⟩
  obtain ⟨A, hA⟩ : ∃ A : AV, A = a := ⟨_, rfl⟩
  obtain ⟨c, n, k, o, r, t, m, gd, l, its⟩ := a
  dsimp only at hi hT
  obtain ⟨la, lc, rfl⟩ := hi.sl
  obtain ⟨N, hN⟩ : ∃ N : Nat, its.length = N := ⟨_, rfl⟩
  have HIL := Lib.hid hi; have HOB := Lib.hid hi.lt; have HT := Lib.hid hT
  have HBD := Lib.hid hb
  have hits : Hid (∀ p ∈ its, p.1.length ≤ 16 ∧ okI p.2) := Lib.hid hb.its
  have hlen : Hid (its.length ≤ 16) := Lib.hid hb.len
  have okk : Hid (okI k) := Lib.hid hb.k
  have oko : Hid (okI o) := Lib.hid hb.o
  have okr : Hid (okI r) := Lib.hid hb.r
  have okt : Hid (okI t) := Lib.hid hb.t
  have okm : Hid (okI m) := Lib.hid hb.m
  have okg : Hid (gd.length ≤ 16) := Lib.hid hb.g
  have okN : Hid (okI (N : Int)) := Lib.hid (by have := hb.len; dsimp only at this; unfold okI; omega)
  have hBF : Hid (bodyF A = numB k ++ numB o ++ numB r ++ numB t ++ numB m ++ textB gd ++ numB (N : Int) ++ itsP its) := Lib.hid (by rw [hA, ← hN]; rfl)
  have hcs : (⟨c, n, k, o, r, t, m, gd, .slice la its.length lc, its⟩ : AV).cs = #[.int .i64 c, .int .i64 n, .int .i64 k, .int .i64 o, .int .i64 r, .int .i64 t, .int .i64 m, vS gd, .slice la N lc] := by rw [← hN]; rfl
  rw [hcs, ← hA]
  obtain ⟨W0, hW0⟩ : ∃ W0, (w.alloc (.cells #[.pointer (some ⟨g, 0, none⟩)] 97)).alloc (.cells #[.int .i64 c, .int .i64 n, .int .i64 k, .int .i64 o, .int .i64 r, .int .i64 t, .int .i64 m, vS gd, .slice la N lc] 50) = W0 := ⟨_, rfl⟩
  have hF0 : Fr (fun _ => False) w W0 := by rw [← hW0]; exact ((Fr.refl _ w).alloc _).alloc _
  have hs0 : W0.heap.size = n0 + 2 := by rw [← hW0]; simp; omega
  have hb0 : W0.heap[n0]? = some (.cells #[.pointer (some ⟨g, 0, none⟩)] 97) := by rw [← hW0]; exact heap_keep (heap_at hn0.symm _) _
  have hb1 : W0.heap[n0 + 1]? = some (.cells #[.int .i64 c, .int .i64 n, .int .i64 k, .int .i64 o, .int .i64 r, .int .i64 t, .int .i64 m, vS gd, .slice la N lc] 50) := by rw [← hW0]; exact heap_at (by simp; omega) _
  have hM0 : MK W0.drew g TS bs false := h.fr hF0.drew (fun _ _ h => h)
  have hfacts : Hid (∀ W : World, (W.heap[n0]? = some (.cells #[.pointer (some ⟨g, 0, none⟩)] 97) ∧ W.heap[n0 + 1]? = some (.cells #[.int .i64 c, .int .i64 n, .int .i64 k, .int .i64 o, .int .i64 r, .int .i64 t, .int .i64 m, vS gd, .slice la N lc] 50)) →
      W.cell? ⟨n0, 0, none⟩ = some (.pointer (some ⟨g, 0, none⟩)) ∧ W.cell? ⟨n0 + 1, 2, none⟩ = some (.int .i64 k) ∧ W.cell? ⟨n0 + 1, 3, none⟩ = some (.int .i64 o) ∧ W.cell? ⟨n0 + 1, 4, none⟩ = some (.int .i64 r) ∧ W.cell? ⟨n0 + 1, 5, none⟩ = some (.int .i64 t) ∧ W.cell? ⟨n0 + 1, 6, none⟩ = some (.int .i64 m) ∧ W.cell? ⟨n0 + 1, 7, none⟩ = some (vS gd) ∧ W.cell? ⟨n0 + 1, 8, none⟩ = some (.slice la N lc)) := Lib.hid (fun W hb =>
    ⟨cell_obj hb.1 0 _ rfl, cell_obj hb.2 2 _ rfl, cell_obj hb.2 3 _ rfl, cell_obj hb.2 4 _ rfl, cell_obj hb.2 5 _ rfl, cell_obj hb.2 6 _ rfl, cell_obj hb.2 7 _ rfl, cell_obj hb.2 8 _ rfl⟩)
  have hnb0 : ¬ TS n0 := fun e => by have := h.lt _ e; omega
  have hnb1 : ¬ TS (n0 + 1) := fun e => by have := h.lt _ e; omega
  have HF0 := Lib.hid hF0; have HS0 := Lib.hid hs0; have HS := Lib.hid hn0
  have HBS := Lib.hid hl
  have HILW := Lib.hid (hi.fr hF0 (fun _ h => h.elim))
  rw [hN] at HIL HOB HT HILW
  have HN := Lib.hid hN
  have hB := Lib.hid (⟨hb0, hb1⟩ : W0.heap[n0]? = _ ∧ W0.heap[n0 + 1]? = _)
  have hM := Lib.hid hM0
  have hNB := Lib.hid (⟨hnb0, hnb1⟩ : ¬ TS n0 ∧ ¬ TS (n0 + 1))
  have hS := Lib.hid (Stp.refl (TS := TS) (Fr.refl (fun _ => False) W0.drew))
  have hTlt := Lib.hid h.lt
  clear h hl hi hT hb hN hA hcs hF0 hb0 hb1 hM0 hnb0 hnb1 hs0
  refine (callsIn_wide (n := 0)).1 ?_
  refine callsIn_of_wp_marks Tryz.func63 rfl trivial ?_ rfl
  simp only [Tryz.ntmps63, List.size_toArray, List.length_cons, List.length_nil, Nat.reduceAdd, Nat.reduceSub, Array.replicate_succ, Array.replicate_zero, List.push_toArray, List.append_toArray, List.nil_append, List.cons_append]
  have hfn : ∀ f, Fence.wide.fn f := fun _ => trivial
  have hdp : Fence.wide.depth.isSome = false := rfl
  gi_wp2_with fail
  (try rw [hn0]); (try rw [hW0])
  clear hW0 hn0
  obtain ⟨p0, p1, p2, p3, p4, p5, p6, p7⟩ := hfacts.out _ hB.out
  refine wpIn_wide.2 ?_
  go_region_held3 (fun w' => w'.cell? ⟨n0, 0, none⟩ = some (.pointer (some ⟨g, 0, none⟩)) ∧ w'.cell? ⟨n0 + 1, 2, none⟩ = some (.int .i64 k) ∧ w'.cell? ⟨n0 + 1, 3, none⟩ = some (.int .i64 o) ∧ w'.cell? ⟨n0 + 1, 4, none⟩ = some (.int .i64 r) ∧ w'.cell? ⟨n0 + 1, 5, none⟩ = some (.int .i64 t) ∧ w'.cell? ⟨n0 + 1, 6, none⟩ = some (.int .i64 m) ∧ w'.cell? ⟨n0 + 1, 7, none⟩ = some (vS gd) ∧ w'.cell? ⟨n0 + 1, 8, none⟩ = some (.slice la N lc))
    (first | exact ⟨p0, p1, p2, p3, p4, p5, p6, p7⟩ | exact hfacts.out _ hB.out)
    (first
      | (go_at_call 86; refine (mNum _ hM.out (by first | exact okk.out | exact oko.out | exact okr.out | exact okt.out | exact okm.out | exact okN.out) (by have := HBS.out; have := (numB_len okk.out).2; have := (numB_len oko.out).2; have := (numB_len okr.out).2; have := (numB_len okt.out).2; have := (numB_len okm.out).2; have := textB_len okg.out; (try simp only [List.length_append]); omega)).mono ?_; rintro e w1 ⟨rfl, TS1, hMx, hsx⟩; have NB := hNB.out; have hBn := Lib.hid (⟨hsx.1.at_ hB.out.1 NB.1, hsx.1.at_ hB.out.2 NB.2⟩ : w1.heap[n0]? = _ ∧ w1.heap[n0 + 1]? = _); have hNB := Lib.hid (⟨fun e => (hsx.2 _ e).elim NB.1 (fun h => absurd (Array.getElem?_eq_some_iff.1 hB.out.1).1 (Nat.not_lt.2 h)), fun e => (hsx.2 _ e).elim NB.2 (fun h => absurd (Array.getElem?_eq_some_iff.1 hB.out.2).1 (Nat.not_lt.2 h))⟩ : ¬ TS1 n0 ∧ ¬ TS1 (n0 + 1)); have hB := hBn; have hS := Lib.hid (hS.out.trans hsx); have hM := Lib.hid hMx; clear hMx hsx NB hBn)
      | (go_at_call 87; refine (mText _ hM.out okg.out (by have := HBS.out; have := (numB_len okk.out).2; have := (numB_len oko.out).2; have := (numB_len okr.out).2; have := (numB_len okt.out).2; have := (numB_len okm.out).2; (try simp only [List.length_append]); omega)).mono ?_; rintro e w1 ⟨rfl, TS1, hMx, hsx⟩; have NB := hNB.out; have hBn := Lib.hid (⟨hsx.1.at_ hB.out.1 NB.1, hsx.1.at_ hB.out.2 NB.2⟩ : w1.heap[n0]? = _ ∧ w1.heap[n0 + 1]? = _); have hNB := Lib.hid (⟨fun e => (hsx.2 _ e).elim NB.1 (fun h => absurd (Array.getElem?_eq_some_iff.1 hB.out.1).1 (Nat.not_lt.2 h)), fun e => (hsx.2 _ e).elim NB.2 (fun h => absurd (Array.getElem?_eq_some_iff.1 hB.out.2).1 (Nat.not_lt.2 h))⟩ : ¬ TS1 n0 ∧ ¬ TS1 (n0 + 1)); have hB := hBn; have hS := Lib.hid (hS.out.trans hsx); have hM := Lib.hid hMx; clear hMx hsx NB hBn))
  obtain ⟨bs1, hbs1⟩ : ∃ bs1, bs ++ numB k ++ numB o ++ numB r ++ numB t ++ numB m ++ textB gd ++ numB (N : Int) = bs1 := ⟨_, rfl⟩
  have hbl : Hid (bs1.length ≤ 1100) := Lib.hid (by rw [← hbs1]; have := HBS.out; have := (numB_len okk.out).2; have := (numB_len oko.out).2; have := (numB_len okr.out).2; have := (numB_len okt.out).2; have := (numB_len okm.out).2; have := (numB_len okN.out).2; have := textB_len okg.out; (try simp only [List.length_append]); omega)
  rw [hbs1] at hM
  have hfin : Hid (bs ++ bodyF A = bs1 ++ itsP its) := Lib.hid (by rw [hBF.out, ← hbs1]; simp only [List.append_assoc])
  have hSW : Hid (Stp TS W0 w1 TS1) := Lib.hid ((Stp.refl ((Fr.refl (fun _ => False) W0).drew)).trans hS.out)
  clear hbs1 p0 p1 p2 p3 p4 p5 p6 p7 hS
  have p7 := (hfacts.out _ hB.out).2.2.2.2.2.2.2
  gi_wp2_with (gi_at_call 32; refine (callsIn_wide.2 (iAll _ _ _ _)).mono ?_; rintro e w2 ⟨rfl, rfl⟩)
  clear p7
  have hF2 : Fr (fun _ => False) w1 (w1.alloc (.cells #[.slice la N lc] 46)) := (Fr.refl _ _).alloc _
  have hBx : Boxed (w1.alloc (.cells #[.slice la N lc] 46)) w1.heap.size 46 (.slice la N lc) := heap_new _ _
  have hs2 : (w1.alloc (.cells #[.slice la N lc] 46)).heap.size = w1.heap.size + 1 := by simp
  obtain ⟨z1, hz1⟩ : ∃ z1, w1.heap.size = z1 := ⟨_, rfl⟩
  obtain ⟨W2, hW2⟩ : ∃ W2, w1.alloc (.cells #[.slice la N lc] 46) = W2 := ⟨_, rfl⟩
  rw [hW2] at hF2 hBx hs2 ⊢
  rw [hz1] at hBx hs2 ⊢
  have hP2 : PuS W0 TS n0 W2 g TS1 bs1 := ⟨hM.out.fr hF2 (fun _ _ h => h), hF2.at_ hB.out.1 (fun h => h), hNB.out.1, hSW.out.trans (Stp.refl hF2)⟩
  have hT1 : Hid (∀ b, TS1 b → b < z1) := Lib.hid (fun b hb => by have := hM.out.lt b hb; omega)
  have hne : Hid (its ≠ [] → ∀ b, la.map (·.block) = some b → ¬ TS1 b) := Lib.hid (fun hne b hb e => (hSW.out.2 b e).elim (HT.out hne b (by cases la <;> simp_all [Value.ownBlock])) (fun e => by have := HOB.out hne b (by cases la <;> simp_all [Value.ownBlock]); have := HS.out; have := HS0.out; omega))
  have hIL2 := HILW.out.keep (hSW.out.1.trans (Fr.mono hF2 (fun _ _ e => e.elim))) (fun hne b hb => HT.out hne b hb)
  have HP2 := Lib.hid hP2; have HS2 := Lib.hid hs2; have HZ1 := Lib.hid hz1
  have hz0 : Hid (W0.heap.size ≤ W2.heap.size) := Lib.hid hP2.st.1.size
  clear hP2 hF2 hz1 hW2 hM hB hNB
  refine rangeX (w0 := W2) (X := its) (S := TS1) rfl (enters_of Tryz.func51 (by kernel_rfl) rfl)
    (iAll1 _ W2 z1 _ its hBx hIL2 (fun e => by have := hT1.out _ e; omega) (fun hne' b hb e => hne.out hne' b (by cases la <;> simp_all [Value.ownBlock]) hb)) (Below.refl _ _) (fun b hb => by have := hT1.out b hb; have := HS2.out; omega) (fun _ => rfl)
    (PuI W0 TS n0 g TS1 bs1 its) (fun _ _ _ _ => False)
    (fun k C W W' hs hf => hs.elim fun TM h => ⟨TM, h.1.fa hf hz0.out, h.2⟩) (fun c k C W W' hs hf => hs)
    ⟨TS1, by simpa [itsP] using HP2.out, fun b hb => .inl hb⟩ ?round ?done ?stop
  case stop => intro D c k C W hD hk hX; exact hX.elim
  case round =>
    rintro lp j x C W hx hlp hi hr
    dsimp only [encIt]
    gi_wp2
    refine Took.mk (Fr.refl _ _) hi ?_
    rintro Wb ⟨TM, hPb, hTC⟩ hrb hf hsz hsw hCC _
    obtain ⟨ok1, ok2⟩ := hits.out x (List.mem_of_getElem? hx)
    have hlj : (itsP (its.take j)).length ≤ 544 := by
      have h1 := itsP_len (L := its.take j) (fun p hp => hits.out p (List.mem_of_mem_take hp))
      have h2 : (its.take j).length ≤ its.length := by rw [List.length_take]; omega
      have := hlen.out
      omega
    have hcm := cell_obj hPb.box 0 (.pointer (some ⟨g, 0, none⟩)) rfl
    have HX := Lib.hid (itsP_take hx)
    obtain ⟨gx, nx⟩ := x
    dsimp only at ok1 ok2 HX
    have HPB := Lib.hid hPb; have HTC := Lib.hid hTC; have HCC := Lib.hid hCC; have HSZ := Lib.hid hsz
    have OK1 := Lib.hid ok1; have OK2 := Lib.hid ok2; have HLJ := Lib.hid hlj
    clear hi hr hf hrb hx hPb hTC hCC ok1 ok2 hlj
    gi_wp2_with (first
      | (gi_at_call 87; refine (callsIn_wide.2 (mText gx HPB.out.mkr OK1.out (by have := HLJ.out; have := hbl.out; (try simp only [List.length_append]); omega))).mono ?_; rintro e w8 ⟨rfl, TM8, hM8, hS8⟩; have HM8 := Lib.hid hM8; have HS8 := Lib.hid hS8; clear hM8 hS8)
      | (gi_at_call 86; refine (callsIn_wide.2 (mNum nx HM8.out OK2.out (by have := HLJ.out; have := hbl.out; have := textB_len OK1.out; (try simp only [List.length_append]); omega))).mono ?_; rintro e w9 ⟨rfl, TM9, hM9, hS9⟩; have HM9 := Lib.hid hM9; have HS9 := Lib.hid hS9; clear hM9 hS9))
    have hst := HS8.out.trans HS9.out
    refine ⟨hst.1.mono (fun b hb e => (HTC.out b e).elim .inl (fun e => .inr (.inl e))), TM9, HPB.out.step (by rw [HX.out, ← List.append_assoc, ← List.append_assoc]; exact HM9.out) hst, ?_⟩
    intro b hb
    rcases hst.2 b hb with e | e
    · exact (HTC.out b e).elim .inl (fun e => .inr (.inl e))
    · exact .inr (.inr ⟨by have := HSZ.out; omega, HM9.out.lt b hb⟩)
  case done =>
    rintro D C W hD ⟨TM, hPS, -⟩ hr hK
    rw [List.take_length] at hPS
    have HPS := Lib.hid hPS; have HKK := Lib.hid hK
    clear hPS hK hr
    gi_wp2_with fail
    have hz := hz0.out
    have hs := HS.out
    have hs0 := HS0.out
    refine ⟨by simp, .inl ⟨_, _, rfl, run_takeDeferred HKK.out, ?_⟩⟩
    refine ⟨_, results_none rfl _ _ _, ⟨_, rfl⟩, TM, ?_, ?_⟩
    · rw [hfin.out]
      exact HPS.out.mkr.fa (frPut (B := n0) (.deferred none) (by omega) HKK.out rfl)
    · have h1 : Stp TS w W TM := (Stp.refl HF0.out).trans HPS.out.st
      exact ⟨h1.1.trans' ((Fr.refl (fun b => b = D) W).putObj (l := D) (fun _ => rfl) _) (fun b hb e => by omega), h1.2⟩
end Go.Proofs.YtbeikkkmobbnkaaGreat
