/- model.Span (written by wip/tools/md25.py). -/
import Derived.Test.YtbeikkkmobbnkaaGreatModMoreM31
import Derived.Test.YtbeikkkmobbnkaaGreatModMoreM32
import Derived.Test.YtbeikkkmobbnkaaGreatModMoreM33
namespace Go.Proofs.YtbeikkkmobbnkaaGreat
open Go.RowKit Go.Maps
theorem wrap_add (a b : Int) : wrap64 (wrap64 a + b) = wrap64 (a + b) := by unfold wrap64; omega
theorem wrap_zero : wrap64 0 = 0 := by unfold wrap64; omega
/-- The loop over the map: what stands in the result so far. -/
structure SpI (w2 W : World) (n0 bm rb nn : Nat) (l : List (PK × Value)) (fL fM : Int → Int → Int) (left : Lit → Bool) (cnt : Nat) : Prop where
  rg : W.ranges Tryz.prog 56 heldR bm rb nn (ktP.dat id l) left cnt
  bx : W.heap[n0 + 1]? = some (.cells #[.int .i64 (wrap64 (sumNot left l fL)), .int .i64 (wrap64 (sumNot left l fM))] 27)
  fr : Fr (fun b => b = n0 + 1) w2 W
theorem grown_of {w w' : World} {g : Nat} (h : Fr (fun b => b = g) w w') : w.grownBy w' (some g) := ⟨h.os, h.tape, h.output, h.size, fun k hk hne => h.same k hk (fun e => hne (by rw [e]))⟩
/-- An entry's work is done. -/
theorem SpI.next {w2 wo w4 W5 : World} {n0 bm rb nn cnt cnt4 : Nat} {l : List (PK × Value)} {fL fM : Int → Int → Int} {left : Lit → Bool} {x : PK} {a b : Int} (h : SpI w2 wo n0 bm rb nn l fL fM left cnt) (hl : left (ktP.lit x) = true) (hnd : (l.map (·.1)).Nodup) (hx : (getS l x).isSome = true)
    (hrg : w4.ranges Tryz.prog 56 heldR bm rb nn (ktP.dat id l) (fun z => left z && !z.sameKey (ktP.lit x)) cnt4) (h4 : Fr (fun b => b = n0 + 1) w2 w4) (h5 : Fr (fun b => b = n0 + 1) w4 W5) (hbm : bm ≠ n0 + 1) (hrb : rb ≠ n0 + 1)
    (ha : a = wrap64 (sumNot left l fL + fL x.1.1 x.1.2)) (hb : b = wrap64 (sumNot left l fM + fM x.1.1 x.1.2)) (hbx : W5.heap[n0 + 1]? = some (.cells #[.int .i64 a, .int .i64 b] 27)) :
    SpI w2 W5 n0 bm rb nn l fL fM (fun z => left z && !z.sameKey (ktP.lit x)) cnt4 :=
  ⟨hrg.kept (grown_of h5) (by simpa using hbm) (by simpa using hrb), by rw [hbx, ha, hb, sumNot_step hl hnd hx, sumNot_step hl hnd hx], h4.trans h5⟩
set_option maxRecDepth 100000 in
set_option maxHeartbeats 16000000 in
theorem kSpan (w : World) (kind : Int) (gd : Str) (v vy : Value) (L : List AV) (Y : List YV) (h : Al w v L) (hl : L.length ≤ 1000) (hy : Yl w vy Y) : Calls Tryz.prog 9 #[.int .i64 kind, vS gd, v, vy] w fun e w' =>
    e = .returned (.agg #[.int .i64 (wrap64 (spanT (leastG kind gd L Y) (rightL L) (rightL L).length)), .int .i64 (wrap64 (spanT (mostG kind gd L Y) (rightL L) (rightL L).length))]) ∧ Fr (fun _ => False) w w' := by
  obtain ⟨n0, hn0⟩ : ∃ n0, w.heap.size = n0 := ⟨_, rfl⟩
  obtain ⟨W1, hW1⟩ : ∃ W1, (w.alloc (.cells #[.int .i64 0, .int .i64 0] 27)).alloc (.cells #[.int .i64 0, .int .i64 0] 27) = W1 := ⟨_, rfl⟩
  have hF1 : Fr (fun _ => False) w W1 := by rw [← hW1]; exact ((Fr.refl _ w).alloc _).alloc _
  have hb0 : W1.heap[n0]? = some (.cells #[.int .i64 0, .int .i64 0] 27) := by rw [← hW1]; exact heap_keep (heap_at hn0.symm _) _
  have hb1 : W1.heap[n0 + 1]? = some (.cells #[.int .i64 0, .int .i64 0] 27) := by rw [← hW1]; exact heap_at (by simp; omega) _
  have hs1 : W1.heap.size = n0 + 2 := by rw [← hW1]; simp; omega
  have hGr := Lib.hid (kGroups W1 v L (h.fr0 aokKeeps hF1) hl)
  have HL := Lib.hid h; have HY := Lib.hid hy
  have hokR : Hid (∀ p ∈ rightL L, AOk w p) := Lib.hid (fun p hp => h.okm (List.mem_filter.1 hp).1)
  obtain ⟨va, vc, rfl⟩ := h.sl
  obtain ⟨ya, yc, rfl⟩ := hy.sl
  obtain ⟨N, hN⟩ : ∃ N, L.length = N := ⟨_, rfl⟩
  obtain ⟨K, hK⟩ : ∃ K, Y.length = K := ⟨_, rfl⟩
  rw [hN] at HL hGr ⊢
  rw [hK] at HY ⊢
  have hSt : Hid (∀ W c n, Fr (fun b => w.heap.size ≤ b) w W → Calls Tryz.prog 16 #[.int .i64 c, .int .i64 n, .slice ya K yc] W fun e w' => e = .returned (.int .i64 (stF c n Y)) ∧ Fr (fun _ => False) W w') := Lib.hid (fun W c n hf => kState W c n _ Y (HY.out.fr yokKeeps hf (fun b hb => hb)))
  have hMv : Hid (∀ W P, AOk W P → Fr (fun b => w.heap.size ≤ b) w W → Calls Tryz.prog 24 #[.agg P.cs, .int .i64 kind, vS gd, .slice va N vc] W fun e w' => e = .returned (.int .i64 (movF P kind gd L)) ∧ Fr (fun _ => False) W w') := Lib.hid (fun W P hp hf => kMoves W P kind gd _ L hp (HL.out.fr aokKeeps hf (fun b hb => hb)))
  obtain ⟨fL, hfL⟩ : ∃ f, leastG kind gd L Y = f := ⟨_, rfl⟩
  obtain ⟨fM, hfM⟩ : ∃ f, mostG kind gd L Y = f := ⟨_, rfl⟩
  rw [hfL, hfM]
  have HfL := Lib.hid hfL; have HfM := Lib.hid hfM
  have HS := Lib.hid hn0; have HF1 := Lib.hid hF1; have HB0 := Lib.hid hb0; have HB1 := Lib.hid hb1; have HS1 := Lib.hid hs1
  have hspan : Hid (∀ w2 n2 l C, GrI W1 w2 n2 (n2 + 1) n2 (rightL L) l C → ∀ f : Int → Int → Int, (l.map fun p => f p.1.1.1 p.1.1.2).sum = spanT f (rightL L) (rightL L).length) := Lib.hid (fun w2 n2 l C hg f => span_eq hg (fun p hp => ⟨(hokR.out p hp).c, (hokR.out p hp).n⟩) f)
  have HW1 := Lib.hid hW1
  clear h hl hy hN hK hfL hfM hF1 hb0 hb1 hs1 hW1
  go_enter Tryz.func9, Tryz.ntmps9
  go_wp2_with (first
    | (go_at_call 23; (try rw [hn0]); rw [HW1.out]; refine hGr.out.mono ?_; rintro e w2 ⟨n2, l, C, rfl, hn2, hG, hf2⟩; obtain ⟨nn, hown⟩ := hG.mp; have HG := Lib.hid hG; have HF2 := Lib.hid hf2; have HN2 := Lib.hid hn2; clear hG hf2 hn2)
    | (at_range; refine wpList_range_own _ rfl _ 53 rfl 56 22 whoK.keyed Tryz.underlying53 heldR n2 nn _ rfl hown ?_; intro w3 hrg3 hg3 hs3))
  (try go_frame)
  have hnd := Lib.hid (mpP_nd HG.out.mp whoK)
  have hgne : Hid (∀ x c, getS l x = some c → grpL x.1.1 x.1.2 L ≠ []) := Lib.hid (fun x c hx => HG.out.ne x c hx)
  have hrb2 : w2.heap.size ≠ n0 + 1 := by have := HF2.out.size; have := HS1.out; omega
  have HRB2 := Lib.hid hrb2
  have hn2e : n2 = n0 + 2 := by have := HN2.out; have := HS1.out; omega
  have HN2E := Lib.hid hn2e
  have hlt2 : Hid (n0 + 1 < w2.heap.size) := Lib.hid (by have := HF2.out.size; have := HS1.out; omega)
  have hI0 : SpI w2 w3 n0 n2 w2.heap.size nn l fL fM (Maps.has (ktP.dat id l)) (Maps.size (ktP.dat id l)) := by
    refine ⟨hrg3, ?_, Fr.grown hg3 (fun r e _ => by cases e)⟩
    rw [sumNot_none l fL hnd.out, sumNot_none l fM hnd.out, wrap_zero]
    exact (Fr.grown (S := fun _ => False) hg3 (fun r e _ => by cases e)).at_ (HF2.out.at_ HB1.out (fun h => h)) (fun h => h)
  obtain ⟨rb, hrb⟩ : ∃ rb, w2.heap.size = rb := ⟨_, rfl⟩
  rw [hrb] at hI0 hrb2 ⊢
  have HRB := Lib.hid hrb
  have HI0 := Lib.hid hI0
  clear hrb hI0 hrg3 hg3 hs3 hown hn2e hrb2
  go_loopw [] (fun wr => ∃ (left : Lit → Bool) (cnt : Nat), SpI w2 wr n0 n2 rb nn l fL fM left cnt) (fun wr => wr.rangeLeft n2 rb)
  case atStart => exact ⟨_, _, HI0.out⟩
  case round =>
    obtain ⟨left, cnt, hI⟩ := hrel
    have HI := Lib.hid hI
    have hrg := hI.rg
    obtain ⟨wo, rfl⟩ : ∃ wo : World, wo = wr := ⟨_, rfl⟩
    clear hI
    go_wp2_with (at_next; refine wpList_next_ranges _ rfl _ rfl 56 whoK.keyed heldR PK.enc (id : Value → Value) (fun key kl hk => by obtain ⟨x, _, e, _⟩ := whoK.back hk; exact ⟨x, e⟩) (fun v _ _ => ⟨v, rfl⟩) n2 rb nn _ _ _ rfl hrg ?_ ?_)
    · intro _ hl0
      have hbx := HI.out.bx
      rw [sumNot_all hl0, sumNot_all hl0, hspan.out _ _ _ _ HG.out fL, hspan.out _ _ _ _ HG.out fM] at hbx
      obtain ⟨SL, hSL⟩ : ∃ s, spanT fL (rightL L) (rightL L).length = s := ⟨_, rfl⟩
      obtain ⟨SM, hSM⟩ : ∃ s, spanT fM (rightL L) (rightL L).length = s := ⟨_, rfl⟩
      rw [hSL, hSM] at hbx
      have HSL := Lib.hid hSL; have HSM := Lib.hid hSM
      have u0 := cell_obj hbx 0 (.int .i64 (wrap64 SL)) rfl
      have u1 := cell_obj hbx 1 (.int .i64 (wrap64 SM)) rfl
      have hb0 := HI.out.fr.at_ (HF2.out.at_ HB0.out (fun h => h)) (by omega)
      have t0 := cell_obj hb0 0 (.int .i64 0) rfl
      have t1 := cell_obj hb0 1 (.int .i64 0) rfl
      have g0 := obj_frozen hb0 0
      have g1 := obj_frozen hb0 1
      have hset := obj_set (obj_set hb0 0 (.int .i64 (wrap64 SL))) 1 (.int .i64 (wrap64 SM))
      have s0 := cell_obj hset 0 (.int .i64 (wrap64 SL)) rfl
      have s1 := cell_obj hset 1 (.int .i64 (wrap64 SM)) rfl
      have HSET := Lib.hid hset
      clear hl0 hSL hSM hbx hb0 hset hrg
      go_wp2_with fail
      refine bodyPost_ret (v := .agg #[.int .i64 (wrap64 SL), .int .i64 (wrap64 SM)]) (by simp [results, Tryz.results9, go_sem, s0, s1]) rfl ⟨by rw [HSL.out, HSM.out], ?_⟩
      have hfin : Fr (fun b => n0 ≤ b) w wo := (HF1.out.trans HF2.out |>.mono (fun _ _ e => e.elim)).trans' HI.out.fr (fun b _ e => by omega)
      exact ((hfin.setCell (p := ⟨n0, 0, none⟩) (fun _ => Nat.le_refl _) _).setCell (p := ⟨n0, 1, none⟩) (fun _ => Nat.le_refl _) _).mono (fun b hb e => by have := HS.out; omega)
    · intro xc xn hxo c kl y1 y2 w4 cnt4 hkey hleft hRc hat hrg4 hlt4 hg4 hs4 hen
      obtain ⟨x, hxe⟩ : ∃ x : PK, (⟨(xc, xn), hxo⟩ : PK) = x := ⟨_, rfl⟩
      have hx1 : x.1.1 = xc := by rw [← hxe]
      have hx2 : x.1.2 = xn := by rw [← hxe]
      have hen' : (Instr.entry (.pointer (some ⟨rb, 0, none⟩))).run Tryz.prog w4 = .ok (.tuple #[.agg #[.int .i64 xc, .int .i64 xn], c]) w4 := hen
      rw [hxe] at hkey
      have hkl : kl = ktP.lit x := by
        have := whoK.key (x := x) trivial
        rw [show ktP.enc x = PK.enc x from rfl, hkey] at this
        exact Option.some.inj this
      subst hkl
      have hgx : getS l x = some c := by
        have hy2 : y1 = .held c := (Prod.ext_iff.1 (Option.some.inj hRc)).1.symm
        have h1 := hat (.held (.bool true))
        have h2 := hat (.held (.bool false))
        rw [dat_at whoK, hy2] at h1 h2
        cases e : getS l x with
        | some u => rw [e] at h1; injection h1 with h1; exact congrArg some h1
        | none =>
          rw [e] at h1 h2
          injection h1 with h1
          injection h2 with h2
          rw [← h1] at h2
          cases h2
      have hF4 : Fr (fun b => b = n0 + 1) w2 w4 := HI.out.fr.trans' (S' := fun b => b = rb) (Fr.grown hg4 (fun r e _ => by cases e; rfl)) (fun b hb e => by have := HRB.out; omega)
      have hrow := hF4.row (HG.out.row x c hgx) (fun b hb e => by have := ((HG.out.row x c hgx).lt b hb).1; have := HN2E.out; omega)
      have hb4 : w4.heap[n0 + 1]? = some (.cells #[.int .i64 (wrap64 (sumNot left l fL)), .int .i64 (wrap64 (sumNot left l fM))] 27) :=
        (hg4.block (n0 + 1) (by have := HI.out.fr.size; have := hlt2.out; omega) (fun e => by injection e with e; have := hlt2.out; have := HRB.out; omega)).trans HI.out.bx
      have hFw4 : Fr (fun b => w.heap.size ≤ b) w w4 := ((HF1.out.trans HF2.out).mono (fun _ _ e => e.elim)).trans' hF4 (fun b _ e => by have := HS.out; omega)
      have hfil : (rightL L).filter (isK x) = grpL xc xn L := by rw [filter_isK, hx1, hx2]
      have hgn := hgne.out x c hgx
      rw [hx1, hx2] at hgn
      rw [hfil] at hrow
      obtain ⟨G, hG0⟩ : ∃ G, grpL xc xn L = G := ⟨_, rfl⟩
      have hGm : Hid (∀ p ∈ G, p.may = true ∧ AOk w4 p) := Lib.hid (fun p hp => by rw [← hG0] at hp; obtain ⟨q1, q2, q3⟩ := grp_may hp; exact ⟨q1, aokKeeps (hokR.out p (List.mem_filter.2 ⟨q3, q1⟩)) hFw4 (fun b hb => hb)⟩)
      rw [hG0] at hrow hgn
      obtain ⟨M, hM⟩ : ∃ M, G.length = M := ⟨_, rfl⟩
      have hGa0 : Al w4 c G := Al.own hrow (fun p hp => (hGm.out p hp).2)
      obtain ⟨ga, gc, rfl⟩ := row_sl hrow
      have hMI := hGa0.len
      rw [hM] at hGa0 hMI hen'
      obtain ⟨ST, hST⟩ : ∃ s, stF xc xn Y = s := ⟨_, rfl⟩
      obtain ⟨PL, hPL⟩ : ∃ b, plainL G = b := ⟨_, rfl⟩
      obtain ⟨MX, hMX⟩ : ∃ m, mxF kind gd L G = m := ⟨_, rfl⟩
      obtain ⟨MV, hMV⟩ : ∃ m, headM kind gd L G = m := ⟨_, rfl⟩
      have hfLx : Hid (fL x.1.1 x.1.2 = if ST = 1 ∧ PL = true then MV else 0) := Lib.hid (by rw [← HfL.out, hx1, hx2]; unfold leastG; rw [hST, hG0, hPL, hMV])
      have hfMx : Hid (fM x.1.1 x.1.2 = if ST = 2 then 0 else MX) := Lib.hid (by rw [← HfM.out, hx1, hx2]; unfold mostG; rw [hST, hG0, hMX])
      obtain ⟨SA, hSA⟩ : ∃ s, sumNot left l fL = s := ⟨_, rfl⟩
      obtain ⟨SB, hSB⟩ : ∃ s, sumNot left l fM = s := ⟨_, rfl⟩
      rw [hSA, hSB] at hb4
      obtain ⟨A, hA⟩ : ∃ a, wrap64 SA = a := ⟨_, rfl⟩
      obtain ⟨B, hB⟩ : ∃ a, wrap64 SB = a := ⟨_, rfl⟩
      rw [hA, hB] at hb4
      have hnext : Hid (∀ (W5 : World) (a b : Int), Fr (fun b => b = n0 + 1) w4 W5 → a = wrap64 (SA + if ST = 1 ∧ PL = true then MV else 0) → b = wrap64 (SB + if ST = 2 then 0 else MX) → W5.heap[n0 + 1]? = some (.cells #[.int .i64 a, .int .i64 b] 27) →
          ∃ (left : Lit → Bool) (cnt : Nat), SpI w2 W5 n0 n2 rb nn l fL fM left cnt ∧ cnt = cnt4) := Lib.hid (fun W5 a b hf ha hb hbx => by
        refine ⟨_, cnt4, HI.out.next hleft hnd.out (by rw [hgx]; rfl) hrg4 hF4 hf (by have := HN2E.out; omega) (by have := hlt2.out; have := HRB.out; omega) ?_ ?_ hbx, rfl⟩
        · rw [ha, hSA, hfLx.out]
        · rw [hb, hSB, hfMx.out])
      have hleq : Hid (∀ (W5 : World) (left' : Lit → Bool), SpI w2 W5 n0 n2 rb nn l fL fM left' cnt4 → W5.rangeLeft n2 rb < wo.rangeLeft n2 rb) := Lib.hid (fun W5 left' hs => by rw [hs.rg.left_eq, HI.out.rg.left_eq]; exact hlt4)
      have hSA' : Hid (A = wrap64 SA) := Lib.hid hA.symm
      have hSB' : Hid (B = wrap64 SB) := Lib.hid hB.symm
      have hRb : Hid (∀ W : World, Fr (fun _ => False) w4 W → W.cell? ⟨n0 + 1, 0, none⟩ = some (.int .i64 A) ∧ W.cell? ⟨n0 + 1, 1, none⟩ = some (.int .i64 B) ∧ W.frozen? ⟨n0 + 1, 0, none⟩ = false ∧ W.frozen? ⟨n0 + 1, 1, none⟩ = false ∧ W.heap[n0 + 1]? = some (.cells #[.int .i64 A, .int .i64 B] 27)) := Lib.hid (fun W hf => by
        have hh := hf.at_ hb4 (fun h => h)
        exact ⟨cell_obj hh 0 _ rfl, cell_obj hh 1 _ rfl, obj_frozen hh 0, obj_frozen hh 1, hh⟩)
      have hPlC : Hid (∀ W, Fr (fun _ => False) w4 W → Calls Tryz.prog 25 #[.slice ga M gc] W fun e w' => e = .returned (.bool PL) ∧ Fr (fun _ => False) W w') := Lib.hid (fun W hf => by
        have := kPlain W _ G (hGa0.fr0 aokKeeps hf) (fun p hp => (hGm.out p hp).1)
        rw [hPL] at this; exact this)
      have hStC : Hid (∀ W, Fr (fun _ => False) w4 W → Calls Tryz.prog 16 #[.int .i64 xc, .int .i64 xn, .slice ya K yc] W fun e w' => e = .returned (.int .i64 ST) ∧ Fr (fun _ => False) W w') := Lib.hid (fun W hf => by
        have := hSt.out W xc xn (hFw4.trans' hf (fun _ _ e => e.elim))
        rw [hST] at this; exact this)
      have hMvC : Hid (∀ W P, AOk W P → Fr (fun _ => False) w4 W → Calls Tryz.prog 24 #[.agg P.cs, .int .i64 kind, vS gd, .slice va N vc] W fun e w' => e = .returned (.int .i64 (movF P kind gd L)) ∧ Fr (fun _ => False) W w') := Lib.hid (fun W P hp hf => hMv.out W P hp (hFw4.trans' hf (fun _ _ e => e.elim)))
      have HGA := Lib.hid hGa0; have HM := Lib.hid hM; have HMX := Lib.hid hMX; have HMV := Lib.hid hMV; have HGN := Lib.hid hgn
      clear hgx hrow hb4 hFw4 hfil hgn hGa0 hM hMX hMV hST hPL hSA hSB hA hB hG0 hxe hx1 hx2 hkey hleft hRc hat hrg4 hlt4 hg4 hs4 hen hF4 hrg
      go_wp2_with (go_at_call 16; refine (hStC.out _ ((Fr.refl (fun _ => False) w4).alloc _)).mono ?_; rintro e w5 ⟨rfl, hf5⟩; have HF5 := Lib.hid (((Fr.refl (fun _ => False) w4).alloc _).trans hf5); clear hf5)
      (try go_frame)
      go_loopw [13, 33] (fun mo i wr => ∃ j : Nat, j ≤ M ∧ i = .int .i64 j ∧ mo = .int .i64 (mxF kind gd L (G.take j)) ∧ Fr (fun _ => False) w4 wr) (fun _ i _ => M - (intOf i).toNat)
      case atStart => exact ⟨0, Nat.zero_le _, rfl, rfl, HF5.out⟩
      case round =>
        obtain ⟨j, hj, rfl, rfl, hfr⟩ := hrel
        have HFR := Lib.hid hfr
        by_cases hlt : j < M
        · obtain ⟨p, hp⟩ : ∃ p, G[j]? = some p := ⟨G[j]'(by rw [HM.out]; exact hlt), List.getElem?_eq_getElem _⟩
          have hjI : (j : Int) < M := by omega
          have HT := Lib.hid (mxF_take kind gd L hp)
          obtain ⟨T, hT⟩ : ∃ T, mxF kind gd L (G.take j) = T := ⟨_, rfl⟩
          rw [hT] at HT ⊢
          clear hT
          obtain ⟨ad, rfl, hok, z0, zs⟩ := (HGA.out.fr0 aokKeeps hfr).at_ hp
          have HOK := Lib.hid hok
          have hone := avOne hok
          obtain ⟨la, lc, hl⟩ := hok.l.sl
          obtain ⟨P, hP⟩ : ∃ P : AV, P = p := ⟨_, rfl⟩
          rw [← hP] at hp HOK hone HT
          obtain ⟨c, n, kd, o, r, t, m, g, l, its⟩ := p
          dsimp only at hl
          subst hl
          have x0 := z0 (.int .i64 c) rfl
          have x1 := zs 0 (.int .i64 n) rfl
          have x2 := zs 1 (.int .i64 kd) rfl
          have x3 := zs 2 (.int .i64 o) rfl
          have x4 := zs 3 (.int .i64 r) rfl
          have x5 := zs 4 (.int .i64 t) rfl
          have x6 := zs 5 (.int .i64 m) rfl
          have x7 := zs 6 (vS g) rfl
          have x8 := zs 7 (.slice la its.length lc) rfl
          dsimp only [Nat.zero_add, Nat.reduceAdd] at x0 x1 x2 x3 x4 x5 x6 x7 x8
          have hcs : P.cs = #[.int .i64 c, .int .i64 n, .int .i64 kd, .int .i64 o, .int .i64 r, .int .i64 t, .int .i64 m, vS g, .slice la its.length lc] := by rw [hP]; rfl
          have hPc : P.c = c := by rw [hP]
          have hPn : P.n = n := by rw [hP]
          have hPk : P.k = kd := by rw [hP]
          have hPo : P.o = o := by rw [hP]
          have hPi : P.its = its := by rw [hP]
          have hPg : P.g = g := by rw [hP]
          have hPl : P.l = .slice la its.length lc := by rw [hP]
          obtain ⟨M, hM⟩ : ∃ M, its.length = M := ⟨_, rfl⟩
          rw [hM] at x8 hcs hPl
          rw [hcs] at hone
          have HP := Lib.hid hp
          have HCS := Lib.hid hcs
          have HONE := Lib.hid hone
          have HPC := Lib.hid hPc
          have HPN := Lib.hid hPn
          have HPK := Lib.hid hPk
          have HPO := Lib.hid hPo
          have HPI := Lib.hid hPi
          have HPG := Lib.hid hPg
          have HPL := Lib.hid hPl
          have HM := Lib.hid hM
          clear hp hok hone z0 zs hP hcs hPc hPn hPk hPo hPi hPg hPl hM
          have hMvP : Hid (∀ W, Fr (fun _ => False) wr W → Calls Tryz.prog 24 #[.agg #[.int .i64 c, .int .i64 n, .int .i64 kd, .int .i64 o, .int .i64 r, .int .i64 t, .int .i64 m, vS g, .slice la M lc], .int .i64 kind, vS gd, .slice va N vc] W fun e w' => e = .returned (.int .i64 (movF P kind gd L)) ∧ Fr (fun _ => False) W w') := Lib.hid (fun W hf => by
            have := hMvC.out W P (aokKeeps HOK.out hf (fun _ h => h.elim)) (HFR.out.trans hf)
            rw [HCS.out] at this; exact this)
          obtain ⟨MP, hMP⟩ : ∃ m, movF P kind gd L = m := ⟨_, rfl⟩
          rw [hMP] at hMvP HT
          clear hfr hMP
          go_wp2_with (go_at_call 24; refine (hMvP.out _ ((Fr.refl (fun _ => False) wr).alloc _)).mono ?_; rintro e w6 ⟨rfl, hf6⟩; have HF6 := Lib.hid (((Fr.refl (fun _ => False) wr).alloc _).trans hf6); clear hf6)
          go_roundw
          case rel => exact ⟨j + 1, by omega, by go_num, by rw [HT.out], HFR.out.trans HF6.out⟩
          case measure => simp [intOf]; omega
        · obtain rfl : j = M := by omega
          have hall : G.take j = G := List.take_of_length_le (by rw [HM.out]; exact Nat.le_refl _)
          rw [hall, HMX.out]
          have hjn : ¬ (j : Int) < j := by omega
          clear hall hfr
          by_cases h1 : ST = 1
          · have b1 : (ST == 1) = true := by simpa using h1
            have b2 : (ST != 2) = true := by rw [h1]; decide
            have hLM : Hid ((if ST = 2 then 0 else MX) = MX) := Lib.hid (by rw [h1]; rfl)
            cases PL with
            | false =>
              have hLL : Hid ((if ST = 1 ∧ false = true then MV else 0) = 0) := Lib.hid (by simp)
              clear h1
              go_wp2_with (go_at_call 25; refine (hPlC.out _ HFR.out).mono ?_; rintro e w7 ⟨rfl, hf7⟩; have HF7 := Lib.hid (HFR.out.trans hf7); obtain ⟨u0, u1, f0, f1, hbx⟩ := hRb.out _ (HFR.out.trans hf7); have HBX := Lib.hid hbx; clear hf7 hbx)
              have hF8 : Fr (fun b => b = n0 + 1) w4 (w7.setCell ⟨n0 + 1, 1, none⟩ (.int .i64 (wrap64 (B + MX)))) := Fr.setCell (S := fun b => b = n0 + 1) (HF7.out.mono (fun _ _ e => e.elim)) (p := ⟨n0 + 1, 1, none⟩) (fun _ => rfl) _
              obtain ⟨left', cnt', hsp, rfl⟩ := hnext.out _ A (wrap64 (B + MX)) hF8 (by rw [hSA'.out, hLL.out]; simp) (by rw [hSB'.out, hLM.out]; exact wrap_add SB MX) (obj_set HBX.out 1 _)
              go_roundw
              case rel => exact ⟨left', _, hsp⟩
              case measure => exact hleq.out _ left' hsp
            | true =>
              have hLL : Hid ((if ST = 1 ∧ true = true then MV else 0) = MV) := Lib.hid (by rw [h1]; rfl)
              clear h1
              obtain ⟨p9, hp9⟩ : ∃ p9, G[0]? = some p9 := by
                cases G with
                | nil => exact absurd rfl HGN.out
                | cons q r => exact ⟨q, rfl⟩
              have hl0n : 0 < j := by have := (List.getElem?_eq_some_iff.1 hp9).1; have := HM.out; omega
              have hl0 : (0 : Int) < (j : Int) := by omega
              have hMV9 : movF p9 kind gd L = MV := by
                rw [← HMV.out]
                cases G with
                | nil => simp at hp9
                | cons q r => simp at hp9; rw [← hp9]; rfl
              obtain ⟨ad9, rfl, hok9, z0, zs⟩ := (HGA.out.fr0 aokKeeps HFR.out).at_ hp9
              have HOK9 := Lib.hid hok9
              have hone9 := avOne hok9
              obtain ⟨la9, lc9, hl9⟩ := hok9.l.sl
              obtain ⟨P9, hP9⟩ : ∃ P : AV, P = p9 := ⟨_, rfl⟩
              rw [← hP9] at hp9 HOK9 hone9 hMV9
              obtain ⟨c9, n9, kd9, o9, r9, t9, m9, g9, l9, its9⟩ := p9
              dsimp only at hl9
              subst hl9
              have x09 := z0 (.int .i64 c9) rfl
              have x19 := zs 0 (.int .i64 n9) rfl
              have x29 := zs 1 (.int .i64 kd9) rfl
              have x39 := zs 2 (.int .i64 o9) rfl
              have x49 := zs 3 (.int .i64 r9) rfl
              have x59 := zs 4 (.int .i64 t9) rfl
              have x69 := zs 5 (.int .i64 m9) rfl
              have x79 := zs 6 (vS g9) rfl
              have x89 := zs 7 (.slice la9 its9.length lc9) rfl
              dsimp only [Nat.zero_add, Nat.reduceAdd] at x09 x19 x29 x39 x49 x59 x69 x79 x89
              have hcs9 : P9.cs = #[.int .i64 c9, .int .i64 n9, .int .i64 kd9, .int .i64 o9, .int .i64 r9, .int .i64 t9, .int .i64 m9, vS g9, .slice la9 its9.length lc9] := by rw [hP9]; rfl
              have hPc9 : P9.c = c9 := by rw [hP9]
              have hPn9 : P9.n = n9 := by rw [hP9]
              have hPk9 : P9.k = kd9 := by rw [hP9]
              have hPo9 : P9.o = o9 := by rw [hP9]
              have hPi9 : P9.its = its9 := by rw [hP9]
              have hPg9 : P9.g = g9 := by rw [hP9]
              have hPl9 : P9.l = .slice la9 its9.length lc9 := by rw [hP9]
              obtain ⟨M9, hM9⟩ : ∃ M, its9.length = M := ⟨_, rfl⟩
              rw [hM9] at x89 hcs9 hPl9
              rw [hcs9] at hone9
              have HP9 := Lib.hid hp9
              have HCS9 := Lib.hid hcs9
              have HONE9 := Lib.hid hone9
              have HPC9 := Lib.hid hPc9
              have HPN9 := Lib.hid hPn9
              have HPK9 := Lib.hid hPk9
              have HPO9 := Lib.hid hPo9
              have HPI9 := Lib.hid hPi9
              have HPG9 := Lib.hid hPg9
              have HPL9 := Lib.hid hPl9
              have HM9 := Lib.hid hM9
              clear hp9 hok9 hone9 z0 zs hP9 hcs9 hPc9 hPn9 hPk9 hPo9 hPi9 hPg9 hPl9 hM9
              have h00 : ad9.add (0 * 9) = ad9 := by obtain ⟨b, f, s⟩ := ad9; cases s <;> simp [Addr.add]
              rw [h00] at x09 x19 x29 x39 x49 x59 x69 x79 x89
              clear h00
              have hMv9 : Hid (∀ W, Fr (fun _ => False) wr W → Calls Tryz.prog 24 #[.agg #[.int .i64 c9, .int .i64 n9, .int .i64 kd9, .int .i64 o9, .int .i64 r9, .int .i64 t9, .int .i64 m9, vS g9, .slice la9 M9 lc9], .int .i64 kind, vS gd, .slice va N vc] W fun e w' => e = .returned (.int .i64 MV) ∧ Fr (fun _ => False) W w') := Lib.hid (fun W hf => by
                have := hMvC.out W P9 (aokKeeps HOK9.out hf (fun _ h => h.elim)) (HFR.out.trans hf)
                rw [HCS9.out, hMV9] at this; exact this)
              have hfacts : Hid (∀ W : World, Fr (fun _ => False) wr W → (W.cell? ad9 = some (.int .i64 c9) ∧ W.cell? ⟨ad9.block, ad9.off + 1, none⟩ = some (.int .i64 n9) ∧ W.cell? ⟨ad9.block, ad9.off + 2, none⟩ = some (.int .i64 kd9) ∧ W.cell? ⟨ad9.block, ad9.off + 3, none⟩ = some (.int .i64 o9) ∧ W.cell? ⟨ad9.block, ad9.off + 4, none⟩ = some (.int .i64 r9) ∧ W.cell? ⟨ad9.block, ad9.off + 5, none⟩ = some (.int .i64 t9) ∧ W.cell? ⟨ad9.block, ad9.off + 6, none⟩ = some (.int .i64 m9) ∧ W.cell? ⟨ad9.block, ad9.off + 7, none⟩ = some (vS g9) ∧ W.cell? ⟨ad9.block, ad9.off + 8, none⟩ = some (.slice la9 M9 lc9)) ∧ W.cell? ⟨n0 + 1, 0, none⟩ = some (.int .i64 A) ∧ W.frozen? ⟨n0 + 1, 0, none⟩ = false ∧ W.heap[n0 + 1]? = some (.cells #[.int .i64 A, .int .i64 B] 27) ∧ (W.setCell ⟨n0 + 1, 0, none⟩ (.int .i64 (wrap64 (A + MV)))).cell? ⟨n0 + 1, 1, none⟩ = some (.int .i64 B) ∧ (W.setCell ⟨n0 + 1, 0, none⟩ (.int .i64 (wrap64 (A + MV)))).frozen? ⟨n0 + 1, 1, none⟩ = false) := Lib.hid (fun W hf => by
                obtain ⟨u0, u1, f0, f1, hbx⟩ := hRb.out _ (HFR.out.trans hf)
                have hs := obj_set hbx 0 (.int .i64 (wrap64 (A + MV)))
                exact ⟨⟨hf.cell x09 (fun h => h), hf.cell x19 (fun h => h), hf.cell x29 (fun h => h), hf.cell x39 (fun h => h), hf.cell x49 (fun h => h), hf.cell x59 (fun h => h), hf.cell x69 (fun h => h), hf.cell x79 (fun h => h), hf.cell x89 (fun h => h)⟩, u0, f0, hbx, cell_obj hs 1 _ rfl, obj_frozen hs 1⟩)
              clear x09 x19 x29 x39 x49 x59 x69 x79 x89 hMV9
              go_upto_region 12 with (go_at_call 25; refine (hPlC.out _ HFR.out).mono ?_; rintro e w7 ⟨rfl, hf7⟩; have HF7 := Lib.hid hf7; clear hf7)
              have hX : Hid (Fr (fun _ => False) wr w7.drew) := Lib.hid HF7.out.drew
              obtain ⟨⟨y0, y1, y2, y3, y4, y5, y6, y7, y8⟩, v0, v1, vb, v2, v3⟩ := hfacts.out _ hX.out
              have HVB := Lib.hid vb
              clear vb
              go_region_with ((go_at_call 24; refine (hMv9.out _ hX.out).mono ?_; rintro e w8 ⟨rfl, hf8⟩; have hX8 := Lib.hid (hX.out.trans hf8); obtain ⟨⟨z0, z1, z2, z3, z4, z5, z6, z7, z8⟩, q0, q1, qb, q2, q3⟩ := hfacts.out _ (hX.out.trans hf8); have HQB := Lib.hid qb; clear qb hf8))
              all_goals
                go_wp2_with fail
                have hF9 : Fr (fun b => b = n0 + 1) w4 ((w8.setCell ⟨n0 + 1, 0, none⟩ (.int .i64 (wrap64 (A + MV)))).setCell ⟨n0 + 1, 1, none⟩ (.int .i64 (wrap64 (B + MX)))) :=
                  Fr.setCell (S := fun b => b = n0 + 1) (Fr.setCell (S := fun b => b = n0 + 1) ((HFR.out.trans hX8.out).mono (fun _ _ e => e.elim)) (p := ⟨n0 + 1, 0, none⟩) (fun _ => rfl) _) (p := ⟨n0 + 1, 1, none⟩) (fun _ => rfl) _
                obtain ⟨left', cnt', hsp, rfl⟩ := hnext.out _ (wrap64 (A + MV)) (wrap64 (B + MX)) hF9 (by rw [hSA'.out, hLL.out]; exact wrap_add SA MV) (by rw [hSB'.out, hLM.out]; exact wrap_add SB MX) (obj_set (obj_set HQB.out 0 _) 1 _)
                go_roundw
                case rel => exact ⟨left', _, hsp⟩
                case measure => exact hleq.out _ left' hsp
          · have b1 : (ST == 1) = false := by simpa using h1
            have hLL : Hid ((if ST = 1 ∧ PL = true then MV else 0) = 0) := Lib.hid (by simp [h1])
            obtain ⟨u0, u1, f0, f1, hbx⟩ := hRb.out _ HFR.out
            have HBX := Lib.hid hbx
            clear hbx
            by_cases h2 : ST = 2
            · have b2 : (ST != 2) = false := by simpa using h2
              have hLM : Hid ((if ST = 2 then 0 else MX) = 0) := Lib.hid (by rw [h2]; rfl)
              clear h1 h2
              go_wp2_with fail
              obtain ⟨left', cnt', hsp, rfl⟩ := hnext.out _ A B (HFR.out.mono (fun _ _ e => e.elim)) (by rw [hSA'.out, hLL.out]; simp) (by rw [hSB'.out, hLM.out]; simp) HBX.out
              go_roundw
              case rel => exact ⟨left', _, hsp⟩
              case measure => exact hleq.out _ left' hsp
            · have b2 : (ST != 2) = true := by simpa using h2
              have hLM : Hid ((if ST = 2 then 0 else MX) = MX) := Lib.hid (by rw [if_neg h2])
              clear h1 h2
              go_wp2_with fail
              have hF8 : Fr (fun b => b = n0 + 1) w4 (wr.setCell ⟨n0 + 1, 1, none⟩ (.int .i64 (wrap64 (B + MX)))) := Fr.setCell (S := fun b => b = n0 + 1) (HFR.out.mono (fun _ _ e => e.elim)) (p := ⟨n0 + 1, 1, none⟩) (fun _ => rfl) _
              obtain ⟨left', cnt', hsp, rfl⟩ := hnext.out _ A (wrap64 (B + MX)) hF8 (by rw [hSA'.out, hLL.out]; simp) (by rw [hSB'.out, hLM.out]; exact wrap_add SB MX) (obj_set HBX.out 1 _)
              go_roundw
              case rel => exact ⟨left', _, hsp⟩
              case measure => exact hleq.out _ left' hsp
end Go.Proofs.YtbeikkkmobbnkaaGreat
