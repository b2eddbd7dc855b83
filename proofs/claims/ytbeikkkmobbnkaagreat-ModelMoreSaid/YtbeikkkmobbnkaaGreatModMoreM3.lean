/- model.moves, entrepotref25.moves (written by wip/tools/md23.py). -/
import Derived.Test.YtbeikkkmobbnkaaGreatModMoreM2
import Derived.Stop.RegionWithIn
import Derived.Shelf.Abstract
namespace Go.Proofs.YtbeikkkmobbnkaaGreat
open Go.RowKit Go.Maps
attribute [local go_sem] Oper.semAt_some
def mstep (o : Int) (g : Str) (m : Int) (x : AV) : Int := if ordF x = o then max m (ofF x.its g) else m
/-- How many of a good an order wants, at most. -/
def mostF (o : Int) (g : Str) (L : List AV) : Int := L.foldl (mstep o g) 0
theorem mostF_take {L : List AV} {k : Nat} {p : AV} (o : Int) (g : Str) (h : L[k]? = some p) : mostF o g (L.take (k + 1)) = mstep o g (mostF o g (L.take k)) p := by
  unfold mostF
  rw [List.take_add_one, h, List.foldl_append]
  rfl
def isM (k : Int) : Bool := decide (k = 6) || decide (k = 5) || decide (k = 8) || decide (k = 9) || decide (k = 10)
/-- What a request moves of a good, as a kind. -/
def movF (a : AV) (kind : Int) (g : Str) (L : List AV) : Int := if a.k = kind then (if isM kind = true then ofF a.its g else if kind = 4 then mostF a.o g (rightL L) else 0) else 0
theorem foldl_filter {α β : Type} (p : α → Bool) (f : β → α → β) (h : ∀ m x, p x = false → f m x = m) : ∀ (L : List α) (m : β), (L.filter p).foldl f m = L.foldl f m
  | [], m => rfl
  | x :: r, m => by
    cases e : p x with
    | true => rw [List.filter_cons_of_pos e]; exact foldl_filter p f h r (f m x)
    | false =>
      rw [List.filter_cons_of_neg (by simp [e]), List.foldl_cons, h m x e]
      exact foldl_filter p f h r m
theorem mostF_right {o : Int} (h : 0 < o) (g : Str) (L : List AV) : mostF o g (rightL L) = mostF o g L := by
  unfold mostF rightL
  refine foldl_filter AV.may (mstep o g) (fun m x hx => ?_) L 0
  unfold mstep
  rw [if_neg]
  unfold ordF
  rw [if_neg (by simp [hx])]
  omega
def MvI (w : World) (n0 : Nat) (A : AV) (gd : Str) (R : List AV) (k : Nat) (_ : Nat → Prop) (W : World) : Prop :=
  (W.heap[n0]? = some (.cells A.cs 50) ∧ W.heap[n0 + 1]? = some (.cells #[vS gd] 9) ∧ W.heap[n0 + 2]? = some (.cells #[.int .i64 (mostF A.o gd (R.take k))] 3)) ∧ Fr (fun b => n0 ≤ b) w W
theorem MvI.fa {B : Nat} {w W W' : World} {n0 k : Nat} {A : AV} {gd : Str} {R : List AV} {C : Nat → Prop} (h : MvI w n0 A gd R k C W) (hf : Fa B W W') (hB : w.heap.size ≤ B) : MvI w n0 A gd R k C W' :=
  ⟨⟨Fa.cells hf h.1.1, Fa.cells hf h.1.2.1, Fa.cells hf h.1.2.2⟩, Fa.old hf h.2 hB⟩
theorem MvI.keep {w W W' : World} {n0 k : Nat} {A : AV} {gd : Str} {R : List AV} {C : Nat → Prop} (h : MvI w n0 A gd R k C W) (hf : Fr (fun _ => False) W W') : MvI w n0 A gd R k C W' :=
  ⟨⟨hf.at_ h.1.1 (fun h => h), hf.at_ h.1.2.1 (fun h => h), hf.at_ h.1.2.2 (fun h => h)⟩, h.2.trans' hf (fun _ _ e => e.elim)⟩
theorem max_ite (a b : Int) : max a b = if a < b then b else a := by split <;> omega
set_option maxRecDepth 100000 in
set_option maxHeartbeats 8000000 in
theorem kMoves (w : World) (a : AV) (kind : Int) (gd : Str) (v : Value) (L : List AV) (hk : AOk w a) (h : Al w v L) : Calls Tryz.prog 24 #[.agg a.cs, .int .i64 kind, vS gd, v] w fun e w' => e = .returned (.int .i64 (movF a kind gd L)) ∧ Fr (fun _ => False) w w' := by
  obtain ⟨n0, hn0⟩ : ∃ n0, w.heap.size = n0 := ⟨_, rfl⟩
  have HS := Lib.hid hn0
  have HL := Lib.hid h
  have hokR : Hid (∀ p ∈ rightL L, AOk w p) := Lib.hid (fun p hp => h.okm (List.mem_filter.1 hp).1)
  obtain ⟨va, vc, rfl⟩ := h.sl
  obtain ⟨N, hN⟩ : ∃ N, L.length = N := ⟨_, rfl⟩
  rw [hN] at HL ⊢
  obtain ⟨A, hA⟩ : ∃ A : AV, A = a := ⟨_, rfl⟩
  have hAK : Hid (AOk w A) := Lib.hid (by rw [hA]; exact hk)
  obtain ⟨ac, an, ak, ao, ar, at_, am, ag, al, aits⟩ := a
  obtain ⟨ala, alc, hl⟩ := hk.l.sl
  dsimp only at hl
  subst hl
  obtain ⟨aM, hM⟩ : ∃ M, aits.length = M := ⟨_, rfl⟩
  have hcs : A.cs = #[.int .i64 ac, .int .i64 an, .int .i64 ak, .int .i64 ao, .int .i64 ar, .int .i64 at_, .int .i64 am, vS ag, .slice ala aM alc] := by rw [hA, ← hM]; rfl
  have hAk : A.k = ak := by rw [hA]
  have hAo : Hid (A.o = ao) := Lib.hid (by rw [hA])
  have hAi : Hid (∀ W, Fr (fun _ => False) w W → Il W (.slice ala aM alc) A.its) := Lib.hid (fun W hf => by have := hAK.out.l.fr hf (fun _ h => h.elim); rw [hA] at this ⊢; rw [← hM]; exact this)
  rw [← hA, hcs]
  obtain ⟨R, hR⟩ : ∃ R, movF A kind gd L = R := ⟨_, rfl⟩
  rw [hR]
  have HR := Lib.hid hR
  have HCS := Lib.hid hcs
  have HAK := Lib.hid hAk
  clear h hN hk hA hcs hR hM hAk
  obtain ⟨W0, hW0⟩ : ∃ W0, (w.alloc (.cells #[.int .i64 ac, .int .i64 an, .int .i64 ak, .int .i64 ao, .int .i64 ar, .int .i64 at_, .int .i64 am, vS ag, .slice ala aM alc] 50)).alloc (.cells #[vS gd] 9) = W0 := ⟨_, rfl⟩
  have hF0 : Fr (fun _ => False) w W0 := by rw [← hW0]; exact ((Fr.refl _ w).alloc _).alloc _
  have hb0 : W0.heap[n0]? = some (.cells #[.int .i64 ac, .int .i64 an, .int .i64 ak, .int .i64 ao, .int .i64 ar, .int .i64 at_, .int .i64 am, vS ag, .slice ala aM alc] 50) := by rw [← hW0]; exact heap_keep (heap_at hn0.symm _) _
  have hb1 : W0.heap[n0 + 1]? = some (.cells #[vS gd] 9) := by rw [← hW0]; exact heap_at (by simp; omega) _
  have hs0 : W0.heap.size = n0 + 2 := by rw [← hW0]; simp; omega
  have y2 := cell_obj hb0 2 (.int .i64 ak) rfl
  have y8 := cell_obj hb0 8 (.slice ala aM alc) rfl
  have yg := cell_obj hb1 0 (vS gd) rfl
  have HF0 := Lib.hid hF0; have HB0 := Lib.hid hb0; have HB1 := Lib.hid hb1; have HS0 := Lib.hid hs0
  have hOf := Lib.hid (callsIn_wide (n := 0) |>.2 (iOf W0 _ A.its gd (hAi.out W0 hF0)))
  clear hF0 hb0 hb1 hs0
  refine (callsIn_wide (n := 0)).1 ?_
  refine callsIn_of_wp_marks Tryz.func24 rfl trivial ?_ rfl
  simp only [Tryz.ntmps24, List.size_toArray, List.length_cons, List.length_nil, Nat.reduceAdd, Nat.reduceSub, Array.replicate_succ, Array.replicate_zero, List.push_toArray, List.append_toArray, List.nil_append, List.cons_append]
  have hfn : ∀ f, Fence.wide.fn f := fun _ => trivial
  have hdp : Fence.wide.depth.isSome = false := rfl
  by_cases hkk : ak = kind
  · have hb : (ak != kind) = false := by simpa using hkk
    cases hm : isM kind with
    | true =>
      have hres : Hid (R = ofF A.its gd) := Lib.hid (by rw [← HR.out]; unfold movF; rw [if_pos (HAK.out.trans hkk), if_pos hm])
      have hk5 : kind = 6 ∨ kind = 5 ∨ kind = 8 ∨ kind = 9 ∨ kind = 10 := by simpa [isM, or_assoc] using hm
      clear hm hkk HR HAK
      rcases hk5 with rfl | rfl | rfl | rfl | rfl
      all_goals
        gi_wp2_with (gi_at_call 43; refine hOf.out.mono ?_; rintro e w1 ⟨rfl, hf1⟩; have HF1 := Lib.hid hf1; clear hf1)
        refine ⟨.int .i64 (ofF A.its gd), by simp [results, Tryz.results24, go_sem], by rw [hres.out], HF0.out.trans HF1.out⟩
    | false =>
      obtain ⟨e1, e2, e3, e4, e5⟩ : (kind == 6) = false ∧ (kind == 5) = false ∧ (kind == 8) = false ∧ (kind == 9) = false ∧ (kind == 10) = false := by
        simp [isM] at hm
        simp [hm]
      by_cases h4 : kind = 4
      · have hres : Hid (R = mostF ao gd (rightL L)) := Lib.hid (by rw [← HR.out]; unfold movF; rw [if_pos (HAK.out.trans hkk), if_neg (by simp [hm]), if_pos h4, hAo.out])
        clear hm hkk HR HAK e1 e2 e3 e4 e5
        subst h4
        gi_wp2_with (gi_at_call 31; refine (callsIn_wide.2 (kRightF _ (.slice va N vc) _ _ _)).mono ?_; rintro e w1 ⟨rfl, rfl⟩)
        have hI0 : MvI w n0 A gd (rightL L) 0 (fun _ => False) ((W0.alloc (.cells #[.int .i64 0] 3)).alloc (.cells #[.slice va N vc] 22)) := by
          refine ⟨⟨?_, heap_keep (heap_keep HB1.out _) _, heap_keep (heap_at (by rw [HS0.out]) _) _⟩, ((HF0.out.mono (fun _ _ e => e.elim)).alloc _).alloc _⟩
          rw [HCS.out]
          exact heap_keep (heap_keep HB0.out _) _
        have hB0 : Boxed ((W0.alloc (.cells #[.int .i64 0] 3)).alloc (.cells #[.slice va N vc] 22)) (n0 + 3) 22 (.slice va N vc) := heap_at (by simp [HS0.out]) _
        have hs2 : ((W0.alloc (.cells #[.int .i64 0] 3)).alloc (.cells #[.slice va N vc] 22)).heap.size = n0 + 4 := by simp [HS0.out]
        obtain ⟨W2, hW2⟩ : ∃ W2, (W0.alloc (.cells #[.int .i64 0] 3)).alloc (.cells #[.slice va N vc] 22) = W2 := ⟨_, rfl⟩
        rw [hW2] at hI0 hB0 hs2
        (try rw [hW2])
        rw [HS0.out]
        have hF2 : Fr (fun b => w.heap.size ≤ b) w W2 := hI0.2.mono (fun b _ e => by omega)
        have HI0 := Lib.hid hI0; have HS2 := Lib.hid hs2; have HF2 := Lib.hid hF2
        clear hW2 hI0 hF2 y2 y8 yg hOf
        refine rangeX (w0 := W2) (X := rightL L) (S := fun b => b = n0 + 2) rfl (enters_of Tryz.func49 (by kernel_rfl) rfl)
          (kRight2 _ w W2 (n0 + 2 + 1) _ L hB0 HL.out HF2.out (fun b hb e => by omega)) (Below.refl _ _) (fun b hb => by omega) (fun _ => rfl)
          (MvI w n0 A gd (rightL L)) (fun _ _ _ _ => False)
          (fun k C W W' hs hf => hs.fa hf (by omega)) (fun c k C W W' hs hf => hs)
          HI0.out ?round ?done ?stop
        case stop => intro D c k C W hD hk hX; exact hX.elim
        case round =>
          rintro lp k x C W hx hlp hi hr
          have hokx := hokR.out x (List.mem_of_getElem? hx)
          have HT := Lib.hid (mostF_take A.o gd hx)
          obtain ⟨P, hP⟩ : ∃ P : AV, P = x := ⟨_, rfl⟩
          rw [← hP] at HT
          have HOKP := Lib.hid (show AOk w P by rw [hP]; exact hokx)
          obtain ⟨c, n, kd, o, r, t, m, g, l, its⟩ := x
          obtain ⟨la, lc, hl⟩ := hokx.l.sl
          dsimp only at hl
          subst hl
          obtain ⟨M, hM⟩ : ∃ M, its.length = M := ⟨_, rfl⟩
          have hcs : P.cs = #[.int .i64 c, .int .i64 n, .int .i64 kd, .int .i64 o, .int .i64 r, .int .i64 t, .int .i64 m, vS g, .slice la M lc] := by rw [hP, ← hM]; rfl
          have hPl : Hid (∀ W, Fr (fun b => w.heap.size ≤ b) w W → Il W (.slice la M lc) P.its) := Lib.hid (fun W hf => by have := (aokKeeps HOKP.out hf (fun b hb => hb)).l; rw [hP] at this ⊢; rw [← hM]; exact this)
          dsimp only [encA, AV.cs]
          rw [hM]
          have HCSP := Lib.hid hcs
          clear hM hP hcs hx hokx
          obtain ⟨xb, hxb⟩ : ∃ xb, W.heap.size = xb := ⟨_, rfl⟩
          gi_wp2
          have hFW : Fr (fun _ => False) W (W.alloc (.cells #[.int .i64 c, .int .i64 n, .int .i64 kd, .int .i64 o, .int .i64 r, .int .i64 t, .int .i64 m, vS g, .slice la M lc] 50)) := (Fr.refl _ W).alloc _
          have hbW : (W.alloc (.cells #[.int .i64 c, .int .i64 n, .int .i64 kd, .int .i64 o, .int .i64 r, .int .i64 t, .int .i64 m, vS g, .slice la M lc] 50)).heap[xb]? = some (.cells #[.int .i64 c, .int .i64 n, .int .i64 kd, .int .i64 o, .int .i64 r, .int .i64 t, .int .i64 m, vS g, .slice la M lc] 50) := heap_at hxb.symm _
          refine Took.mk (hFW.mono (fun _ _ e => e.elim)) (hi.keep hFW) ?_
          rintro Wb hM hrb hf hsz hsw hCC _
          have hbb := Fa.cells hf hbW
          obtain ⟨T, hT⟩ : ∃ T, mostF A.o gd ((rightL L).take k) = T := ⟨_, rfl⟩
          rw [hT] at HT
          obtain ⟨⟨m0, m1, m2⟩, hMF⟩ := hM
          rw [HCS.out] at m0
          rw [hT] at m2
          have q3 := FrW.cell (cell_obj m0 3 (.int .i64 ao) rfl)
          have x0 := FrW.cell (cell_obj hbb 0 (.int .i64 c) rfl); have x1 := FrW.cell (cell_obj hbb 1 (.int .i64 n) rfl); have x2 := FrW.cell (cell_obj hbb 2 (.int .i64 kd) rfl); have x3 := FrW.cell (cell_obj hbb 3 (.int .i64 o) rfl); have x4 := FrW.cell (cell_obj hbb 4 (.int .i64 r) rfl)
          have x5 := FrW.cell (cell_obj hbb 5 (.int .i64 t) rfl); have x6 := FrW.cell (cell_obj hbb 6 (.int .i64 m) rfl); have x7 := FrW.cell (cell_obj hbb 7 (vS g) rfl); have x8 := FrW.cell (cell_obj hbb 8 (.slice la M lc) rfl)
          have hMF2 : Fr (fun b => w.heap.size ≤ b) w Wb := hMF.mono (fun b _ e => by omega)
          have hOrd : Hid (∀ W, Fr (fun _ => False) Wb W → Calls Tryz.prog 38 #[.agg #[.int .i64 c, .int .i64 n, .int .i64 kd, .int .i64 o, .int .i64 r, .int .i64 t, .int .i64 m, vS g, .slice la M lc]] W fun e w' => e = .returned (.int .i64 (ordF P)) ∧ Fr (fun _ => False) W w') := Lib.hid (fun W hf => by
            have := kOrder W P (aokKeeps HOKP.out (hMF2.trans' hf (fun _ _ e => e.elim)) (fun b hb => hb))
            rw [HCSP.out] at this; exact this)
          have hOf2 : Hid (∀ W, Fr (fun _ => False) Wb W → Calls Tryz.prog 43 #[.slice la M lc, vS gd] W fun e w' => e = .returned (.int .i64 (ofF P.its gd)) ∧ Fr (fun _ => False) W w') := Lib.hid (fun W hf => iOf W _ P.its gd (hPl.out W (hMF2.trans' hf (fun _ _ e => e.elim))))
          have hcells : Hid (∀ W : World, Fr (fun _ => False) Wb W → W.cell? ⟨n0 + 2, 0, none⟩ = some (.int .i64 T) ∧ W.frozen? ⟨n0 + 2, 0, none⟩ = false ∧ W.cell? ⟨n0 + 1, 0, none⟩ = some (vS gd) ∧ W.cell? ⟨xb, 8, none⟩ = some (.slice la M lc)) := Lib.hid (fun W hf =>
            ⟨cell_obj (hf.at_ m2 (fun h => h)) 0 _ rfl, obj_frozen (hf.at_ m2 (fun h => h)) 0, cell_obj (hf.at_ m1 (fun h => h)) 0 _ rfl, cell_obj (hf.at_ hbb (fun h => h)) 8 _ rfl⟩)
          have hput : Hid (∀ (W : World) (V : Int), Fr (fun _ => False) Wb W → V = mostF A.o gd ((rightL L).take (k + 1)) → ∀ C', MvI w n0 A gd (rightL L) (k + 1) C' (W.setCell ⟨n0 + 2, 0, none⟩ (.int .i64 V)) ∧ Fr (fun b => b = n0 + 2) Wb (W.setCell ⟨n0 + 2, 0, none⟩ (.int .i64 V))) := Lib.hid (fun W V hf hV C' => by
            have hF : Fr (fun b => b = n0 + 2) Wb (W.setCell ⟨n0 + 2, 0, none⟩ (.int .i64 V)) := Fr.setCell (S := fun b => b = n0 + 2) (hf.mono (fun _ _ e => e.elim)) (p := ⟨n0 + 2, 0, none⟩) (fun _ => rfl) _
            refine ⟨⟨⟨?_, hF.at_ m1 (by omega), ?_⟩, hMF.trans' hF (fun b _ e => by omega)⟩, hF⟩
            · rw [HCS.out]; exact hF.at_ m0 (by omega)
            · rw [← hV]; exact obj_set (hf.at_ m2 (fun h => h)) 0 _)
          have hstay : Hid (∀ W : World, Fr (fun _ => False) Wb W → T = mostF A.o gd ((rightL L).take (k + 1)) → ∀ C', MvI w n0 A gd (rightL L) (k + 1) C' W) := Lib.hid (fun W hf hV C' => by
            refine ⟨⟨?_, hf.at_ m1 (fun h => h), ?_⟩, hMF.trans' hf (fun b _ e => e.elim)⟩
            · rw [HCS.out]; exact hf.at_ m0 (fun h => h)
            · rw [← hV]; exact hf.at_ m2 (fun h => h))
          obtain ⟨OP, hOP⟩ : ∃ OP, ordF P = OP := ⟨_, rfl⟩
          rw [hOP] at hOrd
          have HOP := Lib.hid hOP
          clear hi hr hrb hf hbb m0 m1 m2 hMF hMF2 hT hOP hbW hFW
          by_cases ho : OP = ao
          · have b1 : (OP == ao) = true := by simpa using ho
            have hnx : Hid (mostF A.o gd ((rightL L).take (k + 1)) = max T (ofF P.its gd)) := Lib.hid (by rw [HT.out]; unfold mstep; rw [if_pos (by rw [HOP.out, hAo.out]; exact ho)])
            clear ho
            gi_wp2_with fail
            refine wpIn_region_fr_round (by kernel_rfl) (by kernel_rfl) (by kernel_rfl) ?_
            repeat (gi_big_quiet_step ((gi_at_call 38; rename_i X; refine (callsIn_wide.2 (hOrd.out X.val X.fr)).mono ?_; rintro e w2 ⟨rfl, hF⟩; exact ⟨rfl, ⟨w2, X.fr.trans hF⟩, rfl⟩)))
            refine wpQuietIn_nil ?_
            rintro _ ⟨⟨V, hV⟩, rfl⟩
            gi_wp2_with fail
            have hVd := hV.drew
            obtain ⟨c0, f0, c1, c8⟩ := hcells.out _ hVd
            gi_region_with ((gi_at_call 43; refine (callsIn_wide.2 (hOf2.out _ hVd)).mono ?_; rintro e w3 ⟨rfl, hf3⟩; have hF3 := Lib.hid (hVd.trans hf3); obtain ⟨d0, g0, d1, d8⟩ := hcells.out _ (hVd.trans hf3); clear hf3))
            all_goals
              gi_wp2_with fail
              have hp := hput.out w3 _ hF3.out hnx.out.symm
              exact ⟨(hp (fun _ => False)).2.mono (fun _ _ e => .inl e), (hp _).1⟩
          · have b1 : (OP == ao) = false := by simpa using ho
            have hnx : Hid (T = mostF A.o gd ((rightL L).take (k + 1))) := Lib.hid (by rw [HT.out]; unfold mstep; rw [if_neg (by rw [HOP.out, hAo.out]; exact ho)])
            clear ho
            gi_wp2_with fail
            refine wpIn_region_fr_round (by kernel_rfl) (by kernel_rfl) (by kernel_rfl) ?_
            repeat (gi_big_quiet_step ((gi_at_call 38; rename_i X; refine (callsIn_wide.2 (hOrd.out X.val X.fr)).mono ?_; rintro e w2 ⟨rfl, hF⟩; exact ⟨rfl, ⟨w2, X.fr.trans hF⟩, rfl⟩)))
            refine wpQuietIn_nil ?_
            rintro _ ⟨⟨V, hV⟩, rfl⟩
            gi_wp2_with fail
            exact ⟨hV.mono (fun _ _ e => e.elim), hstay.out _ hV hnx.out _⟩
        case done =>
          rintro D C W hD hM hr hK
          have HM := Lib.hid hM; have HK := Lib.hid hK
          have h2 := hM.1.2.2
          rw [List.take_length] at h2
          have cm := cell_obj h2 0 (.int .i64 (mostF A.o gd (rightL L))) rfl
          clear hM hr hK h2
          gi_wp2_with fail
          refine ⟨by simp, .inl ⟨_, _, rfl, run_takeDeferred HK.out, ?_⟩⟩
          refine ⟨.int .i64 (mostF A.o gd (rightL L)), by simp [results, Tryz.results24, go_sem], by rw [hres.out, hAo.out], ?_⟩
          exact (HM.out.2.putObj (l := D) (fun _ => by have := HS2.out; omega) _).mono (fun b hb e => by have := HS.out; omega)
      · have hres : Hid (R = 0) := Lib.hid (by rw [← HR.out]; unfold movF; rw [if_pos (HAK.out.trans hkk), if_neg (by simp [hm]), if_neg h4])
        have e6 : (kind == 4) = false := by simpa using h4
        clear hm hkk h4 HR HAK
        gi_wp2_with fail
        refine ⟨.int .i64 0, by simp [results, Tryz.results24, go_sem], by rw [hres.out], HF0.out⟩
  · have hb : (ak != kind) = true := by simpa using hkk
    have hres : Hid (R = 0) := Lib.hid (by rw [← HR.out]; unfold movF; rw [if_neg (by rw [HAK.out]; exact hkk)])
    clear hkk HR HAK
    gi_wp2_with fail
    refine ⟨.int .i64 0, by simp [results, Tryz.results24, go_sem], by rw [hres.out], HF0.out⟩
set_option maxRecDepth 100000 in
set_option maxHeartbeats 8000000 in
theorem r25Order (w : World) (a : AV) (hk : AOk w a) : Calls Tryz.prog 41 #[.agg a.cs] w fun e w' => e = .returned (.int .i64 (ordF a)) ∧ Fr (fun _ => False) w w' := by
  obtain ⟨n0, hn0⟩ : ∃ n0, w.heap.size = n0 := ⟨_, rfl⟩
  have hF0 : Fr (fun _ => False) w (w.alloc (.cells a.cs 50)) := (Fr.refl _ w).alloc _
  have hM := Lib.hid (r10May (w.alloc (.cells a.cs 50)) a (aokKeeps hk hF0 (fun _ h => h.elim)))
  obtain ⟨A, hA⟩ : ∃ A : AV, A = a := ⟨_, rfl⟩
  rw [← hA] at hM hF0 ⊢
  obtain ⟨c, n, k, o, r, t, m, g, l, its⟩ := a
  obtain ⟨la, lc, hl⟩ := hk.l.sl
  dsimp only at hl
  subst hl
  obtain ⟨M, hM0⟩ : ∃ M, its.length = M := ⟨_, rfl⟩
  have hcs : A.cs = #[.int .i64 c, .int .i64 n, .int .i64 k, .int .i64 o, .int .i64 r, .int .i64 t, .int .i64 m, vS g, .slice la M lc] := by rw [hA, ← hM0]; rfl
  rw [hcs] at hM hF0 ⊢
  have hbx : (w.alloc (.cells #[.int .i64 c, .int .i64 n, .int .i64 k, .int .i64 o, .int .i64 r, .int .i64 t, .int .i64 m, vS g, .slice la M lc] 50)).heap[n0]? = some (.cells #[.int .i64 c, .int .i64 n, .int .i64 k, .int .i64 o, .int .i64 r, .int .i64 t, .int .i64 m, vS g, .slice la M lc] 50) := heap_at hn0.symm _
  have HBX := Lib.hid hbx; have HF0 := Lib.hid hF0
  obtain ⟨B, hB⟩ : ∃ b, A.may = b := ⟨_, rfl⟩
  rw [hB] at hM
  have ho : Hid (ordF A = if k = 1 ∧ B = true then 64 * n + c else 0) := Lib.hid (by unfold ordF; rw [hB, hA])
  have hbd : B = true → (0 ≤ c ∧ c ≤ 63) ∧ 1 ≤ n ∧ n ≤ 4294967296 := fun e => by have := may_bounds (hB.trans e); rw [hA] at this; exact this
  obtain ⟨R, hR⟩ : ∃ R, ordF A = R := ⟨_, rfl⟩
  rw [hR] at ho ⊢
  clear hk hA hB hM0 hcs hbx hF0 hR
  by_cases h1 : k = 1
  · have q1 : (k != 1) = false := by simpa using h1
    cases B with
    | false =>
      have hres : Hid (R = 0) := Lib.hid (by rw [ho.out]; simp)
      clear h1 hbd
      go_enter Tryz.func41, Tryz.ntmps41
      go_wp2_with (go_at_call 47; refine hM.out.mono ?_; rintro e w1 ⟨rfl, hf1⟩; have HF1 := Lib.hid hf1; clear hf1)
      go_ret
      exact ⟨by rw [hres.out]; rfl, HF0.out.trans HF1.out⟩
    | true =>
      have hres : Hid (R = 64 * n + c) := Lib.hid (by rw [ho.out]; simp [h1])
      obtain ⟨⟨z1, z2⟩, z3, z4⟩ := hbd rfl
      clear h1 hbd
      go_enter Tryz.func41, Tryz.ntmps41
      go_wp2_with (go_at_call 47; refine hM.out.mono ?_; rintro e w1 ⟨rfl, hf1⟩; have HF1 := Lib.hid hf1; have q0 := cell_obj (hf1.at_ HBX.out (fun h => h)) 0 (.int .i64 c) rfl; have q2 := cell_obj (hf1.at_ HBX.out (fun h => h)) 1 (.int .i64 n) rfl; clear hf1)
      go_ret
      exact ⟨by rw [hres.out]; rfl, HF0.out.trans HF1.out⟩
  · have q1 : (k != 1) = true := by simpa using h1
    have hres : Hid (R = 0) := Lib.hid (by rw [ho.out]; simp [h1])
    clear h1 hbd
    go_enter Tryz.func41, Tryz.ntmps41
    go_wp2_with fail
    go_ret
    exact ⟨by rw [hres.out]; rfl, HF0.out⟩
end Go.Proofs.YtbeikkkmobbnkaaGreat
