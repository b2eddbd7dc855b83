/- bins' laws: looks. -/
import Derived.Test.YtlniekobijcanaaGreatBinsDoesM13
import Derived.Test.YtlniekobijcanaaGreatBinsDoesM14
import Derived.Test.YtlniekobijcanaaGreatBinsDoesM12
namespace Go.Proofs.YtlniekobijcanaaGreat
open Go.RowKit Go.Maps
attribute [local go_sem] Oper.semAt_some
theorem neq_bi (w : World) (a b c : Int) : (binOp .neq 36 (.agg #[.int .i64 a, .int .i64 b, .int .i64 c]) (.agg #[.int .i64 a, .int .i64 b, .int .i64 c])).run Tryz.prog w = .ok (.bool false) w := by
  simp [go_sem]
set_option maxRecDepth 100000 in
set_option maxHeartbeats 4000000 in
theorem bInNo (w : World) (g : Nat) (L : List BV) (n : Int) (h : Fl w g L) (hL : 0 < L.length) (hn : binF L n = none) : Calls Tryz.prog 33 #[.pointer (some ⟨g, 0, none⟩), .int .i64 n] w fun e w' => e = .returned (.slice none 0 0) ∧ Fr (fun _ => False) w w' := by
  have hfd := Lib.hid (bFind w g L n h hL)
  have hf : findF L n = -1 := by
    rcases idxOf_cases (fun b : BV => decide (b.nu = n)) L with ⟨h1, -, -⟩ | ⟨j, x, -, -, -, h3⟩
    · exact h1
    · have h3 : binF L n = some x := h3
      rw [hn] at h3; cases h3
  rw [hf] at hfd
  clear h hL hf hn
  go_enter Tryz.func33, Tryz.ntmps33
  go_wp2_with (go_at_call 39; refine hfd.out.mono ?_; rintro e w1 ⟨rfl, hf1⟩; have HF1 := Lib.hid hf1; clear hf1)
  go_ret
  exact ⟨rfl, HF1.out⟩
theorem binE_dist {M : List BE} (hr : M.Pairwise (fun a b => a.nu < b.nu)) {k : Nat} {x : BE} (hx : M[k]? = some x) : binE M x.nu = some x := by
  rcases findE_cases M x.nu with ⟨h1, h2⟩ | ⟨j, y, hy, e, h3, h4⟩
  · have := List.find?_eq_none.1 h2 x (List.mem_of_getElem? hx)
    simp at this
  · have hjk : j = k := by
      have a1 := List.getElem?_eq_some_iff.1 hx
      have a2 := List.getElem?_eq_some_iff.1 hy
      rcases Nat.lt_trichotomy j k with h | h | h
      · have := List.pairwise_iff_getElem.1 hr j k a2.1 a1.1 h
        rw [a1.2, a2.2] at this; omega
      · exact h
      · have := List.pairwise_iff_getElem.1 hr k j a1.1 a2.1 h
        rw [a1.2, a2.2] at this; omega
    subst hjk
    rw [hx] at hy
    injection hy with hy
    rw [h4, hy]
structure LqI (w0 W : World) (n0 g gx : Nat) : Prop where
  bx : W.heap[n0]? = some (.cells #[.pointer (some ⟨gx, 0, none⟩)] 26)
  res : W.heap[n0 + 1]? = some (.cells #[.bool false] 4)
  bt : W.heap[n0 + 2]? = some (.cells #[.pointer (some ⟨g, 0, none⟩)] 25)
  fr : Fr (fun b => n0 ≤ b) w0 W
theorem LqI.keep {w0 W W' : World} {n0 g gx : Nat} {S : Nat → Prop} (h : LqI w0 W n0 g gx) (hf : Fr S W W') (hS : ∀ b, S b → n0 + 3 ≤ b) : LqI w0 W' n0 g gx :=
  ⟨hf.at_ h.bx (fun e => by have := hS _ e; omega), hf.at_ h.res (fun e => by have := hS _ e; omega), hf.at_ h.bt (fun e => by have := hS _ e; omega), h.fr.trans' hf (fun b _ e => by have := hS _ e; omega)⟩
def LqJ (w0 : World) (n0 g gx nb : Nat) (k : Nat) (_ : Nat → Prop) (W : World) : Prop := LqI w0 W n0 g gx ∧ W.heap[nb]? = some (.cells #[.int .i64 (k : Int)] 3)
def LqX (_ : Code) (_ : Nat) (_ : Nat → Prop) (_ : World) : Prop := False
theorem Rl.fr {S : Nat → Prop} {W W' : World} {g : Nat} {L : List BV} (h : Rl W g L) (hf : Fr S W W') (hS : ∀ b, S b → W.heap.size ≤ b) : Rl W' g L := by
  obtain ⟨a, c, h1, h2⟩ := h
  exact ⟨a, c, hf.at_ h1 (fun e => by have := (Array.getElem?_eq_some_iff.1 h1).1; have := hS g e; omega), h2.fr bokKeeps hf hS⟩
set_option maxRecDepth 100000 in
set_option maxHeartbeats 16000000 in
theorem lLooks (w : World) (g gx : Nat) (TS : Nat → Prop) (L X : List BV) (M : List BE) (h : FA w g TS L) (hx : Rl w gx X) (hLM : L.map BV.e = M) (hXM : X.map BV.e = M) (hM0 : 0 < M.length) (hM64 : M.length ≤ 64) (hok : ∀ b ∈ M, BEok b) (hri : M.Pairwise (fun a b => a.nu < b.nu)) :
    Calls Tryz.prog 24 #[.pointer (some ⟨g, 0, none⟩), .pointer (some ⟨gx, 0, none⟩)] w fun e w' => e = .returned (.bool true) ∧ Fr (fun _ => False) w w' := by
  obtain ⟨n0, hn0⟩ : ∃ n0, w.heap.size = n0 := ⟨_, rfl⟩
  have HS := Lib.hid hn0
  have hlL : L.length = M.length := by rw [← hLM, List.length_map]
  have hlX : X.length = M.length := by rw [← hXM, List.length_map]
  have HTA : Hid (∀ w', Fr (fun b => n0 ≤ b) w w' → FA w' g TS L) := Lib.hid (fun w' hf => h.fr hf (fun b hb e => by have := h.lt b hb; omega))
  have HTL : Hid (∀ b, TS b → b < n0) := Lib.hid (fun b hb => by have := h.lt b hb; omega)
  have HTX : Hid (∀ w', Fr (fun b => n0 ≤ b) w w' → Rl w' gx X) := Lib.hid (fun w' hf => hx.fr hf (fun b e => by rw [hn0]; exact e))
  have HGX : Hid (gx < n0) := Lib.hid (by obtain ⟨_, _, h1, _⟩ := hx; have := (Array.getElem?_eq_some_iff.1 h1).1; omega)
  have HOK := Lib.hid hok; have HRI := Lib.hid hri; have HLM := Lib.hid hLM; have HXM := Lib.hid hXM
  have HM0 : Hid (0 < L.length) := Lib.hid (by omega)
  have HLX := Lib.hid (hlL.trans hlX.symm)
  have HM64 := Lib.hid (show L.length ≤ 64 by omega)
  have hnil := fun (w : World) (f : Fn) (x y : Array Value) => run_eql_func_nil (P := Tryz.prog) w 60 _ _ _ f x y Tryz.underlying60
  clear h hx hok hri hLM hXM hM0 hM64 hlL hlX
  refine (callsIn_wide (n := 0)).1 ?_
  refine callsIn_of_wp_marks Tryz.func24 rfl trivial ?_ rfl
  simp only [Tryz.ntmps24, List.size_toArray, List.length_cons, List.length_nil, Nat.reduceAdd, Nat.reduceSub, Array.replicate_succ, Array.replicate_zero, List.push_toArray, List.append_toArray, List.nil_append, List.cons_append]
  refine wpIn_wide.2 ?_
  go_wp2_with (go_at_call 30; refine (bBins _ _).mono ?_; rintro e w1 ⟨rfl, rfl⟩)
  obtain ⟨W1, hW1⟩ : ∃ W1, ((((w.alloc (.cells #[.pointer (some ⟨gx, 0, none⟩)] 26)).alloc (.cells #[.bool false] 4)).alloc (.cells #[.pointer (some ⟨g, 0, none⟩)] 25)).alloc (.cells #[.int .i64 0] 3)) = W1 := ⟨_, rfl⟩
  have hI1 : LqI w W1 n0 g gx := by
    rw [← hW1]
    exact ⟨heap_keep (heap_keep (heap_keep (heap_at hn0.symm _) _) _) _, heap_keep (heap_keep (heap_at (by simp; omega) _) _) _, heap_keep (heap_at (by simp; omega) _) _, ((((Fr.refl _ w).alloc _).alloc _).alloc _).alloc _⟩
  have hN1 : W1.heap[n0 + 3]? = some (.cells #[.int .i64 0] 3) := by rw [← hW1]; exact heap_at (by simp; omega) _
  have hsz1 : W1.heap.size = n0 + 4 := by rw [← hW1]; simp; omega
  rw [hW1]
  have HSZ := Lib.hid hsz1
  have hGA := Lib.hid (bBins2 (fun b => b = n0 + 3) W1 (n0 + 2) g TS L hI1.bt (HTA.out W1 hI1.fr) HM0.out (fun b hb e => by have := HTL.out b hb; omega))
  have HI1 := Lib.hid hI1; have HN1 := Lib.hid hN1
  clear hnil hI1 hN1 hsz1 hW1
  refine (wpIn_wide (n := 0)).1 ?_
  refine rangeX (w0 := W1) (X := L) (S := fun b => b = n0 + 3) rfl (enters_of Tryz.func83 (by kernel_rfl) rfl) hGA.out (Below.refl _ _) (fun b hb => by have := HSZ.out; omega) (fun _ => rfl)
    (LqJ w n0 g gx (n0 + 3)) LqX
    (fun k C W W' hs hf => ⟨hs.1.keep hf (fun b e => by have := e.1; have := HSZ.out; omega), Fa.cells hf hs.2⟩) (fun c k C W W' hs hf => hs) ⟨HI1.out, HN1.out⟩ ?round ?done ?stop
  have hfn : ∀ f, Fence.wide.fn f := fun _ => trivial
  have hdp : Fence.wide.depth.isSome = false := rfl
  case round =>
    rintro lp k x C W hx hlp hi hr
    dsimp only [encB]
    gi_wp2
    refine Took.mk ((Fr.refl _ _).alloc _) ⟨hi.1.keep ((Fr.refl (fun _ => False) _).alloc _) (fun _ e => e.elim), heap_keep hi.2 _⟩ ?_
    rintro Wb ⟨hbI, hbn⟩ hrb hf hsz hsw hCC _
    have hx2 := Fa.cells hf (heap_new W (.cells #[.int .i64 x.nu, .int .i64 x.zo, .int .i64 x.ro] 36))
    have hkl : k < L.length := (List.getElem?_eq_some_iff.1 hx).1
    obtain ⟨y, hy⟩ : ∃ y, X[k]? = some y := ⟨X[k]'(by rw [← HLX.out]; exact hkl), List.getElem?_eq_getElem _⟩
    have hxy : y.e = x.e := by
      have e1 : M[k]? = some x.e := by rw [← HLM.out, List.getElem?_map, hx]; rfl
      have e2 : M[k]? = some y.e := by rw [← HXM.out, List.getElem?_map, hy]; rfl
      rw [e1] at e2; injection e2 with e2; exact e2.symm
    have h1 : y.nu = x.nu := congrArg BE.nu hxy
    have h2 : y.zo = x.zo := congrArg BE.zo hxy
    have h3 : y.ro = x.ro := congrArg BE.ro hxy
    obtain ⟨sa, sc, sc0, srow⟩ := HTX.out Wb hbI.fr
    obtain ⟨ln, hln⟩ : ∃ ln, X.length = ln := ⟨_, rfl⟩
    have hkl : k < ln := by have := HLX.out; omega
    have hl64 : ln ≤ 64 := by have := HLX.out; have := HM64.out; omega
    rw [hln] at sc0 srow
    obtain ⟨gp, rfl, -, z0, zs⟩ := srow.at_ hy
    have y0 := z0 (.int .i64 y.nu) rfl
    have y1 := zs 0 (.int .i64 y.zo) rfl
    have y2 := zs 1 (.int .i64 y.ro) rfl
    dsimp only [Nat.zero_add, Nat.reduceAdd] at y0 y1 y2
    rw [h1] at y0; rw [h2] at y1; rw [h3] at y2
    have hkI : (k : Int) < ln := by omega
    have s0 := cell_obj sc0 0 (.slice (some gp) ln sc) rfl
    have e0 := cell_obj hbI.bx 0 (.pointer (some ⟨gx, 0, none⟩)) rfl
    have e1 := cell_obj hbn 0 (.int .i64 k) rfl
    have hg1 : decide (ln ≤ k) = false := by simp; omega
    have hg2 : decide ((ln : Int) ≤ (k : Int)) = false := by simp; omega
    have q3 := fun W => neq_bi W x.nu x.zo x.ro
    obtain ⟨nb, hnb⟩ : ∃ nb, W.heap.size = nb := ⟨_, rfl⟩
    rw [hnb] at hx2
    have hf2 : Fr (fun _ => False) Wb Wb := Fr.refl _ _
    have b0 := cell_obj hx2 0 (.int .i64 x.nu) rfl; have b1 := cell_obj hx2 1 (.int .i64 x.zo) rfl; have b2 := cell_obj hx2 2 (.int .i64 x.ro) rfl
    have s0 := FrW.cell (hf2.cell s0 (fun e => e)); have y0 := FrW.cell (hf2.cell y0 (fun e => e)); have y1 := FrW.cell (hf2.cell y1 (fun e => e)); have y2 := FrW.cell (hf2.cell y2 (fun e => e))
    have e0 := FrW.cell (hf2.cell e0 (fun e => e)); have e1 := FrW.cell (hf2.cell e1 (fun e => e))
    have b0 := FrW.cell b0; have b1 := FrW.cell b1; have b2 := FrW.cell b2
    have HB := Lib.hid (hbI.keep hf2 (fun _ e => e.elim)); have HBN := Lib.hid (hf2.at_ hbn (fun e => e))
    have HF2 := Lib.hid hf2
    clear hi hr hf z0 zs srow hx hbI hbn hrb hy hln hx2 hf2 sc0 hxy h1 h2 h3
    gi_wp2
    refine wpIn_region_fr_round (by kernel_rfl) (by kernel_rfl) (by kernel_rfl) ?_
    repeat (gi_big_quiet_step (fail))
    refine wpQuietIn_nil ?_
    rintro _ ⟨⟨W3, hF3⟩, rfl⟩
    have HB3 := Lib.hid (HB.out.keep hF3 (fun _ e => e.elim)); have HBN3 := Lib.hid (hF3.at_ HBN.out (fun e => e))
    have HF3 := Lib.hid (HF2.out.trans hF3)
    clear e0 e1 s0 y0 y1 y2 b0 b1 b2 q3 hF3 hg1 hg2
    have e1 := cell_obj HBN3.out 0 (.int .i64 k) rfl
    have f1 := obj_frozen HBN3.out 0
    gi_wp2
    refine ⟨(HF3.out.mono (fun _ _ e => e.elim)).trans ((Fr.refl _ _).setCell (p := ⟨n0 + 3, 0, none⟩) (fun _ => .inl rfl) _), HB3.out.keep ((Fr.refl (fun b => b = n0 + 3) _).setCell (p := ⟨n0 + 3, 0, none⟩) (fun _ => rfl) _) (fun b e => by omega), ?_⟩
    have := obj_set HBN3.out 0 (.int .i64 ((k : Int) + 1))
    simpa using this
  case stop => intro D c k C W hD hk hX; exact hX.elim
  case done =>
    rintro D C W hD ⟨hbI, hbn⟩ hr hK
    obtain ⟨ln, hln⟩ : ∃ ln, X.length = ln := ⟨_, rfl⟩
    have hlen : L.length = ln := by have := HLX.out; omega
    rw [hlen] at hbn
    have hl64 : ln ≤ 64 := by have := HM64.out; omega
    have HLN := Lib.hid hln; have HLL := Lib.hid hlen
    have HI := Lib.hid hbI; have HN := Lib.hid hbn; have HK := Lib.hid hK; have HD := Lib.hid hD
    have HD0 : Hid (n0 + 4 ≤ D) := Lib.hid (by have := HSZ.out; omega)
    have HDL : Hid (D < W.heap.size) := Lib.hid (Array.getElem?_eq_some_iff.1 hK).1
    clear hbI hbn hr hK hlen hln hD HI1 HN1 hGA
    go_wp2_with fail
    go_loopw [8] (fun i wr => ∃ k : Nat, k ≤ ln ∧ i = .int .i64 k ∧ Fr (fun _ => False) W wr) (fun i _ => ln - (intOf i).toNat)
    case atStart => exact ⟨0, Nat.zero_le _, rfl, Fr.refl _ _⟩
    case round =>
      obtain ⟨k, hk, rfl, hF⟩ := hrel
      have HF := Lib.hid hF
      have hI := HI.out.keep hF (fun _ e => e.elim)
      obtain ⟨sa, sc, sc0, srow⟩ := HTX.out wr hI.fr
      have e0 := cell_obj hI.bx 0 (.pointer (some ⟨gx, 0, none⟩)) rfl
      rw [HLN.out] at sc0 srow
      have s0 := cell_obj sc0 0 (.slice sa ln sc) rfl
      by_cases hlt : k < ln
      · obtain ⟨y, hy⟩ : ∃ y, X[k]? = some y := ⟨X[k]'(by rw [HLN.out]; exact hlt), List.getElem?_eq_getElem _⟩
        have hMk : M[k]? = some y.e := by rw [← HXM.out, List.getElem?_map, hy]; rfl
        have hbe := binE_dist HRI.out hMk
        obtain ⟨gp, rfl, hoky, z0, zs⟩ := srow.at_ hy
        obtain ⟨la, lc, hl⟩ := hoky.l.sl
        have y0 := z0 (.int .i64 y.nu) rfl
        have y3 := zs 2 y.l rfl
        dsimp only [Nat.zero_add, Nat.reduceAdd] at y0 y3
        rw [hl] at y3
        obtain ⟨il, hil⟩ : ∃ il, y.its.length = il := ⟨_, rfl⟩
        rw [hil] at y3
        have hIn : Hid (∀ W', Fr (fun _ => False) wr W' → Calls Tryz.prog 33 #[.pointer (some ⟨g, 0, none⟩), .int .i64 y.nu] W' fun e w' => ∃ v, e = .returned v ∧ Il w' v y.its ∧ Fr (fun _ => False) W' w') := Lib.hid (fun W' hf => by
          have hFA := HTA.out W' (hI.fr.trans' hf (fun _ _ e => e.elim))
          have := bInN W' g L y.nu hFA.fl HM0.out (fun b hb => (HOK.out b.e (by rw [← HLM.out]; exact List.mem_map_of_mem hb)).items.1)
          rw [inNE_e, HLM.out] at this
          have e : inNE M y.nu = y.its := by unfold inNE; rw [show y.nu = y.e.nu from rfl, hbe]; rfl
          rw [e] at this
          exact this)
        have hLf : Hid (∀ W', Fr (fun _ => False) wr W' → Calls Tryz.prog 34 #[.pointer (some ⟨g, 0, none⟩), .int .i64 y.nu] W' fun e w' => e = .returned (.int .i64 (leftE y.e)) ∧ Fr (fun _ => False) W' w') := Lib.hid (fun W' hf => by
          have hFA := HTA.out W' (hI.fr.trans' hf (fun _ _ e => e.elim))
          have := bLeftN W' g L y.nu hFA.fl HM0.out
          rw [leftNE_e, HLM.out] at this
          have e : leftNE M y.nu = leftE y.e := by unfold leftNE; rw [show y.nu = y.e.nu from rfl, hbe]
          rw [e] at this
          exact this)
        have hLx : Hid (∀ W', Fr (fun _ => False) wr W' → Calls Tryz.prog 70 #[.pointer (some ⟨gx, 0, none⟩), .int .i64 y.nu] W' fun e w' => e = .returned (.int .i64 (leftE y.e)) ∧ Fr (fun _ => False) W' w') := Lib.hid (fun W' hf => by
          have hRX := HTX.out W' (hI.fr.trans' hf (fun _ _ e => e.elim))
          have := rLeft W' gx X y.nu hRX
          rw [HXM.out] at this
          have e : leftNE M y.nu = leftE y.e := by unfold leftNE; rw [show y.nu = y.e.nu from rfl, hbe]
          rw [e] at this
          exact this)
        have hSm : Hid (∀ W' v, Fr (fun _ => False) wr W' → Il W' v y.its → Calls Tryz.prog 69 #[v, .slice la il lc] W' fun e w' => e = .returned (.bool true) ∧ Fr (fun _ => False) W' w') := Lib.hid (fun W' v hf hv => by
          have h2 := hoky.l.keep hf (fun _ _ _ e => e)
          rw [hl, hil] at h2
          refine (r6Same W' v _ y.its y.its hv h2).mono ?_
          rintro e w' ⟨rfl, n, rfl⟩
          refine ⟨by simp, ?_⟩
          induction n with
          | zero => exact Fr.refl _ _
          | succ m ih => exact ih.drew)
        have hLV : 0 ≤ leftE y.e := (HOK.out y.e (List.mem_of_getElem? hMk)).left.2.1
        obtain ⟨LV, hLVe⟩ : ∃ LV, leftE y.e = LV := ⟨_, rfl⟩
        rw [hLVe] at hLf hLx hLV
        have hLVn : ¬ LV < 0 := by omega
        have hkI : (k : Int) < ln := by omega
        have hCells : Hid (∀ W', Fr (fun _ => False) wr W' → W'.cell? ⟨n0, 0, none⟩ = some (.pointer (some ⟨gx, 0, none⟩)) ∧ W'.cell? ⟨gx, 0, none⟩ = some (.slice (some gp) ln sc) ∧ W'.cell? ⟨(gp.add (k * 4)).block, (gp.add (k * 4)).off + 3, none⟩ = some (.slice la il lc)) := Lib.hid (fun W' hf => ⟨hf.cell e0 (fun e => e), hf.cell s0 (fun e => e), hf.cell y3 (fun e => e)⟩)
        have HW : Hid (Fr (fun _ => False) wr wr) := Lib.hid (Fr.refl _ _)
        clear z0 zs hy hMk hbe hoky hl hil srow hF hI hk hLVe sc0
        go_wp2_with fail
        go_region_held3 (fun w' => w'.cell? ⟨n0, 0, none⟩ = some (.pointer (some ⟨gx, 0, none⟩)) ∧ w'.cell? ⟨gx, 0, none⟩ = some (.slice (some gp) ln sc) ∧ w'.cell? ⟨(gp.add (k * 4)).block, (gp.add (k * 4)).off + 3, none⟩ = some (.slice la il lc)) (first | exact hCells.out _ HW.out | exact hCells.out _ (Fr.drew HW.out))
          (first
            | (go_at_call 33; (first | (refine (hIn.out _ HW.out).mono ?_; rintro e w2 ⟨v2, rfl, hv2, hF⟩; have HW := Lib.hid (HW.out.trans hF)) | (refine (hIn.out _ (Fr.drew HW.out)).mono ?_; rintro e w2 ⟨v2, rfl, hv2, hF⟩; have HW := Lib.hid ((Fr.drew HW.out).trans hF))); obtain ⟨va2, vc2, hve⟩ := hv2.sl; subst hve; have HV2 := Lib.hid hv2; clear hv2 hF)
            | (go_at_call 69; refine (hSm.out _ _ HW.out HV2.out).mono ?_; rintro e w3 ⟨rfl, hF⟩; have HW := Lib.hid (HW.out.trans hF); clear hF)
            | (go_at_call 34; refine (hLf.out _ HW.out).mono ?_; rintro e w4 ⟨rfl, hF⟩; have HW := Lib.hid (HW.out.trans hF); clear hF)
            | (go_at_call 70; refine (hLx.out _ HW.out).mono ?_; rintro e w5 ⟨rfl, hF⟩; have HW := Lib.hid (HW.out.trans hF); clear hF))
        all_goals
          go_wp2_with fail
          go_roundw
          case rel => exact ⟨k + 1, by omega, by go_num, HF.out.trans HW.out⟩
          case measure => simp [intOf]; omega
      · obtain rfl : k = ln := by omega
        have e1 := cell_obj (hF.at_ HN.out (fun h => h)) 0 (.int .i64 (k : Int)) rfl
        have r0 := cell_obj hI.res 0 (.bool false) rfl
        have f0 := obj_frozen hI.res 0
        have hdm : (((k : Int)) == (k : Int)) = true := by simp
        have hKr := hF.at_ HK.out (fun h => h)
        have hno : ∀ n, n < 1 → binE M n = none := fun n hn => List.find?_eq_none.2 (fun b hb => by have := (HOK.out b hb).nu; simp; omega)
        have hLf : Hid (∀ W', Fr (fun _ => False) wr W' → Calls Tryz.prog 34 #[.pointer (some ⟨g, 0, none⟩), .int .i64 (-1)] W' fun e w' => e = .returned (.int .i64 0) ∧ Fr (fun _ => False) W' w') := Lib.hid (fun W' hf => by
          have hFA := HTA.out W' (hI.fr.trans' hf (fun _ _ e => e.elim))
          have := bLeftN W' g L (-1) hFA.fl HM0.out
          rw [leftNE_e, HLM.out] at this
          have e : leftNE M (-1) = 0 := by unfold leftNE; rw [hno (-1) (by omega)]
          rw [e] at this
          exact this)
        have hIn : Hid (∀ W', Fr (fun _ => False) wr W' → Calls Tryz.prog 33 #[.pointer (some ⟨g, 0, none⟩), .int .i64 (-1)] W' fun e w' => e = .returned (.slice none 0 0) ∧ Fr (fun _ => False) W' w') := Lib.hid (fun W' hf => by
          have hFA := HTA.out W' (hI.fr.trans' hf (fun _ _ e => e.elim))
          have e := hno (-1) (by omega)
          rw [← HLM.out, binE_e] at e
          exact bInNo W' g L (-1) hFA.fl HM0.out (by cases h : binF L (-1) with | none => rfl | some b => rw [h] at e; cases e))
        have hCells : Hid (∀ W', Fr (fun _ => False) wr W' → W'.cell? ⟨n0, 0, none⟩ = some (.pointer (some ⟨gx, 0, none⟩)) ∧ W'.cell? ⟨gx, 0, none⟩ = some (.slice sa k sc) ∧ W'.cell? ⟨n0 + 3, 0, none⟩ = some (.int .i64 (k : Int))) := Lib.hid (fun W' hf => ⟨hf.cell e0 (fun e => e), hf.cell s0 (fun e => e), hf.cell e1 (fun e => e)⟩)
        have hCellsZ : Hid (∀ W', Fr (fun _ => False) wr W' → (W'.setCell ⟨n0 + 1, 0, none⟩ (.bool true)).cell? ⟨n0, 0, none⟩ = some (.pointer (some ⟨gx, 0, none⟩)) ∧ (W'.setCell ⟨n0 + 1, 0, none⟩ (.bool true)).cell? ⟨gx, 0, none⟩ = some (.slice sa k sc) ∧ (W'.setCell ⟨n0 + 1, 0, none⟩ (.bool true)).cell? ⟨n0 + 3, 0, none⟩ = some (.int .i64 (k : Int))) := Lib.hid (fun W' hf => by
          have hgx : gx < n0 := by have := HGX.out; omega
          have hfs : Fr (fun b => b = n0 + 1) W' (W'.setCell ⟨n0 + 1, 0, none⟩ (.bool true)) := (Fr.refl (fun b => b = n0 + 1) W').setCell (p := ⟨n0 + 1, 0, none⟩) (fun _ => rfl) _
          exact ⟨hfs.cell (hf.cell e0 (fun e => e)) (by show ¬ (n0 = n0 + 1); omega), hfs.cell (hf.cell s0 (fun e => e)) (by show ¬ (gx = n0 + 1); omega), hfs.cell (hf.cell e1 (fun e => e)) (by show ¬ (n0 + 3 = n0 + 1); omega)⟩)
        have HRES : Hid (∀ W', Fr (fun _ => False) wr W' → W'.cell? ⟨n0 + 1, 0, none⟩ = some (.bool false) ∧ W'.frozen? ⟨n0 + 1, 0, none⟩ = false) := Lib.hid (fun W' hf => by have := hf.at_ hI.res (fun e => e); exact ⟨cell_obj this 0 (.bool false) rfl, obj_frozen this 0⟩)
        have HW : Hid (Fr (fun _ => False) wr wr) := Lib.hid (Fr.refl _ _)
        have HI2 := Lib.hid hI; have HKr := Lib.hid hKr
        clear hF hI srow hKr sc0
        go_wp2_with fail
        go_region_held3 (fun w' => w'.cell? ⟨n0, 0, none⟩ = some (.pointer (some ⟨gx, 0, none⟩)) ∧ w'.cell? ⟨gx, 0, none⟩ = some (.slice sa k sc) ∧ w'.cell? ⟨n0 + 3, 0, none⟩ = some (.int .i64 (k : Int))) (first | exact hCells.out _ HW.out | exact hCells.out _ (Fr.drew HW.out) | exact hCellsZ.out _ HW.out)
          (first
            | (go_at_call 34; (first | (refine (hLf.out _ HW.out).mono ?_; rintro e w4 ⟨rfl, hF⟩; have HW := Lib.hid (HW.out.trans hF)) | (refine (hLf.out _ (Fr.drew HW.out)).mono ?_; rintro e w4 ⟨rfl, hF⟩; have HW := Lib.hid ((Fr.drew HW.out).trans hF))); have r0 := (HRES.out _ HW.out).1; have f0 := (HRES.out _ HW.out).2; clear hF)
            | (go_at_call 33; (first | (refine (hIn.out _ HW.out).mono ?_; rintro e w5 ⟨rfl, hF⟩; have HW := Lib.hid (HW.out.trans hF)) | (refine (hIn.out _ (Fr.drew HW.out)).mono ?_; rintro e w5 ⟨rfl, hF⟩; have HW := Lib.hid ((Fr.drew HW.out).trans hF))); have r0 := (HRES.out _ HW.out).1; have f0 := (HRES.out _ HW.out).2; clear hF))
        all_goals
          have hI5 := HI2.out.keep HW.out (fun _ e => e.elim)
          have hK5 := HW.out.at_ HKr.out (fun e => e)
          have hfs : Fr (fun b => b = n0 + 1) w5 (w5.setCell ⟨n0 + 1, 0, none⟩ (.bool true)) := (Fr.refl (fun b => b = n0 + 1) w5).setCell (p := ⟨n0 + 1, 0, none⟩) (fun _ => rfl) _
          have hR6 := obj_set hI5.res 0 (.bool true)
          have hK6 := hfs.at_ hK5 (by have := HD0.out; omega)
          have hF6 := hI5.fr.trans' hfs (fun b hb e => by have e : b = n0 + 1 := e; show n0 ≤ b; omega)
          have hc6 := cell_obj (Fa.cells (frPut (B := n0) (.deferred none) (by have := HD0.out; omega) hK6 rfl) hR6) 0 (.bool true) rfl
          have HF6 := Lib.hid hF6; have HK6 := Lib.hid hK6; have HC6 := Lib.hid hc6
          clear hR6 hK5 hF6 hc6 r0 f0 e0 e1 s0 hI5 hfs hK6
          go_wp2_with fail
          refine ⟨by simp, .inl ⟨_, _, rfl, run_takeDeferred HK6.out, ?_⟩⟩
          refine ⟨.bool true, by simp [results, Tryz.results24, go_sem, HC6.out], rfl, ?_⟩
          exact (HF6.out.putObj (l := D) (fun _ => by have := HD0.out; omega) _).mono (fun b hb e => by have := HS.out; omega)
end Go.Proofs.YtlniekobijcanaaGreat

