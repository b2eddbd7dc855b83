/- entrepotref07: set. -/
import Derived.Test.YtclgmnobockfnaaStkDoesM21
namespace Go.Proofs.Ytclgmnobockfnaa
open Go.RowKit Go.Maps
/-- A good's row set among rows that rise: what is still to come, and whether it is set. -/
def setR (s : Str) (r : SR) : Bool → Stk → Stk
  | d, [] => if d = true then [] else [(s, r)]
  | d, p :: t => (if d = false ∧ ¬ p.1 < s then [(s, r)] else []) ++ ((if p.1 = s then [] else [p]) ++ setR s r (d || !decide (p.1 < s)) t)
theorem setR_true (s : Str) (r : SR) : ∀ L : Stk, setR s r true L = delS L s
  | [] => rfl
  | p :: t => by
    have ih := setR_true s r t
    unfold setR delS
    rw [List.filter_cons]
    have e : (true || !decide (p.1 < s)) = true := rfl
    rw [e, ih]
    by_cases h : p.1 = s
    · simp [h, delS]
    · simp [h, delS]
theorem ins_front {s : Str} {r : SR} : ∀ {L : Stk}, (∀ p ∈ L, s < p.1) → insS ktS.lt (s, r) L = (s, r) :: L
  | [], _ => rfl
  | p :: t, h => by
    show (if ktS.lt s p.1 = true then (s, r) :: p :: t else p :: insS ktS.lt (s, r) t) = _
    rw [ktS_lt, if_pos (by simpa using h p (by simp))]
theorem setR_put {s : Str} {r : SR} : ∀ {L : Stk}, RiseS L → setR s r false L = putS ktS.lt L s r
  | [], _ => rfl
  | p :: t, h => by
    obtain ⟨h1, h2⟩ := List.pairwise_cons.1 h
    have ih := setR_put (s := s) (r := r) h2
    unfold putS at ih ⊢
    rcases str_tri s p.1 with hlt | he | hlt
    · have hn : ¬ p.1 < s := str_asym hlt
      have hne : ¬ p.1 = s := fun e => by rw [e] at hlt; exact str_irr _ hlt
      have e1 : delS (p :: t) s = p :: delS t s := by unfold delS; rw [List.filter_cons]; simp [hne]
      have e2 : setR s r false (p :: t) = [(s, r)] ++ ([p] ++ setR s r true t) := by
        show (if false = false ∧ ¬ p.1 < s then [(s, r)] else []) ++ ((if p.1 = s then [] else [p]) ++ setR s r (false || !decide (p.1 < s)) t) = _
        rw [if_pos ⟨rfl, hn⟩, if_neg hne, decide_eq_false hn]; rfl
      rw [e1, e2, setR_true]
      show _ = (if ktS.lt s p.1 = true then (s, r) :: p :: delS t s else p :: insS ktS.lt (s, r) (delS t s))
      rw [ktS_lt, if_pos (by simpa using hlt)]; rfl
    · have hn : ¬ p.1 < s := by rw [← he]; exact str_irr _
      have e1 : delS (p :: t) s = delS t s := by unfold delS; rw [List.filter_cons]; simp [he]
      have e2 : setR s r false (p :: t) = [(s, r)] ++ ([] ++ setR s r true t) := by
        show (if false = false ∧ ¬ p.1 < s then [(s, r)] else []) ++ ((if p.1 = s then [] else [p]) ++ setR s r (false || !decide (p.1 < s)) t) = _
        rw [if_pos ⟨rfl, hn⟩, if_pos he.symm, decide_eq_false hn]; rfl
      rw [e1, e2, setR_true, ins_front (fun q hq => by rw [he]; exact h1 q (List.mem_filter.1 hq).1)]; rfl
    · have hns : ¬ s < p.1 := str_asym hlt
      have hne : ¬ p.1 = s := fun e => by rw [e] at hlt; exact str_irr _ hlt
      have e1 : delS (p :: t) s = p :: delS t s := by unfold delS; rw [List.filter_cons]; simp [hne]
      have e2 : setR s r false (p :: t) = [] ++ ([p] ++ setR s r false t) := by
        show (if false = false ∧ ¬ p.1 < s then [(s, r)] else []) ++ ((if p.1 = s then [] else [p]) ++ setR s r (false || !decide (p.1 < s)) t) = _
        rw [if_neg (fun h => h.2 hlt), if_neg hne, decide_eq_true hlt]; rfl
      rw [e1, e2, ih]
      show _ = (if ktS.lt s p.1 = true then (s, r) :: p :: delS t s else p :: insS ktS.lt (s, r) (delS t s))
      rw [ktS_lt, if_neg (by simpa using hns)]; rfl
theorem setR_at {A : Stk} {k : Nat} {p : Str × SR} (s : Str) (r : SR) (d : Bool) (hp : A[k]? = some p) :
    setR s r d (A.drop k) = (if d = false ∧ ¬ p.1 < s then [(s, r)] else []) ++ ((if p.1 = s then [] else [p]) ++ setR s r (d || !decide (p.1 < s)) (A.drop (k + 1))) := by
  have : A.drop k = p :: A.drop (k + 1) := by
    rw [List.drop_eq_getElem_cons (List.getElem?_eq_some_iff.1 hp).1]
    rw [(List.getElem?_eq_some_iff.1 hp).2]
  rw [this]; rfl
structure SetI (W0 : World) (n1 : Nat) (s : Str) (r : SR) (A Z : Stk) (k : Nat) (v : Value) (d : Bool) (out : Stk) (W : World) : Prop where
  own : W.ownsRow n1 96 12 v out.length (rcs out)
  fr : Fr (fun b => n1 ≤ b) W0 W
  eq : out ++ setR s r d (A.drop k) = Z
  len : out.length ≤ k + (if d = true then 1 else 0)
theorem SetI.keep {W0 W W' : World} {n1 k : Nat} {s : Str} {r : SR} {A Z out : Stk} {v : Value} {d : Bool} (h : SetI W0 n1 s r A Z k v d out W) (hf : Fr (fun _ => False) W W') : SetI W0 n1 s r A Z k v d out W' :=
  ⟨hf.row h.own (fun _ _ e => e), h.fr.trans (hf.mono (fun _ _ e => e.elim)), h.eq, h.len⟩
theorem SetI.push {W0 W W' : World} {n1 k : Nat} {s : Str} {r : SR} {A Z out : Stk} {v v' : Value} {d : Bool} {p : Str × SR} (h : SetI W0 n1 s r A Z k v d out W) {o : Obj} (hn : n1 ≤ W.heap.size)
    (hown : W'.ownsRow n1 96 12 v' (out.length + 1) (rcs out ++ rowC p)) (hgrow : (W.alloc o).grownBy W' v.ownBlock) :
    W'.ownsRow n1 96 12 v' (out ++ [p]).length (rcs (out ++ [p])) ∧ Fr (fun b => n1 ≤ b) W0 W' := by
  refine ⟨?_, (h.fr.alloc o).trans (Fr.grown hgrow (fun b hb _ => (h.own.lt b hb).1))⟩
  rw [rcs_app, List.length_append]
  have : rcs [p] = rowC p := by simp [rcs]
  rw [this]; exact hown
/-- The stock's rows are set anew. -/
theorem RS.setRows {w W0 W : World} {g n1 : Nat} {TS : Nat → Prop} {A Z : Stk} {v : Value} (h : RS w g TS A) (hw : Fr (fun _ => False) w W0) (hf : Fr (fun b => n1 ≤ b) W0 W) (hn : w.heap.size ≤ n1) (ho : W.ownsRow n1 96 12 v Z.length (rcs Z)) :
    RS (W.setCell ⟨g, 0, none⟩ v) g (fun b => TS b ∨ (n1 ≤ b ∧ b < W.heap.size)) Z ∧ Stp TS w (W.setCell ⟨g, 0, none⟩ v) (fun b => TS b ∨ (n1 ≤ b ∧ b < W.heap.size)) := by
  obtain ⟨⟨v0, h1, h2, h3⟩, h5, h6⟩ := h
  have hg := h6 g h5
  have h1' := hf.at_ (hw.at_ h1 (fun e => e)) (by omega)
  have hF : Fr (fun b => b = g) W (W.setCell ⟨g, 0, none⟩ v) := (Fr.refl (fun b => b = g) W).setCell (p := ⟨g, 0, none⟩) (fun _ => rfl) _
  have hws : w.heap.size ≤ W.heap.size := Nat.le_trans hw.size hf.size
  have hF1 : Fr TS w W := ((hw.mono (S' := TS) (fun _ _ e => e.elim)).trans' hf (fun b hb e => by omega))
  refine ⟨⟨⟨v, obj_set h1' 0 v, hF.row (own_base ho (Nat.zero_le _)) (fun b hb e => by have := (ho.lt b hb).1; omega), fun b hb => ⟨.inr (ho.lt b hb), by have := (ho.lt b hb).1; omega⟩⟩, .inl h5, fun b hb => ?_⟩, hF1.trans' hF (fun b _ e => e ▸ h5), fun b hb => ?_⟩
  · have := hF.size
    rcases hb with hb | hb
    · have := h6 b hb; omega
    · omega
  · rcases hb with hb | hb
    · exact .inl hb
    · exact .inr (by omega)
set_option maxRecDepth 100000 in
set_option maxHeartbeats 16000000 in
theorem r7Set (w : World) (g : Nat) (TS : Nat → Prop) (A : Stk) (s : Str) (r : SR) (h : RS w g TS A) (hA : RiseS A) (hl : (A.length : Int) ≤ 1048576) :
    Calls Try.prog 60 #[.pointer (some ⟨g, 0, none⟩), .agg (rowV s r)] w fun e w' => (∃ v, e = .returned v) ∧ ∃ TS', RS w' g TS' (putS ktS.lt A s r) ∧ Stp TS w w' TS' := by
  obtain ⟨n0, hn0⟩ : ∃ n0, w.heap.size = n0 := ⟨_, rfl⟩
  obtain ⟨W0, hW0⟩ : ∃ W0, w.alloc (.cells (rowV s r) 96) = W0 := ⟨_, rfl⟩
  have hF0 : Fr (fun _ => False) w W0 := by rw [← hW0]; exact (Fr.refl _ w).alloc _
  have hB0 : W0.heap[n0]? = some (.cells (rowV s r) 96) := by rw [← hW0, ← hn0]; exact heap_new _ _
  have hS0 : W0.heap.size = n0 + 1 := by rw [← hW0, ← hn0]; simp
  have hltg := h.lt
  have hR0 := h.fr hF0 (fun _ _ e => e)
  obtain ⟨n, hn⟩ : ∃ n, A.length = n := ⟨_, rfl⟩
  have hput := setR_put (s := s) (r := r) hA
  obtain ⟨Z, hZ⟩ : ∃ Z, putS ktS.lt A s r = Z := ⟨_, rfl⟩
  rw [hZ] at hput ⊢
  have HRW := Lib.hid h
  have HF0 := Lib.hid hF0; have HB0 := Lib.hid hB0; have HS0 := Lib.hid hS0; have HLT := Lib.hid hltg; have HR0 := Lib.hid hR0; have HN := Lib.hid hn; have HZ := Lib.hid hput; have HSZ := Lib.hid hn0
  have hln : (n : Int) ≤ 1048576 := by rw [← hn]; exact hl
  have hkeep : ∀ {W}, Fr (fun b => n0 + 1 ≤ b) W0 W → RS W g TS A ∧ ∀ (j : Nat) (u : Value), (rowV s r)[j]? = some u → W.cell? ⟨n0, j, none⟩ = some u := fun {W} hf =>
    ⟨HR0.out.fr hf (fun b hb e => by have := HLT.out b hb; omega), fun j u hu => cell_obj (hf.at_ HB0.out (by omega)) j u hu⟩
  have HK := Lib.hid (fun W => @hkeep W)
  clear h hA hl hF0 hB0 hS0 hltg hR0 hn hZ hput hkeep
  unfold rowV at hW0 ⊢
  go_enter Try.func60, Try.ntmps60
  go_wp2_with fail
  clear hW0 hn0
  go_loopw [6, 4, 5] (fun i v d wr => ∃ (k : Nat) (b : Bool) (out : Stk), k ≤ n ∧ i = .int .i64 k ∧ d = .bool b ∧ SetI W0 (n0 + 1) s r A Z k v b out wr) (fun i _ _ _ => n - (intOf i).toNat)
  case atStart => exact ⟨0, false, [], by omega, rfl, rfl, ⟨⟨by simp [rcs], .inl ⟨rfl, rfl⟩⟩, Fr.refl _ _, by rw [List.nil_append, List.drop_zero]; exact HZ.out, by simp⟩⟩
  case round =>

    obtain ⟨k, d, out, hk, rfl, rfl, hI⟩ := hrel
    have HI := Lib.hid hI
    clear hI
    obtain ⟨i0, hi', hz0, hz1, hz2⟩ := info_parts infoRow7
    have hsz : Hid (n0 + 1 ≤ wr.heap.size) := Lib.hid (by have := HI.out.fr.size; have := HS0.out; omega)
    have hol : Hid (out.length ≤ k + 1) := Lib.hid (by have := HI.out.len; split at this <;> omega)
    have HOL1 : Hid (out.length + 1 ≤ 1048578) := Lib.hid (by have := hol.out; omega)
    have hsc := (HK.out wr HI.out.fr).1.cell
    obtain ⟨sa, sc, sc0, srow, -⟩ := hsc
    rw [HN.out] at sc0 srow
    by_cases hlt : k < n
    · obtain ⟨p, hp⟩ : ∃ p, A[k]? = some p := ⟨A[k]'(by rw [HN.out]; exact hlt), List.getElem?_eq_getElem _⟩
      have HP := Lib.hid hp
      have hst := setR_at s r d hp
      have HST := Lib.hid hst
      obtain ⟨gp, rfl, hrc⟩ := row12 srow HN.out.symm hp
      obtain ⟨gd, q⟩ := p
      have y0 := hrc 0 (vS gd) rfl
      rw [Nat.add_zero] at y0
      have x0 := (HK.out wr HI.out.fr).2 0 (vS s) rfl
      have hltI : (k : Int) < n := by omega
      clear hrc srow hp hst
      rcases str_tri gd s with hgs | hgs | hgs
      · have hne : ¬ gd = s := fun e => str_irr s (e ▸ hgs)
        have q1 : Op.bytesLess gd s = true := by rw [bytesLess_eq]; simpa using hgs
        have q2 : (gd == s) = false := by simpa using hne
        have q3 : ∀ W, (binOp .neq 9 (vS gd) (vS s)).run Try.prog W = .ok (.bool true) W := fun W => by simp [go_sem, hne]
        have HGS := Lib.hid (And.intro hgs hne)
        clear hgs hne
        cases d
        · go_wp2_with fail
          go_big_quiet (fail)
          obtain ⟨W1, hW1⟩ : ∃ W1, wr.drewN nq = W1 := ⟨_, rfl⟩
          rw [hW1]
          have HI1 : Hid (SetI W0 (n0 + 1) s r A Z k u4 false out W1) := Lib.hid (hW1 ▸ HI.out.keep ((Fr.refl _ _).drewN _))
          have SZW1 : Hid (n0 + 1 ≤ W1.heap.size) := Lib.hid (by have := HI1.out.fr.size; have := HS0.out; omega)
          clear hW1 sc0 y0 x0
          have x0 := (HK.out W1 HI1.out.fr).2 0 (vS s) rfl
          have hsc := (HK.out W1 HI1.out.fr).1.cell
          obtain ⟨sa, sc, sc0, srow, -⟩ := hsc
          rw [HN.out] at sc0 srow
          obtain ⟨gp, rfl, hrc⟩ := row12 srow HN.out.symm HP.out
          have y0 := hrc 0 (vS gd) rfl
          rw [Nat.add_zero] at y0
          clear hrc srow
          go_wp2_with fail
          go_big_quiet (fail)
          obtain ⟨W2, hW2⟩ : ∃ W2, W1.drewN nq = W2 := ⟨_, rfl⟩
          rw [hW2]
          have HI2 : Hid (SetI W0 (n0 + 1) s r A Z k u4 false out W2) := Lib.hid (hW2 ▸ HI1.out.keep ((Fr.refl _ _).drewN _))
          have SZW2 : Hid (n0 + 1 ≤ W2.heap.size) := Lib.hid (by have := HI2.out.fr.size; have := HS0.out; omega)
          have HOL2 : Hid (out.length + 1 ≤ 1048578) := Lib.hid (by have := hol.out; omega)
          clear hW2 sc0 y0 x0
          have hsc := (HK.out W2 HI2.out.fr).1.cell
          obtain ⟨sa, sc, sc0, srow, -⟩ := hsc
          rw [HN.out] at sc0 srow
          obtain ⟨gp, rfl, hrc⟩ := row12 srow HN.out.symm HP.out
          have y0 := hrc 0 (vS gd) rfl
          rw [Nat.add_zero] at y0
          have y1 := hrc 1 (.int .i64 q.free) rfl
          have y2 := hrc 2 (.int .i64 q.held) rfl
          have y3 := hrc 3 (.int .i64 q.picked) rfl
          have y4 := hrc 4 (.int .i64 q.aside) rfl
          have y5 := hrc 5 (.int .i64 q.received) rfl
          have y6 := hrc 6 (.int .i64 q.returned) rfl
          have y7 := hrc 7 (.int .i64 q.counted) rfl
          have y8 := hrc 8 (.int .i64 q.came) rfl
          have y9 := hrc 9 (.int .i64 q.shipped) rfl
          have y10 := hrc 10 (.int .i64 q.scrapped) rfl
          have y11 := hrc 11 (.int .i64 q.sent) rfl
          clear hrc srow
          go_wp2_with (at_builtin; refine wpList_append_src rfl _ _ 49 rfl (n0 + 1) 96 i0 (.agg (rowV [] SR.zero)) 104 Try.underlying49 hi' hz0 hz1 hz2 rfl (by decide) _ _ (rcs out) rfl (((Fr.refl (fun _ => False) W2).alloc _).row HI2.out.own (fun _ _ e => e)) 1 rfl (rd_obj (cs := [vS gd, .int .i64 q.free, .int .i64 q.held, .int .i64 q.picked, .int .i64 q.aside, .int .i64 q.received, .int .i64 q.returned, .int .i64 q.counted, .int .i64 q.came, .int .i64 q.shipped, .int .i64 q.scrapped, .int .i64 q.sent]) (heap_new _ _) rfl) (fun u hu => rowC_one (p := (gd, q)) hu) (by unfold maxLen; have := HOL2.out; omega) (by have := HOL2.out; omega) (by simp; have := SZW2.out; omega) ?_; intro vb wb hownb hgrowb hlocb; have hPb := HI2.out.push (p := (gd, q)) SZW2.out hownb hgrowb; have HPb := Lib.hid hPb; clear hownb hgrowb hlocb hPb)
          go_roundw
          case rel => exact ⟨k + 1, false, (out ++ [(gd, q)]), by omega, by go_num, (by first | rfl | trivial), ⟨HPb.out.1, HPb.out.2, by
            have e := HI.out.eq
            have h0 := HGS.out
            rw [HST.out] at e
            simp [h0.1, h0.2] at e ⊢
            exact e, by have := HI.out.len; simp at this ⊢; omega⟩⟩
          case measure => simp [intOf]; omega
        · go_wp2_with fail
          go_big_quiet (fail)
          obtain ⟨W1, hW1⟩ : ∃ W1, wr.drewN nq = W1 := ⟨_, rfl⟩
          rw [hW1]
          have HI1 : Hid (SetI W0 (n0 + 1) s r A Z k u4 true out W1) := Lib.hid (hW1 ▸ HI.out.keep ((Fr.refl _ _).drewN _))
          have SZW1 : Hid (n0 + 1 ≤ W1.heap.size) := Lib.hid (by have := HI1.out.fr.size; have := HS0.out; omega)
          clear hW1 sc0 y0 x0
          have x0 := (HK.out W1 HI1.out.fr).2 0 (vS s) rfl
          have hsc := (HK.out W1 HI1.out.fr).1.cell
          obtain ⟨sa, sc, sc0, srow, -⟩ := hsc
          rw [HN.out] at sc0 srow
          obtain ⟨gp, rfl, hrc⟩ := row12 srow HN.out.symm HP.out
          have y0 := hrc 0 (vS gd) rfl
          rw [Nat.add_zero] at y0
          clear hrc srow
          go_wp2_with fail
          go_big_quiet (fail)
          obtain ⟨W2, hW2⟩ : ∃ W2, W1.drewN nq = W2 := ⟨_, rfl⟩
          rw [hW2]
          have HI2 : Hid (SetI W0 (n0 + 1) s r A Z k u4 true out W2) := Lib.hid (hW2 ▸ HI1.out.keep ((Fr.refl _ _).drewN _))
          have SZW2 : Hid (n0 + 1 ≤ W2.heap.size) := Lib.hid (by have := HI2.out.fr.size; have := HS0.out; omega)
          have HOL2 : Hid (out.length + 1 ≤ 1048578) := Lib.hid (by have := hol.out; omega)
          clear hW2 sc0 y0 x0
          have hsc := (HK.out W2 HI2.out.fr).1.cell
          obtain ⟨sa, sc, sc0, srow, -⟩ := hsc
          rw [HN.out] at sc0 srow
          obtain ⟨gp, rfl, hrc⟩ := row12 srow HN.out.symm HP.out
          have y0 := hrc 0 (vS gd) rfl
          rw [Nat.add_zero] at y0
          have y1 := hrc 1 (.int .i64 q.free) rfl
          have y2 := hrc 2 (.int .i64 q.held) rfl
          have y3 := hrc 3 (.int .i64 q.picked) rfl
          have y4 := hrc 4 (.int .i64 q.aside) rfl
          have y5 := hrc 5 (.int .i64 q.received) rfl
          have y6 := hrc 6 (.int .i64 q.returned) rfl
          have y7 := hrc 7 (.int .i64 q.counted) rfl
          have y8 := hrc 8 (.int .i64 q.came) rfl
          have y9 := hrc 9 (.int .i64 q.shipped) rfl
          have y10 := hrc 10 (.int .i64 q.scrapped) rfl
          have y11 := hrc 11 (.int .i64 q.sent) rfl
          clear hrc srow
          go_wp2_with (at_builtin; refine wpList_append_src rfl _ _ 49 rfl (n0 + 1) 96 i0 (.agg (rowV [] SR.zero)) 104 Try.underlying49 hi' hz0 hz1 hz2 rfl (by decide) _ _ (rcs out) rfl (((Fr.refl (fun _ => False) W2).alloc _).row HI2.out.own (fun _ _ e => e)) 1 rfl (rd_obj (cs := [vS gd, .int .i64 q.free, .int .i64 q.held, .int .i64 q.picked, .int .i64 q.aside, .int .i64 q.received, .int .i64 q.returned, .int .i64 q.counted, .int .i64 q.came, .int .i64 q.shipped, .int .i64 q.scrapped, .int .i64 q.sent]) (heap_new _ _) rfl) (fun u hu => rowC_one (p := (gd, q)) hu) (by unfold maxLen; have := HOL2.out; omega) (by have := HOL2.out; omega) (by simp; have := SZW2.out; omega) ?_; intro vb wb hownb hgrowb hlocb; have hPb := HI2.out.push (p := (gd, q)) SZW2.out hownb hgrowb; have HPb := Lib.hid hPb; clear hownb hgrowb hlocb hPb)
          go_roundw
          case rel => exact ⟨k + 1, true, (out ++ [(gd, q)]), by omega, by go_num, (by first | rfl | trivial), ⟨HPb.out.1, HPb.out.2, by
            have e := HI.out.eq
            have h0 := HGS.out
            rw [HST.out] at e
            simp [h0.1, h0.2] at e ⊢
            exact e, by have := HI.out.len; simp at this ⊢; omega⟩⟩
          case measure => simp [intOf]; omega
      · have hnl : ¬ gd < s := by rw [hgs]; exact str_irr _
        have q1 : Op.bytesLess gd s = false := by rw [bytesLess_eq]; simpa using hnl
        have q2 : (gd == s) = true := by simpa using hgs
        have q3 : ∀ W, (binOp .neq 9 (vS gd) (vS s)).run Try.prog W = .ok (.bool false) W := fun W => by simp [go_sem, hgs]
        have HGS := Lib.hid (And.intro hgs hnl)
        clear hgs hnl
        cases d
        · go_wp2_with fail
          go_big_quiet (fail)
          obtain ⟨W1, hW1⟩ : ∃ W1, wr.drewN nq = W1 := ⟨_, rfl⟩
          rw [hW1]
          have HI1 : Hid (SetI W0 (n0 + 1) s r A Z k u4 false out W1) := Lib.hid (hW1 ▸ HI.out.keep ((Fr.refl _ _).drewN _))
          have SZW1 : Hid (n0 + 1 ≤ W1.heap.size) := Lib.hid (by have := HI1.out.fr.size; have := HS0.out; omega)
          clear hW1 sc0 y0 x0
          have hbc := (HK.out W1 HI1.out.fr).2
          have x0 := hbc 0 (vS s) rfl
          have x1 := hbc 1 (.int .i64 r.free) rfl
          have x2 := hbc 2 (.int .i64 r.held) rfl
          have x3 := hbc 3 (.int .i64 r.picked) rfl
          have x4 := hbc 4 (.int .i64 r.aside) rfl
          have x5 := hbc 5 (.int .i64 r.received) rfl
          have x6 := hbc 6 (.int .i64 r.returned) rfl
          have x7 := hbc 7 (.int .i64 r.counted) rfl
          have x8 := hbc 8 (.int .i64 r.came) rfl
          have x9 := hbc 9 (.int .i64 r.shipped) rfl
          have x10 := hbc 10 (.int .i64 r.scrapped) rfl
          have x11 := hbc 11 (.int .i64 r.sent) rfl
          clear hbc
          go_wp2_with (at_builtin; refine wpList_append_src rfl _ _ 49 rfl (n0 + 1) 96 i0 (.agg (rowV [] SR.zero)) 104 Try.underlying49 hi' hz0 hz1 hz2 rfl (by decide) _ _ (rcs out) rfl (((Fr.refl (fun _ => False) W1).alloc _).row HI1.out.own (fun _ _ e => e)) 1 rfl (rd_obj (cs := [vS s, .int .i64 r.free, .int .i64 r.held, .int .i64 r.picked, .int .i64 r.aside, .int .i64 r.received, .int .i64 r.returned, .int .i64 r.counted, .int .i64 r.came, .int .i64 r.shipped, .int .i64 r.scrapped, .int .i64 r.sent]) (heap_new _ _) rfl) (fun u hu => rowC_one (p := (s, r)) hu) (by unfold maxLen; have := HOL1.out; omega) (by have := HOL1.out; omega) (by simp; have := SZW1.out; omega) ?_; intro va wa howna hgrowa hloca; have hPa := HI1.out.push (p := (s, r)) SZW1.out howna hgrowa; have HPa := Lib.hid hPa; clear howna hgrowa hloca hPa)
          have HIa : Hid (SetI W0 (n0 + 1) s r A (out ++ [(s, r)] ++ setR s r true (A.drop k)) k va true (out ++ [(s, r)]) wa) := Lib.hid ⟨HPa.out.1, HPa.out.2, rfl, by have := HI.out.len; simp at this ⊢; omega⟩
          have SZwa : Hid (n0 + 1 ≤ wa.heap.size) := Lib.hid (by have := HIa.out.fr.size; have := HS0.out; omega)
          clear x0 x1 x2 x3 x4 x5 x6 x7 x8 x9 x10 x11
          have x0 := (HK.out wa HIa.out.fr).2 0 (vS s) rfl
          have hsc := (HK.out wa HIa.out.fr).1.cell
          obtain ⟨sa, sc, sc0, srow, -⟩ := hsc
          rw [HN.out] at sc0 srow
          obtain ⟨gp, rfl, hrc⟩ := row12 srow HN.out.symm HP.out
          have y0 := hrc 0 (vS gd) rfl
          rw [Nat.add_zero] at y0
          clear hrc srow
          go_big_quiet (fail)
          obtain ⟨W2, hW2⟩ : ∃ W2, wa.drewN nq = W2 := ⟨_, rfl⟩
          rw [hW2]
          have HI2 : Hid (SetI W0 (n0 + 1) s r A (out ++ [(s, r)] ++ setR s r true (A.drop k)) k va true (out ++ [(s, r)]) W2) := Lib.hid (hW2 ▸ HIa.out.keep ((Fr.refl _ _).drewN _))
          have SZW2 : Hid (n0 + 1 ≤ W2.heap.size) := Lib.hid (by have := HI2.out.fr.size; have := HS0.out; omega)
          have HOL2 : Hid ((out ++ [(s, r)]).length + 1 ≤ 1048578) := Lib.hid (by have := hol.out; simp; omega)
          clear hW2 sc0 y0 x0
          go_wp2_with fail
          go_roundw
          case rel => exact ⟨k + 1, true, (out ++ [(s, r)]), by omega, by go_num, (by first | rfl | trivial), ⟨HI2.out.own, HI2.out.fr, by
            have e := HI.out.eq
            have h0 := HGS.out
            rw [HST.out] at e
            simp [h0.1, h0.2, str_irr] at e ⊢
            exact e, by have := HI.out.len; simp at this ⊢; omega⟩⟩
          case measure => simp [intOf]; omega
        · go_wp2_with fail
          go_big_quiet (fail)
          obtain ⟨W1, hW1⟩ : ∃ W1, wr.drewN nq = W1 := ⟨_, rfl⟩
          rw [hW1]
          have HI1 : Hid (SetI W0 (n0 + 1) s r A Z k u4 true out W1) := Lib.hid (hW1 ▸ HI.out.keep ((Fr.refl _ _).drewN _))
          have SZW1 : Hid (n0 + 1 ≤ W1.heap.size) := Lib.hid (by have := HI1.out.fr.size; have := HS0.out; omega)
          clear hW1 sc0 y0 x0
          have x0 := (HK.out W1 HI1.out.fr).2 0 (vS s) rfl
          have hsc := (HK.out W1 HI1.out.fr).1.cell
          obtain ⟨sa, sc, sc0, srow, -⟩ := hsc
          rw [HN.out] at sc0 srow
          obtain ⟨gp, rfl, hrc⟩ := row12 srow HN.out.symm HP.out
          have y0 := hrc 0 (vS gd) rfl
          rw [Nat.add_zero] at y0
          clear hrc srow
          go_wp2_with fail
          go_big_quiet (fail)
          obtain ⟨W2, hW2⟩ : ∃ W2, W1.drewN nq = W2 := ⟨_, rfl⟩
          rw [hW2]
          have HI2 : Hid (SetI W0 (n0 + 1) s r A Z k u4 true out W2) := Lib.hid (hW2 ▸ HI1.out.keep ((Fr.refl _ _).drewN _))
          have SZW2 : Hid (n0 + 1 ≤ W2.heap.size) := Lib.hid (by have := HI2.out.fr.size; have := HS0.out; omega)
          have HOL2 : Hid (out.length + 1 ≤ 1048578) := Lib.hid (by have := hol.out; omega)
          clear hW2 sc0 y0 x0
          go_wp2_with fail
          go_roundw
          case rel => exact ⟨k + 1, true, out, by omega, by go_num, (by first | rfl | trivial), ⟨HI2.out.own, HI2.out.fr, by
            have e := HI.out.eq
            have h0 := HGS.out
            rw [HST.out] at e
            simp [h0.1, h0.2, str_irr] at e ⊢
            exact e, by have := HI.out.len; simp at this ⊢; omega⟩⟩
          case measure => simp [intOf]; omega
      · have hnl : ¬ gd < s := str_asym hgs
        have hne : ¬ gd = s := fun e => str_irr s (e ▸ hgs)
        have q1 : Op.bytesLess gd s = false := by rw [bytesLess_eq]; simpa using hnl
        have q2 : (gd == s) = false := by simpa using hne
        have q3 : ∀ W, (binOp .neq 9 (vS gd) (vS s)).run Try.prog W = .ok (.bool true) W := fun W => by simp [go_sem, hne]
        have HGS := Lib.hid (And.intro hnl hne)
        clear hgs hnl hne
        cases d
        · go_wp2_with fail
          go_big_quiet (fail)
          obtain ⟨W1, hW1⟩ : ∃ W1, wr.drewN nq = W1 := ⟨_, rfl⟩
          rw [hW1]
          have HI1 : Hid (SetI W0 (n0 + 1) s r A Z k u4 false out W1) := Lib.hid (hW1 ▸ HI.out.keep ((Fr.refl _ _).drewN _))
          have SZW1 : Hid (n0 + 1 ≤ W1.heap.size) := Lib.hid (by have := HI1.out.fr.size; have := HS0.out; omega)
          clear hW1 sc0 y0 x0
          have hbc := (HK.out W1 HI1.out.fr).2
          have x0 := hbc 0 (vS s) rfl
          have x1 := hbc 1 (.int .i64 r.free) rfl
          have x2 := hbc 2 (.int .i64 r.held) rfl
          have x3 := hbc 3 (.int .i64 r.picked) rfl
          have x4 := hbc 4 (.int .i64 r.aside) rfl
          have x5 := hbc 5 (.int .i64 r.received) rfl
          have x6 := hbc 6 (.int .i64 r.returned) rfl
          have x7 := hbc 7 (.int .i64 r.counted) rfl
          have x8 := hbc 8 (.int .i64 r.came) rfl
          have x9 := hbc 9 (.int .i64 r.shipped) rfl
          have x10 := hbc 10 (.int .i64 r.scrapped) rfl
          have x11 := hbc 11 (.int .i64 r.sent) rfl
          clear hbc
          go_wp2_with (at_builtin; refine wpList_append_src rfl _ _ 49 rfl (n0 + 1) 96 i0 (.agg (rowV [] SR.zero)) 104 Try.underlying49 hi' hz0 hz1 hz2 rfl (by decide) _ _ (rcs out) rfl (((Fr.refl (fun _ => False) W1).alloc _).row HI1.out.own (fun _ _ e => e)) 1 rfl (rd_obj (cs := [vS s, .int .i64 r.free, .int .i64 r.held, .int .i64 r.picked, .int .i64 r.aside, .int .i64 r.received, .int .i64 r.returned, .int .i64 r.counted, .int .i64 r.came, .int .i64 r.shipped, .int .i64 r.scrapped, .int .i64 r.sent]) (heap_new _ _) rfl) (fun u hu => rowC_one (p := (s, r)) hu) (by unfold maxLen; have := HOL1.out; omega) (by have := HOL1.out; omega) (by simp; have := SZW1.out; omega) ?_; intro va wa howna hgrowa hloca; have hPa := HI1.out.push (p := (s, r)) SZW1.out howna hgrowa; have HPa := Lib.hid hPa; clear howna hgrowa hloca hPa)
          have HIa : Hid (SetI W0 (n0 + 1) s r A (out ++ [(s, r)] ++ setR s r true (A.drop k)) k va true (out ++ [(s, r)]) wa) := Lib.hid ⟨HPa.out.1, HPa.out.2, rfl, by have := HI.out.len; simp at this ⊢; omega⟩
          have SZwa : Hid (n0 + 1 ≤ wa.heap.size) := Lib.hid (by have := HIa.out.fr.size; have := HS0.out; omega)
          clear x0 x1 x2 x3 x4 x5 x6 x7 x8 x9 x10 x11
          have x0 := (HK.out wa HIa.out.fr).2 0 (vS s) rfl
          have hsc := (HK.out wa HIa.out.fr).1.cell
          obtain ⟨sa, sc, sc0, srow, -⟩ := hsc
          rw [HN.out] at sc0 srow
          obtain ⟨gp, rfl, hrc⟩ := row12 srow HN.out.symm HP.out
          have y0 := hrc 0 (vS gd) rfl
          rw [Nat.add_zero] at y0
          clear hrc srow
          go_big_quiet (fail)
          obtain ⟨W2, hW2⟩ : ∃ W2, wa.drewN nq = W2 := ⟨_, rfl⟩
          rw [hW2]
          have HI2 : Hid (SetI W0 (n0 + 1) s r A (out ++ [(s, r)] ++ setR s r true (A.drop k)) k va true (out ++ [(s, r)]) W2) := Lib.hid (hW2 ▸ HIa.out.keep ((Fr.refl _ _).drewN _))
          have SZW2 : Hid (n0 + 1 ≤ W2.heap.size) := Lib.hid (by have := HI2.out.fr.size; have := HS0.out; omega)
          have HOL2 : Hid ((out ++ [(s, r)]).length + 1 ≤ 1048578) := Lib.hid (by have := hol.out; simp; omega)
          clear hW2 sc0 y0 x0
          have hsc := (HK.out W2 HI2.out.fr).1.cell
          obtain ⟨sa, sc, sc0, srow, -⟩ := hsc
          rw [HN.out] at sc0 srow
          obtain ⟨gp, rfl, hrc⟩ := row12 srow HN.out.symm HP.out
          have y0 := hrc 0 (vS gd) rfl
          rw [Nat.add_zero] at y0
          have y1 := hrc 1 (.int .i64 q.free) rfl
          have y2 := hrc 2 (.int .i64 q.held) rfl
          have y3 := hrc 3 (.int .i64 q.picked) rfl
          have y4 := hrc 4 (.int .i64 q.aside) rfl
          have y5 := hrc 5 (.int .i64 q.received) rfl
          have y6 := hrc 6 (.int .i64 q.returned) rfl
          have y7 := hrc 7 (.int .i64 q.counted) rfl
          have y8 := hrc 8 (.int .i64 q.came) rfl
          have y9 := hrc 9 (.int .i64 q.shipped) rfl
          have y10 := hrc 10 (.int .i64 q.scrapped) rfl
          have y11 := hrc 11 (.int .i64 q.sent) rfl
          clear hrc srow
          go_wp2_with (at_builtin; refine wpList_append_src rfl _ _ 49 rfl (n0 + 1) 96 i0 (.agg (rowV [] SR.zero)) 104 Try.underlying49 hi' hz0 hz1 hz2 rfl (by decide) _ _ (rcs (out ++ [(s, r)])) rfl (((Fr.refl (fun _ => False) W2).alloc _).row HI2.out.own (fun _ _ e => e)) 1 rfl (rd_obj (cs := [vS gd, .int .i64 q.free, .int .i64 q.held, .int .i64 q.picked, .int .i64 q.aside, .int .i64 q.received, .int .i64 q.returned, .int .i64 q.counted, .int .i64 q.came, .int .i64 q.shipped, .int .i64 q.scrapped, .int .i64 q.sent]) (heap_new _ _) rfl) (fun u hu => rowC_one (p := (gd, q)) hu) (by unfold maxLen; have := HOL2.out; omega) (by have := HOL2.out; omega) (by simp; have := SZW2.out; omega) ?_; intro vb wb hownb hgrowb hlocb; have hPb := HI2.out.push (p := (gd, q)) SZW2.out hownb hgrowb; have HPb := Lib.hid hPb; clear hownb hgrowb hlocb hPb)
          go_roundw
          case rel => exact ⟨k + 1, true, ((out ++ [(s, r)]) ++ [(gd, q)]), by omega, by go_num, (by first | rfl | trivial), ⟨HPb.out.1, HPb.out.2, by
            have e := HI.out.eq
            have h0 := HGS.out
            rw [HST.out] at e
            simp [h0.1, h0.2] at e ⊢
            exact e, by have := HI.out.len; simp at this ⊢; omega⟩⟩
          case measure => simp [intOf]; omega
        · go_wp2_with fail
          go_big_quiet (fail)
          obtain ⟨W1, hW1⟩ : ∃ W1, wr.drewN nq = W1 := ⟨_, rfl⟩
          rw [hW1]
          have HI1 : Hid (SetI W0 (n0 + 1) s r A Z k u4 true out W1) := Lib.hid (hW1 ▸ HI.out.keep ((Fr.refl _ _).drewN _))
          have SZW1 : Hid (n0 + 1 ≤ W1.heap.size) := Lib.hid (by have := HI1.out.fr.size; have := HS0.out; omega)
          clear hW1 sc0 y0 x0
          have x0 := (HK.out W1 HI1.out.fr).2 0 (vS s) rfl
          have hsc := (HK.out W1 HI1.out.fr).1.cell
          obtain ⟨sa, sc, sc0, srow, -⟩ := hsc
          rw [HN.out] at sc0 srow
          obtain ⟨gp, rfl, hrc⟩ := row12 srow HN.out.symm HP.out
          have y0 := hrc 0 (vS gd) rfl
          rw [Nat.add_zero] at y0
          clear hrc srow
          go_wp2_with fail
          go_big_quiet (fail)
          obtain ⟨W2, hW2⟩ : ∃ W2, W1.drewN nq = W2 := ⟨_, rfl⟩
          rw [hW2]
          have HI2 : Hid (SetI W0 (n0 + 1) s r A Z k u4 true out W2) := Lib.hid (hW2 ▸ HI1.out.keep ((Fr.refl _ _).drewN _))
          have SZW2 : Hid (n0 + 1 ≤ W2.heap.size) := Lib.hid (by have := HI2.out.fr.size; have := HS0.out; omega)
          have HOL2 : Hid (out.length + 1 ≤ 1048578) := Lib.hid (by have := hol.out; omega)
          clear hW2 sc0 y0 x0
          have hsc := (HK.out W2 HI2.out.fr).1.cell
          obtain ⟨sa, sc, sc0, srow, -⟩ := hsc
          rw [HN.out] at sc0 srow
          obtain ⟨gp, rfl, hrc⟩ := row12 srow HN.out.symm HP.out
          have y0 := hrc 0 (vS gd) rfl
          rw [Nat.add_zero] at y0
          have y1 := hrc 1 (.int .i64 q.free) rfl
          have y2 := hrc 2 (.int .i64 q.held) rfl
          have y3 := hrc 3 (.int .i64 q.picked) rfl
          have y4 := hrc 4 (.int .i64 q.aside) rfl
          have y5 := hrc 5 (.int .i64 q.received) rfl
          have y6 := hrc 6 (.int .i64 q.returned) rfl
          have y7 := hrc 7 (.int .i64 q.counted) rfl
          have y8 := hrc 8 (.int .i64 q.came) rfl
          have y9 := hrc 9 (.int .i64 q.shipped) rfl
          have y10 := hrc 10 (.int .i64 q.scrapped) rfl
          have y11 := hrc 11 (.int .i64 q.sent) rfl
          clear hrc srow
          go_wp2_with (at_builtin; refine wpList_append_src rfl _ _ 49 rfl (n0 + 1) 96 i0 (.agg (rowV [] SR.zero)) 104 Try.underlying49 hi' hz0 hz1 hz2 rfl (by decide) _ _ (rcs out) rfl (((Fr.refl (fun _ => False) W2).alloc _).row HI2.out.own (fun _ _ e => e)) 1 rfl (rd_obj (cs := [vS gd, .int .i64 q.free, .int .i64 q.held, .int .i64 q.picked, .int .i64 q.aside, .int .i64 q.received, .int .i64 q.returned, .int .i64 q.counted, .int .i64 q.came, .int .i64 q.shipped, .int .i64 q.scrapped, .int .i64 q.sent]) (heap_new _ _) rfl) (fun u hu => rowC_one (p := (gd, q)) hu) (by unfold maxLen; have := HOL2.out; omega) (by have := HOL2.out; omega) (by simp; have := SZW2.out; omega) ?_; intro vb wb hownb hgrowb hlocb; have hPb := HI2.out.push (p := (gd, q)) SZW2.out hownb hgrowb; have HPb := Lib.hid hPb; clear hownb hgrowb hlocb hPb)
          go_roundw
          case rel => exact ⟨k + 1, true, (out ++ [(gd, q)]), by omega, by go_num, (by first | rfl | trivial), ⟨HPb.out.1, HPb.out.2, by
            have e := HI.out.eq
            have h0 := HGS.out
            rw [HST.out] at e
            simp [h0.1, h0.2] at e ⊢
            exact e, by have := HI.out.len; simp at this ⊢; omega⟩⟩
          case measure => simp [intOf]; omega
    · obtain rfl : k = n := by omega
      have hfz : Hid (∀ W', Fr (fun b => n0 + 1 ≤ b) W0 W' → W'.frozen? ⟨g, 0, none⟩ = false ∧ ∃ a c, W'.cell? ⟨g, 0, none⟩ = some (.slice a k c)) := Lib.hid (fun W' hf => by
        obtain ⟨⟨v0, h1, -, -⟩, -, -⟩ := id (HK.out W' hf).1
        obtain ⟨a, c, h2, -⟩ := (HK.out W' hf).1.cell
        rw [HN.out] at h2
        exact ⟨obj_frozen h1 0, a, c, h2⟩)
      have hfin : Hid (∀ W' v', Fr (fun b => n0 + 1 ≤ b) W0 W' → W'.ownsRow (n0 + 1) 96 12 v' Z.length (rcs Z) → RS (W'.setCell ⟨g, 0, none⟩ v') g (fun b => TS b ∨ (n0 + 1 ≤ b ∧ b < W'.heap.size)) Z ∧ Stp TS w (W'.setCell ⟨g, 0, none⟩ v') (fun b => TS b ∨ (n0 + 1 ≤ b ∧ b < W'.heap.size))) := Lib.hid (fun W' v' hf ho => RS.setRows HRW.out HF0.out hf (by have := HSZ.out; omega) ho)
      have hze : Hid (out ++ (if d = true then [] else [(s, r)]) = Z) := Lib.hid (by
        have e := HI.out.eq
        rw [List.drop_of_length_le (by rw [HN.out]; omega)] at e
        exact e)
      have x0 := (HK.out wr HI.out.fr).2 0 (vS s) rfl
      have x1 := (HK.out wr HI.out.fr).2 1 (.int .i64 r.free) rfl
      have x2 := (HK.out wr HI.out.fr).2 2 (.int .i64 r.held) rfl
      have x3 := (HK.out wr HI.out.fr).2 3 (.int .i64 r.picked) rfl
      have x4 := (HK.out wr HI.out.fr).2 4 (.int .i64 r.aside) rfl
      have x5 := (HK.out wr HI.out.fr).2 5 (.int .i64 r.received) rfl
      have x6 := (HK.out wr HI.out.fr).2 6 (.int .i64 r.returned) rfl
      have x7 := (HK.out wr HI.out.fr).2 7 (.int .i64 r.counted) rfl
      have x8 := (HK.out wr HI.out.fr).2 8 (.int .i64 r.came) rfl
      have x9 := (HK.out wr HI.out.fr).2 9 (.int .i64 r.shipped) rfl
      have x10 := (HK.out wr HI.out.fr).2 10 (.int .i64 r.scrapped) rfl
      have x11 := (HK.out wr HI.out.fr).2 11 (.int .i64 r.sent) rfl
      clear srow
      have HOL2 : Hid (out.length + 1 ≤ 1048578) := Lib.hid (by have := hol.out; omega)
      cases d with
      | true =>
        have hzA : Hid (out = Z) := Lib.hid (by have := hze.out; simpa using this)
        obtain ⟨fz, a, c, hcg⟩ := hfz.out wr HI.out.fr
        obtain ⟨va, vc, rfl⟩ := row_sl HI.out.own
        go_wp2_with fail
        go_end0
        refine ⟨⟨_, rfl⟩, _, hfin.out _ _ HI.out.fr ?_⟩
        rw [← hzA.out]; exact HI.out.own
      | false =>
        have hzA : Hid (out ++ [(s, r)] = Z) := Lib.hid (by have := hze.out; simpa using this)
        go_wp2_with (at_builtin; refine wpList_append_src rfl _ _ 49 rfl (n0 + 1) 96 i0 (.agg (rowV [] SR.zero)) 104 Try.underlying49 hi' hz0 hz1 hz2 rfl (by decide) _ _ (rcs out) rfl (((Fr.refl (fun _ => False) wr).alloc _).row HI.out.own (fun _ _ e => e)) 1 rfl (rd_obj (cs := [vS s, .int .i64 r.free, .int .i64 r.held, .int .i64 r.picked, .int .i64 r.aside, .int .i64 r.received, .int .i64 r.returned, .int .i64 r.counted, .int .i64 r.came, .int .i64 r.shipped, .int .i64 r.scrapped, .int .i64 r.sent]) (heap_new _ _) rfl) (fun u hu => rowC_one (p := (s, r)) hu) (by unfold maxLen; have := HOL2.out; omega) (by have := HOL2.out; omega) (by simp; have := hsz.out; omega) ?_; intro vb wb hownb hgrowb hlocb; obtain ⟨ba, bc, rfl⟩ := row_sl hownb; have hPb := HI.out.push (p := (s, r)) hsz.out hownb hgrowb; have HPb := Lib.hid hPb; clear hownb hgrowb hlocb hPb x0 x1 x2 x3 x4 x5 x6 x7 x8 x9 x10 x11 sc0; obtain ⟨fz, a, c, hcg⟩ := hfz.out wb HPb.out.2)
        go_end0
        refine ⟨⟨_, rfl⟩, _, hfin.out _ _ HPb.out.2 ?_⟩
        rw [← hzA.out]; exact HPb.out.1
end Go.Proofs.Ytclgmnobockfnaa
