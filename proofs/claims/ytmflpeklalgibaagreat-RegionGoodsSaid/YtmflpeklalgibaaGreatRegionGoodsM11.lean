/- Texts of this claim, joined: region: Mail, Do, Goods (written by wip/tools/mail22.py); region: Mail, the others (written by wip/tools/mail22.py); region's laws: lives; region's laws: lives returns true; region's laws: letters, opened (written by wip/tools/let22.py); RegionGoods, plainly; entrepotlaw22.large; entrepotref06: May. -/
import Derived.Test.YtmflpeklalgibaaGreatRegionGoodsM10
import Derived.Test.YtmflpeklalgibaaGreatRegionGoodsM9
import Derived.Deep.RegionHeld3
import Derived.Test.YtmflpeklalgibaaGreatRegionGoodsM6
import Derived.Test.YtmflpeklalgibaaGreatRegionGoodsM7
namespace Go.Proofs.YtmflpeklalgibaaGreat
open Go.RowKit Go.Maps
/-- What a request that may be has. -/
theorem may_ask {m : MV} (h : m.may = true) (hk : m.kd = 11) : (1 ≤ m.a.n ∧ m.a.n ≤ 4294967296) ∧ 0 ≤ m.a.c ∧ m.a.c < 64 := by
  unfold MV.may at h
  simp only [Bool.and_eq_true] at h
  have h2 := h.1.2
  have h3 : m.ra = m.a.may := by unfold MV.ra; rw [hk]; rfl
  rw [h3] at h2
  unfold AV.may at h2
  simp only [Bool.and_eq_true] at h2
  unfold wiB at h2
  simp only [Bool.and_eq_true, decide_eq_true_eq] at h2
  omega
theorem away_stp {w w' : World} {r : Nat} {T0 T1 T0' : Nat → Prop} {vk vk' : Value} (h1 : ∀ b, T0' b → T0 b ∨ w.heap.size ≤ b) (h2 : ∀ b, vk'.ownBlock = some b → w.heap.size ≤ b) (h3 : Fr (fun b => T0 b ∨ b = r) w w') : Stp (RB.bl r T0 T1 vk) w w' (RB.bl r T0' T1 vk') := by
  refine ⟨h3.mono (fun b _ e => e.elim (fun e => .inr (.inl e)) .inl), fun b hb => ?_⟩
  rcases hb with e | e | e | e
  · exact .inl (.inl e)
  · exact (h1 b e).imp (fun e => .inr (.inl e)) id
  · exact .inl (.inr (.inr (.inl e)))
  · exact .inr (h2 b e)
theorem nf_news {p : Int × MV} {i : Int} (h : nfP p = (i, newsM)) {b : Nat} : ¬ p.2.own b := fun e => by
  have h2 : p.2.nf = newsM := congrArg Prod.snd h
  have h3 : p.2.its = [] := congrArg MV.its h2
  have h4 : p.2.a.its = [] := congrArg (fun m : MV => m.a.its) h2
  exact e.elim (fun e => e.1 h3) (fun e => e.1 h4)
theorem newsR_mem {n : Int} {b c : Its} {p : Int × MV} (h : p ∈ newsR n b c) : ∃ i, p = (i, newsM) := by
  unfold newsR at h
  split at h
  · obtain ⟨i, -, rfl⟩ := List.mem_map.1 h; exact ⟨_, rfl⟩
  · cases h
theorem newsR_len {n : Int} {b c : Its} (h : n ≤ 8) : (newsR n b c).length ≤ 8 := by
  unfold newsR
  split
  · rw [List.length_map, List.length_range]; omega
  · exact Nat.zero_le _
theorem doR_len (me : Int) (x : RSt) (a : AV) (fr : Int) : (doR me x a fr).1.length ≤ 2 ∧ (doR me x a fr).2.S = x.S ∧ (doR me x a fr).2.le = x.le := by
  unfold doR
  split
  · exact ⟨by simp, rfl, rfl⟩
  split
  · exact ⟨by simp, rfl, rfl⟩
  split
  · obtain ⟨h1, h2, h3, -⟩ := sendR_fix me x a
    exact ⟨by rw [List.length_append]; simp; omega, h1, h2⟩
  · exact ⟨by simp, rfl, rfl⟩
/-- The news are laid behind what was posted: what Mail leaves. -/
theorem mail_last {w W W' : World} {r gs gm b5 : Nat} {TS T0 T1 : Nat → Prop} {vk v v5 v' : Value} {me n : Int} {A : Stk} {le : Hes} {ws : List (Int × WE)} {S : List (Value × Its)} {L L5 : List (Int × MV)} {R : PEs × RSt} {B : Its}
    (h : RB W r gs gm T0 T1 vk me n A le ws S) (hs : Stp TS w W (RB.bl r T0 T1 vk)) (hp : Pst W w.heap.size v L (RB.bl r T0 T1 vk)) (hq : Pst W b5 v5 L5 (RB.bl r T0 T1 vk)) (hlo : ∀ p ∈ S, p.2 ≠ [] → ∀ b, p.1.ownBlock = some b → b < w.heap.size) (h5 : L5.map nfP = newsR n B (freeF A))
    (ho : W'.ownsRow w.heap.size 67 17 v' (L.length + L5.length) (flat pcs L ++ flat pcs L5)) (hg : W.grownBy W' v.ownBlock) (hl : v'.ownBlock = v.ownBlock ∨ v'.ownBlock = some W.heap.size) (hR : R = (L.map nfP ++ newsR n B (freeF A), ⟨A, le, ws, S.map (·.2)⟩)) : MaP w r TS me n R (.returned v') W' := by
  have hf : Fr (fun b => v.ownBlock = some b) W W' := Fr.grown hg (fun r hr _ => hr)
  have hlv : ∀ b, v.ownBlock = some b → w.heap.size ≤ b := fun b hb => (hp.row.lt b hb).1
  have hrb := h.keep hf (fun b hb e => hp.nt b e hb) (fun p hp' hn b hb e => by have := hlo p hp' hn b hb; have := hlv b e; omega)
  refine ⟨v', _, L ++ L5, S, rfl, by rw [hR]; exact hrb.rg, by rw [hR], hp.app ho hf (hl.imp id (fun e => ⟨_, e, Nat.le_refl _⟩)) h.lt (fun p hp' => ⟨(hq.ok p hp').1, (hq.ok p hp').2.1, fun b hb => ?_⟩), by rw [hR, List.map_append, h5], ⟨hs.1.trans' hf (fun b hb e => by have := hlv b e; omega), hs.2⟩⟩
  have : nfP p ∈ L5.map nfP := List.mem_map.2 ⟨p, hp', rfl⟩
  rw [h5] at this
  obtain ⟨i, hi⟩ := newsR_mem this
  exact absurd hb (nf_news hi)
set_option maxRecDepth 100000 in
set_option maxHeartbeats 32000000 in
theorem gMail_do (w : World) (r : Nat) (TS : Nat → Prop) (me n : Int) (A : Stk) (le : Hes) (ws : List (Int × WE)) (S : List (Value × Its)) (m : MV) (fr : Int) (h : RG w r TS me n A le ws S) (hm : MOk w m) (hmo : ∀ b, m.own b → ¬ TS b) (hfr : okI fr) (hws : ws.length ≤ 256) (hSl : S.length ≤ 99999) (hn8 : n ≤ 8) (hmay : m.may = true) (h0 : 0 ≤ fr) (h1 : fr < n) (hk : m.kd = 11) :
    Calls Tryz.prog 9 #[.pointer (some ⟨r, 0, none⟩), .agg m.cs, .int .i64 fr] w (MaP w r TS me n (mailR me n ⟨A, le, ws, S.map (·.2)⟩ m fr)) := by
  have hrb := h.rb
  clear h
  obtain ⟨gs, gm, T0, T1, vk, h, rfl⟩ := hrb
  obtain ⟨R, hR⟩ : ∃ R, mailR me n ⟨A, le, ws, S.map (·.2)⟩ m fr = R := ⟨_, rfl⟩
  rw [hR]
  have HR := Lib.hid hR
  have HMM : Hid (∀ W, Fr (fun _ => False) w W → Calls Tryz.prog 22 #[.agg m.cs] W fun e w' => e = .returned (.bool m.may) ∧ Fr (fun _ => False) W w') := Lib.hid (fun W hf => mMay W m (hm.keep hf (fun _ _ e => e)))
  obtain ⟨n0, hn0⟩ : ∃ n0, w.heap.size = n0 := ⟨_, rfl⟩
  obtain ⟨W0, hW0⟩ : ∃ W0, (w.alloc (.cells m.cs 36)).alloc (.cells #[.int .i64 fr] 3) = W0 := ⟨_, rfl⟩
  obtain ⟨hI0, -, hF0⟩ := mail_start h hm hmo hn0 hW0
  obtain ⟨MAY, hMAY⟩ : ∃ x, m.may = x := ⟨_, rfl⟩
  rw [hMAY] at HMM
  have HMAY := Lib.hid hMAY
  have HH := Lib.hid h; have HI0 := Lib.hid hI0; have HM := Lib.hid hm; have HF0 := Lib.hid hF0; have HN0 := Lib.hid hn0
  rw [hmay] at hMAY
  subst hMAY
  have q2 : decide (fr < 0) = false := by simpa using h0
  have q3 : decide (n ≤ fr) = false := by simpa using h1
  have HQ0 := Lib.hid h0; have HQ1 := Lib.hid h1; have HMY := Lib.hid hmay
  clear h0 h1 hmay HMAY
  clear h hm hI0 hF0 hR hmo
  obtain ⟨kd, od, l, its, ⟨c, nn, k, o, rr, t, mm, g, al, ai⟩, ⟨yc, yn, ycd, ym⟩⟩ := m
  (try dsimp only at hk)
  obtain ⟨pl, cl, hsl⟩ : ∃ a c, l = .slice a its.length c := HM.out.l.sl
  obtain ⟨pa, ca, hsa⟩ : ∃ a c, al = .slice a ai.length c := HM.out.a.l.sl
  subst hsl
  subst hsa
  obtain ⟨N, hN⟩ : ∃ x, its.length = x := ⟨_, rfl⟩
  obtain ⟨M, hM⟩ : ∃ x, ai.length = x := ⟨_, rfl⟩
  dsimp only [MV.cs] at HI0 hW0 HMM ⊢
  rw [hN, hM] at HI0 hW0 HMM HM HR HMY ⊢
  have HN := Lib.hid hN; have HMl := Lib.hid hM
  clear hN hM
  (try subst hk)
  have x0 := cell_obj (HI0.out.bx _ (.head _)).1 0 (.int .i64 11) rfl
  have x1 := cell_obj (HI0.out.bx _ (.head _)).1 1 (.int .i64 od) rfl
  have x2 := cell_obj (HI0.out.bx _ (.head _)).1 2 (.slice pl N cl) rfl
  have x3 := cell_obj (HI0.out.bx _ (.head _)).1 3 (.int .i64 c) rfl
  have x4 := cell_obj (HI0.out.bx _ (.head _)).1 4 (.int .i64 nn) rfl
  have x5 := cell_obj (HI0.out.bx _ (.head _)).1 5 (.int .i64 k) rfl
  have x6 := cell_obj (HI0.out.bx _ (.head _)).1 6 (.int .i64 o) rfl
  have x7 := cell_obj (HI0.out.bx _ (.head _)).1 7 (.int .i64 rr) rfl
  have x8 := cell_obj (HI0.out.bx _ (.head _)).1 8 (.int .i64 t) rfl
  have x9 := cell_obj (HI0.out.bx _ (.head _)).1 9 (.int .i64 mm) rfl
  have x10 := cell_obj (HI0.out.bx _ (.head _)).1 10 (vS g) rfl
  have x11 := cell_obj (HI0.out.bx _ (.head _)).1 11 (.slice pa M ca) rfl
  have x12 := cell_obj (HI0.out.bx _ (.head _)).1 12 (.int .i64 yc) rfl
  have x13 := cell_obj (HI0.out.bx _ (.head _)).1 13 (.int .i64 yn) rfl
  have x14 := cell_obj (HI0.out.bx _ (.head _)).1 14 (.int .i64 ycd) rfl
  have x15 := cell_obj (HI0.out.bx _ (.head _)).1 15 (.int .i64 ym) rfl
  have y0 := cell_obj (HI0.out.bx _ (.tail _ (.head _))).1 0 (.int .i64 fr) rfl
  have c1 := HI0.out.rb.cells.2.1
  have p0 := FrW.cell x0
  have p1 := FrW.cell x1
  have p2 := FrW.cell x2
  have p3 := FrW.cell x3
  have p4 := FrW.cell x4
  have p5 := FrW.cell x5
  have p6 := FrW.cell x6
  have p7 := FrW.cell x7
  have p8 := FrW.cell x8
  have p9 := FrW.cell x9
  have p10 := FrW.cell x10
  have p11 := FrW.cell x11
  have p12 := FrW.cell x12
  have p13 := FrW.cell x13
  have p14 := FrW.cell x14
  have p15 := FrW.cell x15
  have py := FrW.cell y0
  have pc1 := FrW.cell c1
  go_enter Tryz.func9, Tryz.ntmps9
  (try rw [hW0])
  go_upto_region 1 with (fail)
  (try rw [hW0])
  refine wp_region_fr (by kernel_rfl) (by kernel_rfl) ?_
  repeat (go_big_quiet_step ((go_at_call 22; rename_i X; refine (HMM.out X.val (HF0.out.trans X.fr)).mono ?_; rintro e w2 ⟨rfl, hF⟩; exact ⟨rfl, ⟨w2, X.fr.trans hF⟩, rfl⟩)))
  refine wpQuiet_nil ?_
  rintro V ⟨⟨_, hV⟩, rfl⟩
  have HIV := Lib.hid (HI0.out.keep0 hV)
  have HFV := Lib.hid (HF0.out.trans hV)
  clear p0 p1 p2 p3 p4 p5 p6 p7 p8 p9 p10 p11 p12 p13 p14 p15 py pc1 hW0 c1 y0 x0 x1 x2 x3 x4 x5 x6 x7 x8 x9 x10 x11 x12 x13 x14 x15 hV
  have x0 := cell_obj (HIV.out.bx _ (.head _)).1 0 (.int .i64 11) rfl
  have x1 := cell_obj (HIV.out.bx _ (.head _)).1 1 (.int .i64 od) rfl
  have HAN := Lib.hid (fun W => mAns W 11)
  obtain ⟨ak, hak⟩ : ∃ x, ansF 11 = x := ⟨_, rfl⟩
  rw [hak] at HAN
  have HAK := Lib.hid hak
  clear hak
  go_upto_region 3 with (fail)
  refine wp_region_box [⟨6, 7, 36, #[.int .i64 0, .int .i64 0, .slice none 0 0, .int .i64 0, .int .i64 0, .int .i64 0, .int .i64 0, .int .i64 0, .int .i64 0, .int .i64 0, .string ⟨#[]⟩, .slice none 0 0, .int .i64 0, .int .i64 0, .int .i64 0, .int .i64 0], 7, 35⟩] (by kernel_rfl) rfl (by kernel_rfl) (by kernel_rfl) (by kernel_rfl) ?al ?_
  case al =>
    intro b hb w
    simp only [List.mem_cons, List.not_mem_nil, or_false] at hb
    subst hb
    kernel_rfl
  apply Exists.intro
  refine ⟨?hh, ?st, ?qq⟩
  case hh =>
    intro X
    have q0 := FrW.cell (X.fr.cell x0 (fun e => e)); have q1 := FrW.cell (X.fr.cell x1 (fun e => e))
    simp (config := { decide := true }) only [boxedF, bxIdx, List.flatMap_cons, List.flatMap_nil, List.cons_append, List.nil_append, idleU, if_true, if_false, ite_true, ite_false]
    repeat (go_big_quiet_step ((go_at_call 23; rename_i Y; refine (HAN.out Y.val).mono ?_; rintro e w2 ⟨rfl, rfl⟩; exact ⟨rfl, Y, rfl⟩)))
    exact wpQuiet_nil rfl
  case st =>
    intro b hb w n hw
    simp only [List.mem_cons, List.not_mem_nil, or_false] at hb
    subst hb
    exact box_store (cs := #[.int .i64 ak, .int .i64 od, .slice none 0 0, .int .i64 0, .int .i64 0, .int .i64 0, .int .i64 0, .int .i64 0, .int .i64 0, .int .i64 0, .string ⟨#[]⟩, .slice none 0 0, .int .i64 0, .int .i64 0, .int .i64 0, .int .i64 0]) hw rfl (by kernel_rfl) (by intro u hu; simp only [List.mem_cons, List.not_mem_nil, or_false] at hu; rcases hu with h | h | h | h | h | h | h | h | h | h | h | h | h | h | h | h <;> (subst h; rfl))
  intro mf wz hfz hbx hdiff
  have hbk : wz.heap[mf 6]? = some (.cells #[.int .i64 ak, .int .i64 od, .slice none 0 0, .int .i64 0, .int .i64 0, .int .i64 0, .int .i64 0, .int .i64 0, .int .i64 0, .int .i64 0, .string ⟨#[]⟩, .slice none 0 0, .int .i64 0, .int .i64 0, .int .i64 0, .int .i64 0] 36) := (hbx _ (List.mem_cons_self)).2
  have hbs : V.heap.size ≤ mf 6 := (hbx _ (List.mem_cons_self)).1
  obtain ⟨bk, hbke⟩ : ∃ b, mf 6 = b := ⟨_, rfl⟩
  rw [hbke] at hbk hbs
  have HI1 := Lib.hid (HIV.out.box hfz hbk hbs)
  have HFZ := Lib.hid (HFV.out.trans hfz)
  have HNE : Hid (∀ q ∈ [(n0, (#[.int .i64 11, .int .i64 od, .slice pl N cl, .int .i64 c, .int .i64 nn, .int .i64 k, .int .i64 o, .int .i64 rr, .int .i64 t, .int .i64 mm, vS g, .slice pa M ca, .int .i64 yc, .int .i64 yn, .int .i64 ycd, .int .i64 ym] : Array Value), 36), (n0 + 1, #[.int .i64 fr], 3)], bk ≠ q.1) := Lib.hid (fun q hq => by
    have h1 := (Array.getElem?_eq_some_iff.1 (HIV.out.bx q hq).1).1
    omega)
  simp only [bPuts, List.foldl_cons, List.foldl_nil, Act.put, bPtr, hbke]
  clear hbx hdiff hfz hbk hbs x0 x1 hbke
  simp only [List.setIfInBounds_toArray, List.set_cons_succ, List.set_cons_zero]
  have x0 := cell_obj (HI1.out.bx _ (.tail _ (.head _))).1 0 (.int .i64 11) rfl
  have x1 := cell_obj (HI1.out.bx _ (.tail _ (.head _))).1 1 (.int .i64 od) rfl
  obtain ⟨-, c2, -⟩ := HI1.out.cells
  have HASK : Hid ((1 ≤ nn ∧ nn ≤ 4294967296) ∧ 0 ≤ c ∧ c < 64) := Lib.hid (may_ask HMY.out rfl)
  obtain ⟨D, hD⟩ : ∃ D, doR me ⟨A, le, ws, S.map (·.2)⟩ ⟨c, nn, k, o, rr, t, mm, g, .slice pa M ca, ai⟩ fr = D := ⟨_, rfl⟩
  have HD := Lib.hid hD
  have HDF : Hid (D.1.length ≤ 2 ∧ D.2.S = S.map (·.2) ∧ D.2.le = le) := Lib.hid (by rw [← hD]; exact doR_len _ _ _ _)
  have HDO : Hid (∀ W TS', RG W r TS' me n A le ws S → AOk W ⟨c, nn, k, o, rr, t, mm, g, .slice pa M ca, ai⟩ → (ai ≠ [] → ∀ b, (Value.slice pa M ca).ownBlock = some b → ¬ TS' b) → Calls Tryz.prog 30 #[.pointer (some ⟨r, 0, none⟩), .agg #[.int .i64 c, .int .i64 nn, .int .i64 k, .int .i64 o, .int .i64 rr, .int .i64 t, .int .i64 mm, vS g, .slice pa M ca], .int .i64 fr] W (DoP W r TS' me n le S D)) := Lib.hid (fun W TS' h1 h2 h3 => by
    have := gDo W r TS' me n A le ws S ⟨c, nn, k, o, rr, t, mm, g, .slice pa M ca, ai⟩ fr h1 hws h2 h3 HASK.out.1 HASK.out.2 hfr
    rw [hD] at this; exact this)
  clear hD
  have HFC := Lib.hid (gFree wz r gs gm T0 T1 vk me n A le ws S HI1.out.rb)
  go_upto_region 23 with (first
    | (go_at_call 29; refine HFC.out.mono ?_; rintro e w2 ⟨mq, rfl, h1, h2, h3⟩; have hi2 := HI1.out.keep0 h3; have x0 := cell_obj (hi2.bx _ (.tail _ (.head _))).1 0 (.int .i64 11) rfl; have x3 := cell_obj (hi2.bx _ (.tail _ (.head _))).1 3 (.int .i64 c) rfl; have x4 := cell_obj (hi2.bx _ (.tail _ (.head _))).1 4 (.int .i64 nn) rfl; have x5 := cell_obj (hi2.bx _ (.tail _ (.head _))).1 5 (.int .i64 k) rfl; have x6 := cell_obj (hi2.bx _ (.tail _ (.head _))).1 6 (.int .i64 o) rfl; have x7 := cell_obj (hi2.bx _ (.tail _ (.head _))).1 7 (.int .i64 rr) rfl; have x8 := cell_obj (hi2.bx _ (.tail _ (.head _))).1 8 (.int .i64 t) rfl; have x9 := cell_obj (hi2.bx _ (.tail _ (.head _))).1 9 (.int .i64 mm) rfl; have x10 := cell_obj (hi2.bx _ (.tail _ (.head _))).1 10 (vS g) rfl; have x11 := cell_obj (hi2.bx _ (.tail _ (.head _))).1 11 (.slice pa M ca) rfl; have y0 := cell_obj (hi2.bx _ (.tail _ (.tail _ (.head _)))).1 0 (.int .i64 fr) rfl; have HI2 := Lib.hid hi2; have HMP := Lib.hid h2; have HMS := Lib.hid h1; have HF2 := Lib.hid (HFZ.out.trans h3); clear h1 h2 h3 hi2)
    | (go_at_call 30; refine (HDO.out _ _ HI2.out.rb.rg (HM.out.a.keep HF2.out (fun _ _ _ e => e)) (fun hn b hb => (HI2.out.nv _ (.tail _ (.head _)) hn b hb).1)).mono ?_; rintro e w3 ⟨⟨v3, T3, L3, rfl, h1, h2, h3, h4⟩⟩; have h1' := h1.rb; obtain ⟨gs3, gm3, T03, T13, vk3, hrb3, hT3⟩ := h1'; subst hT3; obtain ⟨ra, rc, hv3⟩ := row_sl h2.row; obtain ⟨LNN, hLn⟩ : ∃ x, L3.length = x := ⟨_, rfl⟩; rw [hLn] at hv3; subst hv3; have HRB3 := Lib.hid hrb3; have HST3 := Lib.hid (HI2.out.st.trans h4); have HP3 := Lib.hid (h2.low (base' := w.heap.size) HI2.out.st.1.size); have HL3 := Lib.hid h3; have HLn := Lib.hid hLn; have H4 := Lib.hid h4; clear h1 h2 h3 h4 hrb3 hLn))
  obtain ⟨A3, hA3⟩ : ∃ x, D.2.A = x := ⟨_, rfl⟩
  obtain ⟨ws3, hws3⟩ : ∃ x, D.2.ws = x := ⟨_, rfl⟩
  rw [hA3, hws3] at HRB3
  have HA3 := Lib.hid hA3; have HWS3 := Lib.hid hws3
  obtain ⟨S3, hS3⟩ : ∃ x, S = x := ⟨_, rfl⟩
  have hmq : ¬ RB.bl r T0 T1 vk mq := fun e => by have := HI1.out.rb.lt mq e; have := HMS.out; omega
  have HMQ3 := Lib.hid (H4.out.1.mp HMP.out hmq)
  have HNQ3 : Hid (¬ RB.bl r T03 T13 vk3 mq) := Lib.hid (fun e => (H4.out.2 mq e).elim hmq (fun e => by have := HMP.out.lt; omega))
  have HLO3 : Hid (∀ p ∈ S, p.2 ≠ [] → ∀ b, p.1.ownBlock = some b → b < w.heap.size) := Lib.hid HI2.out.lo
  have HLEN3 : Hid (S.length ≤ 100000) := Lib.hid (by omega)
  have HLn2 : Hid (LNN ≤ 2) := Lib.hid (by have h1 := HDF.out.1; rw [← HL3.out, List.length_map, HLn.out] at h1; exact h1)
  clear hA3 hws3 hS3 hmq
  go_upto_region 24 with (go_at_call 31; refine (gAway w3 r gs3 gm3 T03 T13 vk3 me n A3 le ws3 S HRB3.out HLEN3.out).mono ?_; rintro e w4 ⟨⟨T04, vk4, S4, rfl, h1, h2, h3, h4, h5, h6⟩⟩; have hst4 := away_stp (T1 := T13) (vk := vk3) h3 h4 h5; have HRB4 := Lib.hid h1; have HS4 := Lib.hid h2; have HST4 := Lib.hid (HST3.out.trans hst4); have HP4 := Lib.hid (HP3.out.step hst4); have HMQ4 := Lib.hid (hst4.1.mp HMQ3.out HNQ3.out); have HLO4 : Hid (∀ p ∈ S4, p.2 ≠ [] → ∀ b, p.1.ownBlock = some b → b < w.heap.size) := Lib.hid (fun p hp hn b hb => HLO3.out p (h6 p hp) hn b hb); clear h1 h2 h3 h4 h5 h6 hst4)
  have HNW := Lib.hid (gNews w4 r gs3 gm3 T04 T13 vk4 me n (awayF A3 (S.map (·.2))).1 le ws3 S4 mq (freeF A) HRB4.out HMQ4.out ⟨by have := HQ0.out; have := HQ1.out; omega, hn8⟩)
  obtain ⟨i0, hi', hz0, hz1, hz2⟩ := info_parts infoPost
  go_wp2_with (first
    | (go_at_call 32; refine HNW.out.mono ?_; rintro e w5 ⟨v5, L5, rfl, g1, g2, g3⟩; obtain ⟨na, nc, hv5⟩ := row_sl g1.row; obtain ⟨LM, hLM⟩ : ∃ x, L5.length = x := ⟨_, rfl⟩; have hlm : LM ≤ 8 := (by rw [← hLM, ← List.length_map (f := nfP), g2]; exact newsR_len hn8); rw [hLM] at hv5; subst hv5; have hrd := Rd.own (by have := g1.row; rw [hLM] at this; exact this); have HRD := Lib.hid hrd; have HP5 := Lib.hid (HP4.out.keep0 g3); have hrow5 := (HP4.out.keep0 g3).row; rw [HLn.out] at hrow5; have HROW5 := Lib.hid hrow5; have hz5 : w.heap.size ≤ w5.heap.size := (HST4.out.trans (Stp.refl g3)).1.size; have HZ5 := Lib.hid hz5; have HG1 := Lib.hid g1; have HG2 := Lib.hid g2; have HG3 := Lib.hid g3; have HLM := Lib.hid hLM; have HLM8 := Lib.hid hlm; clear hrd g1 g2 g3 hLM hrow5 hz5 hlm)
    | (at_builtin; refine wpList_append_src rfl _ _ 39 rfl w.heap.size 67 i0 (.agg #[.int .i64 0, .int .i64 0, .int .i64 0, .slice none 0 0, .int .i64 0, .int .i64 0, .int .i64 0, .int .i64 0, .int .i64 0, .int .i64 0, .int .i64 0, .string ⟨#[]⟩, .slice none 0 0, .int .i64 0, .int .i64 0, .int .i64 0, .int .i64 0]) 176 Tryz.underlying39 hi' hz0 hz1 hz2 rfl (by decide) (.slice ra LNN rc) LNN (flat pcs L3) rfl HROW5.out nc rfl HRD.out (flat_one2 (fun p hp => (HG1.out.ok p hp).2.1)) (by unfold maxLen; have := HLn2.out; have := HLM8.out; omega) (by have := HLn2.out; have := HLM8.out; omega) HZ5.out ?_; intro v6 w6 hown6 hgrow6 hloc6; have HO6 := Lib.hid hown6; have HG6 := Lib.hid hgrow6; have HL6 := Lib.hid hloc6; clear hown6 hgrow6 hloc6))
  go_ret
  exact mail_last (HRB4.out.keep0 HG3.out) (HST4.out.trans (Stp.refl HG3.out)) HP5.out HG1.out HLO4.out HG2.out (by rw [HLn.out, HLM.out]; exact HO6.out) HG6.out HL6.out (by rw [← HR.out]; rw [mailR_do HMY.out HQ0.out HQ1.out rfl]; dsimp only; rw [HD.out, HL3.out, HS4.out]; unfold awayR; rw [HDF.out.2.1, HDF.out.2.2, HA3.out, HWS3.out])
set_option maxRecDepth 100000 in
set_option maxHeartbeats 32000000 in
theorem gMail_goods (w : World) (r : Nat) (TS : Nat → Prop) (me n : Int) (A : Stk) (le : Hes) (ws : List (Int × WE)) (S : List (Value × Its)) (m : MV) (fr : Int) (h : RG w r TS me n A le ws S) (hm : MOk w m) (hmo : ∀ b, m.own b → ¬ TS b) (hfr : okI fr) (hws : ws.length ≤ 256) (hSl : S.length ≤ 99999) (hn8 : n ≤ 8) (hmay : m.may = true) (h0 : 0 ≤ fr) (h1 : fr < n) (hk : m.kd = 13) :
    Calls Tryz.prog 9 #[.pointer (some ⟨r, 0, none⟩), .agg m.cs, .int .i64 fr] w (MaP w r TS me n (mailR me n ⟨A, le, ws, S.map (·.2)⟩ m fr)) := by
  have hrb := h.rb
  clear h
  obtain ⟨gs, gm, T0, T1, vk, h, rfl⟩ := hrb
  obtain ⟨ska, skc, rfl⟩ := row_sl h.row
  obtain ⟨NS, hNS⟩ : ∃ x, S.length = x := ⟨_, rfl⟩
  rw [hNS] at h hmo ⊢
  have HNS := Lib.hid hNS
  have HNS2 : Hid (NS ≤ 99999) := Lib.hid (by rw [← hNS]; exact hSl)
  clear hNS
  obtain ⟨R, hR⟩ : ∃ R, mailR me n ⟨A, le, ws, S.map (·.2)⟩ m fr = R := ⟨_, rfl⟩
  rw [hR]
  have HR := Lib.hid hR
  have HMM : Hid (∀ W, Fr (fun _ => False) w W → Calls Tryz.prog 22 #[.agg m.cs] W fun e w' => e = .returned (.bool m.may) ∧ Fr (fun _ => False) W w') := Lib.hid (fun W hf => mMay W m (hm.keep hf (fun _ _ e => e)))
  obtain ⟨n0, hn0⟩ : ∃ n0, w.heap.size = n0 := ⟨_, rfl⟩
  obtain ⟨W0, hW0⟩ : ∃ W0, (w.alloc (.cells m.cs 36)).alloc (.cells #[.int .i64 fr] 3) = W0 := ⟨_, rfl⟩
  obtain ⟨hI0, -, hF0⟩ := mail_start h hm hmo hn0 hW0
  obtain ⟨MAY, hMAY⟩ : ∃ x, m.may = x := ⟨_, rfl⟩
  rw [hMAY] at HMM
  have HMAY := Lib.hid hMAY
  have HH := Lib.hid h; have HI0 := Lib.hid hI0; have HM := Lib.hid hm; have HF0 := Lib.hid hF0; have HN0 := Lib.hid hn0
  rw [hmay] at hMAY
  subst hMAY
  have q2 : decide (fr < 0) = false := by simpa using h0
  have q3 : decide (n ≤ fr) = false := by simpa using h1
  have HQ0 := Lib.hid h0; have HQ1 := Lib.hid h1; have HMY := Lib.hid hmay
  clear h0 h1 hmay HMAY
  clear h hm hI0 hF0 hR hmo
  obtain ⟨kd, od, l, its, ⟨c, nn, k, o, rr, t, mm, g, al, ai⟩, ⟨yc, yn, ycd, ym⟩⟩ := m
  (try dsimp only at hk)
  obtain ⟨pl, cl, hsl⟩ : ∃ a c, l = .slice a its.length c := HM.out.l.sl
  obtain ⟨pa, ca, hsa⟩ : ∃ a c, al = .slice a ai.length c := HM.out.a.l.sl
  subst hsl
  subst hsa
  obtain ⟨N, hN⟩ : ∃ x, its.length = x := ⟨_, rfl⟩
  obtain ⟨M, hM⟩ : ∃ x, ai.length = x := ⟨_, rfl⟩
  dsimp only [MV.cs] at HI0 hW0 HMM ⊢
  rw [hN, hM] at HI0 hW0 HMM HM HR HMY ⊢
  have HN := Lib.hid hN; have HMl := Lib.hid hM
  clear hN hM
  (try subst hk)
  have x0 := cell_obj (HI0.out.bx _ (.head _)).1 0 (.int .i64 13) rfl
  have x1 := cell_obj (HI0.out.bx _ (.head _)).1 1 (.int .i64 od) rfl
  have x2 := cell_obj (HI0.out.bx _ (.head _)).1 2 (.slice pl N cl) rfl
  have x3 := cell_obj (HI0.out.bx _ (.head _)).1 3 (.int .i64 c) rfl
  have x4 := cell_obj (HI0.out.bx _ (.head _)).1 4 (.int .i64 nn) rfl
  have x5 := cell_obj (HI0.out.bx _ (.head _)).1 5 (.int .i64 k) rfl
  have x6 := cell_obj (HI0.out.bx _ (.head _)).1 6 (.int .i64 o) rfl
  have x7 := cell_obj (HI0.out.bx _ (.head _)).1 7 (.int .i64 rr) rfl
  have x8 := cell_obj (HI0.out.bx _ (.head _)).1 8 (.int .i64 t) rfl
  have x9 := cell_obj (HI0.out.bx _ (.head _)).1 9 (.int .i64 mm) rfl
  have x10 := cell_obj (HI0.out.bx _ (.head _)).1 10 (vS g) rfl
  have x11 := cell_obj (HI0.out.bx _ (.head _)).1 11 (.slice pa M ca) rfl
  have x12 := cell_obj (HI0.out.bx _ (.head _)).1 12 (.int .i64 yc) rfl
  have x13 := cell_obj (HI0.out.bx _ (.head _)).1 13 (.int .i64 yn) rfl
  have x14 := cell_obj (HI0.out.bx _ (.head _)).1 14 (.int .i64 ycd) rfl
  have x15 := cell_obj (HI0.out.bx _ (.head _)).1 15 (.int .i64 ym) rfl
  have y0 := cell_obj (HI0.out.bx _ (.tail _ (.head _))).1 0 (.int .i64 fr) rfl
  have c1 := HI0.out.rb.cells.2.1
  have p0 := FrW.cell x0
  have p1 := FrW.cell x1
  have p2 := FrW.cell x2
  have p3 := FrW.cell x3
  have p4 := FrW.cell x4
  have p5 := FrW.cell x5
  have p6 := FrW.cell x6
  have p7 := FrW.cell x7
  have p8 := FrW.cell x8
  have p9 := FrW.cell x9
  have p10 := FrW.cell x10
  have p11 := FrW.cell x11
  have p12 := FrW.cell x12
  have p13 := FrW.cell x13
  have p14 := FrW.cell x14
  have p15 := FrW.cell x15
  have py := FrW.cell y0
  have pc1 := FrW.cell c1
  go_enter Tryz.func9, Tryz.ntmps9
  (try rw [hW0])
  go_upto_region 1 with (fail)
  (try rw [hW0])
  refine wp_region_fr (by kernel_rfl) (by kernel_rfl) ?_
  repeat (go_big_quiet_step ((go_at_call 22; rename_i X; refine (HMM.out X.val (HF0.out.trans X.fr)).mono ?_; rintro e w2 ⟨rfl, hF⟩; exact ⟨rfl, ⟨w2, X.fr.trans hF⟩, rfl⟩)))
  refine wpQuiet_nil ?_
  rintro V ⟨⟨_, hV⟩, rfl⟩
  have HIV := Lib.hid (HI0.out.keep0 hV)
  have HFV := Lib.hid (HF0.out.trans hV)
  clear p0 p1 p2 p3 p4 p5 p6 p7 p8 p9 p10 p11 p12 p13 p14 p15 py pc1 hW0 c1 y0 x0 x1 x2 x3 x4 x5 x6 x7 x8 x9 x10 x11 x12 x13 x14 x15 hV
  have x0 := cell_obj (HIV.out.bx _ (.head _)).1 0 (.int .i64 13) rfl
  have x1 := cell_obj (HIV.out.bx _ (.head _)).1 1 (.int .i64 od) rfl
  have HAN := Lib.hid (fun W => mAns W 13)
  obtain ⟨ak, hak⟩ : ∃ x, ansF 13 = x := ⟨_, rfl⟩
  rw [hak] at HAN
  have HAK := Lib.hid hak
  clear hak
  go_upto_region 3 with (fail)
  refine wp_region_box [⟨6, 7, 36, #[.int .i64 0, .int .i64 0, .slice none 0 0, .int .i64 0, .int .i64 0, .int .i64 0, .int .i64 0, .int .i64 0, .int .i64 0, .int .i64 0, .string ⟨#[]⟩, .slice none 0 0, .int .i64 0, .int .i64 0, .int .i64 0, .int .i64 0], 7, 35⟩] (by kernel_rfl) rfl (by kernel_rfl) (by kernel_rfl) (by kernel_rfl) ?al ?_
  case al =>
    intro b hb w
    simp only [List.mem_cons, List.not_mem_nil, or_false] at hb
    subst hb
    kernel_rfl
  apply Exists.intro
  refine ⟨?hh, ?st, ?qq⟩
  case hh =>
    intro X
    have q0 := FrW.cell (X.fr.cell x0 (fun e => e)); have q1 := FrW.cell (X.fr.cell x1 (fun e => e))
    simp (config := { decide := true }) only [boxedF, bxIdx, List.flatMap_cons, List.flatMap_nil, List.cons_append, List.nil_append, idleU, if_true, if_false, ite_true, ite_false]
    repeat (go_big_quiet_step ((go_at_call 23; rename_i Y; refine (HAN.out Y.val).mono ?_; rintro e w2 ⟨rfl, rfl⟩; exact ⟨rfl, Y, rfl⟩)))
    exact wpQuiet_nil rfl
  case st =>
    intro b hb w n hw
    simp only [List.mem_cons, List.not_mem_nil, or_false] at hb
    subst hb
    exact box_store (cs := #[.int .i64 ak, .int .i64 od, .slice none 0 0, .int .i64 0, .int .i64 0, .int .i64 0, .int .i64 0, .int .i64 0, .int .i64 0, .int .i64 0, .string ⟨#[]⟩, .slice none 0 0, .int .i64 0, .int .i64 0, .int .i64 0, .int .i64 0]) hw rfl (by kernel_rfl) (by intro u hu; simp only [List.mem_cons, List.not_mem_nil, or_false] at hu; rcases hu with h | h | h | h | h | h | h | h | h | h | h | h | h | h | h | h <;> (subst h; rfl))
  intro mf wz hfz hbx hdiff
  have hbk : wz.heap[mf 6]? = some (.cells #[.int .i64 ak, .int .i64 od, .slice none 0 0, .int .i64 0, .int .i64 0, .int .i64 0, .int .i64 0, .int .i64 0, .int .i64 0, .int .i64 0, .string ⟨#[]⟩, .slice none 0 0, .int .i64 0, .int .i64 0, .int .i64 0, .int .i64 0] 36) := (hbx _ (List.mem_cons_self)).2
  have hbs : V.heap.size ≤ mf 6 := (hbx _ (List.mem_cons_self)).1
  obtain ⟨bk, hbke⟩ : ∃ b, mf 6 = b := ⟨_, rfl⟩
  rw [hbke] at hbk hbs
  have HI1 := Lib.hid (HIV.out.box hfz hbk hbs)
  have HFZ := Lib.hid (HFV.out.trans hfz)
  have HNE : Hid (∀ q ∈ [(n0, (#[.int .i64 13, .int .i64 od, .slice pl N cl, .int .i64 c, .int .i64 nn, .int .i64 k, .int .i64 o, .int .i64 rr, .int .i64 t, .int .i64 mm, vS g, .slice pa M ca, .int .i64 yc, .int .i64 yn, .int .i64 ycd, .int .i64 ym] : Array Value), 36), (n0 + 1, #[.int .i64 fr], 3)], bk ≠ q.1) := Lib.hid (fun q hq => by
    have h1 := (Array.getElem?_eq_some_iff.1 (HIV.out.bx q hq).1).1
    omega)
  simp only [bPuts, List.foldl_cons, List.foldl_nil, Act.put, bPtr, hbke]
  clear hbx hdiff hfz hbk hbs x0 x1 hbke
  simp only [List.setIfInBounds_toArray, List.set_cons_succ, List.set_cons_zero]
  have x0 := cell_obj (HI1.out.bx _ (.tail _ (.head _))).1 0 (.int .i64 13) rfl
  have x1 := cell_obj (HI1.out.bx _ (.tail _ (.head _))).1 1 (.int .i64 od) rfl
  obtain ⟨-, c2, -⟩ := HI1.out.cells
  have HFC := Lib.hid (gFree wz r gs gm T0 T1 (.slice ska NS skc) me n A le ws S HI1.out.rb)
  go_upto_region 22 with (go_at_call 29; refine HFC.out.mono ?_; rintro e w2 ⟨mq, rfl, h1, h2, h3⟩; have hi2 := HI1.out.keep0 h3; have x0 := cell_obj (hi2.bx _ (.tail _ (.head _))).1 0 (.int .i64 13) rfl; have x2 := cell_obj (hi2.bx _ (.tail _ (.head _))).1 2 (.slice pl N cl) rfl; have r4 := hi2.rb.cells.2.2.2.2; have HI2 := Lib.hid hi2; have HMP := Lib.hid h2; have HMS := Lib.hid h1; have HF2 := Lib.hid (HFZ.out.trans h3); clear h1 h2 h3 hi2)
  obtain ⟨j0, hj', hy0, hy1, hy2⟩ := info_parts infoSl
  refine wp_region_eff [(7, true), (8, false), (11, false)] [0,9,10] 3 (by kernel_rfl) rfl (by kernel_rfl) (by kernel_rfl) ?_
  apply Exists.intro
  refine ⟨?hh1, ?pu1, ?ef1⟩
  case hh1 =>
    intro X
    have r4 := FrW.cell (X.fr.cell r4 (fun e => e))
    have x2 := FrW.cell (X.fr.cell x2 (fun e => e))
    simp (config := { decide := true }) only [boxedF, efIdx, List.map_cons, List.map_nil, idleU, if_true, if_false, ite_true, ite_false]
    repeat (go_big_quiet_step (fail))
    exact wpQuiet_nil rfl
  case pu1 =>
    intro i' hi' o' ho
    simp only [List.mem_cons, List.not_mem_nil, or_false] at hi'
    rcases hi' with rfl | rfl | rfl
    all_goals
      cases ho
      apply Exists.intro
      intro w'
      simp [execOp, Act.eval, go_sem]
      try exact rfl
  simp only [efOps, List.filterMap_cons, List.filterMap_nil, List.getElem?_cons_succ, List.getElem?_cons_zero, Option.map_some]
  clear r4 x2
  intro w3 hw3
  have HW3 := Lib.hid hw3
  clear hw3
  go_wp2_with fail
  refine ⟨(Fr.refl _ _).alloc _, ?_⟩
  intro w4 hw4
  have HW4 := Lib.hid hw4
  have hf24 : Fr (fun _ => False) w2 w4 := HW3.out.trans (((Fr.refl (fun _ => False) w3).alloc _).trans hw4)
  have HI4 := Lib.hid (HI2.out.keep0 hf24)
  have HMP4 := Lib.hid (hf24.mp HMP.out (fun e => e))
  have HROW4 : Hid (w4.ownsRow 0 23 1 (.slice ska NS skc) NS (S.map (·.1))) := Lib.hid (by have := HI4.out.rb.row; rw [HNS.out] at this; exact this)
  clear hw4 hf24
  go_wp2_with (at_builtin; refine wpList_append_src rfl _ _ 63 rfl 0 23 j0 (.slice none 0 0) 24 Tryz.underlying63 hj' hy0 hy1 hy2 rfl (by decide) (.slice ska NS skc) NS (S.map (·.1)) rfl HROW4.out 1 rfl (rd_obj (cs := [.slice pl N cl]) (HW4.out.at_ (heap_new _ _) (fun e => e)) rfl) (by intro u hu; rw [List.mem_singleton.1 hu]; rfl) (by unfold maxLen; have := HNS2.out; omega) (by have := HNS2.out; omega) (Nat.zero_le _) ?_; intro v5 w5 hown5 hgrow5 hloc5; have HO5 := Lib.hid hown5; have HG5 := Lib.hid (Fr.grown (S := fun c => (Value.slice ska NS skc).ownBlock = some c) hgrow5 (fun c hc _ => hc)); have HL5 := Lib.hid hloc5; obtain ⟨a5, c5, rfl⟩ := row_sl hown5; clear hown5 hgrow5 hloc5)
  intro w6 hw6
  have hK : ∀ b, (Value.slice ska NS skc).ownBlock = some b → ¬ (b = r ∨ T0 b ∨ T1 b) := fun b hb e => by
    have := HI4.out.rb.nr.2.2 b hb
    exact e.elim this.1 (fun e => e.elim this.2.1 this.2.2)
  have hv5 : ∀ b, (Value.slice a5 (NS + 1) c5).ownBlock = some b → (Value.slice ska NS skc).ownBlock = some b ∨ b = w4.heap.size := fun b hb => by
    rcases HL5.out with q | q
    · exact .inl (q ▸ hb)
    · rw [q] at hb; injection hb with hb; exact .inr hb.symm
  have hlt4 := HI4.out.rb.lt
  have hf46 : Fr (fun c => (Value.slice ska NS skc).ownBlock = some c) w4 w6 := HG5.out.trans (hw6.mono (fun _ _ e => e.elim))
  have hs46 := hf46.size
  have hrb6 := HI4.out.rb.stuck (vS' := .slice a5 (NS + 1) c5) (S' := S ++ [(.slice pl N cl, its)]) hf46 hK (by rw [List.length_append, List.map_append, HNS.out]; exact hw6.row HO5.out (fun _ _ e => e)) (fun b hb => by
    rcases hv5 b hb with e | e
    · exact ⟨fun q => hK b e (.inl q), fun q => hK b e (.inr (.inl q)), fun q => hK b e (.inr (.inr q))⟩
    · subst e
      exact ⟨fun q => by have := hlt4 _ (.inl q); omega, fun q => by have := hlt4 _ (.inr (.inl q)); omega, fun q => by have := hlt4 _ (.inr (.inr (.inl q))); omega⟩) (fun p hp => by
    rcases List.mem_append.1 hp with hp | hp
    · refine ⟨(HI4.out.rb.st p hp).1.keep hf46 (fun hn b hb e => ((HI4.out.rb.st p hp).2 hn b hb).2.2.2.2 e), fun hn b hb => ?_⟩
      obtain ⟨q1, q2, q3, q4, q5⟩ := (HI4.out.rb.st p hp).2 hn b hb
      exact ⟨by omega, q2, q3, q4, fun e => (hv5 b e).elim q5 (fun e => by omega)⟩
    · rw [List.mem_singleton.1 hp]
      refine ⟨HI4.out.il0.keep hf46 (fun hn b hb e => (HI4.out.nv0 hn b hb).1 (.inr (.inr (.inr e)))), fun hn b hb => ?_⟩
      have q := (HI4.out.nv0 hn b hb)
      have q2 := HI4.out.il0.lt hn b hb
      exact ⟨by omega, fun e => q.1 (.inl e), fun e => q.1 (.inr (.inl e)), fun e => q.1 (.inr (.inr (.inl e))), fun e => (hv5 b e).elim (fun e => q.1 (.inr (.inr (.inr e)))) (fun e => by omega)⟩)
  have hr4 := (hf46.at_ HI4.out.rb.obj (fun e => hK r e (.inl rfl)))
  have z4 := obj_frozen hr4 4
  have r4 := cell_obj hr4 4 (.slice ska NS skc) rfl
  have hF7 : Fr (fun b => b = r) w6 (w6.setCell ⟨r, 4, none⟩ (.slice a5 (NS + 1) c5)) := (Fr.refl (fun b => b = r) w6).setCell (p := ⟨r, 4, none⟩) (fun _ => rfl) _
  have hst7 : Stp (RB.bl r T0 T1 (.slice ska NS skc)) w4 (w6.setCell ⟨r, 4, none⟩ (.slice a5 (NS + 1) c5)) (RB.bl r T0 T1 (.slice a5 (NS + 1) c5)) := by
    refine ⟨(hf46.mono (fun b _ e => .inr (.inr (.inr e)))).trans' hF7 (fun b _ e => .inl e), fun b hb => ?_⟩
    rcases hb with e | e | e | e
    · exact .inl (.inl e)
    · exact .inl (.inr (.inl e))
    · exact .inl (.inr (.inr (.inl e)))
    · exact (hv5 b e).imp (fun e => .inr (.inr (.inr e))) (fun e => by omega)
  have hmq : ¬ RB.bl r T0 T1 (.slice ska NS skc) mq := fun e => by have := HI1.out.rb.lt mq e; have := HMS.out; omega
  obtain ⟨W7, hW7⟩ : ∃ W, w6.setCell ⟨r, 4, none⟩ (.slice a5 (NS + 1) c5) = W := ⟨_, rfl⟩
  rw [hW7] at hrb6 hst7
  have HRB7 := Lib.hid hrb6; have HST7 := Lib.hid hst7; have HMQ := Lib.hid hmq
  clear hK hv5 hlt4 hf46 hs46 hrb6 hr4 hF7 hst7 hmq hw6
  go_wp2_with fail
  (try rw [hW7])
  clear hW7 r4 z4
  intro w3' hw3'
  obtain ⟨w3, hw3e⟩ : ∃ x : World, w3' = x := ⟨_, rfl⟩
  subst hw3e
  obtain ⟨S3, hS3⟩ : ∃ x, S ++ [(Value.slice pl N cl, its)] = x := ⟨_, rfl⟩
  rw [hS3] at HRB7
  have HS3 := Lib.hid hS3
  have HRB3 := Lib.hid (HRB7.out.keep0 hw3')
  have HST3 := Lib.hid (HI4.out.st.trans (HST7.out.trans (Stp.refl hw3')))
  have HP3 : Hid (Pst w3' w.heap.size (.slice none 0 0) [] (RB.bl r T0 T1 (.slice a5 (NS + 1) c5))) := Lib.hid Pst.nil
  have HMQ3 := Lib.hid (hw3'.mp (HST7.out.1.mp HMP4.out HMQ.out) (fun e => e))
  have HNQ3 : Hid (¬ RB.bl r T0 T1 (.slice a5 (NS + 1) c5) mq) := Lib.hid (fun e => (HST7.out.2 mq e).elim HMQ.out (fun e => by have := HMP4.out.lt; omega))
  have HLO3 : Hid (∀ p ∈ S3, p.2 ≠ [] → ∀ b, p.1.ownBlock = some b → b < w.heap.size) := Lib.hid (fun p hp hn b hb => by
    rw [← hS3] at hp
    rcases List.mem_append.1 hp with hp | hp
    · exact HI4.out.lo p hp hn b hb
    · rw [List.mem_singleton.1 hp] at hn hb
      exact (HI4.out.nv0 hn b hb).2)
  have HLEN3 : Hid (S3.length ≤ 100000) := Lib.hid (by rw [← hS3, List.length_append]; have := HNS.out; have := HNS2.out; simp; omega)
  have HLn : Hid (([] : List (Int × MV)).length = 0) := Lib.hid rfl
  have HLn2 : Hid (0 ≤ 2) := Lib.hid (by omega)
  clear hS3 hw3'
  go_wp2_with fail
  go_upto_region 24 with (go_at_call 31; refine (gAway w3' r gs gm T0 T1 (.slice a5 (NS + 1) c5) me n A le ws S3 HRB3.out HLEN3.out).mono ?_; rintro e w4 ⟨⟨T04, vk4, S4, rfl, h1, h2, h3, h4, h5, h6⟩⟩; have hst4 := away_stp (T1 := T1) (vk := .slice a5 (NS + 1) c5) h3 h4 h5; have HRB4 := Lib.hid h1; have HS4 := Lib.hid h2; have HST4 := Lib.hid (HST3.out.trans hst4); have HP4 := Lib.hid (HP3.out.step hst4); have HMQ4 := Lib.hid (hst4.1.mp HMQ3.out HNQ3.out); have HLO4 : Hid (∀ p ∈ S4, p.2 ≠ [] → ∀ b, p.1.ownBlock = some b → b < w.heap.size) := Lib.hid (fun p hp hn b hb => HLO3.out p (h6 p hp) hn b hb); clear h1 h2 h3 h4 h5 h6 hst4)
  have HNW := Lib.hid (gNews w4 r gs gm T04 T1 vk4 me n (awayF A (S3.map (·.2))).1 le ws S4 mq (freeF A) HRB4.out HMQ4.out ⟨by have := HQ0.out; have := HQ1.out; omega, hn8⟩)
  obtain ⟨i0, hi', hz0, hz1, hz2⟩ := info_parts infoPost
  go_wp2_with (first
    | (go_at_call 32; refine HNW.out.mono ?_; rintro e w5 ⟨v5, L5, rfl, g1, g2, g3⟩; obtain ⟨na, nc, hv5⟩ := row_sl g1.row; obtain ⟨LM, hLM⟩ : ∃ x, L5.length = x := ⟨_, rfl⟩; have hlm : LM ≤ 8 := (by rw [← hLM, ← List.length_map (f := nfP), g2]; exact newsR_len hn8); rw [hLM] at hv5; subst hv5; have hrd := Rd.own (by have := g1.row; rw [hLM] at this; exact this); have HRD := Lib.hid hrd; have HP5 := Lib.hid (HP4.out.keep0 g3); have hrow5 := (HP4.out.keep0 g3).row; rw [HLn.out] at hrow5; have HROW5 := Lib.hid hrow5; have hz5 : w.heap.size ≤ w5.heap.size := (HST4.out.trans (Stp.refl g3)).1.size; have HZ5 := Lib.hid hz5; have HG1 := Lib.hid g1; have HG2 := Lib.hid g2; have HG3 := Lib.hid g3; have HLM := Lib.hid hLM; have HLM8 := Lib.hid hlm; clear hrd g1 g2 g3 hLM hrow5 hz5 hlm)
    | (at_builtin; refine wpList_append_src rfl _ _ 39 rfl w.heap.size 67 i0 (.agg #[.int .i64 0, .int .i64 0, .int .i64 0, .slice none 0 0, .int .i64 0, .int .i64 0, .int .i64 0, .int .i64 0, .int .i64 0, .int .i64 0, .int .i64 0, .string ⟨#[]⟩, .slice none 0 0, .int .i64 0, .int .i64 0, .int .i64 0, .int .i64 0]) 176 Tryz.underlying39 hi' hz0 hz1 hz2 rfl (by decide) (.slice none 0 0) 0 (flat pcs []) rfl HROW5.out nc rfl HRD.out (flat_one2 (fun p hp => (HG1.out.ok p hp).2.1)) (by unfold maxLen; have := HLn2.out; have := HLM8.out; omega) (by have := HLn2.out; have := HLM8.out; omega) HZ5.out ?_; intro v6 w6 hown6 hgrow6 hloc6; have HO6 := Lib.hid hown6; have HG6 := Lib.hid hgrow6; have HL6 := Lib.hid hloc6; clear hown6 hgrow6 hloc6))
  go_ret
  exact mail_last (HRB4.out.keep0 HG3.out) (HST4.out.trans (Stp.refl HG3.out)) HP5.out HG1.out HLO4.out HG2.out (by rw [HLn.out, HLM.out]; exact HO6.out) HG6.out HL6.out (by rw [← HR.out]; rw [mailR_goods HMY.out HQ0.out HQ1.out rfl]; dsimp only; unfold awayR; dsimp only; rw [HS4.out, ← HS3.out, List.map_append]; rfl)
end Go.Proofs.YtmflpeklalgibaaGreat

namespace Go.Proofs.YtmflpeklalgibaaGreat
open Go.RowKit Go.Maps
set_option maxRecDepth 100000 in
set_option maxHeartbeats 32000000 in
theorem gMail_no1 (w : World) (r : Nat) (TS : Nat → Prop) (me n : Int) (A : Stk) (le : Hes) (ws : List (Int × WE)) (S : List (Value × Its)) (m : MV) (fr : Int) (h : RG w r TS me n A le ws S) (hm : MOk w m) (hmo : ∀ b, m.own b → ¬ TS b) (hfr : okI fr) (hmay : m.may = false) :
    Calls Tryz.prog 9 #[.pointer (some ⟨r, 0, none⟩), .agg m.cs, .int .i64 fr] w (MaP w r TS me n (mailR me n ⟨A, le, ws, S.map (·.2)⟩ m fr)) := by
  have hrb := h.rb
  clear h
  obtain ⟨gs, gm, T0, T1, vk, h, rfl⟩ := hrb
  obtain ⟨R, hR⟩ : ∃ R, mailR me n ⟨A, le, ws, S.map (·.2)⟩ m fr = R := ⟨_, rfl⟩
  rw [hR]
  have HR := Lib.hid hR
  have HMM : Hid (∀ W, Fr (fun _ => False) w W → Calls Tryz.prog 22 #[.agg m.cs] W fun e w' => e = .returned (.bool m.may) ∧ Fr (fun _ => False) W w') := Lib.hid (fun W hf => mMay W m (hm.keep hf (fun _ _ e => e)))
  obtain ⟨n0, hn0⟩ : ∃ n0, w.heap.size = n0 := ⟨_, rfl⟩
  obtain ⟨W0, hW0⟩ : ∃ W0, (w.alloc (.cells m.cs 36)).alloc (.cells #[.int .i64 fr] 3) = W0 := ⟨_, rfl⟩
  obtain ⟨hI0, -, hF0⟩ := mail_start h hm hmo hn0 hW0
  obtain ⟨MAY, hMAY⟩ : ∃ x, m.may = x := ⟨_, rfl⟩
  rw [hMAY] at HMM
  have HMAY := Lib.hid hMAY
  have HH := Lib.hid h; have HI0 := Lib.hid hI0; have HM := Lib.hid hm; have HF0 := Lib.hid hF0; have HN0 := Lib.hid hn0
  rw [hmay] at hMAY
  subst hMAY
  have HNO : Hid (¬ (m.may = true ∧ 0 ≤ fr ∧ fr < n)) := Lib.hid (fun e => by rw [hmay] at e; cases e.1)
  clear hmay HMAY
  clear h hm hI0 hF0 hR hmo
  obtain ⟨kd, od, l, its, ⟨c, nn, k, o, rr, t, mm, g, al, ai⟩, ⟨yc, yn, ycd, ym⟩⟩ := m
  (try dsimp only at hk)
  obtain ⟨pl, cl, hsl⟩ : ∃ a c, l = .slice a its.length c := HM.out.l.sl
  obtain ⟨pa, ca, hsa⟩ : ∃ a c, al = .slice a ai.length c := HM.out.a.l.sl
  subst hsl
  subst hsa
  obtain ⟨N, hN⟩ : ∃ x, its.length = x := ⟨_, rfl⟩
  obtain ⟨M, hM⟩ : ∃ x, ai.length = x := ⟨_, rfl⟩
  dsimp only [MV.cs] at HI0 hW0 HMM ⊢
  rw [hN, hM] at HI0 hW0 HMM HM HR ⊢
  have HN := Lib.hid hN; have HMl := Lib.hid hM
  clear hN hM
  have x0 := cell_obj (HI0.out.bx _ (.head _)).1 0 (.int .i64 kd) rfl
  have x1 := cell_obj (HI0.out.bx _ (.head _)).1 1 (.int .i64 od) rfl
  have x2 := cell_obj (HI0.out.bx _ (.head _)).1 2 (.slice pl N cl) rfl
  have x3 := cell_obj (HI0.out.bx _ (.head _)).1 3 (.int .i64 c) rfl
  have x4 := cell_obj (HI0.out.bx _ (.head _)).1 4 (.int .i64 nn) rfl
  have x5 := cell_obj (HI0.out.bx _ (.head _)).1 5 (.int .i64 k) rfl
  have x6 := cell_obj (HI0.out.bx _ (.head _)).1 6 (.int .i64 o) rfl
  have x7 := cell_obj (HI0.out.bx _ (.head _)).1 7 (.int .i64 rr) rfl
  have x8 := cell_obj (HI0.out.bx _ (.head _)).1 8 (.int .i64 t) rfl
  have x9 := cell_obj (HI0.out.bx _ (.head _)).1 9 (.int .i64 mm) rfl
  have x10 := cell_obj (HI0.out.bx _ (.head _)).1 10 (vS g) rfl
  have x11 := cell_obj (HI0.out.bx _ (.head _)).1 11 (.slice pa M ca) rfl
  have x12 := cell_obj (HI0.out.bx _ (.head _)).1 12 (.int .i64 yc) rfl
  have x13 := cell_obj (HI0.out.bx _ (.head _)).1 13 (.int .i64 yn) rfl
  have x14 := cell_obj (HI0.out.bx _ (.head _)).1 14 (.int .i64 ycd) rfl
  have x15 := cell_obj (HI0.out.bx _ (.head _)).1 15 (.int .i64 ym) rfl
  have y0 := cell_obj (HI0.out.bx _ (.tail _ (.head _))).1 0 (.int .i64 fr) rfl
  have c1 := HI0.out.rb.cells.2.1
  have p0 := FrW.cell x0
  have p1 := FrW.cell x1
  have p2 := FrW.cell x2
  have p3 := FrW.cell x3
  have p4 := FrW.cell x4
  have p5 := FrW.cell x5
  have p6 := FrW.cell x6
  have p7 := FrW.cell x7
  have p8 := FrW.cell x8
  have p9 := FrW.cell x9
  have p10 := FrW.cell x10
  have p11 := FrW.cell x11
  have p12 := FrW.cell x12
  have p13 := FrW.cell x13
  have p14 := FrW.cell x14
  have p15 := FrW.cell x15
  have py := FrW.cell y0
  have pc1 := FrW.cell c1
  go_enter Tryz.func9, Tryz.ntmps9
  (try rw [hW0])
  go_upto_region 1 with (fail)
  (try rw [hW0])
  refine wp_region_fr (by kernel_rfl) (by kernel_rfl) ?_
  repeat (go_big_quiet_step ((go_at_call 22; rename_i X; refine (HMM.out X.val (HF0.out.trans X.fr)).mono ?_; rintro e w2 ⟨rfl, hF⟩; exact ⟨rfl, ⟨w2, X.fr.trans hF⟩, rfl⟩)))
  refine wpQuiet_nil ?_
  rintro V ⟨⟨_, hV⟩, rfl⟩
  have HIV := Lib.hid (HI0.out.keep0 hV)
  clear p0 p1 p2 p3 p4 p5 p6 p7 p8 p9 p10 p11 p12 p13 p14 p15 py pc1 hW0 c1 y0 x0 x1 x2 x3 x4 x5 x6 x7 x8 x9 x10 x11 x12 x13 x14 x15 hV
  go_wp2_with fail
  go_ret
  exact ⟨.slice none 0 0, _, [], S, rfl, by rw [← HR.out, mailR_no (by first | exact HNO.out | (have := HNO.out; rw [HN.out, HMl.out] at this; exact this))]; exact HIV.out.rb.rg, by rw [← HR.out, mailR_no (by first | exact HNO.out | (have := HNO.out; rw [HN.out, HMl.out] at this; exact this))], Pst.nil, by rw [← HR.out, mailR_no (by first | exact HNO.out | (have := HNO.out; rw [HN.out, HMl.out] at this; exact this))]; rfl, HIV.out.st⟩
set_option maxRecDepth 100000 in
set_option maxHeartbeats 32000000 in
theorem gMail_no2 (w : World) (r : Nat) (TS : Nat → Prop) (me n : Int) (A : Stk) (le : Hes) (ws : List (Int × WE)) (S : List (Value × Its)) (m : MV) (fr : Int) (h : RG w r TS me n A le ws S) (hm : MOk w m) (hmo : ∀ b, m.own b → ¬ TS b) (hfr : okI fr) (hmay : m.may = true) (h0 : fr < 0) :
    Calls Tryz.prog 9 #[.pointer (some ⟨r, 0, none⟩), .agg m.cs, .int .i64 fr] w (MaP w r TS me n (mailR me n ⟨A, le, ws, S.map (·.2)⟩ m fr)) := by
  have hrb := h.rb
  clear h
  obtain ⟨gs, gm, T0, T1, vk, h, rfl⟩ := hrb
  obtain ⟨R, hR⟩ : ∃ R, mailR me n ⟨A, le, ws, S.map (·.2)⟩ m fr = R := ⟨_, rfl⟩
  rw [hR]
  have HR := Lib.hid hR
  have HMM : Hid (∀ W, Fr (fun _ => False) w W → Calls Tryz.prog 22 #[.agg m.cs] W fun e w' => e = .returned (.bool m.may) ∧ Fr (fun _ => False) W w') := Lib.hid (fun W hf => mMay W m (hm.keep hf (fun _ _ e => e)))
  obtain ⟨n0, hn0⟩ : ∃ n0, w.heap.size = n0 := ⟨_, rfl⟩
  obtain ⟨W0, hW0⟩ : ∃ W0, (w.alloc (.cells m.cs 36)).alloc (.cells #[.int .i64 fr] 3) = W0 := ⟨_, rfl⟩
  obtain ⟨hI0, -, hF0⟩ := mail_start h hm hmo hn0 hW0
  obtain ⟨MAY, hMAY⟩ : ∃ x, m.may = x := ⟨_, rfl⟩
  rw [hMAY] at HMM
  have HMAY := Lib.hid hMAY
  have HH := Lib.hid h; have HI0 := Lib.hid hI0; have HM := Lib.hid hm; have HF0 := Lib.hid hF0; have HN0 := Lib.hid hn0
  rw [hmay] at hMAY
  subst hMAY
  have HNO : Hid (¬ (m.may = true ∧ 0 ≤ fr ∧ fr < n)) := Lib.hid (fun e => by have := e.2.1; omega)
  have q2 : decide (fr < 0) = true := by simpa using h0
  clear hmay HMAY h0
  clear h hm hI0 hF0 hR hmo
  obtain ⟨kd, od, l, its, ⟨c, nn, k, o, rr, t, mm, g, al, ai⟩, ⟨yc, yn, ycd, ym⟩⟩ := m
  (try dsimp only at hk)
  obtain ⟨pl, cl, hsl⟩ : ∃ a c, l = .slice a its.length c := HM.out.l.sl
  obtain ⟨pa, ca, hsa⟩ : ∃ a c, al = .slice a ai.length c := HM.out.a.l.sl
  subst hsl
  subst hsa
  obtain ⟨N, hN⟩ : ∃ x, its.length = x := ⟨_, rfl⟩
  obtain ⟨M, hM⟩ : ∃ x, ai.length = x := ⟨_, rfl⟩
  dsimp only [MV.cs] at HI0 hW0 HMM ⊢
  rw [hN, hM] at HI0 hW0 HMM HM HR ⊢
  have HN := Lib.hid hN; have HMl := Lib.hid hM
  clear hN hM
  have x0 := cell_obj (HI0.out.bx _ (.head _)).1 0 (.int .i64 kd) rfl
  have x1 := cell_obj (HI0.out.bx _ (.head _)).1 1 (.int .i64 od) rfl
  have x2 := cell_obj (HI0.out.bx _ (.head _)).1 2 (.slice pl N cl) rfl
  have x3 := cell_obj (HI0.out.bx _ (.head _)).1 3 (.int .i64 c) rfl
  have x4 := cell_obj (HI0.out.bx _ (.head _)).1 4 (.int .i64 nn) rfl
  have x5 := cell_obj (HI0.out.bx _ (.head _)).1 5 (.int .i64 k) rfl
  have x6 := cell_obj (HI0.out.bx _ (.head _)).1 6 (.int .i64 o) rfl
  have x7 := cell_obj (HI0.out.bx _ (.head _)).1 7 (.int .i64 rr) rfl
  have x8 := cell_obj (HI0.out.bx _ (.head _)).1 8 (.int .i64 t) rfl
  have x9 := cell_obj (HI0.out.bx _ (.head _)).1 9 (.int .i64 mm) rfl
  have x10 := cell_obj (HI0.out.bx _ (.head _)).1 10 (vS g) rfl
  have x11 := cell_obj (HI0.out.bx _ (.head _)).1 11 (.slice pa M ca) rfl
  have x12 := cell_obj (HI0.out.bx _ (.head _)).1 12 (.int .i64 yc) rfl
  have x13 := cell_obj (HI0.out.bx _ (.head _)).1 13 (.int .i64 yn) rfl
  have x14 := cell_obj (HI0.out.bx _ (.head _)).1 14 (.int .i64 ycd) rfl
  have x15 := cell_obj (HI0.out.bx _ (.head _)).1 15 (.int .i64 ym) rfl
  have y0 := cell_obj (HI0.out.bx _ (.tail _ (.head _))).1 0 (.int .i64 fr) rfl
  have c1 := HI0.out.rb.cells.2.1
  have p0 := FrW.cell x0
  have p1 := FrW.cell x1
  have p2 := FrW.cell x2
  have p3 := FrW.cell x3
  have p4 := FrW.cell x4
  have p5 := FrW.cell x5
  have p6 := FrW.cell x6
  have p7 := FrW.cell x7
  have p8 := FrW.cell x8
  have p9 := FrW.cell x9
  have p10 := FrW.cell x10
  have p11 := FrW.cell x11
  have p12 := FrW.cell x12
  have p13 := FrW.cell x13
  have p14 := FrW.cell x14
  have p15 := FrW.cell x15
  have py := FrW.cell y0
  have pc1 := FrW.cell c1
  go_enter Tryz.func9, Tryz.ntmps9
  (try rw [hW0])
  go_upto_region 1 with (fail)
  (try rw [hW0])
  refine wp_region_fr (by kernel_rfl) (by kernel_rfl) ?_
  repeat (go_big_quiet_step ((go_at_call 22; rename_i X; refine (HMM.out X.val (HF0.out.trans X.fr)).mono ?_; rintro e w2 ⟨rfl, hF⟩; exact ⟨rfl, ⟨w2, X.fr.trans hF⟩, rfl⟩)))
  refine wpQuiet_nil ?_
  rintro V ⟨⟨_, hV⟩, rfl⟩
  have HIV := Lib.hid (HI0.out.keep0 hV)
  clear p0 p1 p2 p3 p4 p5 p6 p7 p8 p9 p10 p11 p12 p13 p14 p15 py pc1 hW0 c1 y0 x0 x1 x2 x3 x4 x5 x6 x7 x8 x9 x10 x11 x12 x13 x14 x15 hV
  go_wp2_with fail
  go_ret
  exact ⟨.slice none 0 0, _, [], S, rfl, by rw [← HR.out, mailR_no (by first | exact HNO.out | (have := HNO.out; rw [HN.out, HMl.out] at this; exact this))]; exact HIV.out.rb.rg, by rw [← HR.out, mailR_no (by first | exact HNO.out | (have := HNO.out; rw [HN.out, HMl.out] at this; exact this))], Pst.nil, by rw [← HR.out, mailR_no (by first | exact HNO.out | (have := HNO.out; rw [HN.out, HMl.out] at this; exact this))]; rfl, HIV.out.st⟩
set_option maxRecDepth 100000 in
set_option maxHeartbeats 32000000 in
theorem gMail_no3 (w : World) (r : Nat) (TS : Nat → Prop) (me n : Int) (A : Stk) (le : Hes) (ws : List (Int × WE)) (S : List (Value × Its)) (m : MV) (fr : Int) (h : RG w r TS me n A le ws S) (hm : MOk w m) (hmo : ∀ b, m.own b → ¬ TS b) (hfr : okI fr) (hmay : m.may = true) (h0 : 0 ≤ fr) (h1 : n ≤ fr) :
    Calls Tryz.prog 9 #[.pointer (some ⟨r, 0, none⟩), .agg m.cs, .int .i64 fr] w (MaP w r TS me n (mailR me n ⟨A, le, ws, S.map (·.2)⟩ m fr)) := by
  have hrb := h.rb
  clear h
  obtain ⟨gs, gm, T0, T1, vk, h, rfl⟩ := hrb
  obtain ⟨R, hR⟩ : ∃ R, mailR me n ⟨A, le, ws, S.map (·.2)⟩ m fr = R := ⟨_, rfl⟩
  rw [hR]
  have HR := Lib.hid hR
  have HMM : Hid (∀ W, Fr (fun _ => False) w W → Calls Tryz.prog 22 #[.agg m.cs] W fun e w' => e = .returned (.bool m.may) ∧ Fr (fun _ => False) W w') := Lib.hid (fun W hf => mMay W m (hm.keep hf (fun _ _ e => e)))
  obtain ⟨n0, hn0⟩ : ∃ n0, w.heap.size = n0 := ⟨_, rfl⟩
  obtain ⟨W0, hW0⟩ : ∃ W0, (w.alloc (.cells m.cs 36)).alloc (.cells #[.int .i64 fr] 3) = W0 := ⟨_, rfl⟩
  obtain ⟨hI0, -, hF0⟩ := mail_start h hm hmo hn0 hW0
  obtain ⟨MAY, hMAY⟩ : ∃ x, m.may = x := ⟨_, rfl⟩
  rw [hMAY] at HMM
  have HMAY := Lib.hid hMAY
  have HH := Lib.hid h; have HI0 := Lib.hid hI0; have HM := Lib.hid hm; have HF0 := Lib.hid hF0; have HN0 := Lib.hid hn0
  rw [hmay] at hMAY
  subst hMAY
  have HNO : Hid (¬ (m.may = true ∧ 0 ≤ fr ∧ fr < n)) := Lib.hid (fun e => by have := e.2.2; omega)
  have q2 : decide (fr < 0) = false := by simpa using h0
  have q3 : decide (n ≤ fr) = true := by simpa using h1
  clear hmay HMAY h0 h1
  clear h hm hI0 hF0 hR hmo
  obtain ⟨kd, od, l, its, ⟨c, nn, k, o, rr, t, mm, g, al, ai⟩, ⟨yc, yn, ycd, ym⟩⟩ := m
  (try dsimp only at hk)
  obtain ⟨pl, cl, hsl⟩ : ∃ a c, l = .slice a its.length c := HM.out.l.sl
  obtain ⟨pa, ca, hsa⟩ : ∃ a c, al = .slice a ai.length c := HM.out.a.l.sl
  subst hsl
  subst hsa
  obtain ⟨N, hN⟩ : ∃ x, its.length = x := ⟨_, rfl⟩
  obtain ⟨M, hM⟩ : ∃ x, ai.length = x := ⟨_, rfl⟩
  dsimp only [MV.cs] at HI0 hW0 HMM ⊢
  rw [hN, hM] at HI0 hW0 HMM HM HR ⊢
  have HN := Lib.hid hN; have HMl := Lib.hid hM
  clear hN hM
  have x0 := cell_obj (HI0.out.bx _ (.head _)).1 0 (.int .i64 kd) rfl
  have x1 := cell_obj (HI0.out.bx _ (.head _)).1 1 (.int .i64 od) rfl
  have x2 := cell_obj (HI0.out.bx _ (.head _)).1 2 (.slice pl N cl) rfl
  have x3 := cell_obj (HI0.out.bx _ (.head _)).1 3 (.int .i64 c) rfl
  have x4 := cell_obj (HI0.out.bx _ (.head _)).1 4 (.int .i64 nn) rfl
  have x5 := cell_obj (HI0.out.bx _ (.head _)).1 5 (.int .i64 k) rfl
  have x6 := cell_obj (HI0.out.bx _ (.head _)).1 6 (.int .i64 o) rfl
  have x7 := cell_obj (HI0.out.bx _ (.head _)).1 7 (.int .i64 rr) rfl
  have x8 := cell_obj (HI0.out.bx _ (.head _)).1 8 (.int .i64 t) rfl
  have x9 := cell_obj (HI0.out.bx _ (.head _)).1 9 (.int .i64 mm) rfl
  have x10 := cell_obj (HI0.out.bx _ (.head _)).1 10 (vS g) rfl
  have x11 := cell_obj (HI0.out.bx _ (.head _)).1 11 (.slice pa M ca) rfl
  have x12 := cell_obj (HI0.out.bx _ (.head _)).1 12 (.int .i64 yc) rfl
  have x13 := cell_obj (HI0.out.bx _ (.head _)).1 13 (.int .i64 yn) rfl
  have x14 := cell_obj (HI0.out.bx _ (.head _)).1 14 (.int .i64 ycd) rfl
  have x15 := cell_obj (HI0.out.bx _ (.head _)).1 15 (.int .i64 ym) rfl
  have y0 := cell_obj (HI0.out.bx _ (.tail _ (.head _))).1 0 (.int .i64 fr) rfl
  have c1 := HI0.out.rb.cells.2.1
  have p0 := FrW.cell x0
  have p1 := FrW.cell x1
  have p2 := FrW.cell x2
  have p3 := FrW.cell x3
  have p4 := FrW.cell x4
  have p5 := FrW.cell x5
  have p6 := FrW.cell x6
  have p7 := FrW.cell x7
  have p8 := FrW.cell x8
  have p9 := FrW.cell x9
  have p10 := FrW.cell x10
  have p11 := FrW.cell x11
  have p12 := FrW.cell x12
  have p13 := FrW.cell x13
  have p14 := FrW.cell x14
  have p15 := FrW.cell x15
  have py := FrW.cell y0
  have pc1 := FrW.cell c1
  go_enter Tryz.func9, Tryz.ntmps9
  (try rw [hW0])
  go_upto_region 1 with (fail)
  (try rw [hW0])
  refine wp_region_fr (by kernel_rfl) (by kernel_rfl) ?_
  repeat (go_big_quiet_step ((go_at_call 22; rename_i X; refine (HMM.out X.val (HF0.out.trans X.fr)).mono ?_; rintro e w2 ⟨rfl, hF⟩; exact ⟨rfl, ⟨w2, X.fr.trans hF⟩, rfl⟩)))
  refine wpQuiet_nil ?_
  rintro V ⟨⟨_, hV⟩, rfl⟩
  have HIV := Lib.hid (HI0.out.keep0 hV)
  clear p0 p1 p2 p3 p4 p5 p6 p7 p8 p9 p10 p11 p12 p13 p14 p15 py pc1 hW0 c1 y0 x0 x1 x2 x3 x4 x5 x6 x7 x8 x9 x10 x11 x12 x13 x14 x15 hV
  go_wp2_with fail
  go_ret
  exact ⟨.slice none 0 0, _, [], S, rfl, by rw [← HR.out, mailR_no (by first | exact HNO.out | (have := HNO.out; rw [HN.out, HMl.out] at this; exact this))]; exact HIV.out.rb.rg, by rw [← HR.out, mailR_no (by first | exact HNO.out | (have := HNO.out; rw [HN.out, HMl.out] at this; exact this))], Pst.nil, by rw [← HR.out, mailR_no (by first | exact HNO.out | (have := HNO.out; rw [HN.out, HMl.out] at this; exact this))]; rfl, HIV.out.st⟩
set_option maxRecDepth 100000 in
set_option maxHeartbeats 32000000 in
theorem gMail_else (w : World) (r : Nat) (TS : Nat → Prop) (me n : Int) (A : Stk) (le : Hes) (ws : List (Int × WE)) (S : List (Value × Its)) (m : MV) (fr : Int) (h : RG w r TS me n A le ws S) (hm : MOk w m) (hmo : ∀ b, m.own b → ¬ TS b) (hfr : okI fr) (hmay : m.may = true) (h0 : 0 ≤ fr) (h1 : fr < n) (hk : m.kd ≠ 3 ∧ m.kd ≠ 5 ∧ m.kd ≠ 7 ∧ m.kd ≠ 9 ∧ m.kd ≠ 11 ∧ m.kd ≠ 13) :
    Calls Tryz.prog 9 #[.pointer (some ⟨r, 0, none⟩), .agg m.cs, .int .i64 fr] w (MaP w r TS me n (mailR me n ⟨A, le, ws, S.map (·.2)⟩ m fr)) := by
  have hrb := h.rb
  clear h
  obtain ⟨gs, gm, T0, T1, vk, h, rfl⟩ := hrb
  obtain ⟨R, hR⟩ : ∃ R, mailR me n ⟨A, le, ws, S.map (·.2)⟩ m fr = R := ⟨_, rfl⟩
  rw [hR]
  have HR := Lib.hid hR
  have HMM : Hid (∀ W, Fr (fun _ => False) w W → Calls Tryz.prog 22 #[.agg m.cs] W fun e w' => e = .returned (.bool m.may) ∧ Fr (fun _ => False) W w') := Lib.hid (fun W hf => mMay W m (hm.keep hf (fun _ _ e => e)))
  obtain ⟨n0, hn0⟩ : ∃ n0, w.heap.size = n0 := ⟨_, rfl⟩
  obtain ⟨W0, hW0⟩ : ∃ W0, (w.alloc (.cells m.cs 36)).alloc (.cells #[.int .i64 fr] 3) = W0 := ⟨_, rfl⟩
  obtain ⟨hI0, -, hF0⟩ := mail_start h hm hmo hn0 hW0
  obtain ⟨MAY, hMAY⟩ : ∃ x, m.may = x := ⟨_, rfl⟩
  rw [hMAY] at HMM
  have HMAY := Lib.hid hMAY
  have HH := Lib.hid h; have HI0 := Lib.hid hI0; have HM := Lib.hid hm; have HF0 := Lib.hid hF0; have HN0 := Lib.hid hn0
  rw [hmay] at hMAY
  subst hMAY
  have q2 : decide (fr < 0) = false := by simpa using h0
  have q3 : decide (n ≤ fr) = false := by simpa using h1
  have HQ0 := Lib.hid h0; have HQ1 := Lib.hid h1; have HMY := Lib.hid hmay
  clear h0 h1 hmay HMAY
  clear h hm hI0 hF0 hR hmo
  obtain ⟨kd, od, l, its, ⟨c, nn, k, o, rr, t, mm, g, al, ai⟩, ⟨yc, yn, ycd, ym⟩⟩ := m
  dsimp only at hk
  have HKS := Lib.hid hk
  have b3 : (kd == 3) = false := by simpa using hk.1
  have b5 : (kd == 5) = false := by simpa using hk.2.1
  have b7 : (kd == 7) = false := by simpa using hk.2.2.1
  have b9 : (kd == 9) = false := by simpa using hk.2.2.2.1
  have b11 : (kd == 11) = false := by simpa using hk.2.2.2.2.1
  have b13 : (kd == 13) = false := by simpa using hk.2.2.2.2.2
  clear hk
  obtain ⟨pl, cl, hsl⟩ : ∃ a c, l = .slice a its.length c := HM.out.l.sl
  obtain ⟨pa, ca, hsa⟩ : ∃ a c, al = .slice a ai.length c := HM.out.a.l.sl
  subst hsl
  subst hsa
  obtain ⟨N, hN⟩ : ∃ x, its.length = x := ⟨_, rfl⟩
  obtain ⟨M, hM⟩ : ∃ x, ai.length = x := ⟨_, rfl⟩
  dsimp only [MV.cs] at HI0 hW0 HMM ⊢
  rw [hN, hM] at HI0 hW0 HMM HM HR HMY ⊢
  have HN := Lib.hid hN; have HMl := Lib.hid hM
  clear hN hM
  have x0 := cell_obj (HI0.out.bx _ (.head _)).1 0 (.int .i64 kd) rfl
  have x1 := cell_obj (HI0.out.bx _ (.head _)).1 1 (.int .i64 od) rfl
  have x2 := cell_obj (HI0.out.bx _ (.head _)).1 2 (.slice pl N cl) rfl
  have x3 := cell_obj (HI0.out.bx _ (.head _)).1 3 (.int .i64 c) rfl
  have x4 := cell_obj (HI0.out.bx _ (.head _)).1 4 (.int .i64 nn) rfl
  have x5 := cell_obj (HI0.out.bx _ (.head _)).1 5 (.int .i64 k) rfl
  have x6 := cell_obj (HI0.out.bx _ (.head _)).1 6 (.int .i64 o) rfl
  have x7 := cell_obj (HI0.out.bx _ (.head _)).1 7 (.int .i64 rr) rfl
  have x8 := cell_obj (HI0.out.bx _ (.head _)).1 8 (.int .i64 t) rfl
  have x9 := cell_obj (HI0.out.bx _ (.head _)).1 9 (.int .i64 mm) rfl
  have x10 := cell_obj (HI0.out.bx _ (.head _)).1 10 (vS g) rfl
  have x11 := cell_obj (HI0.out.bx _ (.head _)).1 11 (.slice pa M ca) rfl
  have x12 := cell_obj (HI0.out.bx _ (.head _)).1 12 (.int .i64 yc) rfl
  have x13 := cell_obj (HI0.out.bx _ (.head _)).1 13 (.int .i64 yn) rfl
  have x14 := cell_obj (HI0.out.bx _ (.head _)).1 14 (.int .i64 ycd) rfl
  have x15 := cell_obj (HI0.out.bx _ (.head _)).1 15 (.int .i64 ym) rfl
  have y0 := cell_obj (HI0.out.bx _ (.tail _ (.head _))).1 0 (.int .i64 fr) rfl
  have c1 := HI0.out.rb.cells.2.1
  have p0 := FrW.cell x0
  have p1 := FrW.cell x1
  have p2 := FrW.cell x2
  have p3 := FrW.cell x3
  have p4 := FrW.cell x4
  have p5 := FrW.cell x5
  have p6 := FrW.cell x6
  have p7 := FrW.cell x7
  have p8 := FrW.cell x8
  have p9 := FrW.cell x9
  have p10 := FrW.cell x10
  have p11 := FrW.cell x11
  have p12 := FrW.cell x12
  have p13 := FrW.cell x13
  have p14 := FrW.cell x14
  have p15 := FrW.cell x15
  have py := FrW.cell y0
  have pc1 := FrW.cell c1
  go_enter Tryz.func9, Tryz.ntmps9
  (try rw [hW0])
  go_upto_region 1 with (fail)
  (try rw [hW0])
  refine wp_region_fr (by kernel_rfl) (by kernel_rfl) ?_
  repeat (go_big_quiet_step ((go_at_call 22; rename_i X; refine (HMM.out X.val (HF0.out.trans X.fr)).mono ?_; rintro e w2 ⟨rfl, hF⟩; exact ⟨rfl, ⟨w2, X.fr.trans hF⟩, rfl⟩)))
  refine wpQuiet_nil ?_
  rintro V ⟨⟨_, hV⟩, rfl⟩
  have HIV := Lib.hid (HI0.out.keep0 hV)
  have HFV := Lib.hid (HF0.out.trans hV)
  clear p0 p1 p2 p3 p4 p5 p6 p7 p8 p9 p10 p11 p12 p13 p14 p15 py pc1 hW0 c1 y0 x0 x1 x2 x3 x4 x5 x6 x7 x8 x9 x10 x11 x12 x13 x14 x15 hV
  have x0 := cell_obj (HIV.out.bx _ (.head _)).1 0 (.int .i64 kd) rfl
  have x1 := cell_obj (HIV.out.bx _ (.head _)).1 1 (.int .i64 od) rfl
  have HAN := Lib.hid (fun W => mAns W kd)
  obtain ⟨ak, hak⟩ : ∃ x, ansF kd = x := ⟨_, rfl⟩
  rw [hak] at HAN
  have HAK := Lib.hid hak
  clear hak
  go_upto_region 3 with (fail)
  refine wp_region_box [⟨6, 7, 36, #[.int .i64 0, .int .i64 0, .slice none 0 0, .int .i64 0, .int .i64 0, .int .i64 0, .int .i64 0, .int .i64 0, .int .i64 0, .int .i64 0, .string ⟨#[]⟩, .slice none 0 0, .int .i64 0, .int .i64 0, .int .i64 0, .int .i64 0], 7, 35⟩] (by kernel_rfl) rfl (by kernel_rfl) (by kernel_rfl) (by kernel_rfl) ?al ?_
  case al =>
    intro b hb w
    simp only [List.mem_cons, List.not_mem_nil, or_false] at hb
    subst hb
    kernel_rfl
  apply Exists.intro
  refine ⟨?hh, ?st, ?qq⟩
  case hh =>
    intro X
    have q0 := FrW.cell (X.fr.cell x0 (fun e => e)); have q1 := FrW.cell (X.fr.cell x1 (fun e => e))
    simp (config := { decide := true }) only [boxedF, bxIdx, List.flatMap_cons, List.flatMap_nil, List.cons_append, List.nil_append, idleU, if_true, if_false, ite_true, ite_false]
    repeat (go_big_quiet_step ((go_at_call 23; rename_i Y; refine (HAN.out Y.val).mono ?_; rintro e w2 ⟨rfl, rfl⟩; exact ⟨rfl, Y, rfl⟩)))
    exact wpQuiet_nil rfl
  case st =>
    intro b hb w n hw
    simp only [List.mem_cons, List.not_mem_nil, or_false] at hb
    subst hb
    exact box_store (cs := #[.int .i64 ak, .int .i64 od, .slice none 0 0, .int .i64 0, .int .i64 0, .int .i64 0, .int .i64 0, .int .i64 0, .int .i64 0, .int .i64 0, .string ⟨#[]⟩, .slice none 0 0, .int .i64 0, .int .i64 0, .int .i64 0, .int .i64 0]) hw rfl (by kernel_rfl) (by intro u hu; simp only [List.mem_cons, List.not_mem_nil, or_false] at hu; rcases hu with h | h | h | h | h | h | h | h | h | h | h | h | h | h | h | h <;> (subst h; rfl))
  intro mf wz hfz hbx hdiff
  have hbk : wz.heap[mf 6]? = some (.cells #[.int .i64 ak, .int .i64 od, .slice none 0 0, .int .i64 0, .int .i64 0, .int .i64 0, .int .i64 0, .int .i64 0, .int .i64 0, .int .i64 0, .string ⟨#[]⟩, .slice none 0 0, .int .i64 0, .int .i64 0, .int .i64 0, .int .i64 0] 36) := (hbx _ (List.mem_cons_self)).2
  have hbs : V.heap.size ≤ mf 6 := (hbx _ (List.mem_cons_self)).1
  obtain ⟨bk, hbke⟩ : ∃ b, mf 6 = b := ⟨_, rfl⟩
  rw [hbke] at hbk hbs
  have HI1 := Lib.hid (HIV.out.box hfz hbk hbs)
  have HFZ := Lib.hid (HFV.out.trans hfz)
  have HNE : Hid (∀ q ∈ [(n0, (#[.int .i64 kd, .int .i64 od, .slice pl N cl, .int .i64 c, .int .i64 nn, .int .i64 k, .int .i64 o, .int .i64 rr, .int .i64 t, .int .i64 mm, vS g, .slice pa M ca, .int .i64 yc, .int .i64 yn, .int .i64 ycd, .int .i64 ym] : Array Value), 36), (n0 + 1, #[.int .i64 fr], 3)], bk ≠ q.1) := Lib.hid (fun q hq => by
    have h1 := (Array.getElem?_eq_some_iff.1 (HIV.out.bx q hq).1).1
    omega)
  simp only [bPuts, List.foldl_cons, List.foldl_nil, Act.put, bPtr, hbke]
  clear hbx hdiff hfz hbk hbs x0 x1 hbke
  simp only [List.setIfInBounds_toArray, List.set_cons_succ, List.set_cons_zero]
  have x0 := cell_obj (HI1.out.bx _ (.tail _ (.head _))).1 0 (.int .i64 kd) rfl
  have x1 := cell_obj (HI1.out.bx _ (.tail _ (.head _))).1 1 (.int .i64 od) rfl
  obtain ⟨-, c2, -⟩ := HI1.out.cells
  have HFC := Lib.hid (gFree wz r gs gm T0 T1 vk me n A le ws S HI1.out.rb)
  go_wp2_with (go_at_call 29; refine HFC.out.mono ?_; rintro e w2 ⟨mq, rfl, h1, h2, h3⟩; have hi2 := HI1.out.keep0 h3; have x0 := cell_obj (hi2.bx _ (.tail _ (.head _))).1 0 (.int .i64 kd) rfl; have HI2 := Lib.hid hi2; have HMP := Lib.hid h2; have HMS := Lib.hid h1; have HF2 := Lib.hid (HFZ.out.trans h3); clear h1 h2 h3 hi2)
  go_ret
  exact ⟨.slice none 0 0, _, [], S, rfl, by rw [← HR.out, mailR_else HMY.out HQ0.out HQ1.out HKS.out]; exact HI2.out.rb.rg, by rw [← HR.out, mailR_else HMY.out HQ0.out HQ1.out HKS.out], Pst.nil, by rw [← HR.out, mailR_else HMY.out HQ0.out HQ1.out HKS.out]; rfl, HI2.out.st⟩
/-- Mail, whatever it is. -/
theorem gMail (w : World) (r : Nat) (TS : Nat → Prop) (me n : Int) (A : Stk) (le : Hes) (ws : List (Int × WE)) (S : List (Value × Its)) (m : MV) (fr : Int) (h : RG w r TS me n A le ws S) (hm : MOk w m) (hmo : ∀ b, m.own b → ¬ TS b) (hfr : okI fr) (hws : ws.length ≤ 256) (hSl : S.length ≤ 99999) (hn8 : n ≤ 8) :
    Calls Tryz.prog 9 #[.pointer (some ⟨r, 0, none⟩), .agg m.cs, .int .i64 fr] w (MaP w r TS me n (mailR me n ⟨A, le, ws, S.map (·.2)⟩ m fr)) := by
  cases hmay : m.may with
  | false => exact gMail_no1 w r TS me n A le ws S m fr h hm hmo hfr hmay
  | true =>
    by_cases h0 : 0 ≤ fr
    · by_cases h1 : fr < n
      · by_cases k3 : m.kd = 3
        · exact gMail_take w r TS me n A le ws S m fr h hm hmo hfr hmay h0 h1 k3
        by_cases k5 : m.kd = 5
        · exact gMail_free w r TS me n A le ws S m fr h hm hmo hfr hmay h0 h1 k5
        by_cases k7 : m.kd = 7
        · exact gMail_pick w r TS me n A le ws S m fr h hm hmo hfr hmay h0 h1 k7
        by_cases k9 : m.kd = 9
        · exact gMail_ship w r TS me n A le ws S m fr h hm hmo hfr hmay h0 h1 k9
        by_cases k11 : m.kd = 11
        · exact gMail_do w r TS me n A le ws S m fr h hm hmo hfr hws hSl hn8 hmay h0 h1 k11
        by_cases k13 : m.kd = 13
        · exact gMail_goods w r TS me n A le ws S m fr h hm hmo hfr hws hSl hn8 hmay h0 h1 k13
        exact gMail_else w r TS me n A le ws S m fr h hm hmo hfr hmay h0 h1 ⟨k3, k5, k7, k9, k11, k13⟩
      · exact gMail_no3 w r TS me n A le ws S m fr h hm hmo hfr hmay h0 (by omega)
    · exact gMail_no2 w r TS me n A le ws S m fr h hm hmo hfr hmay (by omega)
end Go.Proofs.YtmflpeklalgibaaGreat

namespace Go.Proofs.YtmflpeklalgibaaGreat
open Go.RowKit Go.Maps
theorem gOrders (p : Option Addr) (w : World) : Calls Tryz.prog 13 #[.pointer p] w fun e w' =>
    e = .returned (.func (.func 35) #[] #[.pointer (some ⟨w.heap.size, 0, none⟩)]) ∧ w' = w.alloc (.cells #[.pointer p] 24) := by
  go_enter Tryz.func13, Tryz.ntmps13
  go_wp2
  go_ret
  exact ⟨rfl, rfl⟩
/-- A region of a law's own. -/
structure LvR (w W : World) (r : Nat) (TS : Nat → Prop) (me n : Int) (x : RSt) : Prop where
  ex : ∃ S, RG W r TS me n x.A x.le x.ws S ∧ S.map (·.2) = x.S
  lo : ∀ b, TS b → w.heap.size ≤ b
  fr : Fr (fun _ => False) w W
section
variable {w W W' : World} {r : Nat} {TS : Nat → Prop} {me n : Int} {x : RSt}
theorem LvR.keep (h : LvR w W r TS me n x) (hf : Fr (fun _ => False) W W') : LvR w W' r TS me n x := by
  obtain ⟨S, h1, h2⟩ := h.ex
  exact ⟨⟨S, h1.keep hf (fun _ _ e => e) (fun _ _ _ _ _ e => e), h2⟩, h.lo, h.fr.trans hf⟩
theorem LvR.lt (h : LvR w W r TS me n x) : ∀ b, TS b → b < W.heap.size := by
  obtain ⟨S, h1, h2⟩ := h.ex
  exact h1.lt
theorem LvR.ok (h : LvR w W r TS me n x) : ShOk x.A x.le := by
  obtain ⟨S, h1, h2⟩ := h.ex
  obtain ⟨gs, gm, T0, T1, vk, h, -⟩ := h1.rb
  exact h.ok
/-- Mail to it. -/
theorem LvR.mail (h : LvR w W r TS me n x) {m : MV} {fr : Int} (hm : MOk W m) (hmo : ∀ b, m.own b → ¬ TS b) (hfr : okI fr) (hws : x.ws.length ≤ 256) (hS : x.S.length ≤ 99999) (hn8 : n ≤ 8) :
    Calls Tryz.prog 9 #[.pointer (some ⟨r, 0, none⟩), .agg m.cs, .int .i64 fr] W fun e w' => ∃ v TS' L, e = .returned v ∧ LvR w w' r TS' me n (mailR me n x m fr).2 ∧ Pst w' W.heap.size v L TS' ∧ L.map nfP = (mailR me n x m fr).1 ∧ Stp TS W w' TS' := by
  obtain ⟨S, h1, h2⟩ := h.ex
  have hx : (⟨x.A, x.le, x.ws, S.map (·.2)⟩ : RSt) = x := by rw [h2]
  refine (gMail W r TS me n x.A x.le x.ws S m fr h1 hm hmo hfr hws (by rw [← h2, List.length_map] at hS; exact hS) hn8).mono ?_
  rintro e w' ⟨v, TS', L, S', rfl, q1, q2, q3, q4, q5⟩
  rw [hx] at q1 q2 q4
  exact ⟨v, TS', L, rfl, ⟨⟨S', q1, q2⟩, fun b hb => (q5.2 b hb).elim (h.lo b) (fun e => Nat.le_trans h.fr.size e), h.fr.trans' q5.1 (fun b hb e => by have := h.lo b e; omega)⟩, q3, q4, q5⟩
end
theorem Pst.at0 {W : World} {base : Nat} {v : Value} {L : List (Int × MV)} {TS : Nat → Prop} {p : Int × MV} (h : Pst W base v (p :: L) TS) : ∃ g c, v = .slice (some ⟨g, 0, none⟩) (L.length + 1) c ∧ ∀ (j : Nat) (u : Value), (pcs p)[j]? = some u → W.cell? ⟨g, j, none⟩ = some u := by
  rcases h.row.2 with ⟨-, h0⟩ | ⟨g, cap, cur, rfl, hbase, hb, hn, hm, hs, ht⟩
  · cases h0
  · refine ⟨g, cap, rfl, fun j u hu => ?_⟩
    have hj := (Array.getElem?_eq_some_iff.1 hu).1
    have h17 : (pcs p).size = 17 := rfl
    have h2 := h.row.cellAt (g := g) (j := j) (by rw [List.length_cons]; omega)
    rw [h2]
    have := flat_at (cs := pcs) (k := 17) (fun _ => rfl) (L := p :: L) (i := 0) (r := p) rfl j u hu
    rwa [Nat.zero_mul, Nat.zero_add] at this
end Go.Proofs.YtmflpeklalgibaaGreat

namespace Go.Proofs.YtmflpeklalgibaaGreat
open Go.RowKit Go.Maps
def rG : Str := [97]
theorem rIl1 {W : World} {b : Nat} {n : Int} (h : W.heap[b]? = some (.cells #[.string ⟨#[97]⟩, .int .i64 n] 45)) (hn : okI n) : Il W (.slice (some ⟨b, 0, none⟩) 1 1) [(rG, n)] := by
  refine ⟨by simp, some ⟨b, 0, none⟩, 1, rfl, fun i p hp => ?_⟩
  match i, hp with
  | 0, hp =>
    cases hp
    exact ⟨by simp [okS, rG, maxLen], hn, _, rfl, cell_obj h 0 _ rfl, cell_obj h 1 _ rfl⟩
def rM1 (b : Nat) : MV := ⟨11, 0, .slice none 0 0, [], ⟨0, 1, 6, 0, 1, 0, 0, [], .slice (some ⟨b, 0, none⟩) 1 1, [(rG, 5)]⟩, yv0⟩
def rM2 (b : Nat) : MV := ⟨3, 65, .slice (some ⟨b, 0, none⟩) 1 1, [(rG, 7)], av0, yv0⟩
def rX0 : RSt := ⟨[], [], [], []⟩
def rA1 : Stk := [(rG, ⟨5, 0, 0, 0, 5, 0, 0, 0, 0, 0, 0⟩)]
def rX1 : RSt := ⟨rA1, [], [], []⟩
def rA2 : Stk := [(rG, ⟨0, 5, 0, 0, 5, 0, 0, 0, 0, 0, 0⟩)]
def rX2 : RSt := ⟨rA2, [(65, ⟨65, [(rG, 5)], [], []⟩)], [], []⟩
theorem rv1 : ∀ b, mailR 1 3 rX0 (rM1 b) 0 = ([(0, doneM ⟨0, 1, 0, 0⟩), (0, newsM), (1, newsM), (2, newsM)], rX1) := by intro b; kernel_rfl
theorem rv2 : ∀ b, mailR 1 3 rX1 (rM2 b) 2 = ([(2, backM 3 65 [(rG, 5)])], rX2) := by intro b; kernel_rfl
theorem rv3 : soundE rX2.A rX2.le = true := by kernel_rfl
theorem rv4 : heOf rX2.le 65 = ⟨65, [(rG, 5)], [], []⟩ := by kernel_rfl
section
variable {w W W' : World} {r : Nat} {TS : Nat → Prop} {me n : Int} {x : RSt}
theorem LvR.shelf (h : LvR w W r TS me n x) : Calls Tryz.prog 10 #[.pointer (some ⟨r, 0, none⟩)] W fun e w' => ∃ g T, e = .returned (.pointer (some ⟨g, 0, none⟩)) ∧ SA w' g T x.A ∧ LvR w w' r TS me n x ∧ Fr (fun _ => False) W w' ∧ ∀ b, T b → W.heap.size ≤ b := by
  obtain ⟨S, h1, h2⟩ := h.ex
  obtain ⟨gs, gm, T0, T1, vk, h3, -⟩ := h1.rb
  refine (gShelf h3).mono ?_
  rintro e w' ⟨g, T, rfl, q1, q2, q3⟩
  exact ⟨g, T, rfl, q1, h.keep q2, q2, q3⟩
theorem LvR.sound (h : LvR w W r TS me n x) : Calls Tryz.prog 15 #[.pointer (some ⟨r, 0, none⟩)] W fun e w' => e = .returned (.bool (soundE x.A x.le)) ∧ LvR w w' r TS me n x ∧ Fr (fun _ => False) W w' := by
  obtain ⟨S, h1, h2⟩ := h.ex
  obtain ⟨gs, gm, T0, T1, vk, h3, -⟩ := h1.rb
  refine (gSound h3).mono ?_
  rintro e w' ⟨rfl, q⟩
  exact ⟨rfl, h.keep q, q⟩
theorem LvR.hold {o : Int} (h : LvR w W r TS me n x) (ho : okI o) : Calls Tryz.prog 14 #[.pointer (some ⟨r, 0, none⟩), .int .i64 o] W fun e w' => ∃ v, e = .returned v ∧ Hd w' W.heap.size v (heOf x.le o) ∧ LvR w w' r TS me n x ∧ Fr (fun _ => False) W w' := by
  obtain ⟨S, h1, h2⟩ := h.ex
  obtain ⟨gs, gm, T0, T1, vk, h3, -⟩ := h1.rb
  refine (gHold h3 ho).mono ?_
  rintro e w' ⟨v, rfl, q1, q2⟩
  exact ⟨v, rfl, q1, h.keep q2, q2⟩
theorem LvR.stuck (h : LvR w W r TS me n x) : Calls Tryz.prog 11 #[.pointer (some ⟨r, 0, none⟩)] W fun e w' => e = .returned (.int .i64 x.S.length) ∧ W = w' := by
  obtain ⟨S, h1, h2⟩ := h.ex
  obtain ⟨gs, gm, T0, T1, vk, h3, -⟩ := h1.rb
  have := gStuck h3
  rw [← h2, List.length_map]
  exact this
end
set_option maxRecDepth 100000 in
theorem LvR.mail1 {w W : World} {r bL : Nat} {TS : Nat → Prop} (h : LvR w W r TS 1 3 rX0) (hb : W.heap[bL]? = some (.cells #[.string ⟨#[97]⟩, .int .i64 5] 45)) (hT : ¬ TS bL) :
    Calls Tryz.prog 9 #[.pointer (some ⟨r, 0, none⟩), .agg #[.int .i64 11, .int .i64 0, .slice none 0 0, .int .i64 0, .int .i64 1, .int .i64 6, .int .i64 0, .int .i64 1, .int .i64 0, .int .i64 0, .string ⟨#[]⟩, .slice (some ⟨bL, 0, none⟩) 1 1, .int .i64 0, .int .i64 0, .int .i64 0, .int .i64 0], .int .i64 0] W fun e w' =>
      ∃ g c TS', e = .returned (.slice (some ⟨g, 0, none⟩) 4 c) ∧ LvR w w' r TS' 1 3 rX1 ∧ w'.cell? ⟨g, 1, none⟩ = some (.int .i64 12) ∧ ¬ TS' g ∧ g < w'.heap.size ∧ Stp TS W w' TS' := by
  have hm := h.mail (m := rM1 bL) (fr := 0) ⟨okI_lit (n := 11) (by decide), okI_lit (n := 0) (by decide), il_nil _, ⟨okI_lit (n := 0) (by decide), okI_lit (n := 1) (by decide), okI_lit (n := 6) (by decide), okI_lit (n := 0) (by decide), okI_lit (n := 1) (by decide), okI_lit (n := 0) (by decide), okI_lit (n := 0) (by decide), by simp [rM1, okS, maxLen], rIl1 hb (okI_lit (n := 5) (by decide))⟩, yv0_ok⟩
    (fun b hb' e => hb'.elim (fun q => q.1 rfl) (fun q => by have q2 := q.2; simp only [rM1, Value.ownBlock] at q2; injection q2 with q2; exact hT (by rw [q2]; exact e))) (okI_lit (n := 0) (by decide)) (by decide) (by decide) (by decide)
  refine hm.mono ?_
  rintro e w' ⟨v, TS', L, rfl, q1, q2, q3, q4⟩
  rw [rv1] at q1 q3
  match L, q3, q2 with
  | p :: L', q3, q2 =>
    obtain ⟨g, c, rfl, hc⟩ := q2.at0
    have hl : L'.length = 3 := by have := congrArg List.length q3; simpa using this
    have h0 : nfP p = (0, doneM ⟨0, 1, 0, 0⟩) := by have := congrArg (fun l => l[0]?) q3; simpa using this
    have hk : p.2.kd = 12 := congrArg (fun p : Int × MV => p.2.kd) h0
    rw [hl]
    exact ⟨g, c, TS', rfl, q1, by rw [← hk]; exact hc 1 _ rfl, q2.nt g rfl, (q2.row.lt g rfl).2, q4⟩
set_option maxRecDepth 100000 in
theorem LvR.mail2 {w W : World} {r bL : Nat} {TS : Nat → Prop} (h : LvR w W r TS 1 3 rX1) (hb : W.heap[bL]? = some (.cells #[.string ⟨#[97]⟩, .int .i64 7] 45)) (hT : ¬ TS bL) :
    Calls Tryz.prog 9 #[.pointer (some ⟨r, 0, none⟩), .agg #[.int .i64 3, .int .i64 65, .slice (some ⟨bL, 0, none⟩) 1 1, .int .i64 0, .int .i64 0, .int .i64 0, .int .i64 0, .int .i64 0, .int .i64 0, .int .i64 0, .string ⟨#[]⟩, .slice none 0 0, .int .i64 0, .int .i64 0, .int .i64 0, .int .i64 0], .int .i64 2] W fun e w' =>
      ∃ g c sa sc TS', e = .returned (.slice (some ⟨g, 0, none⟩) 1 c) ∧ LvR w w' r TS' 1 3 rX2 ∧ w'.cell? ⟨g, 0, none⟩ = some (.int .i64 2) ∧ w'.cell? ⟨g, 3, none⟩ = some (.slice sa 1 sc) ∧ Il w' (.slice sa 1 sc) [(rG, 5)] ∧ Stp TS W w' TS' := by
  have hm := h.mail (m := rM2 bL) (fr := 2) (mok_its (by decide) (okI_lit (n := 65) (by decide)) (rIl1 hb (okI_lit (n := 7) (by decide))))
    (fun b hb' e => by have q := own_its hb'; have q2 := q.2; simp only [Value.ownBlock] at q2; injection q2 with q2; exact hT (by rw [q2]; exact e)) (okI_lit (n := 2) (by decide)) (by decide) (by decide) (by decide)
  refine hm.mono ?_
  rintro e w' ⟨v, TS', L, rfl, q1, q2, q3, q4⟩
  rw [rv2] at q1 q3
  match L, q3, q2 with
  | p :: L', q3, q2 =>
    obtain ⟨g, c, rfl, hc⟩ := q2.at0
    have hl : L'.length = 0 := by have := congrArg List.length q3; simpa using this
    have h0 : nfP p = (2, backM 3 65 [(rG, 5)]) := by have := congrArg (fun l => l[0]?) q3; simpa using this
    have ht : p.1 = 2 := congrArg (fun p : Int × MV => p.1) h0
    have hi : p.2.its = [(rG, 5)] := congrArg (fun p : Int × MV => p.2.its) h0
    have hil := (q2.ok p (.head _)).2.1.l
    rw [hi] at hil
    obtain ⟨sa, sc, e⟩ := hil.sl
    have e : p.2.l = .slice sa 1 sc := e
    rw [hl]
    rw [e] at hil
    exact ⟨g, c, sa, sc, TS', rfl, q1, by rw [← ht]; exact hc 0 _ rfl, by rw [← e]; exact hc 3 _ rfl, hil, q4⟩
set_option maxRecDepth 100000 in
set_option maxHeartbeats 8000000 in
theorem gLives (w : World) : Calls Tryz.prog 6 #[] w fun e w' => e = .returned (.bool true) ∧ Fr (fun _ => False) w w' := by
  have hnf := fun (w : World) (f : Fn) (x y : Array Value) => run_eql_func_nil (P := Tryz.prog) w 51 _ _ _ f x y Tryz.underlying51
  have hfd : ∀ (v1 v2 v3 : Value) (W : World) (o : Int), True := fun _ _ _ _ _ => trivial
  go_enter Tryz.func6, Tryz.ntmps6
  go_wp2_with (first
    | (go_at_call 14; refine (HL8.out.hold (o := 65) (okI_lit (n := 65) (by decide))).mono ?_; rw [rv4]; rintro e w9 ⟨v9, rfl, hd, hl, hf⟩; obtain ⟨y, rfl, hye, hyk⟩ := hd; obtain ⟨d1, f1, p1⟩ := hyk.lh.1.sl; obtain ⟨d2, f2, p2⟩ := hyk.lp.1.sl; obtain ⟨d3, f3, p3⟩ := hyk.ls.1.sl; have hy1 : y.he = [(rG, 5)] := congrArg HE.he hye; have hy2 : y.pi = [] := congrArg HE.pi hye; have hy3 : y.sh = [] := congrArg HE.sh hye; have hilh := hyk.lh.1; rw [p1, hy1] at hilh; have henc : y.enc = .agg #[.int .i64 y.o, .slice d1 1 f1, .slice d2 0 f2, .slice d3 0 f3] := (by unfold HV.enc; rw [p1, p2, p3, hy1, hy2, hy3]; rfl); rw [henc]; have hfl : ∀ W : World, (Instr.field 54 (.agg #[.int .i64 y.o, .slice d1 1 f1, .slice d2 0 f2, .slice d3 0 f3]) 1).run Tryz.prog W = .ok (.slice d1 1 f1) W := (fun _ => by kernel_rfl); have HL9 := Lib.hid hl; have HIH := Lib.hid hilh; have HIL9 := Lib.hid (HIL8.out.keep hf (fun _ _ _ e => e)); have HF9 := Lib.hid (HF8.out.trans hf); clear hye hyk hl hf hilh p1 p2 p3 hy1 hy2 hy3 henc)
    | (go_at_call 10; refine HL7.out.shelf.mono ?_; rintro e w8 ⟨g8, T8, rfl, -, hl, hf, -⟩; have HL8 := Lib.hid hl; have HIL8 := Lib.hid (HIL7.out.keep hf (fun _ _ _ e => e)); have HF8 := Lib.hid (HF7.out.trans hf); clear hl hf)
    | (go_at_call 15; refine HL6b.out.sound.mono ?_; rw [rv3]; rintro e w7 ⟨rfl, hl, hf⟩; have HL7 := Lib.hid hl; have HIL7 := Lib.hid (HIL6b.out.keep hf (fun _ _ _ e => e)); have HF7 := Lib.hid (HF6b.out.trans hf); clear hl hf)
    | (go_at_call 19; refine (r6Same _ _ _ _ _ HIH.out HIL9.out).mono ?_; rw [decide_eq_true rfl]; rintro e w10 ⟨rfl, n10, rfl⟩; have HFA := Lib.hid (HF9.out.drewN n10))
    | (go_at_call 19; refine (r6Same _ _ _ _ _ HIB.out HIL6.out).mono ?_; rw [decide_eq_true rfl]; rintro e w6b ⟨rfl, n6, rfl⟩; have HL6b := Lib.hid (HL6.out.keep ((Fr.refl (fun _ => False) w6).drewN n6)); have HIL6b := Lib.hid (HIL6.out.keep ((Fr.refl (fun _ => False) w6).drewN n6) (fun _ _ _ e => e)); have HF6b := Lib.hid (HF6.out.drewN n6))
    | (go_at_call 9; refine ((HL5.out.keep ((Fr.refl (fun _ => False) w5).alloc _)).mail2 (heap_new _ _) (fun e => by have := HL5.out.lt _ e; omega)).mono ?_; rintro e w6 ⟨g6, c6, sa, sc, T6, rfl, hl, k0, k3, hil, hst⟩; have hx := hst.1.cell (((Fr.refl (fun _ => False) w5).alloc _).cell HX.out.1 (fun e => e)) HX.out.2; have HL6 := Lib.hid hl; have HIB := Lib.hid hil; have HIL6 := Lib.hid ((HIL5.out.keep ((Fr.refl (fun _ => False) w5).alloc _) (fun _ _ _ e => e)).keep hst.1 (fun _ b hb => HIN.out b hb)); have HF6 := Lib.hid hl.fr; clear hl hil hst)
    | (go_at_call 9; refine (HL4.out.mail1 HB4.out HN4.out).mono ?_; rintro e w5 ⟨g5, c5, T5, rfl, hl, k1, hng, hlg, hst⟩; have HL5 := Lib.hid hl; have HX := Lib.hid (And.intro k1 hng); have HIL5 := Lib.hid ((rIl1 HB4.out (okI_lit (n := 5) (by decide))).keep hst.1 (fun _ b hb e => HN4.out (by simp only [Value.ownBlock] at hb; injection hb with hb; rw [hb]; exact e))); have HIN : Hid (∀ b, (Value.slice (some ⟨w2.heap.size + 1, 0, none⟩) 1 1).ownBlock = some b → ¬ T5 b) := Lib.hid (fun b hb e => (by simp only [Value.ownBlock] at hb; injection hb with hb; subst hb; exact (hst.2 _ e).elim HN4.out (fun e => by have := (Array.getElem?_eq_some_iff.1 HB4.out).1; omega))); clear hl k1 hng hlg hst)
    | (go_at_call 13; refine (gOrders _ _).mono ?_; rintro e w3 ⟨rfl, rfl⟩; have HL4 := Lib.hid (HL2.out.keep (((Fr.refl (fun _ => False) w2).alloc (.cells #[.pointer (some ⟨r, 0, none⟩)] 24)).alloc (.cells #[.string ⟨#[97]⟩, .int .i64 5] 45))); have HB4 : Hid (((w2.alloc (.cells #[.pointer (some ⟨r, 0, none⟩)] 24)).alloc (.cells #[.string ⟨#[97]⟩, .int .i64 5] 45)).heap[w2.heap.size + 1]? = some (.cells #[.string ⟨#[97]⟩, .int .i64 5] 45)) := Lib.hid (heap_at (by simp) _); have HN4 : Hid (¬ TS (w2.heap.size + 1)) := Lib.hid (fun e => by have := HL2.out.lt _ e; omega))
    | (go_at_call 5; with_reducible refine (gNew _ 3 3).mono ?_; rintro e w2 ⟨hf, hn, -⟩; obtain rfl := hn (by decide); have HL2 := Lib.hid (HL1.out.keep hf); clear hf hn)
    | (go_at_call 5; refine (gNew _ 1 3).mono ?_; rintro e w1 ⟨hf, -, hy⟩; obtain ⟨r, TS, rfl, hr, hlo⟩ := hy (by decide); have HL1 : Hid (LvR w w1 r TS 1 3 rX0) := Lib.hid ⟨⟨[], hr, rfl⟩, hlo, hf⟩; clear hf hy hr hlo))
  go_ret
  exact ⟨rfl, HFA.out⟩
end Go.Proofs.YtmflpeklalgibaaGreat

namespace Go.Proofs.YtmflpeklalgibaaGreat
open Go.ChangeShapes Go.WideShapes Go.RowKit Go.Maps
def LOk (w : World) (p : Int × MV) : Prop := okI p.1 ∧ MOk w p.2
theorem lokKeeps : Keeps LOk := fun _ _ _ _ h hf hS => ⟨h.1, h.2.keep hf (fun b hb e => by have := h.2.lt hb; have := hS b e; omega)⟩
section
variable {H : Type} {enc : TypeId × Value → H} {w : World} {base : Nat} {spare : Nat → Bool} {held : Bool}
set_option maxRecDepth 100000 in
theorem open_letter (cell : Nat → Option Value) (h : ∀ (j : Nat) (t : TypeId), (leaves Tryz.prog 4 38)[j]? = some t → ∃ (u : Value) (m : Nat) (y : DataW H × List MemPlace), cell j = some u ∧ DataW.trod enc Tryz.prog w base spare held m t [u] = some y) :
    ∃ r : Int × MV, LOk w r ∧ ∀ (j : Nat) (u : Value), (pcs r)[j]? = some u → cell j = some u := by
  obtain ⟨u0, m0, y0, c0, t0⟩ := h 0 3 (by kernel_rfl)
  obtain ⟨u1, m1, y1, c1, t1⟩ := h 1 3 (by kernel_rfl)
  obtain ⟨u2, m2, y2, c2, t2⟩ := h 2 3 (by kernel_rfl)
  obtain ⟨u3, m3, y3, c3, t3⟩ := h 3 23 (by kernel_rfl)
  obtain ⟨u4, m4, y4, c4, t4⟩ := h 4 3 (by kernel_rfl)
  obtain ⟨u5, m5, y5, c5, t5⟩ := h 5 3 (by kernel_rfl)
  obtain ⟨u6, m6, y6, c6, t6⟩ := h 6 3 (by kernel_rfl)
  obtain ⟨u7, m7, y7, c7, t7⟩ := h 7 3 (by kernel_rfl)
  obtain ⟨u8, m8, y8, c8, t8⟩ := h 8 3 (by kernel_rfl)
  obtain ⟨u9, m9, y9, c9, t9⟩ := h 9 3 (by kernel_rfl)
  obtain ⟨u10, m10, y10, c10, t10⟩ := h 10 3 (by kernel_rfl)
  obtain ⟨u11, m11, y11, c11, t11⟩ := h 11 9 (by kernel_rfl)
  obtain ⟨u12, m12, y12, c12, t12⟩ := h 12 23 (by kernel_rfl)
  obtain ⟨u13, m13, y13, c13, t13⟩ := h 13 3 (by kernel_rfl)
  obtain ⟨u14, m14, y14, c14, t14⟩ := h 14 3 (by kernel_rfl)
  obtain ⟨u15, m15, y15, c15, t15⟩ := h 15 25 (by kernel_rfl)
  obtain ⟨u16, m16, y16, c16, t16⟩ := h 16 3 (by kernel_rfl)
  obtain ⟨x0, rfl, k0⟩ := leaf_i64 Tryz.underlying3 t0
  obtain ⟨x1, rfl, k1⟩ := leaf_i64 Tryz.underlying3 t1
  obtain ⟨x2, rfl, k2⟩ := leaf_i64 Tryz.underlying3 t2
  obtain ⟨L3, k3⟩ := leaf_items t3
  obtain ⟨x4, rfl, k4⟩ := leaf_i64 Tryz.underlying3 t4
  obtain ⟨x5, rfl, k5⟩ := leaf_i64 Tryz.underlying3 t5
  obtain ⟨x6, rfl, k6⟩ := leaf_i64 Tryz.underlying3 t6
  obtain ⟨x7, rfl, k7⟩ := leaf_i64 Tryz.underlying3 t7
  obtain ⟨x8, rfl, k8⟩ := leaf_i64 Tryz.underlying3 t8
  obtain ⟨x9, rfl, k9⟩ := leaf_i64 Tryz.underlying3 t9
  obtain ⟨x10, rfl, k10⟩ := leaf_i64 Tryz.underlying3 t10
  obtain ⟨x11, rfl, k11⟩ := leaf_str Tryz.underlying9 t11
  obtain ⟨L12, k12⟩ := leaf_items t12
  obtain ⟨x13, rfl, k13⟩ := leaf_i64 Tryz.underlying3 t13
  obtain ⟨x14, rfl, k14⟩ := leaf_i64 Tryz.underlying3 t14
  obtain ⟨x15, rfl, k15⟩ := leaf_i64 Tryz.underlying25 t15
  obtain ⟨x16, rfl, k16⟩ := leaf_i64 Tryz.underlying3 t16
  refine ⟨(x0, ⟨x1, x2, u3, L3, ⟨x4, x5, x6, x7, x8, x9, x10, x11, u12, L12⟩, ⟨x13, x14, x15, x16⟩⟩), ⟨k0, ⟨k1, k2, k3, ⟨k4, k5, k6, k7, k8, k9, k10, k11, k12⟩, ⟨k13, k14, k15, k16⟩⟩⟩, fun j u hu => ?_⟩
  match j, hu with
  | 0, hu => cases hu; exact c0
  | 1, hu => cases hu; exact c1
  | 2, hu => cases hu; exact c2
  | 3, hu => cases hu; exact c3
  | 4, hu => cases hu; exact c4
  | 5, hu => cases hu; exact c5
  | 6, hu => cases hu; exact c6
  | 7, hu => cases hu; exact c7
  | 8, hu => cases hu; exact c8
  | 9, hu => cases hu; exact c9
  | 10, hu => cases hu; exact c10
  | 11, hu => cases hu; exact c11
  | 12, hu => cases hu; exact c12
  | 13, hu => cases hu; exact c13
  | 14, hu => cases hu; exact c14
  | 15, hu => cases hu; exact c15
  | 16, hu => cases hu; exact c16
  | j + 17, hu => simp [pcs] at hu
set_option maxRecDepth 100000 in
theorem open_letters {r : Reach} {b0 : Nat} {v : Value} {d : DataW H} {p : List MemPlace} (hv : Value.okWide Tryz.prog w r b0 22 v) (h : DataW.Trod enc Tryz.prog w base spare held 22 v d p) : ∃ L, Sq 17 pcs LOk w v L :=
  open_sq (d := 4) Tryz.underlying22 (by kernel_rfl) (by kernel_rfl) (by kernel_rfl) open_letter hv h
end
end Go.Proofs.YtmflpeklalgibaaGreat

namespace Go.Proofs.YtmflpeklalgibaaGreat
open Go.RowKit Go.Maps
theorem goods_may {v : Value} {M : Its} (h : mayL M = true) : MV.may ⟨13, 5, v, M, av0, yv0⟩ = true := by
  unfold MV.may MV.ro MV.ri MV.ra MV.ry
  rw [show mfldF 13 = [111, 105] from rfl]
  unfold rightB
  dsimp only
  rw [if_pos (by decide), if_pos (by decide), if_neg (by decide), if_neg (by decide), h]
  rfl
theorem sendR_ws (me : Int) (x : RSt) (a : AV) (h : x.ws.length ≤ 256) : (sendR me x a).2.ws.length ≤ 256 := by
  unfold sendR
  split
  · exact h
  split
  · exact h
  · rename_i h1 h2
    obtain ⟨q1, -, q3⟩ := goF_yes (ws := x.ws) (mv := 64 * a.n + a.c) (fr := me) (tt := a.t) (L := a.its) (by simpa using h1)
    dsimp only
    rw [q1]
    have := putS_len (lt := ktI.lt) (l := x.ws) (x := 64 * a.n + a.c) (v := (⟨64 * a.n + a.c, me, a.t, a.its, false⟩ : WE))
    omega
theorem doR_ws (me : Int) (x : RSt) (a : AV) (fr : Int) (h : x.ws.length ≤ 256) : (doR me x a fr).2.ws.length ≤ 256 := by
  unfold doR
  split
  · exact h
  split
  · exact h
  split
  · exact sendR_ws me x a h
  · exact h
theorem mailR_inv (me n : Int) (x : RSt) (m : MV) (fr : Int) (h : x.ws.length ≤ 256) : (mailR me n x m fr).2.ws.length ≤ 256 ∧ (mailR me n x m fr).2.S.length ≤ x.S.length + 1 := by
  unfold mailR
  split
  · exact ⟨h, Nat.le_succ _⟩
  split
  · exact ⟨h, Nat.le_succ _⟩
  split
  · exact ⟨h, Nat.le_succ _⟩
  split
  · exact ⟨h, Nat.le_succ _⟩
  split
  · exact ⟨h, Nat.le_succ _⟩
  split
  · have h1 := doR_ws me x m.a fr h
    have h2 := (doR_len me x m.a fr).2.1
    refine ⟨h1, ?_⟩
    have := away_le (doR me x m.a fr).2.A (doR me x m.a fr).2.S
    show (awayF (doR me x m.a fr).2.A (doR me x m.a fr).2.S).2.length ≤ x.S.length + 1
    rw [h2] at this ⊢
    omega
  split
  · refine ⟨h, ?_⟩
    unfold awayR
    dsimp only
    have := away_le x.A (x.S ++ [m.its])
    simp at this
    omega
  · exact ⟨h, Nat.le_succ _⟩
theorem row_free {A : Stk} (h : SOk A) (s : Str) : 0 ≤ (rowAt A s).free ∧ (rowAt A s).free ≤ 1099511627776 := by
  unfold rowAt
  cases e : getS A s with
  | none => exact ⟨by decide, by decide⟩
  | some r => exact (h.row _ (getS_memS e)).b.a0
/-- What the statement asks, of plain data. -/
theorem goods_law {x : RSt} {v : Value} {M : Its} {R : PEs × RSt} (hk : ShOk x.A x.le) (hM : mayL M = true) (hR : R = mailR 0 3 x ⟨13, 5, v, M, av0, yv0⟩ 1) :
    (R.1.length = 0 ∨ R.1.length = 3) ∧ (x.S.length < R.2.S.length → R.2.S.length = x.S.length + 1 ∧ R.1.length = 0) ∧ (x.S.length = 0 → R.2.S.length = 0 → ∀ p ∈ M, (rowAt R.2.A p.1).free = (rowAt x.A p.1).free + p.2) := by
  rw [mailR_goods (goods_may hM) (by decide) (by decide) rfl] at hR
  subst hR
  have hn : ∀ c d : Its, (newsR 3 c d).length = 0 ∨ (newsR 3 c d).length = 3 := fun c d => by
    unfold newsR
    split
    · exact .inr (by simp)
    · exact .inl rfl
  refine ⟨hn _ _, fun h => ?_, fun h0 h1 => ?_⟩
  · have h : x.S.length < (awayF x.A (x.S ++ [M])).2.length := h
    have hl := away_le x.A (x.S ++ [M])
    rw [List.length_append, List.length_singleton] at hl
    have he : (awayF x.A (x.S ++ [M])).2.length = (x.S ++ [M]).length := by rw [List.length_append, List.length_singleton]; omega
    have ha := away_all he
    refine ⟨by show (awayF x.A (x.S ++ [M])).2.length = _; rw [he, List.length_append, List.length_singleton], ?_⟩
    show (newsR 3 (freeF x.A) (freeF (awayF x.A (x.S ++ [M])).1)).length = 0
    rw [ha]
    unfold newsR
    rw [if_neg (by rw [more_same hk.stk.rise]; decide)]
    rfl
  · have hS : x.S = [] := List.eq_nil_of_length_eq_zero h0
    have h1 : (awayF x.A (x.S ++ [M])).2.length = 0 := h1
    show ∀ p ∈ M, (rowAt (awayF x.A (x.S ++ [M])).1 p.1).free = _
    rw [hS, List.nil_append] at h1 ⊢
    rw [away_one] at h1 ⊢
    split at h1
    · rename_i hd
      rw [if_pos hd]
      refine come_free hk.stk ?_
      show doH x.A 11 M = (0, _)
      exact Prod.ext hd rfl
    · simp at h1
set_option maxRecDepth 100000 in
set_option maxHeartbeats 4000000 in
theorem gLarge (w : World) (m : MV) (hm : MOk w m) : Calls Tryz.prog 8 #[.agg m.cs] w fun e w' => e = .returned (.bool (decide ((100 : Int) < m.its.length) || decide ((100 : Int) < m.a.its.length))) ∧ Fr (fun _ => False) w w' := by
  obtain ⟨kd, od, l, its, ⟨c, nn, k, o, rr, t, mm, g, al, ai⟩, ⟨yc, yn, ycd, ym⟩⟩ := m
  obtain ⟨pl, cl, hsl⟩ : ∃ a c, l = .slice a its.length c := hm.l.sl
  obtain ⟨pa, ca, hsa⟩ : ∃ a c, al = .slice a ai.length c := hm.a.l.sl
  subst hsl
  subst hsa
  obtain ⟨N, hN⟩ : ∃ x, its.length = x := ⟨_, rfl⟩
  obtain ⟨M, hM⟩ : ∃ x, ai.length = x := ⟨_, rfl⟩
  dsimp only [MV.cs]
  rw [hN, hM]
  clear hm hN hM
  by_cases h1 : (100 : Int) < N
  · rw [decide_eq_true h1, Bool.true_or]
    go_enter Tryz.func8, Tryz.ntmps8
    go_wp2_with fail
    go_ret
    exact ⟨rfl, (Fr.refl _ _).alloc _⟩
  · rw [decide_eq_false h1, Bool.false_or]
    by_cases h2 : (100 : Int) < M
    · rw [decide_eq_true h2]
      go_enter Tryz.func8, Tryz.ntmps8
      go_wp2_with fail
      go_ret
      exact ⟨rfl, (Fr.refl _ _).alloc _⟩
    · rw [decide_eq_false h2]
      go_enter Tryz.func8, Tryz.ntmps8
      go_wp2_with fail
      go_ret
      exact ⟨rfl, (Fr.refl _ _).alloc _⟩
end Go.Proofs.YtmflpeklalgibaaGreat

namespace Go.Proofs.YtmflpeklalgibaaGreat
open Go.RowKit Go.Maps
theorem calls_q {P : Program} {f : FuncId} {args : Array Value} {w : World} {n : Nat} {v : Value} (h : Calls P f args (w.drewN n) fun e w' => e = .returned v ∧ w.drewN n = w') :
    Calls P f args (w.drewN n) fun e w'' => e = .returned v ∧ ∃ m, w'' = w.drewN m := h.mono fun _ _ ⟨he, hm⟩ => ⟨he, n, hm.symm⟩
/-- The good ahead of place k; nothing ahead of the first. -/
def lastOf (L : Its) : Nat → Str
  | 0 => []
  | k + 1 => (L[k]?.map (·.1)).getD []
theorem itsOk_at {L : Its} {k : Nat} {p : Str × Int} (last : Str) (hp : L[k]? = some p) : itsOk last (L.drop k) = (goodB p.1 && decide (1 ≤ p.2) && mayI p.2 && decide (last < p.1) && itsOk p.1 (L.drop (k + 1))) := by
  have : L.drop k = p :: L.drop (k + 1) := by
    rw [List.drop_eq_getElem_cons (List.getElem?_eq_some_iff.1 hp).1]
    rw [(List.getElem?_eq_some_iff.1 hp).2]
  rw [this]; rfl
set_option maxRecDepth 100000 in
set_option maxHeartbeats 8000000 in
theorem r6May (w : World) (v : Value) (L : Its) (hL : Il w v L) : Calls Tryz.prog 7 #[v] w fun e w' => e = .returned (.bool (mayL L)) ∧ ∃ n, w' = w.drewN n := by
  obtain ⟨G, hG⟩ : ∃ G, mayL L = G := ⟨_, rfl⟩
  rw [hG]
  have HG := Lib.hid hG
  clear hG
  obtain ⟨a, c, rfl⟩ := hL.sl
  obtain ⟨n, hn⟩ : ∃ n, L.length = n := ⟨_, rfl⟩
  have hnI : (n : Int) ≤ 9223372036854775807 := by have := hL.1; omega
  have HL := Lib.hid hL; have HN := Lib.hid hn
  rw [hn] at HL ⊢
  clear hL hn
  go_enter Tryz.func7, Tryz.ntmps7
  go_wp2_with fail
  go_loopw [3] (fun i wr => ∃ k e : Nat, k ≤ n ∧ i = .int .i64 k ∧ wr = w.drewN e ∧ itsOk [] L = itsOk (lastOf L k) (L.drop k)) (fun i _ => n - (intOf i).toNat)
  case atStart => exact ⟨0, 0, Nat.zero_le _, rfl, rfl, rfl⟩
  case round =>
    obtain ⟨k, e, hk, rfl, hwr, hall⟩ := hrel
    have HW := Lib.hid hwr; have HALL := Lib.hid hall
    have hLr : Il wr (.slice a n c) L := by rw [hwr]; exact HL.out.fr ((Fr.refl (fun _ => False) w).drewN e) (fun _ h => h.elim)
    clear hwr hall
    by_cases hlt : k < n
    · obtain ⟨p, hp⟩ : ∃ p, L[k]? = some p := ⟨L[k]'(by rw [HN.out]; exact hlt), List.getElem?_eq_getElem _⟩
      obtain ⟨ad, rfl, ok1, ok2, p0, p1⟩ := hLr.at_ hp
      have hstep := itsOk_at (lastOf L k) hp
      have hnext : lastOf L (k + 1) = p.1 := by show (L[k]?.map (·.1)).getD [] = _; rw [hp]; rfl
      have hltI : (k : Int) < n := by omega
      have hbad : ∀ b, (goodB p.1 && decide (1 ≤ p.2) && mayI p.2 && decide (lastOf L k < p.1)) = b → b = false → G = false := fun b hb h => by
        rw [← HG.out]
        unfold mayL
        rw [HALL.out, hstep, hb, h]; rfl
      have hgo : (goodB p.1 && decide (1 ≤ p.2) && mayI p.2 && decide (lastOf L k < p.1)) = true → itsOk [] L = itsOk (lastOf L (k + 1)) (L.drop (k + 1)) := fun hb => by
        rw [HALL.out, hstep, hb, hnext]; rfl
      have HBAD := Lib.hid hbad; have HGO := Lib.hid hgo
      clear hbad hgo hstep hnext
      obtain ⟨g, x⟩ := p
      dsimp only at p0 p1 ok1 ok2 HBAD HGO
      have hGd := r6Good
      have HGd := Lib.hid (fun W => r6Good W g ok1)
      have HMy := Lib.hid (fun W => r5May W x)
      clear hGd
      cases h1 : goodB g with
      | false =>
        rw [h1] at HGd HBAD
        have hg := Lib.hid (HBAD.out _ rfl rfl)
        clear h1
        go_wp2_with fail
        go_big_quiet ((go_at_call 20; exact calls_q (HGd.out _)))
        go_wp2_with fail
        go_ret
        exact ⟨by rw [hg.out]; rfl, _, by rw [HW.out, World.drewN_drewN]⟩
      | true =>
        rw [h1] at HGd HBAD HGO
        have hpos := good_pos h1
        have HPOS := Lib.hid hpos
        clear h1 hpos
        by_cases h2 : x < 1
        · have hd2 : decide (x < 1) = true := decide_eq_true h2
          have hg := Lib.hid (HBAD.out _ rfl (by simp; omega))
          go_wp2_with fail
          go_big_quiet ((go_at_call 20; exact calls_q (HGd.out _)))
          go_wp2_with fail
          go_ret
          exact ⟨by rw [hg.out]; rfl, _, by rw [HW.out, World.drewN_drewN]⟩
        · have hd2 : decide (x < 1) = false := decide_eq_false h2
          cases h3 : mayI x with
          | false =>
            rw [h3] at HMy HBAD
            have hg := Lib.hid (HBAD.out _ rfl (by simp))
            clear h3
            go_wp2_with fail
            go_big_quiet (first | (go_at_call 20; exact calls_q (HGd.out _)) | (go_at_call 21; exact calls_q (HMy.out _)))
            go_wp2_with fail
            go_ret
            exact ⟨by rw [hg.out]; rfl, _, by rw [HW.out, World.drewN_drewN]⟩
          | true =>
            rw [h3] at HMy HBAD HGO
            clear h3
            have hx1 : (decide (1 ≤ x)) = true := by simp; omega
            rw [hx1] at HBAD HGO
            clear hx1
            rcases Nat.eq_zero_or_pos k with h0 | h0
            · have H0 := Lib.hid h0
              have hd3 : decide (0 < k) = false := decide_eq_false (by omega)
              rw [h0] at HGO
              clear h0
              have hy := Lib.hid (HGO.out (by show (true && true && true && decide (([] : Str) < g)) = true; rw [decide_eq_true HPOS.out]; rfl))
              go_wp2_with fail
              go_big_quiet (first | (go_at_call 20; exact calls_q (HGd.out _)) | (go_at_call 21; exact calls_q (HMy.out _)))
              go_wp2_with fail
              go_roundw
              case rel => exact ⟨k + 1, _, by omega, by go_num, (by rw [HW.out, World.drewN_drewN]), by rw [H0.out]; exact hy.out⟩
              case measure => simp [intOf]; omega
            · obtain ⟨j, hj⟩ : ∃ j, k = j + 1 := ⟨k - 1, by omega⟩
              obtain ⟨⟨g', x'⟩, hp'⟩ : ∃ p, L[j]? = some p := ⟨L[j]'(by rw [HN.out]; omega), List.getElem?_eq_getElem _⟩
              obtain ⟨ad', had, -, -, r0, -⟩ := hLr.at_ hp'
              obtain rfl := Option.some.inj had
              have hlast : lastOf L k = g' := by rw [hj]; show (L[j]?.map (·.1)).getD [] = _; rw [hp']; rfl
              rw [hlast] at HBAD HGO
              dsimp only at r0
              clear hp' had hlast hLr
              have hd3 : decide (0 < k) = true := decide_eq_true (by omega)
              have hsub : (k : Int) - 1 = (j : Int) := by omega
              have HJ := Lib.hid hj
              have hjn : (j : Int) < n := by omega
              clear hj h0
              by_cases hlg : g' < g
              · have hy := Lib.hid (HGO.out (by simp [hlg]))
                have q1 : Op.bytesLess g' g = true := by rw [bytesLess_eq]; simpa using hlg
                clear hlg
                go_wp2_with fail
                go_big_quiet (first | (go_at_call 20; exact calls_q (HGd.out _)) | (go_at_call 21; exact calls_q (HMy.out _)))
                go_wp2_with fail
                go_roundw
                case rel => exact ⟨k + 1, _, by omega, by go_num, (by rw [HW.out, World.drewN_drewN]), hy.out⟩
                case measure => simp [intOf]; omega
              · have hg := Lib.hid (HBAD.out _ rfl (by simp [hlg]))
                have q1 : Op.bytesLess g' g = false := by rw [bytesLess_eq]; simpa using hlg
                clear hlg
                go_wp2_with fail
                go_big_quiet (first | (go_at_call 20; exact calls_q (HGd.out _)) | (go_at_call 21; exact calls_q (HMy.out _)))
                go_wp2_with fail
                go_ret
                exact ⟨by rw [hg.out]; rfl, _, by rw [HW.out, World.drewN_drewN]⟩
    · obtain rfl : k = n := by omega
      have hg : Hid (G = decide (k ≤ 16)) := Lib.hid (by
        rw [← HG.out]
        unfold mayL
        rw [HALL.out, List.drop_eq_nil_of_le (by rw [HN.out]; exact Nat.le_refl _), HN.out]; rfl)
      by_cases h : k ≤ 16
      · have hI : (k : Int) ≤ 16 := by omega
        go_wp2_with fail
        go_ret
        exact ⟨by rw [hg.out, decide_eq_true h]; rfl, _, HW.out⟩
      · have hI : ¬ (k : Int) ≤ 16 := by omega
        go_wp2_with fail
        go_ret
        exact ⟨by rw [hg.out, decide_eq_false h]; rfl, _, HW.out⟩
end Go.Proofs.YtmflpeklalgibaaGreat

