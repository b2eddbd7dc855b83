/- region: Mail, Take, Free, Pick, Ship (written by wip/tools/mail22.py). -/
import Derived.Test.YtmflpeklalgibaaGreatRegionGoodsM9
import Derived.Deep.RegionHeld3
namespace Go.Proofs.YtmflpeklalgibaaGreat
open Go.RowKit Go.Maps
/-- A list in new memory that is none of the shelf's is none of the region's. -/
theorem q3_rb {w W W' : World} {r gs gm : Nat} {TS T0 T1 T0' : Nat → Prop} {vk : Value} {me n : Int} {A A' : Stk} {le le' : Hes} {ws ws' : List (Int × WE)} {S : List (Value × Its)} {B B' : List (Nat × Array Value × TypeId)} {Ls Ls' : List (Value × Its)} {b : Nat}
    (h : SnI w W r gs gm TS T0 T1 vk me n A le ws S B Ls) (h' : SnI w W' r gs gm TS T0' T1 vk me n A' le' ws' S B' Ls') (hb : W.heap.size ≤ b) (hn : ¬ T0' b) : ¬ RB.bl r T0' T1 vk b := fun e => by
  rcases e with e | e | e | e
  · have := h.rb.lt b (.inl e); omega
  · exact hn e
  · have := h.rb.lt b (.inr (.inr (.inl e))); omega
  · have := h.rb.lt b (.inr (.inr (.inr e))); omega
section
variable {me n fr : Int} {x : RSt} {m : MV}
theorem mailR_take (h : m.may = true) (h0 : 0 ≤ fr) (h1 : fr < n) (hk : m.kd = 3) : mailR me n x m fr = ([(fr, backM 3 m.od (takeE x.A x.le m.od m.its).1.1)], { x with A := (takeE x.A x.le m.od m.its).2.1, le := (takeE x.A x.le m.od m.its).2.2 }) := by
  unfold mailR; rw [if_neg (by simp [h, h0, h1]), if_pos hk]
theorem mailR_free (h : m.may = true) (h0 : 0 ≤ fr) (h1 : fr < n) (hk : m.kd = 5) : mailR me n x m fr = ([(fr, backM 5 m.od [])], { x with A := (freeE x.A x.le m.od).2.1, le := (freeE x.A x.le m.od).2.2 }) := by
  unfold mailR; rw [if_neg (by simp [h, h0, h1]), if_neg (by omega), if_pos hk]
theorem mailR_pick (h : m.may = true) (h0 : 0 ≤ fr) (h1 : fr < n) (hk : m.kd = 7) : mailR me n x m fr = ([(fr, backM 7 m.od (pickE x.A x.le m.od).1.1)], { x with A := (pickE x.A x.le m.od).2.1, le := (pickE x.A x.le m.od).2.2 }) := by
  unfold mailR; rw [if_neg (by simp [h, h0, h1]), if_neg (by omega), if_neg (by omega), if_pos hk]
theorem mailR_ship (h : m.may = true) (h0 : 0 ≤ fr) (h1 : fr < n) (hk : m.kd = 9) : mailR me n x m fr = ([(fr, backM 9 m.od (shipE x.A x.le m.od).1.1)], { x with A := (shipE x.A x.le m.od).2.1, le := (shipE x.A x.le m.od).2.2 }) := by
  unfold mailR; rw [if_neg (by simp [h, h0, h1]), if_neg (by omega), if_neg (by omega), if_neg (by omega), if_pos hk]
theorem mailR_do (h : m.may = true) (h0 : 0 ≤ fr) (h1 : fr < n) (hk : m.kd = 11) : mailR me n x m fr = ((doR me x m.a fr).1 ++ newsR n (freeF x.A) (freeF (awayR (doR me x m.a fr).2).A), awayR (doR me x m.a fr).2) := by
  unfold mailR; rw [if_neg (by simp [h, h0, h1]), if_neg (by omega), if_neg (by omega), if_neg (by omega), if_neg (by omega), if_pos hk]
theorem mailR_goods (h : m.may = true) (h0 : 0 ≤ fr) (h1 : fr < n) (hk : m.kd = 13) : mailR me n x m fr = (newsR n (freeF x.A) (freeF (awayR { x with S := x.S ++ [m.its] }).A), awayR { x with S := x.S ++ [m.its] }) := by
  unfold mailR; rw [if_neg (by simp [h, h0, h1]), if_neg (by omega), if_neg (by omega), if_neg (by omega), if_neg (by omega), if_neg (by omega), if_pos hk]
theorem mailR_else (h : m.may = true) (h0 : 0 ≤ fr) (h1 : fr < n) (hk : m.kd ≠ 3 ∧ m.kd ≠ 5 ∧ m.kd ≠ 7 ∧ m.kd ≠ 9 ∧ m.kd ≠ 11 ∧ m.kd ≠ 13) : mailR me n x m fr = ([], x) := by
  unfold mailR; rw [if_neg (by simp [h, h0, h1]), if_neg hk.1, if_neg hk.2.1, if_neg hk.2.2.1, if_neg hk.2.2.2.1, if_neg hk.2.2.2.2.1, if_neg hk.2.2.2.2.2]
theorem mailR_no (h : ¬ (m.may = true ∧ 0 ≤ fr ∧ fr < n)) : mailR me n x m fr = ([], x) := by unfold mailR; rw [if_pos h]
end
set_option maxRecDepth 100000 in
set_option maxHeartbeats 32000000 in
theorem gMail_take (w : World) (r : Nat) (TS : Nat → Prop) (me n : Int) (A : Stk) (le : Hes) (ws : List (Int × WE)) (S : List (Value × Its)) (m : MV) (fr : Int) (h : RG w r TS me n A le ws S) (hm : MOk w m) (hmo : ∀ b, m.own b → ¬ TS b) (hfr : okI fr) (hmay : m.may = true) (h0 : 0 ≤ fr) (h1 : fr < n) (hk : m.kd = 3) :
    Calls Tryz.prog 9 #[.pointer (some ⟨r, 0, none⟩), .agg m.cs, .int .i64 fr] w (MaP w r TS me n (mailR me n ⟨A, le, ws, S.map (·.2)⟩ m fr)) := by
  have hrb := h.rb
  clear h
  obtain ⟨gs, gm, T0, T1, vk, h, rfl⟩ := hrb
  obtain ⟨R, hR⟩ : ∃ R, mailR me n ⟨A, le, ws, S.map (·.2)⟩ m fr = R := ⟨_, rfl⟩
  rw [hR]
  have HR := Lib.hid hR
  have HMM : Hid (∀ W, Fr (fun _ => False) w W → Calls Tryz.prog 22 #[.agg m.cs] W fun e w' => e = .returned (.bool m.may) ∧ Fr (fun _ => False) W w') := Lib.hid (fun W hf => mMay W m (hm.keep hf (fun _ _ e => e)))
  obtain ⟨n0, hn0⟩ : ∃ n0, w.heap.size = n0 := ⟨_, rfl⟩
  obtain ⟨W0, hW0⟩ : ∃ W0, (w.alloc (.cells m.cs 36)).alloc (.cells #[.int .i64 fr] 3) = W0 := ⟨_, rfl⟩
  obtain ⟨hI0, -, hF0⟩ := mail_start h hm hmo hn0 hW0
  obtain ⟨MAY, hMAY⟩ : ∃ x, m.may = x := ⟨_, rfl⟩
  rw [hMAY] at HMM
  have HMAY := Lib.hid hMAY
  have HH := Lib.hid h; have HI0 := Lib.hid hI0; have HM := Lib.hid hm; have HF0 := Lib.hid hF0; have HN0 := Lib.hid hn0
  rw [hmay] at hMAY
  subst hMAY
  have q2 : decide (fr < 0) = false := by simpa using h0
  have q3 : decide (n ≤ fr) = false := by simpa using h1
  have HQ0 := Lib.hid h0; have HQ1 := Lib.hid h1; have HMY := Lib.hid hmay
  clear h0 h1 hmay HMAY
  clear h hm hI0 hF0 hR hmo
  obtain ⟨kd, od, l, its, ⟨c, nn, k, o, rr, t, mm, g, al, ai⟩, ⟨yc, yn, ycd, ym⟩⟩ := m
  (try dsimp only at hk)
  obtain ⟨pl, cl, hsl⟩ : ∃ a c, l = .slice a its.length c := HM.out.l.sl
  obtain ⟨pa, ca, hsa⟩ : ∃ a c, al = .slice a ai.length c := HM.out.a.l.sl
  subst hsl
  subst hsa
  obtain ⟨N, hN⟩ : ∃ x, its.length = x := ⟨_, rfl⟩
  obtain ⟨M, hM⟩ : ∃ x, ai.length = x := ⟨_, rfl⟩
  dsimp only [MV.cs] at HI0 hW0 HMM ⊢
  rw [hN, hM] at HI0 hW0 HMM HM HR HMY ⊢
  have HN := Lib.hid hN; have HMl := Lib.hid hM
  clear hN hM
  (try subst hk)
  have x0 := cell_obj (HI0.out.bx _ (.head _)).1 0 (.int .i64 3) rfl
  have x1 := cell_obj (HI0.out.bx _ (.head _)).1 1 (.int .i64 od) rfl
  have x2 := cell_obj (HI0.out.bx _ (.head _)).1 2 (.slice pl N cl) rfl
  have x3 := cell_obj (HI0.out.bx _ (.head _)).1 3 (.int .i64 c) rfl
  have x4 := cell_obj (HI0.out.bx _ (.head _)).1 4 (.int .i64 nn) rfl
  have x5 := cell_obj (HI0.out.bx _ (.head _)).1 5 (.int .i64 k) rfl
  have x6 := cell_obj (HI0.out.bx _ (.head _)).1 6 (.int .i64 o) rfl
  have x7 := cell_obj (HI0.out.bx _ (.head _)).1 7 (.int .i64 rr) rfl
  have x8 := cell_obj (HI0.out.bx _ (.head _)).1 8 (.int .i64 t) rfl
  have x9 := cell_obj (HI0.out.bx _ (.head _)).1 9 (.int .i64 mm) rfl
  have x10 := cell_obj (HI0.out.bx _ (.head _)).1 10 (vS g) rfl
  have x11 := cell_obj (HI0.out.bx _ (.head _)).1 11 (.slice pa M ca) rfl
  have x12 := cell_obj (HI0.out.bx _ (.head _)).1 12 (.int .i64 yc) rfl
  have x13 := cell_obj (HI0.out.bx _ (.head _)).1 13 (.int .i64 yn) rfl
  have x14 := cell_obj (HI0.out.bx _ (.head _)).1 14 (.int .i64 ycd) rfl
  have x15 := cell_obj (HI0.out.bx _ (.head _)).1 15 (.int .i64 ym) rfl
  have y0 := cell_obj (HI0.out.bx _ (.tail _ (.head _))).1 0 (.int .i64 fr) rfl
  have c1 := HI0.out.rb.cells.2.1
  have p0 := FrW.cell x0
  have p1 := FrW.cell x1
  have p2 := FrW.cell x2
  have p3 := FrW.cell x3
  have p4 := FrW.cell x4
  have p5 := FrW.cell x5
  have p6 := FrW.cell x6
  have p7 := FrW.cell x7
  have p8 := FrW.cell x8
  have p9 := FrW.cell x9
  have p10 := FrW.cell x10
  have p11 := FrW.cell x11
  have p12 := FrW.cell x12
  have p13 := FrW.cell x13
  have p14 := FrW.cell x14
  have p15 := FrW.cell x15
  have py := FrW.cell y0
  have pc1 := FrW.cell c1
  go_enter Tryz.func9, Tryz.ntmps9
  (try rw [hW0])
  go_upto_region 1 with (fail)
  (try rw [hW0])
  refine wp_region_fr (by kernel_rfl) (by kernel_rfl) ?_
  repeat (go_big_quiet_step ((go_at_call 22; rename_i X; refine (HMM.out X.val (HF0.out.trans X.fr)).mono ?_; rintro e w2 ⟨rfl, hF⟩; exact ⟨rfl, ⟨w2, X.fr.trans hF⟩, rfl⟩)))
  refine wpQuiet_nil ?_
  rintro V ⟨⟨_, hV⟩, rfl⟩
  have HIV := Lib.hid (HI0.out.keep0 hV)
  clear p0 p1 p2 p3 p4 p5 p6 p7 p8 p9 p10 p11 p12 p13 p14 p15 py pc1 hW0 c1 y0 x0 x1 x2 x3 x4 x5 x6 x7 x8 x9 x10 x11 x12 x13 x14 x15 hV
  have x0 := cell_obj (HIV.out.bx _ (.head _)).1 0 (.int .i64 3) rfl
  have x1 := cell_obj (HIV.out.bx _ (.head _)).1 1 (.int .i64 od) rfl
  have HAN := Lib.hid (fun W => mAns W 3)
  obtain ⟨ak, hak⟩ : ∃ x, ansF 3 = x := ⟨_, rfl⟩
  rw [hak] at HAN
  have HAK := Lib.hid hak
  clear hak
  go_upto_region 3 with (fail)
  refine wp_region_box [⟨6, 7, 36, #[.int .i64 0, .int .i64 0, .slice none 0 0, .int .i64 0, .int .i64 0, .int .i64 0, .int .i64 0, .int .i64 0, .int .i64 0, .int .i64 0, .string ⟨#[]⟩, .slice none 0 0, .int .i64 0, .int .i64 0, .int .i64 0, .int .i64 0], 7, 35⟩] (by kernel_rfl) rfl (by kernel_rfl) (by kernel_rfl) (by kernel_rfl) ?al ?_
  case al =>
    intro b hb w
    simp only [List.mem_cons, List.not_mem_nil, or_false] at hb
    subst hb
    kernel_rfl
  apply Exists.intro
  refine ⟨?hh, ?st, ?qq⟩
  case hh =>
    intro X
    have q0 := FrW.cell (X.fr.cell x0 (fun e => e)); have q1 := FrW.cell (X.fr.cell x1 (fun e => e))
    simp (config := { decide := true }) only [boxedF, bxIdx, List.flatMap_cons, List.flatMap_nil, List.cons_append, List.nil_append, idleU, if_true, if_false, ite_true, ite_false]
    repeat (go_big_quiet_step ((go_at_call 23; rename_i Y; refine (HAN.out Y.val).mono ?_; rintro e w2 ⟨rfl, rfl⟩; exact ⟨rfl, Y, rfl⟩)))
    exact wpQuiet_nil rfl
  case st =>
    intro b hb w n hw
    simp only [List.mem_cons, List.not_mem_nil, or_false] at hb
    subst hb
    exact box_store (cs := #[.int .i64 ak, .int .i64 od, .slice none 0 0, .int .i64 0, .int .i64 0, .int .i64 0, .int .i64 0, .int .i64 0, .int .i64 0, .int .i64 0, .string ⟨#[]⟩, .slice none 0 0, .int .i64 0, .int .i64 0, .int .i64 0, .int .i64 0]) hw rfl (by kernel_rfl) (by intro u hu; simp only [List.mem_cons, List.not_mem_nil, or_false] at hu; rcases hu with h | h | h | h | h | h | h | h | h | h | h | h | h | h | h | h <;> (subst h; rfl))
  intro mf wz hfz hbx hdiff
  have hbk : wz.heap[mf 6]? = some (.cells #[.int .i64 ak, .int .i64 od, .slice none 0 0, .int .i64 0, .int .i64 0, .int .i64 0, .int .i64 0, .int .i64 0, .int .i64 0, .int .i64 0, .string ⟨#[]⟩, .slice none 0 0, .int .i64 0, .int .i64 0, .int .i64 0, .int .i64 0] 36) := (hbx _ (List.mem_cons_self)).2
  have hbs : V.heap.size ≤ mf 6 := (hbx _ (List.mem_cons_self)).1
  obtain ⟨bk, hbke⟩ : ∃ b, mf 6 = b := ⟨_, rfl⟩
  rw [hbke] at hbk hbs
  have HI1 := Lib.hid (HIV.out.box hfz hbk hbs)
  have HNE : Hid (∀ q ∈ [(n0, (#[.int .i64 3, .int .i64 od, .slice pl N cl, .int .i64 c, .int .i64 nn, .int .i64 k, .int .i64 o, .int .i64 rr, .int .i64 t, .int .i64 mm, vS g, .slice pa M ca, .int .i64 yc, .int .i64 yn, .int .i64 ycd, .int .i64 ym] : Array Value), 36), (n0 + 1, #[.int .i64 fr], 3)], bk ≠ q.1) := Lib.hid (fun q hq => by
    have h1 := (Array.getElem?_eq_some_iff.1 (HIV.out.bx q hq).1).1
    omega)
  simp only [bPuts, List.foldl_cons, List.foldl_nil, Act.put, bPtr, hbke]
  clear hbx hdiff hfz hbk hbs x0 x1 hbke
  simp only [List.setIfInBounds_toArray, List.set_cons_succ, List.set_cons_zero]
  have x0 := cell_obj (HI1.out.bx _ (.tail _ (.head _))).1 0 (.int .i64 3) rfl
  have x1 := cell_obj (HI1.out.bx _ (.tail _ (.head _))).1 1 (.int .i64 od) rfl
  obtain ⟨-, c2, -⟩ := HI1.out.cells
  obtain ⟨E, hE⟩ : ∃ E, takeE A le od its = E := ⟨_, rfl⟩
  have HE := Lib.hid hE
  have HEO : Hid (ShOk E.2.1 E.2.2) := Lib.hid (by rw [← hE]; exact (take_ok HH.out.ok).1.sh)
  have HTK : Hid (∀ W T, SHE W gs T A le → Il W (.slice pl N cl) its → Calls Tryz.prog 25 #[.pointer (some ⟨gs, 0, none⟩), .int .i64 od, .slice pl N cl] W (Ans W gs T E)) := Lib.hid (fun W T hs hi => by
    have := eTake od _ its hs HH.out.ok HM.out.od hi
    rw [hE] at this; exact this)
  clear hE
  have HM1 := Lib.hid (fun W k' o' fr' ec sa sn sc h1 h2 => gMail1 W bk (n0 + 1) k' o' fr' ec sa sn sc h1 h2)
  have HS : Hid (∀ W T A' le', SnI w W r gs gm (RB.bl r T0 T1 vk) T T1 vk me n A' le' ws S [(bk, #[.int .i64 ak, .int .i64 od, .slice none 0 0, .int .i64 0, .int .i64 0, .int .i64 0, .int .i64 0, .int .i64 0, .int .i64 0, .int .i64 0, .string ⟨#[]⟩, .slice none 0 0, .int .i64 0, .int .i64 0, .int .i64 0, .int .i64 0], 36), (n0, #[.int .i64 3, .int .i64 od, .slice pl N cl, .int .i64 c, .int .i64 nn, .int .i64 k, .int .i64 o, .int .i64 rr, .int .i64 t, .int .i64 mm, vS g, .slice pa M ca, .int .i64 yc, .int .i64 yn, .int .i64 ycd, .int .i64 ym], 36), (n0 + 1, #[.int .i64 fr], 3)] [(.slice pl N cl, its), (.slice pa M ca, ai)] → W.cell? ⟨r, 2, none⟩ = some (.pointer (some ⟨gs, 0, none⟩)) ∧ W.cell? ⟨n0, 1, none⟩ = some (.int .i64 od) ∧ W.cell? ⟨n0, 2, none⟩ = some (.slice pl N cl)) := Lib.hid (fun W T A' le' h => ⟨h.cells.2.1, cell_obj (h.bx _ (.tail _ (.head _))).1 1 (.int .i64 od) rfl, cell_obj (h.bx _ (.tail _ (.head _))).1 2 (.slice pl N cl) rfl⟩)
  have HS2 : Hid (∀ W T A' le', SnI w W r gs gm (RB.bl r T0 T1 vk) T T1 vk me n A' le' ws S [(n0, #[.int .i64 3, .int .i64 od, .slice pl N cl, .int .i64 c, .int .i64 nn, .int .i64 k, .int .i64 o, .int .i64 rr, .int .i64 t, .int .i64 mm, vS g, .slice pa M ca, .int .i64 yc, .int .i64 yn, .int .i64 ycd, .int .i64 ym], 36), (n0 + 1, #[.int .i64 fr], 3)] [(.slice pl N cl, its), (.slice pa M ca, ai)] → W.cell? ⟨r, 2, none⟩ = some (.pointer (some ⟨gs, 0, none⟩)) ∧ W.cell? ⟨n0, 1, none⟩ = some (.int .i64 od) ∧ W.cell? ⟨n0, 2, none⟩ = some (.slice pl N cl)) := Lib.hid (fun W T A' le' h => ⟨h.cells.2.1, cell_obj (h.bx _ (.head _)).1 1 (.int .i64 od) rfl, cell_obj (h.bx _ (.head _)).1 2 (.slice pl N cl) rfl⟩)
  go_upto_region 7 with (fail)
  clear c2 x0 x1
  obtain ⟨c2, x1, x2⟩ := HS.out _ _ _ _ HI1.out
  go_region_held3 (fun W => W.cell? ⟨r, 2, none⟩ = some (.pointer (some ⟨gs, 0, none⟩)) ∧ W.cell? ⟨n0, 1, none⟩ = some (.int .i64 od) ∧ W.cell? ⟨n0, 2, none⟩ = some (.slice pl N cl)) (first | exact HS.out _ _ _ _ (HI1.out.keep0 ((Fr.refl (fun _ => False) wz).drew)) | exact HS.out _ _ _ _ HI2.out | exact HS2.out _ _ _ _ HI4.out | exact HS.out _ _ _ _ HI1.out)
    (first
      | (go_at_call 25; refine (HTK.out _ _ (HI1.out.keep0 ((Fr.refl (fun _ => False) wz).drew)).rb.sh (HI1.out.keep0 ((Fr.refl (fun _ => False) wz).drew)).il0).mono ?_; rintro e w2 ⟨v2, T2, rfl, q1, q2, q3, q4⟩; obtain ⟨sa, sc, hve⟩ := q2.sl; obtain ⟨LN, hLN⟩ : ∃ x, E.1.1.length = x := ⟨_, rfl⟩; rw [hLN] at hve; subst hve; have hi2 := (HI1.out.keep0 ((Fr.refl (fun _ => False) wz).drew)).shelf q1 HEO.out q4; have HI2 := Lib.hid hi2; have Q2 := Lib.hid q2; have Q3 := Lib.hid q3; have HLN := Lib.hid hLN; clear q1 q2 q3 q4 hi2 hLN)
      | (go_at_call 24; refine (HM1.out _ ak od fr _ _ _ _ (HI2.out.bx _ (.head _)).1 (HI2.out.bx _ (.tail _ (.tail _ (.head _)))).1).mono ?_; rintro e w4 ⟨b4, rfl, h1, h2, h3, h4⟩; have HI4 := Lib.hid (HI2.out.turn h4 HNE.out); have H1 := Lib.hid h1; have H2 := Lib.hid h2; have H3 := Lib.hid h3; have H4 := Lib.hid h4; clear h1 h2 h3 h4))
  all_goals
    go_wp2_with fail
    go_ret
    have hw2 := HI2.out.st.1.size
    have hlt2 := HI2.out.rb.lt
    have hb1 := H1.out
    have hbk := (HI2.out.bx _ (.head _)).1
    have hil : Il w4 (.slice sa LN sc) E.1.1 := Q2.out.keep H4.out (fun hn b hb e => by
      have h5 := (Q3.out b hb).1
      have h6 := (Array.getElem?_eq_some_iff.1 (HI1.out.bx _ (.head _)).1).1
      have e : b = bk := e
      dsimp only at h6
      have h7 : wz.heap.size ≤ b := h5
      omega)
    refine ans_end HI4.out (H3.out E.1.1) (by omega) (fun e => by have := hlt2 _ e; omega) hfr (by rw [← HAK.out]; decide) HM.out.od hil (fun hn b hb => ⟨?_, ?_⟩) ?_
    · have h5 := (Q3.out b hb).1
      intro e
      exact q3_rb HI1.out HI2.out (Q3.out b hb).1 (Q3.out b hb).2.2 e
    · have := (Q3.out b hb).2.1; omega
    · rw [← HR.out, mailR_take HMY.out HQ0.out HQ1.out rfl]
      dsimp only
      rw [HE.out]
      rw [← HAK.out]
      rfl
set_option maxRecDepth 100000 in
set_option maxHeartbeats 32000000 in
theorem gMail_pick (w : World) (r : Nat) (TS : Nat → Prop) (me n : Int) (A : Stk) (le : Hes) (ws : List (Int × WE)) (S : List (Value × Its)) (m : MV) (fr : Int) (h : RG w r TS me n A le ws S) (hm : MOk w m) (hmo : ∀ b, m.own b → ¬ TS b) (hfr : okI fr) (hmay : m.may = true) (h0 : 0 ≤ fr) (h1 : fr < n) (hk : m.kd = 7) :
    Calls Tryz.prog 9 #[.pointer (some ⟨r, 0, none⟩), .agg m.cs, .int .i64 fr] w (MaP w r TS me n (mailR me n ⟨A, le, ws, S.map (·.2)⟩ m fr)) := by
  have hrb := h.rb
  clear h
  obtain ⟨gs, gm, T0, T1, vk, h, rfl⟩ := hrb
  obtain ⟨R, hR⟩ : ∃ R, mailR me n ⟨A, le, ws, S.map (·.2)⟩ m fr = R := ⟨_, rfl⟩
  rw [hR]
  have HR := Lib.hid hR
  have HMM : Hid (∀ W, Fr (fun _ => False) w W → Calls Tryz.prog 22 #[.agg m.cs] W fun e w' => e = .returned (.bool m.may) ∧ Fr (fun _ => False) W w') := Lib.hid (fun W hf => mMay W m (hm.keep hf (fun _ _ e => e)))
  obtain ⟨n0, hn0⟩ : ∃ n0, w.heap.size = n0 := ⟨_, rfl⟩
  obtain ⟨W0, hW0⟩ : ∃ W0, (w.alloc (.cells m.cs 36)).alloc (.cells #[.int .i64 fr] 3) = W0 := ⟨_, rfl⟩
  obtain ⟨hI0, -, hF0⟩ := mail_start h hm hmo hn0 hW0
  obtain ⟨MAY, hMAY⟩ : ∃ x, m.may = x := ⟨_, rfl⟩
  rw [hMAY] at HMM
  have HMAY := Lib.hid hMAY
  have HH := Lib.hid h; have HI0 := Lib.hid hI0; have HM := Lib.hid hm; have HF0 := Lib.hid hF0; have HN0 := Lib.hid hn0
  rw [hmay] at hMAY
  subst hMAY
  have q2 : decide (fr < 0) = false := by simpa using h0
  have q3 : decide (n ≤ fr) = false := by simpa using h1
  have HQ0 := Lib.hid h0; have HQ1 := Lib.hid h1; have HMY := Lib.hid hmay
  clear h0 h1 hmay HMAY
  clear h hm hI0 hF0 hR hmo
  obtain ⟨kd, od, l, its, ⟨c, nn, k, o, rr, t, mm, g, al, ai⟩, ⟨yc, yn, ycd, ym⟩⟩ := m
  (try dsimp only at hk)
  obtain ⟨pl, cl, hsl⟩ : ∃ a c, l = .slice a its.length c := HM.out.l.sl
  obtain ⟨pa, ca, hsa⟩ : ∃ a c, al = .slice a ai.length c := HM.out.a.l.sl
  subst hsl
  subst hsa
  obtain ⟨N, hN⟩ : ∃ x, its.length = x := ⟨_, rfl⟩
  obtain ⟨M, hM⟩ : ∃ x, ai.length = x := ⟨_, rfl⟩
  dsimp only [MV.cs] at HI0 hW0 HMM ⊢
  rw [hN, hM] at HI0 hW0 HMM HM HR HMY ⊢
  have HN := Lib.hid hN; have HMl := Lib.hid hM
  clear hN hM
  (try subst hk)
  have x0 := cell_obj (HI0.out.bx _ (.head _)).1 0 (.int .i64 7) rfl
  have x1 := cell_obj (HI0.out.bx _ (.head _)).1 1 (.int .i64 od) rfl
  have x2 := cell_obj (HI0.out.bx _ (.head _)).1 2 (.slice pl N cl) rfl
  have x3 := cell_obj (HI0.out.bx _ (.head _)).1 3 (.int .i64 c) rfl
  have x4 := cell_obj (HI0.out.bx _ (.head _)).1 4 (.int .i64 nn) rfl
  have x5 := cell_obj (HI0.out.bx _ (.head _)).1 5 (.int .i64 k) rfl
  have x6 := cell_obj (HI0.out.bx _ (.head _)).1 6 (.int .i64 o) rfl
  have x7 := cell_obj (HI0.out.bx _ (.head _)).1 7 (.int .i64 rr) rfl
  have x8 := cell_obj (HI0.out.bx _ (.head _)).1 8 (.int .i64 t) rfl
  have x9 := cell_obj (HI0.out.bx _ (.head _)).1 9 (.int .i64 mm) rfl
  have x10 := cell_obj (HI0.out.bx _ (.head _)).1 10 (vS g) rfl
  have x11 := cell_obj (HI0.out.bx _ (.head _)).1 11 (.slice pa M ca) rfl
  have x12 := cell_obj (HI0.out.bx _ (.head _)).1 12 (.int .i64 yc) rfl
  have x13 := cell_obj (HI0.out.bx _ (.head _)).1 13 (.int .i64 yn) rfl
  have x14 := cell_obj (HI0.out.bx _ (.head _)).1 14 (.int .i64 ycd) rfl
  have x15 := cell_obj (HI0.out.bx _ (.head _)).1 15 (.int .i64 ym) rfl
  have y0 := cell_obj (HI0.out.bx _ (.tail _ (.head _))).1 0 (.int .i64 fr) rfl
  have c1 := HI0.out.rb.cells.2.1
  have p0 := FrW.cell x0
  have p1 := FrW.cell x1
  have p2 := FrW.cell x2
  have p3 := FrW.cell x3
  have p4 := FrW.cell x4
  have p5 := FrW.cell x5
  have p6 := FrW.cell x6
  have p7 := FrW.cell x7
  have p8 := FrW.cell x8
  have p9 := FrW.cell x9
  have p10 := FrW.cell x10
  have p11 := FrW.cell x11
  have p12 := FrW.cell x12
  have p13 := FrW.cell x13
  have p14 := FrW.cell x14
  have p15 := FrW.cell x15
  have py := FrW.cell y0
  have pc1 := FrW.cell c1
  go_enter Tryz.func9, Tryz.ntmps9
  (try rw [hW0])
  go_upto_region 1 with (fail)
  (try rw [hW0])
  refine wp_region_fr (by kernel_rfl) (by kernel_rfl) ?_
  repeat (go_big_quiet_step ((go_at_call 22; rename_i X; refine (HMM.out X.val (HF0.out.trans X.fr)).mono ?_; rintro e w2 ⟨rfl, hF⟩; exact ⟨rfl, ⟨w2, X.fr.trans hF⟩, rfl⟩)))
  refine wpQuiet_nil ?_
  rintro V ⟨⟨_, hV⟩, rfl⟩
  have HIV := Lib.hid (HI0.out.keep0 hV)
  clear p0 p1 p2 p3 p4 p5 p6 p7 p8 p9 p10 p11 p12 p13 p14 p15 py pc1 hW0 c1 y0 x0 x1 x2 x3 x4 x5 x6 x7 x8 x9 x10 x11 x12 x13 x14 x15 hV
  have x0 := cell_obj (HIV.out.bx _ (.head _)).1 0 (.int .i64 7) rfl
  have x1 := cell_obj (HIV.out.bx _ (.head _)).1 1 (.int .i64 od) rfl
  have HAN := Lib.hid (fun W => mAns W 7)
  obtain ⟨ak, hak⟩ : ∃ x, ansF 7 = x := ⟨_, rfl⟩
  rw [hak] at HAN
  have HAK := Lib.hid hak
  clear hak
  go_upto_region 3 with (fail)
  refine wp_region_box [⟨6, 7, 36, #[.int .i64 0, .int .i64 0, .slice none 0 0, .int .i64 0, .int .i64 0, .int .i64 0, .int .i64 0, .int .i64 0, .int .i64 0, .int .i64 0, .string ⟨#[]⟩, .slice none 0 0, .int .i64 0, .int .i64 0, .int .i64 0, .int .i64 0], 7, 35⟩] (by kernel_rfl) rfl (by kernel_rfl) (by kernel_rfl) (by kernel_rfl) ?al ?_
  case al =>
    intro b hb w
    simp only [List.mem_cons, List.not_mem_nil, or_false] at hb
    subst hb
    kernel_rfl
  apply Exists.intro
  refine ⟨?hh, ?st, ?qq⟩
  case hh =>
    intro X
    have q0 := FrW.cell (X.fr.cell x0 (fun e => e)); have q1 := FrW.cell (X.fr.cell x1 (fun e => e))
    simp (config := { decide := true }) only [boxedF, bxIdx, List.flatMap_cons, List.flatMap_nil, List.cons_append, List.nil_append, idleU, if_true, if_false, ite_true, ite_false]
    repeat (go_big_quiet_step ((go_at_call 23; rename_i Y; refine (HAN.out Y.val).mono ?_; rintro e w2 ⟨rfl, rfl⟩; exact ⟨rfl, Y, rfl⟩)))
    exact wpQuiet_nil rfl
  case st =>
    intro b hb w n hw
    simp only [List.mem_cons, List.not_mem_nil, or_false] at hb
    subst hb
    exact box_store (cs := #[.int .i64 ak, .int .i64 od, .slice none 0 0, .int .i64 0, .int .i64 0, .int .i64 0, .int .i64 0, .int .i64 0, .int .i64 0, .int .i64 0, .string ⟨#[]⟩, .slice none 0 0, .int .i64 0, .int .i64 0, .int .i64 0, .int .i64 0]) hw rfl (by kernel_rfl) (by intro u hu; simp only [List.mem_cons, List.not_mem_nil, or_false] at hu; rcases hu with h | h | h | h | h | h | h | h | h | h | h | h | h | h | h | h <;> (subst h; rfl))
  intro mf wz hfz hbx hdiff
  have hbk : wz.heap[mf 6]? = some (.cells #[.int .i64 ak, .int .i64 od, .slice none 0 0, .int .i64 0, .int .i64 0, .int .i64 0, .int .i64 0, .int .i64 0, .int .i64 0, .int .i64 0, .string ⟨#[]⟩, .slice none 0 0, .int .i64 0, .int .i64 0, .int .i64 0, .int .i64 0] 36) := (hbx _ (List.mem_cons_self)).2
  have hbs : V.heap.size ≤ mf 6 := (hbx _ (List.mem_cons_self)).1
  obtain ⟨bk, hbke⟩ : ∃ b, mf 6 = b := ⟨_, rfl⟩
  rw [hbke] at hbk hbs
  have HI1 := Lib.hid (HIV.out.box hfz hbk hbs)
  have HNE : Hid (∀ q ∈ [(n0, (#[.int .i64 7, .int .i64 od, .slice pl N cl, .int .i64 c, .int .i64 nn, .int .i64 k, .int .i64 o, .int .i64 rr, .int .i64 t, .int .i64 mm, vS g, .slice pa M ca, .int .i64 yc, .int .i64 yn, .int .i64 ycd, .int .i64 ym] : Array Value), 36), (n0 + 1, #[.int .i64 fr], 3)], bk ≠ q.1) := Lib.hid (fun q hq => by
    have h1 := (Array.getElem?_eq_some_iff.1 (HIV.out.bx q hq).1).1
    omega)
  simp only [bPuts, List.foldl_cons, List.foldl_nil, Act.put, bPtr, hbke]
  clear hbx hdiff hfz hbk hbs x0 x1 hbke
  simp only [List.setIfInBounds_toArray, List.set_cons_succ, List.set_cons_zero]
  have x0 := cell_obj (HI1.out.bx _ (.tail _ (.head _))).1 0 (.int .i64 7) rfl
  have x1 := cell_obj (HI1.out.bx _ (.tail _ (.head _))).1 1 (.int .i64 od) rfl
  obtain ⟨-, c2, -⟩ := HI1.out.cells
  obtain ⟨E, hE⟩ : ∃ E, pickE A le od = E := ⟨_, rfl⟩
  have HE := Lib.hid hE
  have HEO : Hid (ShOk E.2.1 E.2.2) := Lib.hid (by rw [← hE]; exact (pickM_ok HH.out.ok).1.sh)
  have HTK : Hid (∀ W T, SHE W gs T A le → Il W (.slice pl N cl) its → Calls Tryz.prog 27 #[.pointer (some ⟨gs, 0, none⟩), .int .i64 od] W (Ans W gs T E)) := Lib.hid (fun W T hs hi => by
    have := ePick od hs HH.out.ok HM.out.od
    rw [hE] at this; exact this)
  clear hE
  have HM1 := Lib.hid (fun W k' o' fr' ec sa sn sc h1 h2 => gMail1 W bk (n0 + 1) k' o' fr' ec sa sn sc h1 h2)
  have HS : Hid (∀ W T A' le', SnI w W r gs gm (RB.bl r T0 T1 vk) T T1 vk me n A' le' ws S [(bk, #[.int .i64 ak, .int .i64 od, .slice none 0 0, .int .i64 0, .int .i64 0, .int .i64 0, .int .i64 0, .int .i64 0, .int .i64 0, .int .i64 0, .string ⟨#[]⟩, .slice none 0 0, .int .i64 0, .int .i64 0, .int .i64 0, .int .i64 0], 36), (n0, #[.int .i64 7, .int .i64 od, .slice pl N cl, .int .i64 c, .int .i64 nn, .int .i64 k, .int .i64 o, .int .i64 rr, .int .i64 t, .int .i64 mm, vS g, .slice pa M ca, .int .i64 yc, .int .i64 yn, .int .i64 ycd, .int .i64 ym], 36), (n0 + 1, #[.int .i64 fr], 3)] [(.slice pl N cl, its), (.slice pa M ca, ai)] → W.cell? ⟨r, 2, none⟩ = some (.pointer (some ⟨gs, 0, none⟩)) ∧ W.cell? ⟨n0, 1, none⟩ = some (.int .i64 od)) := Lib.hid (fun W T A' le' h => ⟨h.cells.2.1, cell_obj (h.bx _ (.tail _ (.head _))).1 1 (.int .i64 od) rfl⟩)
  have HS2 : Hid (∀ W T A' le', SnI w W r gs gm (RB.bl r T0 T1 vk) T T1 vk me n A' le' ws S [(n0, #[.int .i64 7, .int .i64 od, .slice pl N cl, .int .i64 c, .int .i64 nn, .int .i64 k, .int .i64 o, .int .i64 rr, .int .i64 t, .int .i64 mm, vS g, .slice pa M ca, .int .i64 yc, .int .i64 yn, .int .i64 ycd, .int .i64 ym], 36), (n0 + 1, #[.int .i64 fr], 3)] [(.slice pl N cl, its), (.slice pa M ca, ai)] → W.cell? ⟨r, 2, none⟩ = some (.pointer (some ⟨gs, 0, none⟩)) ∧ W.cell? ⟨n0, 1, none⟩ = some (.int .i64 od)) := Lib.hid (fun W T A' le' h => ⟨h.cells.2.1, cell_obj (h.bx _ (.head _)).1 1 (.int .i64 od) rfl⟩)
  go_upto_region 12 with (fail)
  clear c2 x0 x1
  obtain ⟨c2, x1⟩ := HS.out _ _ _ _ HI1.out
  go_region_held3 (fun W => W.cell? ⟨r, 2, none⟩ = some (.pointer (some ⟨gs, 0, none⟩)) ∧ W.cell? ⟨n0, 1, none⟩ = some (.int .i64 od)) (first | exact HS.out _ _ _ _ (HI1.out.keep0 ((Fr.refl (fun _ => False) wz).drew)) | exact HS.out _ _ _ _ HI2.out | exact HS2.out _ _ _ _ HI4.out | exact HS.out _ _ _ _ HI1.out)
    (first
      | (go_at_call 27; refine (HTK.out _ _ (HI1.out.keep0 ((Fr.refl (fun _ => False) wz).drew)).rb.sh (HI1.out.keep0 ((Fr.refl (fun _ => False) wz).drew)).il0).mono ?_; rintro e w2 ⟨v2, T2, rfl, q1, q2, q3, q4⟩; obtain ⟨sa, sc, hve⟩ := q2.sl; obtain ⟨LN, hLN⟩ : ∃ x, E.1.1.length = x := ⟨_, rfl⟩; rw [hLN] at hve; subst hve; have hi2 := (HI1.out.keep0 ((Fr.refl (fun _ => False) wz).drew)).shelf q1 HEO.out q4; have HI2 := Lib.hid hi2; have Q2 := Lib.hid q2; have Q3 := Lib.hid q3; have HLN := Lib.hid hLN; clear q1 q2 q3 q4 hi2 hLN)
      | (go_at_call 24; refine (HM1.out _ ak od fr _ _ _ _ (HI2.out.bx _ (.head _)).1 (HI2.out.bx _ (.tail _ (.tail _ (.head _)))).1).mono ?_; rintro e w4 ⟨b4, rfl, h1, h2, h3, h4⟩; have HI4 := Lib.hid (HI2.out.turn h4 HNE.out); have H1 := Lib.hid h1; have H2 := Lib.hid h2; have H3 := Lib.hid h3; have H4 := Lib.hid h4; clear h1 h2 h3 h4))
  all_goals
    go_wp2_with fail
    go_ret
    have hw2 := HI2.out.st.1.size
    have hlt2 := HI2.out.rb.lt
    have hb1 := H1.out
    have hbk := (HI2.out.bx _ (.head _)).1
    have hil : Il w4 (.slice sa LN sc) E.1.1 := Q2.out.keep H4.out (fun hn b hb e => by
      have h5 := (Q3.out b hb).1
      have h6 := (Array.getElem?_eq_some_iff.1 (HI1.out.bx _ (.head _)).1).1
      have e : b = bk := e
      dsimp only at h6
      have h7 : wz.heap.size ≤ b := h5
      omega)
    refine ans_end HI4.out (H3.out E.1.1) (by omega) (fun e => by have := hlt2 _ e; omega) hfr (by rw [← HAK.out]; decide) HM.out.od hil (fun hn b hb => ⟨?_, ?_⟩) ?_
    · have h5 := (Q3.out b hb).1
      intro e
      exact q3_rb HI1.out HI2.out (Q3.out b hb).1 (Q3.out b hb).2.2 e
    · have := (Q3.out b hb).2.1; omega
    · rw [← HR.out, mailR_pick HMY.out HQ0.out HQ1.out rfl]
      dsimp only
      rw [HE.out]
      rw [← HAK.out]
      rfl
set_option maxRecDepth 100000 in
set_option maxHeartbeats 32000000 in
theorem gMail_ship (w : World) (r : Nat) (TS : Nat → Prop) (me n : Int) (A : Stk) (le : Hes) (ws : List (Int × WE)) (S : List (Value × Its)) (m : MV) (fr : Int) (h : RG w r TS me n A le ws S) (hm : MOk w m) (hmo : ∀ b, m.own b → ¬ TS b) (hfr : okI fr) (hmay : m.may = true) (h0 : 0 ≤ fr) (h1 : fr < n) (hk : m.kd = 9) :
    Calls Tryz.prog 9 #[.pointer (some ⟨r, 0, none⟩), .agg m.cs, .int .i64 fr] w (MaP w r TS me n (mailR me n ⟨A, le, ws, S.map (·.2)⟩ m fr)) := by
  have hrb := h.rb
  clear h
  obtain ⟨gs, gm, T0, T1, vk, h, rfl⟩ := hrb
  obtain ⟨R, hR⟩ : ∃ R, mailR me n ⟨A, le, ws, S.map (·.2)⟩ m fr = R := ⟨_, rfl⟩
  rw [hR]
  have HR := Lib.hid hR
  have HMM : Hid (∀ W, Fr (fun _ => False) w W → Calls Tryz.prog 22 #[.agg m.cs] W fun e w' => e = .returned (.bool m.may) ∧ Fr (fun _ => False) W w') := Lib.hid (fun W hf => mMay W m (hm.keep hf (fun _ _ e => e)))
  obtain ⟨n0, hn0⟩ : ∃ n0, w.heap.size = n0 := ⟨_, rfl⟩
  obtain ⟨W0, hW0⟩ : ∃ W0, (w.alloc (.cells m.cs 36)).alloc (.cells #[.int .i64 fr] 3) = W0 := ⟨_, rfl⟩
  obtain ⟨hI0, -, hF0⟩ := mail_start h hm hmo hn0 hW0
  obtain ⟨MAY, hMAY⟩ : ∃ x, m.may = x := ⟨_, rfl⟩
  rw [hMAY] at HMM
  have HMAY := Lib.hid hMAY
  have HH := Lib.hid h; have HI0 := Lib.hid hI0; have HM := Lib.hid hm; have HF0 := Lib.hid hF0; have HN0 := Lib.hid hn0
  rw [hmay] at hMAY
  subst hMAY
  have q2 : decide (fr < 0) = false := by simpa using h0
  have q3 : decide (n ≤ fr) = false := by simpa using h1
  have HQ0 := Lib.hid h0; have HQ1 := Lib.hid h1; have HMY := Lib.hid hmay
  clear h0 h1 hmay HMAY
  clear h hm hI0 hF0 hR hmo
  obtain ⟨kd, od, l, its, ⟨c, nn, k, o, rr, t, mm, g, al, ai⟩, ⟨yc, yn, ycd, ym⟩⟩ := m
  (try dsimp only at hk)
  obtain ⟨pl, cl, hsl⟩ : ∃ a c, l = .slice a its.length c := HM.out.l.sl
  obtain ⟨pa, ca, hsa⟩ : ∃ a c, al = .slice a ai.length c := HM.out.a.l.sl
  subst hsl
  subst hsa
  obtain ⟨N, hN⟩ : ∃ x, its.length = x := ⟨_, rfl⟩
  obtain ⟨M, hM⟩ : ∃ x, ai.length = x := ⟨_, rfl⟩
  dsimp only [MV.cs] at HI0 hW0 HMM ⊢
  rw [hN, hM] at HI0 hW0 HMM HM HR HMY ⊢
  have HN := Lib.hid hN; have HMl := Lib.hid hM
  clear hN hM
  (try subst hk)
  have x0 := cell_obj (HI0.out.bx _ (.head _)).1 0 (.int .i64 9) rfl
  have x1 := cell_obj (HI0.out.bx _ (.head _)).1 1 (.int .i64 od) rfl
  have x2 := cell_obj (HI0.out.bx _ (.head _)).1 2 (.slice pl N cl) rfl
  have x3 := cell_obj (HI0.out.bx _ (.head _)).1 3 (.int .i64 c) rfl
  have x4 := cell_obj (HI0.out.bx _ (.head _)).1 4 (.int .i64 nn) rfl
  have x5 := cell_obj (HI0.out.bx _ (.head _)).1 5 (.int .i64 k) rfl
  have x6 := cell_obj (HI0.out.bx _ (.head _)).1 6 (.int .i64 o) rfl
  have x7 := cell_obj (HI0.out.bx _ (.head _)).1 7 (.int .i64 rr) rfl
  have x8 := cell_obj (HI0.out.bx _ (.head _)).1 8 (.int .i64 t) rfl
  have x9 := cell_obj (HI0.out.bx _ (.head _)).1 9 (.int .i64 mm) rfl
  have x10 := cell_obj (HI0.out.bx _ (.head _)).1 10 (vS g) rfl
  have x11 := cell_obj (HI0.out.bx _ (.head _)).1 11 (.slice pa M ca) rfl
  have x12 := cell_obj (HI0.out.bx _ (.head _)).1 12 (.int .i64 yc) rfl
  have x13 := cell_obj (HI0.out.bx _ (.head _)).1 13 (.int .i64 yn) rfl
  have x14 := cell_obj (HI0.out.bx _ (.head _)).1 14 (.int .i64 ycd) rfl
  have x15 := cell_obj (HI0.out.bx _ (.head _)).1 15 (.int .i64 ym) rfl
  have y0 := cell_obj (HI0.out.bx _ (.tail _ (.head _))).1 0 (.int .i64 fr) rfl
  have c1 := HI0.out.rb.cells.2.1
  have p0 := FrW.cell x0
  have p1 := FrW.cell x1
  have p2 := FrW.cell x2
  have p3 := FrW.cell x3
  have p4 := FrW.cell x4
  have p5 := FrW.cell x5
  have p6 := FrW.cell x6
  have p7 := FrW.cell x7
  have p8 := FrW.cell x8
  have p9 := FrW.cell x9
  have p10 := FrW.cell x10
  have p11 := FrW.cell x11
  have p12 := FrW.cell x12
  have p13 := FrW.cell x13
  have p14 := FrW.cell x14
  have p15 := FrW.cell x15
  have py := FrW.cell y0
  have pc1 := FrW.cell c1
  go_enter Tryz.func9, Tryz.ntmps9
  (try rw [hW0])
  go_upto_region 1 with (fail)
  (try rw [hW0])
  refine wp_region_fr (by kernel_rfl) (by kernel_rfl) ?_
  repeat (go_big_quiet_step ((go_at_call 22; rename_i X; refine (HMM.out X.val (HF0.out.trans X.fr)).mono ?_; rintro e w2 ⟨rfl, hF⟩; exact ⟨rfl, ⟨w2, X.fr.trans hF⟩, rfl⟩)))
  refine wpQuiet_nil ?_
  rintro V ⟨⟨_, hV⟩, rfl⟩
  have HIV := Lib.hid (HI0.out.keep0 hV)
  clear p0 p1 p2 p3 p4 p5 p6 p7 p8 p9 p10 p11 p12 p13 p14 p15 py pc1 hW0 c1 y0 x0 x1 x2 x3 x4 x5 x6 x7 x8 x9 x10 x11 x12 x13 x14 x15 hV
  have x0 := cell_obj (HIV.out.bx _ (.head _)).1 0 (.int .i64 9) rfl
  have x1 := cell_obj (HIV.out.bx _ (.head _)).1 1 (.int .i64 od) rfl
  have HAN := Lib.hid (fun W => mAns W 9)
  obtain ⟨ak, hak⟩ : ∃ x, ansF 9 = x := ⟨_, rfl⟩
  rw [hak] at HAN
  have HAK := Lib.hid hak
  clear hak
  go_upto_region 3 with (fail)
  refine wp_region_box [⟨6, 7, 36, #[.int .i64 0, .int .i64 0, .slice none 0 0, .int .i64 0, .int .i64 0, .int .i64 0, .int .i64 0, .int .i64 0, .int .i64 0, .int .i64 0, .string ⟨#[]⟩, .slice none 0 0, .int .i64 0, .int .i64 0, .int .i64 0, .int .i64 0], 7, 35⟩] (by kernel_rfl) rfl (by kernel_rfl) (by kernel_rfl) (by kernel_rfl) ?al ?_
  case al =>
    intro b hb w
    simp only [List.mem_cons, List.not_mem_nil, or_false] at hb
    subst hb
    kernel_rfl
  apply Exists.intro
  refine ⟨?hh, ?st, ?qq⟩
  case hh =>
    intro X
    have q0 := FrW.cell (X.fr.cell x0 (fun e => e)); have q1 := FrW.cell (X.fr.cell x1 (fun e => e))
    simp (config := { decide := true }) only [boxedF, bxIdx, List.flatMap_cons, List.flatMap_nil, List.cons_append, List.nil_append, idleU, if_true, if_false, ite_true, ite_false]
    repeat (go_big_quiet_step ((go_at_call 23; rename_i Y; refine (HAN.out Y.val).mono ?_; rintro e w2 ⟨rfl, rfl⟩; exact ⟨rfl, Y, rfl⟩)))
    exact wpQuiet_nil rfl
  case st =>
    intro b hb w n hw
    simp only [List.mem_cons, List.not_mem_nil, or_false] at hb
    subst hb
    exact box_store (cs := #[.int .i64 ak, .int .i64 od, .slice none 0 0, .int .i64 0, .int .i64 0, .int .i64 0, .int .i64 0, .int .i64 0, .int .i64 0, .int .i64 0, .string ⟨#[]⟩, .slice none 0 0, .int .i64 0, .int .i64 0, .int .i64 0, .int .i64 0]) hw rfl (by kernel_rfl) (by intro u hu; simp only [List.mem_cons, List.not_mem_nil, or_false] at hu; rcases hu with h | h | h | h | h | h | h | h | h | h | h | h | h | h | h | h <;> (subst h; rfl))
  intro mf wz hfz hbx hdiff
  have hbk : wz.heap[mf 6]? = some (.cells #[.int .i64 ak, .int .i64 od, .slice none 0 0, .int .i64 0, .int .i64 0, .int .i64 0, .int .i64 0, .int .i64 0, .int .i64 0, .int .i64 0, .string ⟨#[]⟩, .slice none 0 0, .int .i64 0, .int .i64 0, .int .i64 0, .int .i64 0] 36) := (hbx _ (List.mem_cons_self)).2
  have hbs : V.heap.size ≤ mf 6 := (hbx _ (List.mem_cons_self)).1
  obtain ⟨bk, hbke⟩ : ∃ b, mf 6 = b := ⟨_, rfl⟩
  rw [hbke] at hbk hbs
  have HI1 := Lib.hid (HIV.out.box hfz hbk hbs)
  have HNE : Hid (∀ q ∈ [(n0, (#[.int .i64 9, .int .i64 od, .slice pl N cl, .int .i64 c, .int .i64 nn, .int .i64 k, .int .i64 o, .int .i64 rr, .int .i64 t, .int .i64 mm, vS g, .slice pa M ca, .int .i64 yc, .int .i64 yn, .int .i64 ycd, .int .i64 ym] : Array Value), 36), (n0 + 1, #[.int .i64 fr], 3)], bk ≠ q.1) := Lib.hid (fun q hq => by
    have h1 := (Array.getElem?_eq_some_iff.1 (HIV.out.bx q hq).1).1
    omega)
  simp only [bPuts, List.foldl_cons, List.foldl_nil, Act.put, bPtr, hbke]
  clear hbx hdiff hfz hbk hbs x0 x1 hbke
  simp only [List.setIfInBounds_toArray, List.set_cons_succ, List.set_cons_zero]
  have x0 := cell_obj (HI1.out.bx _ (.tail _ (.head _))).1 0 (.int .i64 9) rfl
  have x1 := cell_obj (HI1.out.bx _ (.tail _ (.head _))).1 1 (.int .i64 od) rfl
  obtain ⟨-, c2, -⟩ := HI1.out.cells
  obtain ⟨E, hE⟩ : ∃ E, shipE A le od = E := ⟨_, rfl⟩
  have HE := Lib.hid hE
  have HEO : Hid (ShOk E.2.1 E.2.2) := Lib.hid (by rw [← hE]; exact (shipM_ok HH.out.ok).1.sh)
  have HTK : Hid (∀ W T, SHE W gs T A le → Il W (.slice pl N cl) its → Calls Tryz.prog 28 #[.pointer (some ⟨gs, 0, none⟩), .int .i64 od] W (Ans W gs T E)) := Lib.hid (fun W T hs hi => by
    have := eShip od hs HH.out.ok HM.out.od
    rw [hE] at this; exact this)
  clear hE
  have HM1 := Lib.hid (fun W k' o' fr' ec sa sn sc h1 h2 => gMail1 W bk (n0 + 1) k' o' fr' ec sa sn sc h1 h2)
  have HS : Hid (∀ W T A' le', SnI w W r gs gm (RB.bl r T0 T1 vk) T T1 vk me n A' le' ws S [(bk, #[.int .i64 ak, .int .i64 od, .slice none 0 0, .int .i64 0, .int .i64 0, .int .i64 0, .int .i64 0, .int .i64 0, .int .i64 0, .int .i64 0, .string ⟨#[]⟩, .slice none 0 0, .int .i64 0, .int .i64 0, .int .i64 0, .int .i64 0], 36), (n0, #[.int .i64 9, .int .i64 od, .slice pl N cl, .int .i64 c, .int .i64 nn, .int .i64 k, .int .i64 o, .int .i64 rr, .int .i64 t, .int .i64 mm, vS g, .slice pa M ca, .int .i64 yc, .int .i64 yn, .int .i64 ycd, .int .i64 ym], 36), (n0 + 1, #[.int .i64 fr], 3)] [(.slice pl N cl, its), (.slice pa M ca, ai)] → W.cell? ⟨r, 2, none⟩ = some (.pointer (some ⟨gs, 0, none⟩)) ∧ W.cell? ⟨n0, 1, none⟩ = some (.int .i64 od)) := Lib.hid (fun W T A' le' h => ⟨h.cells.2.1, cell_obj (h.bx _ (.tail _ (.head _))).1 1 (.int .i64 od) rfl⟩)
  have HS2 : Hid (∀ W T A' le', SnI w W r gs gm (RB.bl r T0 T1 vk) T T1 vk me n A' le' ws S [(n0, #[.int .i64 9, .int .i64 od, .slice pl N cl, .int .i64 c, .int .i64 nn, .int .i64 k, .int .i64 o, .int .i64 rr, .int .i64 t, .int .i64 mm, vS g, .slice pa M ca, .int .i64 yc, .int .i64 yn, .int .i64 ycd, .int .i64 ym], 36), (n0 + 1, #[.int .i64 fr], 3)] [(.slice pl N cl, its), (.slice pa M ca, ai)] → W.cell? ⟨r, 2, none⟩ = some (.pointer (some ⟨gs, 0, none⟩)) ∧ W.cell? ⟨n0, 1, none⟩ = some (.int .i64 od)) := Lib.hid (fun W T A' le' h => ⟨h.cells.2.1, cell_obj (h.bx _ (.head _)).1 1 (.int .i64 od) rfl⟩)
  go_upto_region 14 with (fail)
  clear c2 x0 x1
  obtain ⟨c2, x1⟩ := HS.out _ _ _ _ HI1.out
  go_region_held3 (fun W => W.cell? ⟨r, 2, none⟩ = some (.pointer (some ⟨gs, 0, none⟩)) ∧ W.cell? ⟨n0, 1, none⟩ = some (.int .i64 od)) (first | exact HS.out _ _ _ _ (HI1.out.keep0 ((Fr.refl (fun _ => False) wz).drew)) | exact HS.out _ _ _ _ HI2.out | exact HS2.out _ _ _ _ HI4.out | exact HS.out _ _ _ _ HI1.out)
    (first
      | (go_at_call 28; refine (HTK.out _ _ (HI1.out.keep0 ((Fr.refl (fun _ => False) wz).drew)).rb.sh (HI1.out.keep0 ((Fr.refl (fun _ => False) wz).drew)).il0).mono ?_; rintro e w2 ⟨v2, T2, rfl, q1, q2, q3, q4⟩; obtain ⟨sa, sc, hve⟩ := q2.sl; obtain ⟨LN, hLN⟩ : ∃ x, E.1.1.length = x := ⟨_, rfl⟩; rw [hLN] at hve; subst hve; have hi2 := (HI1.out.keep0 ((Fr.refl (fun _ => False) wz).drew)).shelf q1 HEO.out q4; have HI2 := Lib.hid hi2; have Q2 := Lib.hid q2; have Q3 := Lib.hid q3; have HLN := Lib.hid hLN; clear q1 q2 q3 q4 hi2 hLN)
      | (go_at_call 24; refine (HM1.out _ ak od fr _ _ _ _ (HI2.out.bx _ (.head _)).1 (HI2.out.bx _ (.tail _ (.tail _ (.head _)))).1).mono ?_; rintro e w4 ⟨b4, rfl, h1, h2, h3, h4⟩; have HI4 := Lib.hid (HI2.out.turn h4 HNE.out); have H1 := Lib.hid h1; have H2 := Lib.hid h2; have H3 := Lib.hid h3; have H4 := Lib.hid h4; clear h1 h2 h3 h4))
  all_goals
    go_wp2_with fail
    go_ret
    have hw2 := HI2.out.st.1.size
    have hlt2 := HI2.out.rb.lt
    have hb1 := H1.out
    have hbk := (HI2.out.bx _ (.head _)).1
    have hil : Il w4 (.slice sa LN sc) E.1.1 := Q2.out.keep H4.out (fun hn b hb e => by
      have h5 := (Q3.out b hb).1
      have h6 := (Array.getElem?_eq_some_iff.1 (HI1.out.bx _ (.head _)).1).1
      have e : b = bk := e
      dsimp only at h6
      have h7 : wz.heap.size ≤ b := h5
      omega)
    refine ans_end HI4.out (H3.out E.1.1) (by omega) (fun e => by have := hlt2 _ e; omega) hfr (by rw [← HAK.out]; decide) HM.out.od hil (fun hn b hb => ⟨?_, ?_⟩) ?_
    · have h5 := (Q3.out b hb).1
      intro e
      exact q3_rb HI1.out HI2.out (Q3.out b hb).1 (Q3.out b hb).2.2 e
    · have := (Q3.out b hb).2.1; omega
    · rw [← HR.out, mailR_ship HMY.out HQ0.out HQ1.out rfl]
      dsimp only
      rw [HE.out]
      rw [← HAK.out]
      rfl
set_option maxRecDepth 100000 in
set_option maxHeartbeats 32000000 in
theorem gMail_free (w : World) (r : Nat) (TS : Nat → Prop) (me n : Int) (A : Stk) (le : Hes) (ws : List (Int × WE)) (S : List (Value × Its)) (m : MV) (fr : Int) (h : RG w r TS me n A le ws S) (hm : MOk w m) (hmo : ∀ b, m.own b → ¬ TS b) (hfr : okI fr) (hmay : m.may = true) (h0 : 0 ≤ fr) (h1 : fr < n) (hk : m.kd = 5) :
    Calls Tryz.prog 9 #[.pointer (some ⟨r, 0, none⟩), .agg m.cs, .int .i64 fr] w (MaP w r TS me n (mailR me n ⟨A, le, ws, S.map (·.2)⟩ m fr)) := by
  have hrb := h.rb
  clear h
  obtain ⟨gs, gm, T0, T1, vk, h, rfl⟩ := hrb
  obtain ⟨R, hR⟩ : ∃ R, mailR me n ⟨A, le, ws, S.map (·.2)⟩ m fr = R := ⟨_, rfl⟩
  rw [hR]
  have HR := Lib.hid hR
  have HMM : Hid (∀ W, Fr (fun _ => False) w W → Calls Tryz.prog 22 #[.agg m.cs] W fun e w' => e = .returned (.bool m.may) ∧ Fr (fun _ => False) W w') := Lib.hid (fun W hf => mMay W m (hm.keep hf (fun _ _ e => e)))
  obtain ⟨n0, hn0⟩ : ∃ n0, w.heap.size = n0 := ⟨_, rfl⟩
  obtain ⟨W0, hW0⟩ : ∃ W0, (w.alloc (.cells m.cs 36)).alloc (.cells #[.int .i64 fr] 3) = W0 := ⟨_, rfl⟩
  obtain ⟨hI0, -, hF0⟩ := mail_start h hm hmo hn0 hW0
  obtain ⟨MAY, hMAY⟩ : ∃ x, m.may = x := ⟨_, rfl⟩
  rw [hMAY] at HMM
  have HMAY := Lib.hid hMAY
  have HH := Lib.hid h; have HI0 := Lib.hid hI0; have HM := Lib.hid hm; have HF0 := Lib.hid hF0; have HN0 := Lib.hid hn0
  rw [hmay] at hMAY
  subst hMAY
  have q2 : decide (fr < 0) = false := by simpa using h0
  have q3 : decide (n ≤ fr) = false := by simpa using h1
  have HQ0 := Lib.hid h0; have HQ1 := Lib.hid h1; have HMY := Lib.hid hmay
  clear h0 h1 hmay HMAY
  clear h hm hI0 hF0 hR hmo
  obtain ⟨kd, od, l, its, ⟨c, nn, k, o, rr, t, mm, g, al, ai⟩, ⟨yc, yn, ycd, ym⟩⟩ := m
  (try dsimp only at hk)
  obtain ⟨pl, cl, hsl⟩ : ∃ a c, l = .slice a its.length c := HM.out.l.sl
  obtain ⟨pa, ca, hsa⟩ : ∃ a c, al = .slice a ai.length c := HM.out.a.l.sl
  subst hsl
  subst hsa
  obtain ⟨N, hN⟩ : ∃ x, its.length = x := ⟨_, rfl⟩
  obtain ⟨M, hM⟩ : ∃ x, ai.length = x := ⟨_, rfl⟩
  dsimp only [MV.cs] at HI0 hW0 HMM ⊢
  rw [hN, hM] at HI0 hW0 HMM HM HR HMY ⊢
  have HN := Lib.hid hN; have HMl := Lib.hid hM
  clear hN hM
  (try subst hk)
  have x0 := cell_obj (HI0.out.bx _ (.head _)).1 0 (.int .i64 5) rfl
  have x1 := cell_obj (HI0.out.bx _ (.head _)).1 1 (.int .i64 od) rfl
  have x2 := cell_obj (HI0.out.bx _ (.head _)).1 2 (.slice pl N cl) rfl
  have x3 := cell_obj (HI0.out.bx _ (.head _)).1 3 (.int .i64 c) rfl
  have x4 := cell_obj (HI0.out.bx _ (.head _)).1 4 (.int .i64 nn) rfl
  have x5 := cell_obj (HI0.out.bx _ (.head _)).1 5 (.int .i64 k) rfl
  have x6 := cell_obj (HI0.out.bx _ (.head _)).1 6 (.int .i64 o) rfl
  have x7 := cell_obj (HI0.out.bx _ (.head _)).1 7 (.int .i64 rr) rfl
  have x8 := cell_obj (HI0.out.bx _ (.head _)).1 8 (.int .i64 t) rfl
  have x9 := cell_obj (HI0.out.bx _ (.head _)).1 9 (.int .i64 mm) rfl
  have x10 := cell_obj (HI0.out.bx _ (.head _)).1 10 (vS g) rfl
  have x11 := cell_obj (HI0.out.bx _ (.head _)).1 11 (.slice pa M ca) rfl
  have x12 := cell_obj (HI0.out.bx _ (.head _)).1 12 (.int .i64 yc) rfl
  have x13 := cell_obj (HI0.out.bx _ (.head _)).1 13 (.int .i64 yn) rfl
  have x14 := cell_obj (HI0.out.bx _ (.head _)).1 14 (.int .i64 ycd) rfl
  have x15 := cell_obj (HI0.out.bx _ (.head _)).1 15 (.int .i64 ym) rfl
  have y0 := cell_obj (HI0.out.bx _ (.tail _ (.head _))).1 0 (.int .i64 fr) rfl
  have c1 := HI0.out.rb.cells.2.1
  have p0 := FrW.cell x0
  have p1 := FrW.cell x1
  have p2 := FrW.cell x2
  have p3 := FrW.cell x3
  have p4 := FrW.cell x4
  have p5 := FrW.cell x5
  have p6 := FrW.cell x6
  have p7 := FrW.cell x7
  have p8 := FrW.cell x8
  have p9 := FrW.cell x9
  have p10 := FrW.cell x10
  have p11 := FrW.cell x11
  have p12 := FrW.cell x12
  have p13 := FrW.cell x13
  have p14 := FrW.cell x14
  have p15 := FrW.cell x15
  have py := FrW.cell y0
  have pc1 := FrW.cell c1
  go_enter Tryz.func9, Tryz.ntmps9
  (try rw [hW0])
  go_upto_region 1 with (fail)
  (try rw [hW0])
  refine wp_region_fr (by kernel_rfl) (by kernel_rfl) ?_
  repeat (go_big_quiet_step ((go_at_call 22; rename_i X; refine (HMM.out X.val (HF0.out.trans X.fr)).mono ?_; rintro e w2 ⟨rfl, hF⟩; exact ⟨rfl, ⟨w2, X.fr.trans hF⟩, rfl⟩)))
  refine wpQuiet_nil ?_
  rintro V ⟨⟨_, hV⟩, rfl⟩
  have HIV := Lib.hid (HI0.out.keep0 hV)
  clear p0 p1 p2 p3 p4 p5 p6 p7 p8 p9 p10 p11 p12 p13 p14 p15 py pc1 hW0 c1 y0 x0 x1 x2 x3 x4 x5 x6 x7 x8 x9 x10 x11 x12 x13 x14 x15 hV
  have x0 := cell_obj (HIV.out.bx _ (.head _)).1 0 (.int .i64 5) rfl
  have x1 := cell_obj (HIV.out.bx _ (.head _)).1 1 (.int .i64 od) rfl
  have HAN := Lib.hid (fun W => mAns W 5)
  obtain ⟨ak, hak⟩ : ∃ x, ansF 5 = x := ⟨_, rfl⟩
  rw [hak] at HAN
  have HAK := Lib.hid hak
  clear hak
  go_upto_region 3 with (fail)
  refine wp_region_box [⟨6, 7, 36, #[.int .i64 0, .int .i64 0, .slice none 0 0, .int .i64 0, .int .i64 0, .int .i64 0, .int .i64 0, .int .i64 0, .int .i64 0, .int .i64 0, .string ⟨#[]⟩, .slice none 0 0, .int .i64 0, .int .i64 0, .int .i64 0, .int .i64 0], 7, 35⟩] (by kernel_rfl) rfl (by kernel_rfl) (by kernel_rfl) (by kernel_rfl) ?al ?_
  case al =>
    intro b hb w
    simp only [List.mem_cons, List.not_mem_nil, or_false] at hb
    subst hb
    kernel_rfl
  apply Exists.intro
  refine ⟨?hh, ?st, ?qq⟩
  case hh =>
    intro X
    have q0 := FrW.cell (X.fr.cell x0 (fun e => e)); have q1 := FrW.cell (X.fr.cell x1 (fun e => e))
    simp (config := { decide := true }) only [boxedF, bxIdx, List.flatMap_cons, List.flatMap_nil, List.cons_append, List.nil_append, idleU, if_true, if_false, ite_true, ite_false]
    repeat (go_big_quiet_step ((go_at_call 23; rename_i Y; refine (HAN.out Y.val).mono ?_; rintro e w2 ⟨rfl, rfl⟩; exact ⟨rfl, Y, rfl⟩)))
    exact wpQuiet_nil rfl
  case st =>
    intro b hb w n hw
    simp only [List.mem_cons, List.not_mem_nil, or_false] at hb
    subst hb
    exact box_store (cs := #[.int .i64 ak, .int .i64 od, .slice none 0 0, .int .i64 0, .int .i64 0, .int .i64 0, .int .i64 0, .int .i64 0, .int .i64 0, .int .i64 0, .string ⟨#[]⟩, .slice none 0 0, .int .i64 0, .int .i64 0, .int .i64 0, .int .i64 0]) hw rfl (by kernel_rfl) (by intro u hu; simp only [List.mem_cons, List.not_mem_nil, or_false] at hu; rcases hu with h | h | h | h | h | h | h | h | h | h | h | h | h | h | h | h <;> (subst h; rfl))
  intro mf wz hfz hbx hdiff
  have hbk : wz.heap[mf 6]? = some (.cells #[.int .i64 ak, .int .i64 od, .slice none 0 0, .int .i64 0, .int .i64 0, .int .i64 0, .int .i64 0, .int .i64 0, .int .i64 0, .int .i64 0, .string ⟨#[]⟩, .slice none 0 0, .int .i64 0, .int .i64 0, .int .i64 0, .int .i64 0] 36) := (hbx _ (List.mem_cons_self)).2
  have hbs : V.heap.size ≤ mf 6 := (hbx _ (List.mem_cons_self)).1
  obtain ⟨bk, hbke⟩ : ∃ b, mf 6 = b := ⟨_, rfl⟩
  rw [hbke] at hbk hbs
  have HI1 := Lib.hid (HIV.out.box hfz hbk hbs)
  have HNE : Hid (∀ q ∈ [(n0, (#[.int .i64 5, .int .i64 od, .slice pl N cl, .int .i64 c, .int .i64 nn, .int .i64 k, .int .i64 o, .int .i64 rr, .int .i64 t, .int .i64 mm, vS g, .slice pa M ca, .int .i64 yc, .int .i64 yn, .int .i64 ycd, .int .i64 ym] : Array Value), 36), (n0 + 1, #[.int .i64 fr], 3)], bk ≠ q.1) := Lib.hid (fun q hq => by
    have h1 := (Array.getElem?_eq_some_iff.1 (HIV.out.bx q hq).1).1
    omega)
  simp only [bPuts, List.foldl_cons, List.foldl_nil, Act.put, bPtr, hbke]
  clear hbx hdiff hfz hbk hbs x0 x1 hbke
  simp only [List.setIfInBounds_toArray, List.set_cons_succ, List.set_cons_zero]
  have x0 := cell_obj (HI1.out.bx _ (.tail _ (.head _))).1 0 (.int .i64 5) rfl
  have x1 := cell_obj (HI1.out.bx _ (.tail _ (.head _))).1 1 (.int .i64 od) rfl
  obtain ⟨-, c2, -⟩ := HI1.out.cells
  obtain ⟨E, hE⟩ : ∃ E, freeE A le od = E := ⟨_, rfl⟩
  have HE := Lib.hid hE
  have HEO : Hid (ShOk E.2.1 E.2.2) := Lib.hid (by rw [← hE]; exact (free_ok HH.out.ok).1.sh)
  have HTK : Hid (∀ W T, SHE W gs T A le → Calls Tryz.prog 26 #[.pointer (some ⟨gs, 0, none⟩), .int .i64 od] W (Ans W gs T E)) := Lib.hid (fun W T hs => by
    have := eFree od hs HH.out.ok HM.out.od
    rw [hE] at this; exact this)
  clear hE
  have HM1 := Lib.hid (fun W k' o' fr' ec sa sn sc h1 h2 => gMail1 W bk (n0 + 1) k' o' fr' ec sa sn sc h1 h2)
  go_upto_region 9 with (fail)
  refine wp_region_still_tail 6 (by kernel_rfl) (by kernel_rfl) ?_
  simp only [List.take_succ_cons, List.take_zero, List.drop_succ_cons, List.drop_zero]
  change wpStill _ _ wz.drew (fun a' => wpList _ _ _ _ a' wz.drew) _ _
  have HI1' := Lib.hid (HI1.out.keep0 ((Fr.refl (fun _ => False) wz).drew))
  have c2 : wz.drew.cell? _ = _ := c2
  have x1 : wz.drew.cell? _ = _ := x1
  clear x0
  generalize wz.drew = V2 at HI1' c2 x1 ⊢
  repeat still_step
  refine wpStill_nil ?_
  clear c2 x1
  go_wp2_with (first
    | (go_at_call 26; refine (HTK.out _ _ HI1'.out.rb.sh).mono ?_; rintro e w2 ⟨v2, T2, rfl, q1, q2, q3, q4⟩; have HI2 := Lib.hid (HI1'.out.shelf q1 HEO.out q4); clear q1 q2 q3 q4)
    | (go_at_call 24; refine (HM1.out _ ak od fr _ _ _ _ (HI2.out.bx _ (.head _)).1 (HI2.out.bx _ (.tail _ (.tail _ (.head _)))).1).mono ?_; rintro e w4 ⟨b4, rfl, h1, h2, h3, h4⟩; have HI4 := Lib.hid (HI2.out.turn h4 HNE.out); have H1 := Lib.hid h1; have H2 := Lib.hid h2; have H3 := Lib.hid h3; clear h1 h2 h3 h4))
  go_ret
  have hw2 := HI2.out.st.1.size
  have hlt2 := HI2.out.rb.lt
  have hb1 := H1.out
  refine ans_end HI4.out (H3.out []) (by omega) (fun e => by have := hlt2 _ e; omega) hfr (by rw [← HAK.out]; decide) HM.out.od ⟨Nat.zero_le _, none, 0, rfl, fun i p hp => (by simp at hp)⟩ (fun hn => absurd rfl hn) ?_
  rw [← HR.out, mailR_free HMY.out HQ0.out HQ1.out rfl]
  dsimp only
  rw [HE.out]
  rw [← HAK.out]
  rfl
end Go.Proofs.YtmflpeklalgibaaGreat

