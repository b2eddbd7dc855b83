/- ident: for every input IdentDoes returns true and leaves its input as it was; no condition. -/
import Derived.Test.YtakjiicnbocjeaaRows
import Derived.Test.YtakjiicnbocjeaaIdDoesM48
import Derived.Test.YtakjiicnbocjeaaIdDoesM2
import Derived.Test.YtakjiicnbocjeaaIdDoesM38
import Derived.Deep.RegionHeld3
import Derived.Deep.CutBlock
import Derived.Deep.QuietTactic
import Derived.BigQuiet
import Derived.Deep.RegionWith
import Derived.Deep.DeepCutAuto
namespace Go.Proofs.Ytakjiicnbocjeaa.identDoes
open Go.ChangeShapes Go.WideShapes Go.ChangeAt Go.RowKit Go.Maps
theorem zTable : Try.zeroCells53 = Array.replicate 64 (.int .i64 0) ++ Array.replicate 64 (.slice none 0 0) := by kernel_rfl
theorem Good.nil : Good [] := ⟨fun p hp => (by cases hp), List.Pairwise.nil⟩
theorem len_out {A : Tbl} (h : Good A) {c : Int} (hc : isCl c = false) : lenM A c = 0 := by
  have e : cli A c = (1, []) := by
    unfold cli
    rw [getS_none.2 fun p hp e => ?_]; rfl
    have := (h.tok).keys p hp
    rw [e, hc] at this
    cases this
  rw [lenM_cli, e]; rfl
/-- Both tables are there, and empty. -/
theorem start (w W : World) (g : Nat) (TS : Nat → Prop) (h : TA W g TS []) (hT : ∀ b, TS b → w.heap.size ≤ b) (hf : Fr (fun b => w.heap.size ≤ b) w W) : DuT w g W.heap.size [] [] [] (W.alloc (.cells Try.zeroCells53 53)) := by
  have hf1 : Fr (fun _ => False) W (W.alloc (.cells Try.zeroCells53 53)) := (Fr.refl _ W).alloc _
  have hs := hf.size
  refine ⟨⟨TS, _, h.fr hf1 (fun _ _ e => e), (RU.new W).rt, hT, fun b hb => by omega, fun b hb hx => by have := h.lt b hb; omega, fun o e => by cases e⟩, hf.trans (hf1.mono (fun _ _ e => e.elim)), Good.nil, Good.nil⟩
set_option maxRecDepth 100000 in
set_option maxHeartbeats 8000000 in
theorem walk (v : Value) (L : List OpV) (w : World) (hL : Sq 8 OpV.cs OpOkZ w v L) : Calls Try.prog 7 #[v] w fun e w' => e = .returned (.bool true) ∧ Below w.heap.size w w' := by
  obtain ⟨N, hN⟩ : ∃ N, L.length = N := ⟨_, rfl⟩
  have hNb := hL.len
  obtain ⟨a0, c0, rfl⟩ := hL.sl
  have HL0 := Lib.hid hL; have HN := Lib.hid hN
  rw [hN] at hNb HL0 ⊢
  have hNew := Lib.hid (xNew w)
  have HLV := Lib.hid (fun W => iLives W)
  clear hL hN
  go_enter Try.func7, Try.ntmps7
  go_wp2_with (first
    | (go_at_call 9; refine hNew.out.mono ?_; rintro e w1 ⟨rfl, hT1, hf1, hs1⟩; have HT1 := Lib.hid hT1; have HF1 := Lib.hid hf1; have HS1 := Lib.hid hs1; clear hT1 hf1 hs1)
    | (go_at_call 10; refine (HLV.out _).mono ?_; rintro e w2 ⟨rfl, hb2⟩; have HB2 := Lib.hid hb2; clear hb2))
  have hI0 : DuT w (w.heap.size + 1) w1.heap.size [] [] [] w2 :=
    (start w w1 _ _ HT1.out (fun b hb => by omega) (HF1.out.mono (fun _ _ e => e.elim))).keep (Fr.below HB2.out)
  have HI0 := Lib.hid hI0
  obtain ⟨g0, hg0⟩ : ∃ x, w.heap.size + 1 = x := ⟨_, rfl⟩
  obtain ⟨gx, hgx⟩ : ∃ x, w1.heap.size = x := ⟨_, rfl⟩
  rw [hg0, hgx] at HI0
  rw [hg0, hgx]
  clear hI0 HT1 HF1 HS1 HB2 hg0 hgx
  go_loopw [3, 5] (fun s3 s5 wr => ∃ (k g : Nat) (A : Tbl), k ≤ N ∧ s5 = .int .i64 k ∧ s3 = .pointer (some ⟨g, 0, none⟩) ∧ DuT w g gx A A [] wr) (fun _ i _ => N - (intOf i).toNat)
  case atStart => exact ⟨0, g0, [], Nat.zero_le _, rfl, rfl, HI0.out⟩
  case round =>
    obtain ⟨k, g, A, hk, rfl, rfl, hI⟩ := hrel
    have HI := Lib.hid hI
    clear hI HI0
    by_cases hlt : k < N
    · have hkI : (k : Int) < N := by omega
      obtain ⟨r, hr⟩ : ∃ r, L[k]? = some r := ⟨L[k]'(by rw [HN.out]; exact hlt), List.getElem?_eq_getElem _⟩
      obtain ⟨ad, rfl, hok, q0, qs⟩ := (HI.out.ops HL0.out).at_ hr
      have hok0 : OpOkZ w r := HL0.out.okm (List.mem_of_getElem? hr)
      obtain ⟨kd, c, n, body, bs, ⟨ac, an, acode, ak⟩⟩ := r
      obtain ⟨⟨ok1, ok2, ok3, ok4, ok5⟩, ok6, ok7, ok8⟩ := hok0
      dsimp only at ok1 ok2 ok3 ok4 ok5 ok6 ok7 ok8
      obtain ⟨bl, hbl⟩ : ∃ bl, bs.length = bl := ⟨_, rfl⟩
      obtain ⟨_, ba, bc, hbv, _⟩ := id ok3
      rw [hbl] at hbv
      subst hbv
      have p0 := q0 (.int .i64 kd) rfl
      have p1 := qs 0 (.int .i64 c) rfl
      have p2 := qs 1 (.int .i64 n) rfl
      have p3 := qs 2 (.slice ba bl bc) rfl
      have p4 := qs 3 (.int .i64 ac) rfl
      have p5 := qs 4 (.int .i64 an) rfl
      have p6 := qs 5 (.int .i64 acode) rfl
      have p7 := qs 6 (.int .i64 ak) rfl
      dsimp only [Nat.zero_add, Nat.reduceAdd] at p0 p1 p2 p3 p4 p5 p6 p7
      have HBS := Lib.hid ok3; have HBL := Lib.hid hbl; have HB8 := Lib.hid ok8
      have HC := Lib.hid ok1; have HNN := Lib.hid ok2; have HAN := Lib.hid ok5; have HAK := Lib.hid ok7
      clear hr hok q0 qs ok1 ok2 ok3 ok4 ok5 ok6 ok7 ok8 hbl
      go_upto_region 9 with (fail)
      obtain ⟨ob, hob⟩ : ∃ ob, wr.heap.size = ob := ⟨_, rfl⟩
      obtain ⟨O, hO⟩ : ∃ O : Obj, (.cells #[.int .i64 kd, .int .i64 c, .int .i64 n, .slice ba bl bc, .int .i64 ac, .int .i64 an, .int .i64 acode, .int .i64 ak] 33) = O := ⟨_, rfl⟩
      have hIb := HI.out.box O
      rw [hO, hob]
      rw [hob] at hIb
      obtain ⟨Wb, hWb⟩ : ∃ Wb, wr.alloc O = Wb := ⟨_, rfl⟩
      rw [hWb] at hIb ⊢
      have HIb := Lib.hid hIb
      have hwob : Hid (w.heap.size ≤ ob) := Lib.hid (by have := HI.out.fr.size; omega)
      have hobb : Hid (ob < Wb.heap.size) := Lib.hid (by rw [← hWb]; simp; omega)
      have hcells : Hid (∀ W : World, W.heap[ob]? = some O → W.cell? ⟨ob, 0, none⟩ = some (.int .i64 kd) ∧ W.cell? ⟨ob, 1, none⟩ = some (.int .i64 c) ∧ W.cell? ⟨ob, 2, none⟩ = some (.int .i64 n) ∧ W.cell? ⟨ob, 3, none⟩ = some (.slice ba bl bc) ∧
        W.cell? ⟨ob, 4, none⟩ = some (.int .i64 ac) ∧ W.cell? ⟨ob, 5, none⟩ = some (.int .i64 an) ∧ W.cell? ⟨ob, 6, none⟩ = some (.int .i64 acode) ∧ W.cell? ⟨ob, 7, none⟩ = some (.int .i64 ak)) := Lib.hid (fun W h => by
        rw [← hO] at h
        exact ⟨cell_obj h 0 _ rfl, cell_obj h 1 _ rfl, cell_obj h 2 _ rfl, cell_obj h 3 _ rfl, cell_obj h 4 _ rfl, cell_obj h 5 _ rfl, cell_obj h 6 _ rfl, cell_obj h 7 _ rfl⟩)
      have hbX : Hid (∀ W : World, Fr (fun b => w.heap.size ≤ b) w W → Bs W (.slice ba bl bc) bs) := Lib.hid (fun W hf => HBS.out.fr hf (fun b hb => hb))
      clear hIb hWb hO hob p0 p1 p2 p3 p4 p5 p6 p7 HI
      obtain ⟨e0, e1, e2, e3, e4, e5, e6, e7⟩ := hcells.out Wb HIb.out.bx0
      go_upto_block 2 with (fail)
      go_cut [3, 7] (fun s3 s7 wz => ∃ (g' : Nat) (B : Tbl), s3 = .pointer (some ⟨g', 0, none⟩) ∧ s7 = .bool true ∧ DuT w g' gx B B [(ob, O)] wz)
      case first =>
        rcases (by omega : kd = 1 ∨ kd = 2 ∨ kd = 3 ∨ kd = 4 ∨ (kd ≠ 1 ∧ kd ≠ 2 ∧ kd ≠ 3 ∧ kd ≠ 4)) with rfl | rfl | rfl | rfl | ⟨h1, h2, h3, h4⟩
        · obtain ⟨⟨y1, ⟨yc, yn, ycode, yk⟩⟩, hy⟩ : ∃ y, askA A c n (mixF 7 bs) = y := ⟨_, rfl⟩
          obtain ⟨B, hB⟩ : ∃ B, askT A c n (mixF 7 bs) = B := ⟨_, rfl⟩
          have hT : Hid (∀ W v X bx, DuT w g gx A X bx W → Bs W v bs → Calls Try.prog 11 #[.pointer (some ⟨g, 0, none⟩), .int .i64 c, .int .i64 n, v] W fun e w' => e = .returned (.tuple #[.int .i64 y1, .agg #[.int .i64 yc, .int .i64 yn, .int .i64 ycode, .int .i64 yk]]) ∧ DuT w g gx B X bx w' ∧ W.heap.size ≤ w'.heap.size) := Lib.hid (fun W v X bx h hv => by
            have := dAsk c n h (Fr.refl _ _) hv
            rw [hy, hB] at this
            exact this.mono (fun e w' h => ⟨h.1, h.2.1, h.2.2.2⟩))
          have hTX : Hid (∀ W X bx, DuT w g gx X A bx W → Calls Try.prog 18 #[.pointer (some ⟨gx, 0, none⟩), .int .i64 c, .int .i64 n, .slice ba bl bc] W fun e w' => e = .returned (.tuple #[.int .i64 y1, .agg #[.int .i64 yc, .int .i64 yn, .int .i64 ycode, .int .i64 yk]]) ∧ DuT w g gx X B bx w') := Lib.hid (fun W X bx h => by
            have := dAskX c n h (Fr.refl _ _) (hbX.out W h.fr) HB8.out
            rw [hy, hB] at this
            exact this.mono (fun e w' h => ⟨h.1, h.2.1⟩))
          obtain ⟨i0, hi', hz0, hz1, hz2⟩ := info_parts infoU8
          have hRD : Hid (Rd Wb 1 ba bl (u8s bs)) := Lib.hid (by have := (hbX.out Wb HIb.out.fr).rd; rw [HBL.out] at this; exact this)
          have hone : Hid (∀ u ∈ u8s bs, u.oneCell' = true) := Lib.hid (by intro u hu; simp [u8s] at hu; obtain ⟨x, _, rfl⟩ := hu; rfl)
          have hby : Hid (∀ x ∈ bs, 0 ≤ x ∧ x < 256) := Lib.hid (by
            intro x hx
            obtain ⟨i, hi⟩ := List.getElem?_of_mem hx
            obtain ⟨_, _, _, _, hh⟩ := HBS.out
            obtain ⟨b0, b1, _⟩ := hh i x hi
            exact ⟨b0, b1⟩)
          have hbn : Hid ((bl : Int) ≤ 140737488351232) := Lib.hid (by have := HB8.out; rw [HBL.out] at this; exact this)
          have E1 := Lib.hid e1; have E2 := Lib.hid e2; have E3 := Lib.hid e3
          obtain ⟨Zo, hZo⟩ : ∃ Zo : Obj, (.cells #[.int .i64 0, .int .i64 0, .int .i64 0, .int .i64 0] 31) = Zo := ⟨_, rfl⟩
          have HZo := Lib.hid hZo
          clear hy hB hZo
          go_upto_region 12 with (fail)
          go_cut [8, 9] (fun s8 s9 wz => ∃ b : Nat, s8 = .int .i64 y1 ∧ s9 = .pointer (some ⟨b, 0, none⟩) ∧ DuT w g gx B A [(b, (.cells #[.int .i64 yc, .int .i64 yn, .int .i64 ycode, .int .i64 yk] 31)), (ob, O)] wz)
          case first =>
            go_region_held3 (fun w' => w'.cell? ⟨ob, 1, none⟩ = some (.int .i64 c) ∧ w'.cell? ⟨ob, 2, none⟩ = some (.int .i64 n) ∧ w'.cell? ⟨ob, 3, none⟩ = some (.slice ba bl bc))
              (first
              | exact ⟨QC.out.1, QC.out.2.1, QC.out.2.2⟩
              | (refine ⟨Fr.cell (S := fun _ => False) (w := Wb) ?_ E1.out (fun h => h), Fr.cell (S := fun _ => False) (w := Wb) ?_ E2.out (fun h => h), Fr.cell (S := fun _ => False) (w := Wb) ?_ E3.out (fun h => h)⟩ <;> (repeat (first | (with_reducible assumption) | (with_reducible exact Fr.refl _ _) | (with_reducible refine Fr.alloc ?_ _) | (with_reducible refine Fr.drew ?_) | (with_reducible refine Fr.setCell ?_ (fun h => absurd h (Nat.not_lt.2 ?_)) _) | (exact Nat.le_refl _) | (exact Fr.size (by assumption)))); done)
              | (refine ⟨Fr.cell (S := fun x => Wb.heap.size ≤ x) (w := w4) ?_ QC.out.1 (Nat.not_le.2 hobb.out), Fr.cell (S := fun x => Wb.heap.size ≤ x) (w := w4) ?_ QC.out.2.1 (Nat.not_le.2 hobb.out), Fr.cell (S := fun x => Wb.heap.size ≤ x) (w := w4) ?_ QC.out.2.2 (Nat.not_le.2 hobb.out)⟩ <;> (repeat (first | (with_reducible exact Fr.refl _ _) | (with_reducible refine Fr.alloc ?_ _) | (with_reducible refine Fr.drew ?_) | (with_reducible refine Fr.setCell ?_ (fun _ => ?_) _) | exact HS4.out | exact HS3.out | exact Nat.le_refl _ | exact Nat.le_succ _))))
              (first
              | (refine step_append_src rfl (.tmp 43) (.tmp 45) 28 rfl Wb.heap.size 5 i0 (.int .u8 0) 1 Try.underlying28 hi' hz0 hz1 hz2 rfl (by decide) _ 0 [] (by rfl) (by first | exact (Fr.refl (fun _ => False) _).drew.row (own_none' (by simp) (by omega)) (fun _ _ h => h) | exact ((Fr.refl (fun _ => False) _).alloc _).drew.row (own_none' (by simp) (by omega)) (fun _ _ h => h)) bc (by rfl) (hRD.out.fr (S := fun _ => False) (by (repeat (first | (with_reducible assumption) | (with_reducible exact Fr.refl _ _) | (with_reducible refine Fr.alloc ?_ _) | (with_reducible refine Fr.drew ?_) | (with_reducible refine Fr.setCell ?_ (fun h => absurd h (Nat.not_lt.2 ?_)) _) | (exact Nat.le_refl _) | (exact Fr.size (by assumption))))) (fun _ _ h => h)) hone.out (by have := hbn.out; unfold maxLen; omega) (by have := hbn.out; omega) (by simp <;> omega) ?_
                 intro v3 w3 hown3 hgrow3 hloc3
                 rw [Nat.zero_add, List.nil_append] at hown3
                 obtain ⟨a3, c3, rfl⟩ := row_sl hown3
                 have hD3 : Fr (fun _ => False) Wb w3 := (Fr.trans (S := fun b => Wb.heap.size ≤ b) ((by (repeat (first | (with_reducible assumption) | (with_reducible exact Fr.refl _ _) | (with_reducible refine Fr.alloc ?_ _) | (with_reducible refine Fr.drew ?_) | (with_reducible refine Fr.setCell ?_ (fun h => absurd h (Nat.not_lt.2 ?_)) _) | (exact Nat.le_refl _) | (exact Fr.size (by assumption)))) : Fr (fun _ => False) Wb _).mono (fun _ _ e => e.elim)) (Fr.grown hgrow3 (fun r hr _ => by cases hr; simp))).mono (fun b hb e => absurd hb (Nat.not_lt.2 e))
                 have HV3 : Hid (Bs w3 (.slice a3 bl c3) bs) := Lib.hid (Bs.own (by rw [HBL.out]; exact hown3) hby.out).1
                 have HS3 : Hid (Wb.heap.size ≤ w3.heap.size) := Lib.hid hD3.size
                 first
                 | have hz3 : Hid (w3.heap[Wb.heap.size]? = some Zo) := Lib.hid (HZo.out ▸ (Fr.grown (S := fun x => x = Wb.heap.size + 1) hgrow3 (by intro r hr _; cases hr; simp)).at_ (heap_keep (heap_at (by simp) _) _) (by omega))
                 | have hz3 : Hid (w3.heap[Wb.heap.size + 1]? = some Zo) := Lib.hid (HZo.out ▸ (Fr.grown (S := fun x => x = Wb.heap.size) hgrow3 (by intro r hr _; cases hr; rfl)).at_ (heap_at (by simp) _) (by omega))
                 | skip
                 clear hown3 hgrow3 hloc3)
              | (go_at_call 11
                 first
                 | refine (hT.out _ _ _ _ (HIb.out.newbox hD3 (Nat.le_refl _) hz3.out) HV3.out).mono ?_
                 | refine (hT.out _ _ _ _ (HIb.out.newbox hD3 (Nat.le_succ _) hz3.out) HV3.out).mono ?_
                 | refine (hT.out _ _ _ _ (HIb.out.keep hD3) HV3.out).mono ?_
                 | refine (hT.out _ _ _ _ (HIb.out.newbox (o := Zo) (hD3.alloc _) HS3.out (by rw [← HZo.out]; exact heap_new _ _)) (HV3.out.fr ((Fr.refl (fun _ => False) _).alloc _) (fun _ h => h.elim))).mono ?_
                 rintro e w4 ⟨rfl, hI4, hs4⟩
                 have HI4 := Lib.hid hI4
                 have HS4 : Hid (Wb.heap.size ≤ w4.heap.size) := Lib.hid (by have := HS3.out; first | omega | (simp at hs4; omega))
                 have QC : Hid (w4.cell? ⟨ob, 1, none⟩ = some (.int .i64 c) ∧ w4.cell? ⟨ob, 2, none⟩ = some (.int .i64 n) ∧ w4.cell? ⟨ob, 3, none⟩ = some (.slice ba bl bc)) := Lib.hid (by
                   have := hcells.out w4 (HI4.out.at_ (q := (ob, O)) (by simp))
                   exact ⟨this.2.1, this.2.2.1, this.2.2.2.1⟩)
                 first
                 | (have hz4 := HI4.out.bx1
                    have hz5 := HI4.out.bx0
                    rw [← HZo.out] at hz5
                    have t0 := cell_obj hz5 0 (.int .i64 0) rfl
                    have t1 := cell_obj hz5 1 (.int .i64 0) rfl
                    have t2 := cell_obj hz5 2 (.int .i64 0) rfl
                    have t3 := cell_obj hz5 3 (.int .i64 0) rfl
                    have u0 := obj_frozen hz5 0
                    have u1 := obj_frozen hz5 1
                    have u2 := obj_frozen hz5 2
                    have u3 := obj_frozen hz5 3
                    clear hz4 hz5)
                 | skip
                 clear hI4 hs4))
            all_goals
              have hwb : w.heap.size ≤ Wb.heap.size := HIb.out.fr.size
              have hlt : ob < Wb.heap.size := hobb.out
              go_wp2_with fail
              go_meet
              first
              | (have h4 := HI4.out
                 rw [← HZo.out] at h4
                 have h5 := h4.setAns ⟨yc, yn, ycode, yk⟩ (fun q hq => by simp at hq; subst hq; show ob ≠ _; first | omega | (have := HS3.out; omega)) (by first | omega | (have := HS3.out; omega))
                 exact ⟨_, rfl, rfl, h5⟩)
              | (have h5 := HI4.out.box (.cells #[.int .i64 yc, .int .i64 yn, .int .i64 ycode, .int .i64 yk] 31)
                 exact ⟨_, rfl, rfl, h5⟩)
          case rest =>
            obtain ⟨b, rfl, rfl, hIz⟩ := hcut
            have HIz := Lib.hid hIz
            obtain ⟨e0, e1, e2, e3, e4, e5, e6, e7⟩ := hcells.out _ hIz.bx1
            clear hIz
            go_wp2_with (go_at_call 18; refine (hTX.out _ _ _ HIz.out).mono ?_; rintro e w5 ⟨rfl, hI5⟩; have HI5 := Lib.hid hI5; have hz5 := hI5.bx0; have t0 := cell_obj hz5 0 (.int .i64 yc) rfl; have t1 := cell_obj hz5 1 (.int .i64 yn) rfl; have t2 := cell_obj hz5 2 (.int .i64 ycode) rfl; have t3 := cell_obj hz5 3 (.int .i64 yk) rfl; have v0 := fun o => ((Fr.refl (fun _ => False) w5).alloc o).cell t0 (fun h => h); have v1 := fun o => ((Fr.refl (fun _ => False) w5).alloc o).cell t1 (fun h => h); have v2 := fun o => ((Fr.refl (fun _ => False) w5).alloc o).cell t2 (fun h => h); have v3 := fun o => ((Fr.refl (fun _ => False) w5).alloc o).cell t3 (fun h => h); clear hI5 hz5)
            go_meet
            refine ⟨g, B, rfl, ?_, ?_⟩
            · simp
            · exact DuT.drop1 (HI5.out.keep ((Fr.refl _ _).alloc _))
        · obtain ⟨y, hy⟩ : ∃ y, tellA A ⟨ac, an, acode, ak⟩ = y := ⟨_, rfl⟩
          obtain ⟨B, hB⟩ : ∃ B, tellT A ⟨ac, an, acode, ak⟩ = B := ⟨_, rfl⟩
          have hT : Hid (∀ W X, DuT w g gx A X [(ob, O)] W → Calls Try.prog 12 #[.pointer (some ⟨g, 0, none⟩), .agg #[.int .i64 ac, .int .i64 an, .int .i64 acode, .int .i64 ak]] W fun e w' => e = .returned (.int .i64 y) ∧ DuT w g gx B X [(ob, O)] w') := Lib.hid (fun W X h => by
            have := dTell ⟨ac, an, acode, ak⟩ h HAK.out HAN.out
            rw [hy, hB] at this
            exact this)
          have hTX : Hid (∀ W X, DuT w g gx X A [(ob, O)] W → Calls Try.prog 19 #[.pointer (some ⟨gx, 0, none⟩), .agg #[.int .i64 ac, .int .i64 an, .int .i64 acode, .int .i64 ak]] W fun e w' => e = .returned (.int .i64 y) ∧ DuT w g gx X B [(ob, O)] w') := Lib.hid (fun W X h => by
            have := dTellX ⟨ac, an, acode, ak⟩ h HAK.out HAN.out
            rw [hy, hB] at this
            exact this)
          clear hy hB e0
          have e0 := (hcells.out Wb HIb.out.bx0).1
          go_upto_region 16 with (fail)
          have E4 := Lib.hid e4; have E5 := Lib.hid e5; have E6 := Lib.hid e6; have E7 := Lib.hid e7
          go_region_held3 (fun w' => w'.cell? ⟨ob, 4, none⟩ = some (.int .i64 ac) ∧ w'.cell? ⟨ob, 5, none⟩ = some (.int .i64 an) ∧ w'.cell? ⟨ob, 6, none⟩ = some (.int .i64 acode) ∧ w'.cell? ⟨ob, 7, none⟩ = some (.int .i64 ak)) (first | exact (hcells.out _ HI4.out.bx0).2.2.2.2 | exact (hcells.out _ HI3.out.bx0).2.2.2.2 | exact ⟨(Fr.refl (fun _ => False) _).drew.cell E4.out (fun h => h), (Fr.refl (fun _ => False) _).drew.cell E5.out (fun h => h), (Fr.refl (fun _ => False) _).drew.cell E6.out (fun h => h), (Fr.refl (fun _ => False) _).drew.cell E7.out (fun h => h)⟩)
            (first
            | (go_at_call 12; refine (hT.out _ _ (HIb.out.keep (by (repeat (first | (with_reducible assumption) | (with_reducible exact Fr.refl _ _) | (with_reducible refine Fr.alloc ?_ _) | (with_reducible refine Fr.drew ?_) | (with_reducible refine Fr.setCell ?_ (fun h => absurd h (Nat.not_lt.2 ?_)) _) | (exact Nat.le_refl _) | (exact Fr.size (by assumption))))))).mono ?_; rintro e w3 ⟨rfl, hI3⟩; have HI3 := Lib.hid hI3; clear hI3)
            | (go_at_call 19; refine (hTX.out _ _ HI3.out).mono ?_; rintro e w4 ⟨rfl, hI4⟩; have HI4 := Lib.hid hI4; clear hI4))
          all_goals
            go_wp2_with fail
            go_meet
            exact ⟨g, B, rfl, by simp, HI4.out⟩
        · obtain ⟨y, hy⟩ : ∃ y, lowA A c n = y := ⟨_, rfl⟩
          obtain ⟨B, hB⟩ : ∃ B, lowT A c n = B := ⟨_, rfl⟩
          have hT : Hid (∀ W X, DuT w g gx A X [(ob, O)] W → Calls Try.prog 13 #[.pointer (some ⟨g, 0, none⟩), .int .i64 c, .int .i64 n] W fun e w' => e = .returned (.int .i64 y) ∧ DuT w g gx B X [(ob, O)] w') := Lib.hid (fun W X h => by
            have := dLow c n h
            rw [hy, hB] at this
            exact this)
          have hTX : Hid (∀ W X, DuT w g gx X A [(ob, O)] W → Calls Try.prog 20 #[.pointer (some ⟨gx, 0, none⟩), .int .i64 c, .int .i64 n] W fun e w' => e = .returned (.int .i64 y) ∧ DuT w g gx X B [(ob, O)] w') := Lib.hid (fun W X h => by
            have := dLowX c n h
            rw [hy, hB] at this
            exact this)
          clear hy hB
          go_upto_region 18 with (fail)
          have E1 := Lib.hid e1; have E2 := Lib.hid e2
          go_region_held3 (fun w' => w'.cell? ⟨ob, 1, none⟩ = some (.int .i64 c) ∧ w'.cell? ⟨ob, 2, none⟩ = some (.int .i64 n)) (first | exact ⟨(hcells.out _ HI4.out.bx0).2.1, (hcells.out _ HI4.out.bx0).2.2.1⟩ | exact ⟨(hcells.out _ HI3.out.bx0).2.1, (hcells.out _ HI3.out.bx0).2.2.1⟩ | exact ⟨(Fr.refl (fun _ => False) _).drew.cell E1.out (fun h => h), (Fr.refl (fun _ => False) _).drew.cell E2.out (fun h => h)⟩)
            (first
            | (go_at_call 13; refine (hT.out _ _ (HIb.out.keep (by (repeat (first | (with_reducible assumption) | (with_reducible exact Fr.refl _ _) | (with_reducible refine Fr.alloc ?_ _) | (with_reducible refine Fr.drew ?_) | (with_reducible refine Fr.setCell ?_ (fun h => absurd h (Nat.not_lt.2 ?_)) _) | (exact Nat.le_refl _) | (exact Fr.size (by assumption))))))).mono ?_; rintro e w3 ⟨rfl, hI3⟩; have HI3 := Lib.hid hI3; clear hI3)
            | (go_at_call 20; refine (hTX.out _ _ HI3.out).mono ?_; rintro e w4 ⟨rfl, hI4⟩; have HI4 := Lib.hid hI4; clear hI4))
          all_goals
            go_wp2_with fail
            go_meet
            exact ⟨g, B, rfl, by simp, HI4.out⟩
        · go_wp2_with (first
            | (go_at_call 17; refine (dPack HIb.out).mono ?_; rintro e w3 ⟨v3, rfl, hv3, hI3⟩; have HI3 := Lib.hid hI3; have HV3 := Lib.hid hv3; clear hI3 hv3)
            | (go_at_call 21; refine (dUnpack HI3.out HV3.out).mono ?_; rintro e w4 ⟨g4, rfl, hI4⟩; have HI4 := Lib.hid hI4; clear hI4))
          go_meet
          exact ⟨g4, A, rfl, rfl, HI4.out⟩
        · have b1 : (kd == 1) = false := by simpa using h1
          have b2 : (kd == 2) = false := by simpa using h2
          have b3 : (kd == 3) = false := by simpa using h3
          have b4 : (kd == 4) = false := by simpa using h4
          clear h1 h2 h3 h4
          go_wp2_with fail
          go_meet
          exact ⟨g, A, rfl, rfl, HIb.out⟩
      case rest =>
        obtain ⟨g', B, rfl, rfl, hIz⟩ := hcut
        have HI := Lib.hid hIz
        clear hIz e0 e1 e2 e3 e4 e5 e6 e7
        go_wp2_with (go_at_call 22; refine (dLooks HI.out).mono ?_; rintro e w7 ⟨rfl, hI7⟩; have HI := Lib.hid hI7; clear hI7)
        go_roundw
        case rel => exact ⟨k + 1, g', B, by omega, by go_num, rfl, HI.out.unbox⟩
        case measure => simp [intOf]; omega
    · have hkN : k = N := by omega
      subst hkN
      have z1 : okI (-1) := by unfold okI; omega
      have z2 : okI 64 := by unfold okI; omega
      have hm1 : Hid (∀ W A, DuT w g gx A A [] W → Calls Try.prog 15 #[.pointer (some ⟨g, 0, none⟩), .int .i64 (-1)] W fun e w' => e = .returned (.int .i64 0) ∧ DuT w g gx A A [] w') := Lib.hid (fun W A h => dMark (-1) h z1)
      have hm2 : Hid (∀ W A, DuT w g gx A A [] W → Calls Try.prog 15 #[.pointer (some ⟨g, 0, none⟩), .int .i64 64] W fun e w' => e = .returned (.int .i64 0) ∧ DuT w g gx A A [] w') := Lib.hid (fun W A h => dMark 64 h z2)
      have hl1 : Hid (∀ W A, DuT w g gx A A [] W → Calls Try.prog 14 #[.pointer (some ⟨g, 0, none⟩), .int .i64 (-1)] W fun e w' => e = .returned (.int .i64 0) ∧ W = w') := Lib.hid (fun W A h => by
        have h2 := dLen (-1) h z1
        rw [len_out h.ok (by decide)] at h2
        exact h2)
      have hl2 : Hid (∀ W A, DuT w g gx A A [] W → Calls Try.prog 14 #[.pointer (some ⟨g, 0, none⟩), .int .i64 64] W fun e w' => e = .returned (.int .i64 0) ∧ W = w') := Lib.hid (fun W A h => by
        have h2 := dLen 64 h z2
        rw [len_out h.ok (by decide)] at h2
        exact h2)
      clear z1 z2
      go_wp2_with (first
        | (go_at_call 15; refine (hm1.out _ _ HI.out).mono ?_; rintro e w3 ⟨rfl, hI3⟩; have HI := Lib.hid hI3; have tok1 : True := trivial; clear hI3 hm1)
        | (go_at_call 15; refine (hm2.out _ _ HI.out).mono ?_; rintro e w4 ⟨rfl, hI4⟩; have HI := Lib.hid hI4; clear hI4)
        | (go_at_call 14; refine (hl1.out _ _ HI.out).mono ?_; rintro e w5 ⟨rfl, rfl⟩; clear hl1)
        | (go_at_call 14; refine (hl2.out _ _ HI.out).mono ?_; rintro e w6 ⟨rfl, rfl⟩))
      go_ret
      exact ⟨rfl, HI.out.fr.toBelow (fun b h => h) (Nat.le_refl _)⟩
set_option maxRecDepth 100000 in
theorem lifted (os : Os) (started : os.Started) (H : Type) (enc : TypeId × Value → H) :
    ReturnsInHanded {} Try.checked os 7 .any (Rows.identDoesSpec.pre6 enc Try.prog Try.f7 Rows.identDoesRow.domain false) (Rows.identDoesSpec.post enc Try.prog Try.f7 false true false false) := by
  refine returnsInHanded_of_change_sized (C := Try.checked) own started (by kernel_rfl) Try.func7
    (ChangeSpec.witness6 (enc := enc) (C := Try.checked) false ⟨#[], #[.slice none 0 0], []⟩ 8 (by kernel_rfl) (by kernel_rfl) (by kernel_rfl) (by kernel_rfl)) ?_
  intro W base args ds gs before hval0 hW hcnd hsz _
  have hval : ∀ (j : Nat) t v, Try.f7.params[j]? = some t → args[j]? = some v → Value.okWide Try.prog W .any base t v := hval0
  have hW' := hW
  obtain ⟨p, q, hA0, hV, rfl, hfz, hnd⟩ := hW
  have hA : DataW.TrodAll enc Try.prog W 0 (fun _ => true) true Try.f7.params.toList args.toList ds p := hA0
  rw [Try.params7] at hA hval hsz
  obtain ⟨v0, vs0, d0, ds0, p0, q0, hargs, rfl, rfl, h0, r0⟩ := trodAll_cons hA
  obtain ⟨rfl, rfl, rfl⟩ := trodAll_nil r0
  obtain rfl : args = #[v0] := by cases args; simp_all
  obtain ⟨rfl, rfl⟩ := trodVars_none hV
  obtain ⟨L0, hL0⟩ := open_opsZ (hval 0 22 v0 rfl rfl) h0 (arg_Z (j := 0) hsz rfl rfl)
  clear hA0 hval0
  simp only [List.append_nil] at hW'
  refine (walk v0 L0 W hL0).mono fun e W' ⟨he, hg⟩ => ?_
  subst he
  exact ⟨_, rfl, law_post laidOut (by kernel_rfl) rfl Try.underlying4 hW' rfl rfl hg⟩
theorem over : Rows.identDoesRow.holds Try.pinned (OpenSpec.ofChange Rows.identDoesSpec) :=
  OpenClaim.holds_of_wide 7 Try.f7 rfl rfl rfl rfl rfl rfl rfl ⟨rfl, rfl, rfl, rfl, rfl⟩ rfl rfl rfl rfl rfl (by kernel_rfl) Try.func7 (by kernel_rfl)
    (of_decide_eq_true (by kernel_rfl)) (by unfold Func.isWrapper; first | (rw [if_pos (by decide +kernel)]; kernel_rfl) | (rw [if_neg (by decide +kernel)]; exact ⟨rfl, rfl⟩))
    (fun os started H enc _ => lifted os started H enc)
theorem proved : Rows.IdentDoesSaid :=
  over
#print axioms proved
end Go.Proofs.Ytakjiicnbocjeaa.identDoes
