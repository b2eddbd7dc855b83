/- entrepotref09: Unpack: the walk. -/
import Derived.Test.YtakjiicnbocjeaaIdDoesM32
import Derived.Deep.RegionLaw
namespace Go.Proofs.Ytakjiicnbocjeaa
open Go.RowKit Go.Maps
structure UpR (w0 w : World) (gk : Nat) (K : Nat → Prop) (g : Nat) (TS : Nat → Prop) (A : Tbl) (last : Int) (t : Tst) : Prop where
  tr : TR w gk K t.1 t.2
  ru : RU w g TS A last
  nk : ¬ TS gk
  low : ∀ b, TS b → w0.heap.size ≤ b
  fr : Fr (fun b => w0.heap.size ≤ b) w0 w
  gk0 : w0.heap.size ≤ gk
structure UpX (w0 w : World) (gk : Nat) (K : Nat → Prop) (g : Nat) (TS : Nat → Prop) (A : Tbl) (c : Nat) (mk : Int) (acc : Rows) (B : Nat) (t : Tst) : Prop where
  tr : TR w gk K t.1 t.2
  rx : RX w g TS A c mk acc B
  nk : ¬ TS gk
  low : ∀ b, TS b → w0.heap.size ≤ b
  fr : Fr (fun b => w0.heap.size ≤ b) w0 w
  gk0 : w0.heap.size ≤ gk
  gkB : gk < B
section
variable {w0 w w' : World} {gk g c B : Nat} {K TS : Nat → Prop} {A : Tbl} {last mk : Int} {acc : Rows} {t t' : Tst}
theorem UpR.take (h : UpR w0 w gk K g TS A last t) (ht : TR w' gk K t'.1 t'.2) (hf : Fr (fun b => b = gk) w w') : UpR w0 w' gk K g TS A last t' :=
  ⟨ht, h.ru.fr hf (fun b hb e => h.nk (e ▸ hb)), h.nk, h.low, h.fr.trans' hf (fun b _ e => e ▸ h.gk0), h.gk0⟩
theorem UpX.take (h : UpX w0 w gk K g TS A c mk acc B t) (ht : TR w' gk K t'.1 t'.2) (hf : Fr (fun b => b = gk) w w') : UpX w0 w' gk K g TS A c mk acc B t' :=
  ⟨ht, h.rx.fr hf (fun b e => ⟨fun hb => h.nk (e ▸ hb), e ▸ h.gkB⟩), h.nk, h.low, h.fr.trans' hf (fun b _ e => e ▸ h.gk0), h.gk0, h.gkB⟩
theorem UpR.enter {m0 : Int} (h : UpR w0 w gk K g TS A last t) (hc : last < (c : Int)) (h64 : c < 64) (hm : (if m0 = 0 then 1 else m0) = mk) (hgk : gk < w.heap.size)
    (hw : w' = w ∧ m0 = 0 ∨ w' = w.setCell ⟨g, c, none⟩ (.int .i64 m0)) (hgg : g ≠ gk) (hK : ∀ b, K b → b < w0.heap.size) : UpX w0 w' gk K g TS A c mk [] w'.heap.size t := by
  have hF : Fr (fun b => b = g) w w' := by
    rcases hw with ⟨rfl, _⟩ | rfl
    · exact Fr.refl _ _
    · exact (Fr.refl (fun b => b = g) w).setCell (p := ⟨g, c, none⟩) (fun _ => rfl) _
  have h0 := h.low g h.ru.own
  exact ⟨h.tr.fr hF (fun e => hgg e.symm) (fun b hb e => by have := hK b hb; omega), h.ru.enter hc h64 hm hw, h.nk, h.low, h.fr.trans' hF (fun b _ e => e ▸ h0), h.gk0, Nat.lt_of_lt_of_le hgk hF.size⟩
theorem UpX.leave (h : UpX w0 w gk K g TS A c mk acc B t) (h1 : 1 ≤ mk) : UpR w0 w gk K g (fun b => TS b ∨ (B ≤ b ∧ b < w.heap.size)) (putS ktI.lt A c (mk, acc)) c t :=
  ⟨h.tr, h.rx.leave h1, fun e => e.elim h.nk (fun e => by have := h.gkB; omega), fun b e => e.elim (h.low b) (fun e => by have := h.gkB; have := h.gk0; omega), h.fr, h.gk0⟩
theorem UpX.push (h : UpX w0 w gk K g TS A c mk acc B t) {v' : Value} {acc' : Rows} (hf : Fr (fun b => B ≤ b) w w') (ho : w'.ownsRow B 86 7 v' acc'.length (rowcs acc')) (hgg : g ≠ gk) (hK : ∀ b, K b → b < w0.heap.size) :
    UpX w0 (w'.setCell ⟨g, 64 + c, none⟩ v') gk K g TS A c mk acc' B t := by
  have h0 := h.low g h.rx.own
  have hB := h.gkB
  have hk := h.gk0
  have hF : Fr (fun b => b = g) w' (w'.setCell ⟨g, 64 + c, none⟩ v') := (Fr.refl (fun b => b = g) w').setCell (p := ⟨g, 64 + c, none⟩) (fun _ => rfl) _
  refine ⟨(h.tr.fr hf (fun e => by omega) (fun b hb e => by have := hK b hb; omega)).fr hF (fun e => hgg e.symm) (fun b hb e => by have := hK b hb; omega), h.rx.push hf ho, h.nk, h.low, (h.fr.trans' hf (fun b _ e => by omega)).trans' hF (fun b _ e => e ▸ h0), h.gk0, h.gkB⟩
end
theorem infoRow : (Try.prog.info? 86).map (fun i => (i.zero, i.size, i.bytes)) = some (some (.agg #[.int .i64 0, .int .u64 0, .bool false, .int .i64 0, .int .i64 0, .int .i64 0, .int .i64 0]), 7, 56) := by kernel_rfl
theorem zTable : Try.zeroCells53 = Array.replicate 64 (.int .i64 0) ++ Array.replicate 64 (.slice none 0 0) := by kernel_rfl
theorem RU.new (w : World) : RU (w.alloc (.cells Try.zeroCells53 53)) w.heap.size (fun b => b = w.heap.size) [] (-1) := by
  refine ⟨⟨_, heap_new _ _, by simp [zTable], fun d hd h => by omega, fun d hd _ => ?_⟩, rfl, fun b hb => by subst hb; simp, fun p hp => by cases hp⟩
  rw [zTable]
  refine ⟨?_, ?_⟩
  · rw [Array.getElem?_append_left (by simp; omega)]; simp [hd]
  · rw [Array.getElem?_append_right (by simp)]; simp [hd]
set_option maxRecDepth 100000 in
set_option maxHeartbeats 16000000 in
theorem rUnpack (w : World) (v : Value) (bs : List Int) (hb : Bs w v bs) (hcap : ∀ a n c, v = .slice a n c → n ≤ c) (hob : ∀ b, v.ownBlock = some b → b < w.heap.size) :
    Calls Try.prog 23 #[v] w fun e w' =>
      Below w.heap.size w w' ∧ ((unpT bs = none ∧ ∃ p, e = .returned (.tuple #[p, .bool false])) ∨ ∃ A g TS, unpT bs = some A ∧ e = .returned (.tuple #[.pointer (some ⟨g, 0, none⟩), .bool true]) ∧ RT w' g TS A ∧ ∀ b, TS b → w.heap.size ≤ b) := by
  obtain ⟨U, hU⟩ : ∃ U, unpT bs = U := ⟨_, rfl⟩
  rw [hU]
  rw [unpT_fin] at hU
  obtain ⟨_, a, cap, rfl, _⟩ := id hb
  obtain ⟨K, hK⟩ : ∃ K : Nat → Prop, K = fun b => b < w.heap.size := ⟨_, rfl⟩
  have hT0 : TR (w.alloc (.cells #[.slice a bs.length cap, .bool false] 96)) w.heap.size K bs false :=
    ⟨_, heap_new _ _, hb.fr (S := fun _ => False) ((Fr.refl _ w).alloc _) (fun _ h => h.elim), hcap, fun b e => by have := hob b e; rw [hK]; exact ⟨this, by omega⟩⟩
  have hT1 := hT0.fr ((Fr.refl (fun _ => False) _).alloc (.cells Try.zeroCells53 53)) (fun h => h) (fun _ _ h => h)
  have hR1 := RU.new (w.alloc (.cells #[.slice a bs.length cap, .bool false] 96))
  have hF1 : Fr (fun b => w.heap.size ≤ b) w ((w.alloc (.cells #[.slice a bs.length cap, .bool false] 96)).alloc (.cells Try.zeroCells53 53)) := ((Fr.refl _ w).alloc _).alloc _
  have hsz : (w.alloc (.cells #[.slice a bs.length cap, .bool false] 96)).heap.size = w.heap.size + 1 := by simp
  rw [hsz] at hR1
  obtain ⟨gk, hgk⟩ : ∃ gk, w.heap.size = gk := ⟨_, rfl⟩
  obtain ⟨W, hW⟩ : ∃ W, (w.alloc (.cells #[.slice a bs.length cap, .bool false] 96)).alloc (.cells Try.zeroCells53 53) = W := ⟨_, rfl⟩
  have hU0 : UpR w W gk K (gk + 1) (fun b => b = gk + 1) [] (-1) (bs, false) := by
    subst hgk hW
    exact ⟨hT1, hR1, by omega, fun b hb => by omega, hF1, Nat.le_refl _⟩
  have HKK : Hid (∀ b, K b → b < w.heap.size) := Lib.hid (fun b hb => by rw [hK] at hb; exact hb)
  have HU := Lib.hid hU; have HUP := Lib.hid hU0; have HGK := Lib.hid hgk; have HWW := Lib.hid hW
  clear hb hcap hU hob hT0 hT1 hR1 hF1 hsz hU0 hK hgk hW
  go_enter Try.func23, Try.ntmps23
  go_wp2_with fail
  rw [HWW.out, HGK.out]
  obtain ⟨g, hg⟩ : ∃ g, gk + 1 = g := ⟨_, rfl⟩
  obtain ⟨TS, hTS⟩ : ∃ TS : Nat → Prop, (fun b => b = gk + 1) = TS := ⟨_, rfl⟩
  rw [hg] at hTS HUP ⊢
  have hgg : Hid (g ≠ gk) := Lib.hid (by omega)
  rw [hTS] at HUP
  clear HWW hg hTS
  refine (rTk W gk K (bs, false) 0 64 HUP.out.tr).mono ?_
  have hn := tk_in (bs, false) (a := 0) (b := 64) (by omega) (by omega)
  obtain ⟨k0, hk0⟩ : ∃ k, tk (bs, false) 0 64 = k := ⟨_, rfl⟩
  rw [hk0] at hn HU ⊢
  rintro e w3 ⟨rfl, hK3, hF3⟩
  have HUP3 := Lib.hid (HUP.out.take hK3 hF3)
  obtain ⟨hn0, hn1⟩ := hn
  obtain ⟨N, hN⟩ : ∃ N : Nat, k0.1 = N := ⟨k0.1.toNat, by omega⟩
  rw [hN, Int.toNat_natCast] at HU
  rw [hN] at hn0 hn1 ⊢
  clear hn0 hN hK3 hF3 hk0 HUP
  go_wp2_with fail
  go_loopw [7, 8] (fun la i wr => ∃ (k : Nat) (last : Int) (A : Tbl) (t : Tst) (TS : Nat → Prop), k ≤ N ∧ i = .int .i64 k ∧ la = .int .i64 last ∧ UpR w wr gk K g TS A last t ∧ finT (cliT (N - k) t last A) = U ∧ -1 ≤ last) (fun _ i _ => N - (intOf i).toNat)
  case atStart => exact ⟨0, -1, [], k0.2, TS, Nat.zero_le _, rfl, rfl, HUP3.out, HU.out, Int.le_refl _⟩
  case round =>
    obtain ⟨k, last, A, t, TS, hk, rfl, rfl, hUp, hfin, hlast⟩ := hrel
    have HUp := Lib.hid hUp; have HFin := Lib.hid hfin
    obtain ⟨tv, t1, t2, t3, t4⟩ := hUp.tr
    obtain ⟨_, ta, tc, rfl, _⟩ := id t2
    have b0 := cell_obj t1 0 (.slice ta t.1.length tc) rfl
    have b1 := cell_obj t1 1 (.bool t.2) rfl
    obtain ⟨tb, hb2⟩ : ∃ b, t.2 = b := ⟨_, rfl⟩
    rw [hb2] at b1
    clear hUp hfin t1 t2 t3 t4 HUP3
    by_cases hlt : k < N
    · cases tb with
      | true =>
        have hUn : Hid (U = none) := Lib.hid (by rw [← HFin.out]; exact cliT_bad hb2 _ _ _)
        have hFF := Lib.hid (HUp.out.fr.drew.toBelow (B := w.heap.size) (fun b e => e) (Nat.le_refl _))
        clear hb2
        go_wp2_with fail
        go_region
        go_wp2_with fail
        go_ret2
        exact ⟨hFF.out, .inl ⟨hUn.out, _, rfl⟩⟩
      | false =>
        clear b0 hb2
        go_wp2_with fail
        clear b1
        refine (rTk wr gk K t 0 63 HUp.out.tr).mono ?_
        have hc := tk_in t (a := 0) (b := 63) (by omega) (by omega)
        obtain ⟨c, hcc⟩ : ∃ c, tk t 0 63 = c := ⟨_, rfl⟩
        rw [hcc] at hc ⊢
        rintro e w4 ⟨rfl, hK4, hF4⟩
        have HU4 := Lib.hid (HUp.out.take hK4 hF4); have HCC := Lib.hid hcc
        obtain ⟨hc0, hc1⟩ := hc
        clear hK4 hF4 hcc HUp
        go_wp2_with fail
        refine (rTk w4 gk K c.2 1 4294967297 HU4.out.tr).mono ?_
        have hm := tk_in1 c.2 (b := 4294967297) (by omega)
        obtain ⟨mk, hmm⟩ : ∃ x, tk c.2 1 4294967297 = x := ⟨_, rfl⟩
        rw [hmm] at hm ⊢
        rintro e w5 ⟨rfl, hK5, hF5⟩
        have HU5 := Lib.hid (HU4.out.take hK5 hF5); have HMM := Lib.hid hmm
        obtain ⟨hm0, hm1⟩ := hm
        clear hK5 hF5 hmm HU4
        go_wp2_with fail
        refine (rTk w5 gk K mk.2 0 128 HU5.out.tr).mono ?_
        have hn := tk_in mk.2 (a := 0) (b := 128) (by omega) (by omega)
        have hbad0 := tk_bad0 mk.2 0 128
        have hok0 := tk_ok (t := mk.2) (a := 0) (b := 128)
        have hok1 := tk_ok (t := c.2) (a := 1) (b := 4294967297)
        obtain ⟨n, hnn⟩ : ∃ x, tk mk.2 0 128 = x := ⟨_, rfl⟩
        rw [hnn] at hn hbad0 hok0 ⊢
        rintro e w6 ⟨rfl, hK6, hF6⟩
        have HU6 := Lib.hid (HU5.out.take hK6 hF6); have HNN := Lib.hid hnn
        obtain ⟨hn0, hn1⟩ := hn
        clear hK6 hF6 hnn HU5
        have hsc := HFin.out
        rw [show N - k = (N - (k + 1)) + 1 by omega, cliT_succ _ _ _ _ HCC.out HMM.out HNN.out] at hsc
        rw [HMM.out] at hok1
        obtain ⟨tv, t1, -⟩ := HU6.out.tr
        have b1 := cell_obj t1 1 (.bool n.2.2) rfl
        obtain ⟨tb, hb2⟩ : ∃ b, n.2.2 = b := ⟨_, rfl⟩
        rw [hb2] at b1
        have hFF := Lib.hid (HU6.out.fr.toBelow (B := w.heap.size) (fun b e => e) (Nat.le_refl _))
        clear t1 HFin HCC HMM HNN
        cases tb with
        | true =>
          have hUn : Hid (U = none) := Lib.hid (by
            have hz := hbad0 hb2
            rw [← hsc]
            by_cases hcond : c.1 ≤ last ∨ (mk.1 ≤ 1 ∧ n.1 = 0)
            · rw [if_pos hcond]; rfl
            · rw [if_neg hcond]
              exact rows_fin_bad hb2 _ _ _ (by omega) _ _ _ _)
          clear hsc hb2 hbad0 hok0 hok1
          go_wp2_with fail
          go_ret2
          exact ⟨hFF.out, .inl ⟨hUn.out, _, rfl⟩⟩
        | false =>
          have hmk1 : 1 ≤ mk.1 := (hok1 (hok0 hb2).1).2.1
          clear hbad0 hok0 hok1 hb2
          by_cases hl1 : c.1 ≤ last
          · have hUn : Hid (U = none) := Lib.hid (by rw [← hsc, if_pos (.inl hl1)]; rfl)
            clear hsc
            go_wp2_with fail
            go_ret2
            exact ⟨hFF.out, .inl ⟨hUn.out, _, rfl⟩⟩
          · by_cases hl2 : mk.1 = 1 ∧ n.1 = 0
            · have hUn : Hid (U = none) := Lib.hid (by rw [← hsc, if_pos (.inr ⟨by omega, hl2.2⟩)]; rfl)
              obtain ⟨hl2, hl3⟩ := hl2
              rw [hl2, hl3]
              clear hsc
              go_wp2_with fail
              go_ret2
              exact ⟨hFF.out, .inl ⟨hUn.out, _, rfl⟩⟩
            · rw [if_neg (fun e => e.elim hl1 (fun e => hl2 ⟨by omega, e.2⟩))] at hsc
              obtain ⟨M, hM⟩ : ∃ M : Nat, n.1 = M := ⟨n.1.toNat, by omega⟩
              rw [hM] at hn0 hn1 hl2 hsc ⊢
              rw [Int.toNat_natCast] at hsc
              obtain ⟨cc, hcc⟩ : ∃ x : Nat, c.1 = x := ⟨c.1.toNat, by omega⟩
              rw [hcc] at hc0 hc1 hl1 hsc ⊢
              obtain ⟨MK, hMK⟩ : ∃ x : Int, mk.1 = x := ⟨_, rfl⟩
              rw [hMK] at hm0 hm1 hmk1 hl2 hsc ⊢
              have HSC := Lib.hid hsc
              have hc64 : cc < 64 := by omega
              have hz : Hid (w6.cell? ⟨g, cc, none⟩ = some (.int .i64 0)) := Lib.hid (by
                obtain ⟨⟨cs, e1, e2, e3, e4⟩, _⟩ := HU6.out.ru
                exact cell_obj e1 cc _ (e4 cc hc64 (by omega)).1)
              have hfz : Hid (w6.frozen? ⟨g, cc, none⟩ = false) := Lib.hid (by
                obtain ⟨⟨cs, e1, e2, e3, e4⟩, _⟩ := HU6.out.ru
                exact obj_frozen e1 cc)
              have hgl : Hid (gk < w6.heap.size) := Lib.hid HU6.out.tr.lt
              have hwr : IntKind.i64.wrap (MK - 1) = MK - 1 := by rw [IntKind.wrap_i64]; omega
              clear hsc hn0 hM hcc hMK
              rcases (by
                by_cases e : MK = 1
                · exact .inr (.inr ⟨e, by simp; omega⟩)
                · exact .inl (by omega) : 1 < MK ∨ False ∨ (MK = 1 ∧ ((M : Int) == 0) = false)) with hk1 | hk1 | ⟨hk1, hk2⟩
              · have hk3 : (MK == 1) = false := by simp; omega
                have hX := Lib.hid (HU6.out.enter (c := cc) (mk := MK) (m0 := MK) (w' := w6.setCell ⟨g, cc, none⟩ (.int .i64 MK)) (by omega) hc64 (by rw [if_neg (by omega)]) hgl.out (.inr rfl) hgg.out HKK.out)
                have hzz := hz.out
                have hff := hfz.out
                clear hl2
                go_wp2_with fail
                clear hzz hff b1
                generalize w6.setCell ⟨g, cc, none⟩ (.int .i64 MK) = W7 at *
                -- inner loop
                obtain ⟨B, hXB⟩ : ∃ B, UpX w W7 gk K g TS A cc MK [] B n.2 := ⟨_, hX.out⟩
                have HXB := Lib.hid hXB
                clear hX hXB
                go_loopw [12, 13] (fun be i wr => ∃ (j : Nat) (before : Int) (acc : Rows) (t' : Tst), j ≤ M ∧ i = .int .i64 j ∧ be = .int .i64 before ∧ UpX w wr gk K g TS A cc MK acc B t' ∧ finT (match rowsT (M - j) t' (cc : Int) before acc with | none => none | some R => cliT (N - (k + 1)) R.2 (cc : Int) (putS ktI.lt A (cc : Int) (MK, R.1))) = U ∧ (∀ p ∈ acc, p.1 ≤ before) ∧ 0 ≤ before ∧ acc.length ≤ j) (fun _ i _ => M - (intOf i).toNat)
                case atStart => exact ⟨0, MK - 1, [], n.2, Nat.zero_le _, rfl, rfl, HXB.out, HSC.out, (fun p hp => by cases hp), by omega, Nat.le_refl _⟩
                case round =>
                  obtain ⟨j, before, acc, t', hj, rfl, rfl, hUx, hfx, hacc, hbef, hal⟩ := hrel
                  have HUx := Lib.hid hUx; have HFx := Lib.hid hfx; have HAC := Lib.hid hacc
                  obtain ⟨tv', u1, u2, u3, u4⟩ := hUx.tr
                  have b1 := cell_obj u1 1 (.bool t'.2) rfl
                  obtain ⟨tb, hb2⟩ : ∃ b, t'.2 = b := ⟨_, rfl⟩
                  rw [hb2] at b1
                  clear hUx hfx hacc u1 u2 u3 u4 HXB
                  by_cases hlt2 : j < M
                  · cases tb with
                    | true =>
                      have hfin : Hid (finT (cliT (N - (k + 1)) t' (cc : Int) (putS ktI.lt A (cc : Int) (MK, acc))) = U) := Lib.hid (by
                        rw [cliT_bad hb2, ← HFx.out]; exact (rows_fin_bad hb2 _ _ _ hbef _ _ _ _).symm)
                      have hlv := Lib.hid (HUx.out.leave hmk1)
                      clear hb2
                      go_wp2_with fail
                      go_roundw
                      case rel => exact ⟨k + 1, cc, _, t', _, by omega, by go_num, rfl, hlv.out, hfin.out, by omega⟩
                      case measure => simp [intOf]; omega
                    | false =>
                      clear hb2
                      have hsx := HFx.out
                      rw [show M - j = (M - (j + 1)) + 1 by omega, rowsT_succ] at hsx
                      have HSX := Lib.hid hsx
                      clear hsx HFx
                      go_wp2_with fail
                      clear b1
                      refine (rTk _ gk K t' 1 4294967296 HUx.out.tr).mono ?_
                      have hnum := tk_in1 t' (b := 4294967296) (by omega)
                      obtain ⟨num, hnum2⟩ : ∃ x, tk t' 1 4294967296 = x := ⟨_, rfl⟩
                      rw [hnum2] at hnum ⊢
                      rintro e w7 ⟨rfl, hK7, hF7⟩
                      obtain ⟨hnum0, hnum1⟩ := hnum
                      have HNUM := Lib.hid hnum2
                      have hxA := heap_new w7 (.cells #[.int .i64 num.1, .int .u64 0, .bool false, .int .i64 0, .int .i64 0, .int .i64 0, .int .i64 0] 86)
                      have hKA := hK7.fr ((Fr.refl (fun _ => False) w7).alloc (.cells #[.int .i64 num.1, .int .u64 0, .bool false, .int .i64 0, .int .i64 0, .int .i64 0, .int .i64 0] 86)) (fun h => h) (fun _ _ h => h)
                      have hFA := hF7.trans' (S := fun b => b = gk) ((Fr.refl (fun _ => False) w7).alloc (.cells #[.int .i64 num.1, .int .u64 0, .bool false, .int .i64 0, .int .i64 0, .int .i64 0, .int .i64 0] 86)) (fun b _ e => e.elim)
                      have hszx := hF7.size
                      clear hK7 hnum2
                      go_wp2_with fail
                      obtain ⟨xb, hxb⟩ : ∃ xb, w7.heap.size = xb := ⟨_, rfl⟩
                      obtain ⟨WA, hWA⟩ : ∃ WA, w7.alloc (.cells #[.int .i64 num.1, .int .u64 0, .bool false, .int .i64 0, .int .i64 0, .int .i64 0, .int .i64 0] 86) = WA := ⟨_, rfl⟩
                      rw [hWA] at hxA hKA hFA ⊢
                      rw [hxb] at hxA hszx ⊢
                      have HXA := Lib.hid hxA; have HKA := Lib.hid hKA; have HFA := Lib.hid hFA; have HSZ := Lib.hid hszx
                      have hNG : Hid (xb ≠ gk) := Lib.hid (by have := HUx.out.tr.lt; omega)
                      have hNK : Hid (∀ b, K b → b ≠ xb) := Lib.hid (fun b hb e => by have := HKK.out b hb; have := HUx.out.fr.size; omega)
                      clear hxA hKA hFA hF7 hxb hWA hszx
                      refine (rTk WA gk K num.2 0 4294967295 HKA.out).mono ?_
                      have hh := tk_in num.2 (a := 0) (b := 4294967295) (by omega) (by omega)
                      obtain ⟨hi, hhi⟩ : ∃ x, tk num.2 0 4294967295 = x := ⟨_, rfl⟩
                      rw [hhi] at hh ⊢
                      rintro e w8 ⟨rfl, hK8, hF8⟩
                      obtain ⟨hh0, hh1⟩ := hh
                      have HHI := Lib.hid hhi; have HX8 := Lib.hid (hF8.at_ HXA.out hNG.out); have HF8 := Lib.hid (HFA.out.trans hF8); have HK8 := Lib.hid hK8
                      clear hK8 hF8 hhi HXA HFA HKA
                      go_wp2_with fail
                      refine (rTk w8 gk K hi.2 0 4294967295 HK8.out).mono ?_
                      have hl := tk_in hi.2 (a := 0) (b := 4294967295) (by omega) (by omega)
                      obtain ⟨lo, hlo⟩ : ∃ x, tk hi.2 0 4294967295 = x := ⟨_, rfl⟩
                      rw [hlo] at hl ⊢
                      rintro e w9 ⟨rfl, hK9, hF9⟩
                      obtain ⟨hl0, hl1⟩ := hl
                      have HLO := Lib.hid hlo; have HX9 := Lib.hid (hF9.at_ HX8.out hNG.out); have HF9 := Lib.hid (HF8.out.trans hF9); have HK9 := Lib.hid hK9
                      clear hK9 hF9 hlo HX8 HF8 HK8
                      have x1 := cell_obj HX9.out 1 (.int .u64 0) rfl
                      have y1 := obj_frozen HX9.out 1
                      go_wp2_with fail
                      obtain ⟨mx, hmx⟩ : ∃ mx, bits .or .u64 (hi.1 * 4294967296) lo.1 = mx := ⟨_, rfl⟩
                      rw [hmx]
                      have HMX : Hid (mixOf hi.1 lo.1 = mx) := Lib.hid hmx
                      have hS10 : Fr (fun b => b = xb) w9 (w9.setCell ⟨xb, 1, none⟩ (.int .u64 mx)) := (Fr.refl (fun b => b = xb) w9).setCell (p := ⟨xb, 1, none⟩) (fun _ => rfl) _
                      have hob := obj_set HX9.out 1 (.int .u64 mx)
                      simp only [List.setIfInBounds_toArray, List.set_cons_zero, List.set_cons_succ] at hob
                      have HX10 := Lib.hid hob
                      clear hob
                      have HK10 := Lib.hid (HK9.out.fr hS10 (fun e => hNG.out e.symm) (fun b hb e => hNK.out b hb e))
                      have HF10 := Lib.hid (HF9.out.trans' hS10 (fun b hb e => absurd hb (by rw [e]; have := HSZ.out; omega)))
                      obtain ⟨W10, hW10⟩ : ∃ W10, w9.setCell ⟨xb, 1, none⟩ (.int .u64 mx) = W10 := ⟨_, rfl⟩
                      rw [hW10] at HX10 HK10 HF10 ⊢
                      clear hS10 hW10 hmx x1 y1 HX9 HK9 HF9
                      refine (rTkF W10 gk K lo.2 HK10.out).mono ?_
                      obtain ⟨fl, hfl⟩ : ∃ x, tk lo.2 0 1 = x := ⟨_, rfl⟩
                      rw [hfl]
                      obtain ⟨x, hxx⟩ : ∃ x, tk fl.2 0 1000 = x := ⟨_, rfl⟩
                      obtain ⟨kx, hkx⟩ : ∃ kx, tk x.2 (-9223372036854775808) 9223372036854775807 = kx := ⟨_, rfl⟩
                      have hrd : readT t' (cc : Int) = if (fl.1 == 1) = true then ((num.1, ⟨mx, true, ⟨cc, num.1, x.1, kx.1⟩⟩), kx.2) else ((num.1, ⟨mx, false, Ans.zero⟩), fl.2) := by
                        unfold readT
                        simp only [HNUM.out, HHI.out, HLO.out, hfl, HMX.out, hxx, hkx]
                      have HXX := Lib.hid hxx; have HKX := Lib.hid hkx
                      clear hxx hkx
                      obtain ⟨db, hdb⟩ : ∃ db, (fl.1 == 1) = db := ⟨_, rfl⟩
                      rw [hdb] at hrd ⊢
                      rintro e w11 ⟨rfl, hK11, hF11⟩
                      have HRD := Lib.hid hrd
                      have HX11 := Lib.hid (hF11.at_ HX10.out hNG.out); have HF11 := Lib.hid (HF10.out.trans hF11); have HK11 := Lib.hid hK11
                      clear hK11 hF11 hrd hfl hdb HNUM HHI HLO HMX HX10 HF10 HK10
                      cases db with
                      | false =>
                        have x2 := cell_obj HX11.out 2 (.bool false) rfl
                        have y2 := obj_frozen HX11.out 2
                        have hob := obj_set HX11.out 2 (.bool false)
                        simp only [List.setIfInBounds_toArray, List.set_cons_zero, List.set_cons_succ] at hob
                        have HX12 := Lib.hid hob
                        clear hob
                        have hS12 : Fr (fun b => b = xb) w11 (w11.setCell ⟨xb, 2, none⟩ (.bool false)) := (Fr.refl (fun b => b = xb) w11).setCell (p := ⟨xb, 2, none⟩) (fun _ => rfl) _
                        have HK12 := Lib.hid (HK11.out.fr hS12 (fun e => hNG.out e.symm) (fun b hb e => hNK.out b hb e))
                        have HF12 := Lib.hid (HF11.out.trans' hS12 (fun b hb e => absurd hb (by rw [e]; have := HSZ.out; omega)))
                        clear hS12
                        obtain ⟨kk, hkk, hkk2⟩ : ∃ kk, TR (w11.setCell ⟨xb, 2, none⟩ (.bool false)) gk K kk.1 kk.2 ∧ readT t' (cc : Int) = ((num.1, ⟨mx, false, Ans.zero⟩), kk) := ⟨fl.2, HK12.out, HRD.out⟩
                        have HK12 := Lib.hid hkk
                        clear hkk
                        have x0 := cell_obj HX12.out 0 (.int .i64 num.1) rfl
                        have x1 := cell_obj HX12.out 1 (.int .u64 mx) rfl
                        have x2 := cell_obj HX12.out 2 (.bool false) rfl
                        have x3 := cell_obj HX12.out 3 (.int .i64 0) rfl
                        have x4 := cell_obj HX12.out 4 (.int .i64 0) rfl
                        have x5 := cell_obj HX12.out 5 (.int .i64 0) rfl
                        have x6 := cell_obj HX12.out 6 (.int .i64 0) rfl
                        have hU12 := HUx.out.take HK12.out HF12.out
                        have hs := HSX.out
                        rw [hkk2] at hs
                        dsimp only at hs
                        have hFF12 := Lib.hid (hU12.fr.toBelow (B := w.heap.size) (fun b e => e) (Nat.le_refl _))
                        have HU12 := Lib.hid hU12
                        obtain ⟨tv12, u1, -⟩ := HK12.out
                        have b1 := cell_obj u1 1 (.bool kk.2) rfl
                        obtain ⟨tb, hb2⟩ : ∃ b, kk.2 = b := ⟨_, rfl⟩
                        rw [hb2] at b1
                        clear u1 hU12 hkk2 HSX HRD
                        cases tb with
                        | true =>
                          have hUn : Hid (U = none) := Lib.hid (by
                            rw [← hs]
                            by_cases hle : num.1 ≤ before
                            · rw [if_pos hle]; rfl
                            · rw [if_neg hle]; exact rows_fin_bad hb2 _ _ _ hnum0 _ _ _ _)
                          clear hs hb2
                          go_wp2_with fail
                          go_ret2
                          exact ⟨hFF12.out, .inl ⟨hUn.out, _, rfl⟩⟩
                        | false =>
                          clear hb2
                          by_cases hle : num.1 ≤ before
                          · have hUn : Hid (U = none) := Lib.hid (by rw [← hs, if_pos hle]; rfl)
                            clear hs
                            go_wp2_with fail
                            go_ret2
                            exact ⟨hFF12.out, .inl ⟨hUn.out, _, rfl⟩⟩
                          · have hacc := HAC.out
                            have hpe : putS ktI.lt acc num.1 ⟨mx, false, Ans.zero⟩ = acc ++ [(num.1, ⟨mx, false, Ans.zero⟩)] := putS_end (fun p hp => by have := hacc p hp; omega)
                            rw [if_neg hle, hpe] at hs
                            have HS := Lib.hid hs
                            have hacc2 : Hid (∀ p ∈ acc ++ [(num.1, (⟨mx, false, Ans.zero⟩ : RowV))], p.1 ≤ num.1) := Lib.hid (by
                              intro p hp
                              rcases List.mem_append.1 hp with hp | hp
                              · have := hacc p hp; omega
                              · simp at hp; subst hp; exact Int.le_refl _)
                            have hrowe : Hid (rowcs (acc ++ [(num.1, (⟨mx, false, Ans.zero⟩ : RowV))]) = rowcs acc ++ [.int .i64 num.1, .int .u64 mx, .bool false, .int .i64 0, .int .i64 0, .int .i64 0, .int .i64 0]) := Lib.hid (by rw [rowcs_app]; rfl)
                            obtain ⟨ra, rk, c3w, hown⟩ := HUx.out.rx.cell
                            have hgB := HU12.out.rx.lt g HU12.out.rx.own
                            have hgkB := HU12.out.gkB
                            have c3 := HF12.out.cell c3w (fun e => hgg.out e)
                            have hoS : Hid (∀ b, (Value.slice ra acc.length rk).ownBlock = some b → B ≤ b ∧ b ≠ xb) := Lib.hid (fun b hb => by have := hown.lt b hb; have := HSZ.out; omega)
                            have HOW := Lib.hid (HF12.out.row hown (fun b hb e => by have := (hoS.out b hb).1; omega))
                            clear c3w
                            have hz3 := HU12.out.rx.frozen (64 + cc)
                            have hBs := HU12.out.rx.sz
                            have hone : Hid (∀ u ∈ ([.int .i64 num.1, .int .u64 mx, .bool false, .int .i64 0, .int .i64 0, .int .i64 0, .int .i64 0] : List Value), u.oneCell' = true) := Lib.hid (by intro u hu; simp only [List.mem_cons, List.not_mem_nil, or_false] at hu; rcases hu with rfl | rfl | rfl | rfl | rfl | rfl | rfl <;> rfl)
                            have hfrz : Hid (∀ w', Fr (fun b => B ≤ b) (w11.setCell ⟨xb, 2, none⟩ (.bool false)) w' → w'.frozen? ⟨g, 64 + cc, none⟩ = false) := Lib.hid (fun w' hf => by
                              obtain ⟨cs, v0, m0, r1, -⟩ := HU12.out.rx.ex
                              exact obj_frozen (hf.at_ r1 (by show ¬ B ≤ g; omega)) (64 + cc))
                            obtain ⟨iR, hiR, hr0, hr1, hr2⟩ := info_parts infoRow
                            have hc2 : (cc : Int) < 64 := by omega
                            obtain ⟨ln, hln⟩ : ∃ ln, acc.length = ln := ⟨_, rfl⟩
                            have HLN := Lib.hid hln
                            rw [hln] at c3 HOW hal hoS
                            have HKS : Hid (∀ w', Fr (fun b => (Value.slice ra ln rk).ownBlock = some b) (w11.setCell ⟨xb, 2, none⟩ (.bool false)) w' → w'.cell? ⟨g, 64 + cc, none⟩ = some (.slice ra ln rk) ∧ w'.cell? ⟨xb, 0, none⟩ = some (.int .i64 num.1) ∧ w'.cell? ⟨xb, 1, none⟩ = some (.int .u64 mx) ∧ w'.cell? ⟨xb, 2, none⟩ = some (.bool false) ∧ w'.cell? ⟨xb, 3, none⟩ = some (.int .i64 0) ∧ w'.cell? ⟨xb, 4, none⟩ = some (.int .i64 0) ∧ w'.cell? ⟨xb, 5, none⟩ = some (.int .i64 0) ∧ w'.cell? ⟨xb, 6, none⟩ = some (.int .i64 0)) := Lib.hid (fun w' hf => ⟨hf.cell c3 (fun h => by have := (hoS.out _ h).1; dsimp only at this; omega), hf.cell x0 (fun h => (hoS.out _ h).2 rfl), hf.cell x1 (fun h => (hoS.out _ h).2 rfl), hf.cell x2 (fun h => (hoS.out _ h).2 rfl), hf.cell x3 (fun h => (hoS.out _ h).2 rfl), hf.cell x4 (fun h => (hoS.out _ h).2 rfl), hf.cell x5 (fun h => (hoS.out _ h).2 rfl), hf.cell x6 (fun h => (hoS.out _ h).2 rfl)⟩)
                            have HOWF : Hid (∀ w', Fr (fun _ => False) (w11.setCell ⟨xb, 2, none⟩ (.bool false)) w' → w'.ownsRow B 86 7 (.slice ra ln rk) ln (rowcs acc)) := Lib.hid (fun w' hf => hf.row HOW.out (fun _ _ h => h))
                            clear hs hown hacc hpe hln
                            go_wp2_with fail
                            generalize (w11.setCell ⟨xb, 2, none⟩ (.bool false)) = W12 at *
                            have c3d : W12.drew.cell? ⟨g, 64 + cc, none⟩ = some (.slice ra ln rk) := c3
                            have c3a : (W12.alloc (.cells #[.int .i64 num.1, .int .u64 mx, .bool false, .int .i64 0, .int .i64 0, .int .i64 0, .int .i64 0] 86)).cell? ⟨g, 64 + cc, none⟩ = some (.slice ra ln rk) := (HKS.out _ ((Fr.refl _ W12).alloc _)).1
                            have c3b : (W12.alloc (.cells #[.int .i64 num.1, .int .u64 mx, .bool false, .int .i64 0, .int .i64 0, .int .i64 0, .int .i64 0] 86)).drew.cell? ⟨g, 64 + cc, none⟩ = some (.slice ra ln rk) := c3a
                            go_region_law
                              ((refine step_append_src rfl (.tmp 133) (.tmp 135) 50 rfl B 86 iR _ 56 Try.underlying50 hiR hr0 hr1 hr2 rfl (by decide) (.slice ra ln rk) ln (rowcs acc) (by rfl) (by first | exact HOWF.out _ ((Fr.refl _ _).alloc _).drew | exact HOWF.out _ (((Fr.refl _ _).drew).alloc _) | exact HOWF.out _ ((Fr.refl _ _).alloc _)) 1 (by rfl) (rd_obj (cs := [.int .i64 num.1, .int .u64 mx, .bool false, .int .i64 0, .int .i64 0, .int .i64 0, .int .i64 0]) (heap_new _ _) rfl) hone.out (by unfold maxLen; omega) (by omega) (by simp; omega) ?_; intro v1 w1 hown1 hgrow1 hloc1; have HFk : Hid (Fr (fun b => (Value.slice ra ln rk).ownBlock = some b) W12 w1) := Lib.hid (Fr.trans (by first | exact ((Fr.refl _ W12).alloc _).drew | exact ((Fr.refl _ W12).drew).alloc _ | exact (Fr.refl _ W12).alloc _) (Fr.grown hgrow1 (fun r hr _ => hr))); have hF1 : Fr (fun b => B ≤ b) W12 w1 := Fr.trans (by first | exact ((Fr.refl _ W12).alloc _).drew | exact ((Fr.refl _ W12).drew).alloc _ | exact (Fr.refl _ W12).alloc _) (Fr.grown hgrow1 (by intro r hr _; exact (HOW.out.lt r hr).1)); obtain ⟨a1, c1, rfl⟩ := row_sl hown1; have hc1 := hF1.cell c3 (by show ¬ B ≤ g; omega); have hz1 := hfrz.out _ hF1; have HF1 := Lib.hid hF1; have HO1 := Lib.hid hown1; clear hF1 hown1 hgrow1 hloc1))
                            all_goals
                              go_wp2_with fail
                              go_roundw
                              case rel =>
                                have hl1 : (acc ++ [(num.1, (⟨mx, false, Ans.zero⟩ : RowV))]).length = ln + 1 := by simp [HLN.out]
                                exact ⟨j + 1, num.1, acc ++ [(num.1, ⟨mx, false, Ans.zero⟩)], kk, by omega, by go_num, rfl, HU12.out.push (acc' := acc ++ [(num.1, ⟨mx, false, Ans.zero⟩)]) HF1.out (by rw [hrowe.out, hl1]; exact HO1.out) hgg.out HKK.out, HS.out, hacc2.out, hnum0, by rw [hl1]; omega⟩
                              case measure => simp [intOf]; omega
                      | true =>
                        have hrd2 := HRD.out.trans (if_pos rfl)
                        clear HRD
                        have HRD := Lib.hid hrd2
                        clear hrd2
                        have x0 := cell_obj HX11.out 0 (.int .i64 num.1) rfl
                        have y0 := obj_frozen HX11.out 0
                        have x1 := cell_obj HX11.out 1 (.int .u64 mx) rfl
                        have y1 := obj_frozen HX11.out 1
                        have x2 := cell_obj HX11.out 2 (.bool false) rfl
                        have y2 := obj_frozen HX11.out 2
                        have x3 := cell_obj HX11.out 3 (.int .i64 0) rfl
                        have y3 := obj_frozen HX11.out 3
                        have x4 := cell_obj HX11.out 4 (.int .i64 0) rfl
                        have y4 := obj_frozen HX11.out 4
                        have x5 := cell_obj HX11.out 5 (.int .i64 0) rfl
                        have y5 := obj_frozen HX11.out 5
                        have x6 := cell_obj HX11.out 6 (.int .i64 0) rfl
                        have y6 := obj_frozen HX11.out 6
                        have hob := (obj_set (obj_set (obj_set (obj_set (obj_set HX11.out 2 (.bool true)) 3 (.int .i64 (cc : Int))) 4 (.int .i64 num.1)) 5 (.int .i64 0)) 6 (.int .i64 0))
                        simp only [List.setIfInBounds_toArray, List.set_cons_zero, List.set_cons_succ] at hob
                        have hfr := ((((((Fr.refl (fun b => b = xb) w11).setCell (p := ⟨xb, 2, none⟩) (fun _ => rfl) (.bool true)).setCell (p := ⟨xb, 3, none⟩) (fun _ => rfl) (.int .i64 (cc : Int))).setCell (p := ⟨xb, 4, none⟩) (fun _ => rfl) (.int .i64 num.1)).setCell (p := ⟨xb, 5, none⟩) (fun _ => rfl) (.int .i64 0)).setCell (p := ⟨xb, 6, none⟩) (fun _ => rfl) (.int .i64 0))
                        have hK' := HK11.out.fr hfr (fun e => hNG.out e.symm) (fun b hb e => hNK.out b hb e)
                        have hF' := HF11.out.trans' hfr (fun b hb e => absurd hb (by rw [e]; have := HSZ.out; omega))
                        have HX12 := Lib.hid hob; have HK12 := Lib.hid hK'; have HF12 := Lib.hid hF'
                        clear hob hfr hK' hF'
                        go_wp2_with fail
                        clear x0 y0 x1 y1 x2 y2 x3 y3 x4 y4 x5 y5 x6 y6
                        generalize (((((w11.setCell ⟨xb, 2, none⟩ (.bool true)).setCell ⟨xb, 3, none⟩ (.int .i64 (cc : Int))).setCell ⟨xb, 4, none⟩ (.int .i64 num.1)).setCell ⟨xb, 5, none⟩ (.int .i64 0)).setCell ⟨xb, 6, none⟩ (.int .i64 0)) = W12 at *
                        refine (rTk W12 gk K fl.2 0 1000 HK12.out).mono ?_
                        have hx := tk_in fl.2 (a := 0) (b := 1000) (by omega) (by omega)
                        rw [HXX.out] at hx ⊢
                        clear hx
                        rintro e w13 ⟨rfl, hK13, hF13⟩
                        have HX13 := Lib.hid (hF13.at_ HX12.out hNG.out); have HF13 := Lib.hid (HF12.out.trans hF13); have HK13 := Lib.hid hK13
                        clear hK13 hF13 HX12 HF12 HK12 HX11 HF11 HK11
                        have x5 := cell_obj HX13.out 5 (.int .i64 0) rfl
                        have y5 := obj_frozen HX13.out 5
                        have hob := (obj_set HX13.out 5 (.int .i64 x.1))
                        simp only [List.setIfInBounds_toArray, List.set_cons_zero, List.set_cons_succ] at hob
                        have hfr := ((Fr.refl (fun b => b = xb) w13).setCell (p := ⟨xb, 5, none⟩) (fun _ => rfl) (.int .i64 x.1))
                        have hK' := HK13.out.fr hfr (fun e => hNG.out e.symm) (fun b hb e => hNK.out b hb e)
                        have hF' := HF13.out.trans' hfr (fun b hb e => absurd hb (by rw [e]; have := HSZ.out; omega))
                        have HX14 := Lib.hid hob; have HK14 := Lib.hid hK'; have HF14 := Lib.hid hF'
                        clear hob hfr hK' hF'
                        go_wp2_with fail
                        clear x5 y5
                        generalize w13.setCell ⟨xb, 5, none⟩ (.int .i64 x.1) = W14 at *
                        refine (rTk W14 gk K x.2 (-9223372036854775808) 9223372036854775807 HK14.out).mono ?_
                        rw [HKX.out]
                        rintro e w15 ⟨rfl, hK15, hF15⟩
                        have HX15 := Lib.hid (hF15.at_ HX14.out hNG.out); have HF15 := Lib.hid (HF14.out.trans hF15); have HK15 := Lib.hid hK15
                        clear hK15 hF15 HX14 HF14 HK14 HX13 HF13 HK13
                        have hob := (obj_set HX15.out 6 (.int .i64 kx.1))
                        simp only [List.setIfInBounds_toArray, List.set_cons_zero, List.set_cons_succ] at hob
                        have hfr := ((Fr.refl (fun b => b = xb) w15).setCell (p := ⟨xb, 6, none⟩) (fun _ => rfl) (.int .i64 kx.1))
                        have hK' := HK15.out.fr hfr (fun e => hNG.out e.symm) (fun b hb e => hNK.out b hb e)
                        have hF' := HF15.out.trans' hfr (fun b hb e => absurd hb (by rw [e]; have := HSZ.out; omega))
                        have HX16 := Lib.hid hob; have HK16 := Lib.hid hK'; have HF16 := Lib.hid hF'
                        clear hob hfr hK' hF'
                        have y6 := obj_frozen HX15.out 6
                        have z6 := cell_obj HX15.out 6 (.int .i64 0) rfl
                        obtain ⟨kk, hkk, hkk2⟩ : ∃ kk, TR (w15.setCell ⟨xb, 6, none⟩ (.int .i64 kx.1)) gk K kk.1 kk.2 ∧ readT t' (cc : Int) = ((num.1, ⟨mx, true, ⟨cc, num.1, x.1, kx.1⟩⟩), kk) := ⟨kx.2, HK16.out, HRD.out⟩
                        have HK16 := Lib.hid hkk
                        clear hkk
                        have x0 := cell_obj HX16.out 0 (.int .i64 num.1) rfl
                        have x1 := cell_obj HX16.out 1 (.int .u64 mx) rfl
                        have x2 := cell_obj HX16.out 2 (.bool true) rfl
                        have x3 := cell_obj HX16.out 3 (.int .i64 (cc : Int)) rfl
                        have x4 := cell_obj HX16.out 4 (.int .i64 num.1) rfl
                        have x5 := cell_obj HX16.out 5 (.int .i64 x.1) rfl
                        have x6 := cell_obj HX16.out 6 (.int .i64 kx.1) rfl
                        have hU12 := HUx.out.take HK16.out HF16.out
                        have hs := HSX.out
                        rw [hkk2] at hs
                        dsimp only at hs
                        have hFF12 := Lib.hid (hU12.fr.toBelow (B := w.heap.size) (fun b e => e) (Nat.le_refl _))
                        have HU12 := Lib.hid hU12
                        obtain ⟨tv12, u1, -⟩ := HK16.out
                        have b1 := cell_obj u1 1 (.bool kk.2) rfl
                        obtain ⟨tb, hb2⟩ : ∃ b, kk.2 = b := ⟨_, rfl⟩
                        rw [hb2] at b1
                        clear u1 hU12 hkk2 HSX HRD
                        cases tb with
                        | true =>
                          have hUn : Hid (U = none) := Lib.hid (by
                            rw [← hs]
                            by_cases hle : num.1 ≤ before
                            · rw [if_pos hle]; rfl
                            · rw [if_neg hle]; exact rows_fin_bad hb2 _ _ _ hnum0 _ _ _ _)
                          clear hs hb2
                          go_wp2_with fail
                          go_ret2
                          exact ⟨hFF12.out, .inl ⟨hUn.out, _, rfl⟩⟩
                        | false =>
                          clear hb2
                          by_cases hle : num.1 ≤ before
                          · have hUn : Hid (U = none) := Lib.hid (by rw [← hs, if_pos hle]; rfl)
                            clear hs
                            go_wp2_with fail
                            go_ret2
                            exact ⟨hFF12.out, .inl ⟨hUn.out, _, rfl⟩⟩
                          · have hacc := HAC.out
                            have hpe : putS ktI.lt acc num.1 ⟨mx, true, ⟨cc, num.1, x.1, kx.1⟩⟩ = acc ++ [(num.1, ⟨mx, true, ⟨cc, num.1, x.1, kx.1⟩⟩)] := putS_end (fun p hp => by have := hacc p hp; omega)
                            rw [if_neg hle, hpe] at hs
                            have HS := Lib.hid hs
                            have hacc2 : Hid (∀ p ∈ acc ++ [(num.1, (⟨mx, true, ⟨cc, num.1, x.1, kx.1⟩⟩ : RowV))], p.1 ≤ num.1) := Lib.hid (by
                              intro p hp
                              rcases List.mem_append.1 hp with hp | hp
                              · have := hacc p hp; omega
                              · simp at hp; subst hp; exact Int.le_refl _)
                            have hrowe : Hid (rowcs (acc ++ [(num.1, (⟨mx, true, ⟨cc, num.1, x.1, kx.1⟩⟩ : RowV))]) = rowcs acc ++ [.int .i64 num.1, .int .u64 mx, .bool true, .int .i64 (cc : Int), .int .i64 num.1, .int .i64 x.1, .int .i64 kx.1]) := Lib.hid (by rw [rowcs_app]; rfl)
                            obtain ⟨ra, rk, c3w, hown⟩ := HUx.out.rx.cell
                            have hgB := HU12.out.rx.lt g HU12.out.rx.own
                            have hgkB := HU12.out.gkB
                            have c3 := HF16.out.cell c3w (fun e => hgg.out e)
                            have hoS : Hid (∀ b, (Value.slice ra acc.length rk).ownBlock = some b → B ≤ b ∧ b ≠ xb) := Lib.hid (fun b hb => by have := hown.lt b hb; have := HSZ.out; omega)
                            have HOW := Lib.hid (HF16.out.row hown (fun b hb e => by have := (hoS.out b hb).1; omega))
                            clear c3w
                            have hz3 := HU12.out.rx.frozen (64 + cc)
                            have hBs := HU12.out.rx.sz
                            have hone : Hid (∀ u ∈ ([.int .i64 num.1, .int .u64 mx, .bool true, .int .i64 (cc : Int), .int .i64 num.1, .int .i64 x.1, .int .i64 kx.1] : List Value), u.oneCell' = true) := Lib.hid (by intro u hu; simp only [List.mem_cons, List.not_mem_nil, or_false] at hu; rcases hu with rfl | rfl | rfl | rfl | rfl | rfl | rfl <;> rfl)
                            have hfrz : Hid (∀ w', Fr (fun b => B ≤ b) (w15.setCell ⟨xb, 6, none⟩ (.int .i64 kx.1)) w' → w'.frozen? ⟨g, 64 + cc, none⟩ = false) := Lib.hid (fun w' hf => by
                              obtain ⟨cs, v0, m0, r1, -⟩ := HU12.out.rx.ex
                              exact obj_frozen (hf.at_ r1 (by show ¬ B ≤ g; omega)) (64 + cc))
                            obtain ⟨iR, hiR, hr0, hr1, hr2⟩ := info_parts infoRow
                            have hc2 : (cc : Int) < 64 := by omega
                            obtain ⟨ln, hln⟩ : ∃ ln, acc.length = ln := ⟨_, rfl⟩
                            have HLN := Lib.hid hln
                            rw [hln] at c3 HOW hal hoS
                            have HKS : Hid (∀ w', Fr (fun b => (Value.slice ra ln rk).ownBlock = some b) (w15.setCell ⟨xb, 6, none⟩ (.int .i64 kx.1)) w' → w'.cell? ⟨g, 64 + cc, none⟩ = some (.slice ra ln rk) ∧ w'.cell? ⟨xb, 0, none⟩ = some (.int .i64 num.1) ∧ w'.cell? ⟨xb, 1, none⟩ = some (.int .u64 mx) ∧ w'.cell? ⟨xb, 2, none⟩ = some (.bool true) ∧ w'.cell? ⟨xb, 3, none⟩ = some (.int .i64 (cc : Int)) ∧ w'.cell? ⟨xb, 4, none⟩ = some (.int .i64 num.1) ∧ w'.cell? ⟨xb, 5, none⟩ = some (.int .i64 x.1) ∧ w'.cell? ⟨xb, 6, none⟩ = some (.int .i64 kx.1)) := Lib.hid (fun w' hf => ⟨hf.cell c3 (fun h => by have := (hoS.out _ h).1; dsimp only at this; omega), hf.cell x0 (fun h => (hoS.out _ h).2 rfl), hf.cell x1 (fun h => (hoS.out _ h).2 rfl), hf.cell x2 (fun h => (hoS.out _ h).2 rfl), hf.cell x3 (fun h => (hoS.out _ h).2 rfl), hf.cell x4 (fun h => (hoS.out _ h).2 rfl), hf.cell x5 (fun h => (hoS.out _ h).2 rfl), hf.cell x6 (fun h => (hoS.out _ h).2 rfl)⟩)
                            have HOWF : Hid (∀ w', Fr (fun _ => False) (w15.setCell ⟨xb, 6, none⟩ (.int .i64 kx.1)) w' → w'.ownsRow B 86 7 (.slice ra ln rk) ln (rowcs acc)) := Lib.hid (fun w' hf => hf.row HOW.out (fun _ _ h => h))
                            clear hs hown hacc hpe hln
                            go_wp2_with fail
                            generalize (w15.setCell ⟨xb, 6, none⟩ (.int .i64 kx.1)) = W12 at *
                            have c3d : W12.drew.cell? ⟨g, 64 + cc, none⟩ = some (.slice ra ln rk) := c3
                            have c3a : (W12.alloc (.cells #[.int .i64 num.1, .int .u64 mx, .bool true, .int .i64 (cc : Int), .int .i64 num.1, .int .i64 x.1, .int .i64 kx.1] 86)).cell? ⟨g, 64 + cc, none⟩ = some (.slice ra ln rk) := (HKS.out _ ((Fr.refl _ W12).alloc _)).1
                            have c3b : (W12.alloc (.cells #[.int .i64 num.1, .int .u64 mx, .bool true, .int .i64 (cc : Int), .int .i64 num.1, .int .i64 x.1, .int .i64 kx.1] 86)).drew.cell? ⟨g, 64 + cc, none⟩ = some (.slice ra ln rk) := c3a
                            go_region_law
                              ((refine step_append_src rfl (.tmp 133) (.tmp 135) 50 rfl B 86 iR _ 56 Try.underlying50 hiR hr0 hr1 hr2 rfl (by decide) (.slice ra ln rk) ln (rowcs acc) (by rfl) (by first | exact HOWF.out _ ((Fr.refl _ _).alloc _).drew | exact HOWF.out _ (((Fr.refl _ _).drew).alloc _) | exact HOWF.out _ ((Fr.refl _ _).alloc _)) 1 (by rfl) (rd_obj (cs := [.int .i64 num.1, .int .u64 mx, .bool true, .int .i64 (cc : Int), .int .i64 num.1, .int .i64 x.1, .int .i64 kx.1]) (heap_new _ _) rfl) hone.out (by unfold maxLen; omega) (by omega) (by simp; omega) ?_; intro v1 w1 hown1 hgrow1 hloc1; have HFk : Hid (Fr (fun b => (Value.slice ra ln rk).ownBlock = some b) W12 w1) := Lib.hid (Fr.trans (by first | exact ((Fr.refl _ W12).alloc _).drew | exact ((Fr.refl _ W12).drew).alloc _ | exact (Fr.refl _ W12).alloc _) (Fr.grown hgrow1 (fun r hr _ => hr))); have hF1 : Fr (fun b => B ≤ b) W12 w1 := Fr.trans (by first | exact ((Fr.refl _ W12).alloc _).drew | exact ((Fr.refl _ W12).drew).alloc _ | exact (Fr.refl _ W12).alloc _) (Fr.grown hgrow1 (by intro r hr _; exact (HOW.out.lt r hr).1)); obtain ⟨a1, c1, rfl⟩ := row_sl hown1; have hc1 := hF1.cell c3 (by show ¬ B ≤ g; omega); have hz1 := hfrz.out _ hF1; have HF1 := Lib.hid hF1; have HO1 := Lib.hid hown1; clear hF1 hown1 hgrow1 hloc1))
                            all_goals
                              go_wp2_with fail
                              go_roundw
                              case rel =>
                                have hl1 : (acc ++ [(num.1, (⟨mx, true, ⟨cc, num.1, x.1, kx.1⟩⟩ : RowV))]).length = ln + 1 := by simp [HLN.out]
                                exact ⟨j + 1, num.1, acc ++ [(num.1, ⟨mx, true, ⟨cc, num.1, x.1, kx.1⟩⟩)], kk, by omega, by go_num, rfl, HU12.out.push (acc' := acc ++ [(num.1, ⟨mx, true, ⟨cc, num.1, x.1, kx.1⟩⟩)]) HF1.out (by rw [hrowe.out, hl1]; exact HO1.out) hgg.out HKK.out, HS.out, hacc2.out, hnum0, by rw [hl1]; omega⟩
                              case measure => simp [intOf]; omega
                  · obtain rfl : j = M := by omega
                    have hfin : Hid (finT (cliT (N - (k + 1)) t' (cc : Int) (putS ktI.lt A (cc : Int) (MK, acc))) = U) := Lib.hid (by
                      rw [← HFx.out, Nat.sub_self]; rfl)
                    have hlv := Lib.hid (HUx.out.leave hmk1)
                    clear hb2 b1
                    go_wp2_with fail
                    go_roundw
                    case rel => exact ⟨k + 1, cc, _, t', _, by omega, by go_num, rfl, hlv.out, hfin.out, by omega⟩
                    case measure => simp [intOf]; omega
                -- inner end
              · exact hk1.elim
              · have hk3 : (MK == 1) = true := by simp [hk1]
                have hk4 : ¬ 1 < MK := by omega
                have hX := Lib.hid (HU6.out.enter (c := cc) (mk := MK) (m0 := 0) (w' := w6) (by omega) hc64 (by rw [if_pos rfl, hk1]) hgl.out (.inl ⟨rfl, rfl⟩) hgg.out HKK.out)
                have HK1 := Lib.hid hk1
                clear hl2 hk1
                go_wp2_with fail
                -- inner loop
                obtain ⟨B, hXB⟩ : ∃ B, UpX w w6 gk K g TS A cc MK [] B n.2 := ⟨_, hX.out⟩
                have HXB := Lib.hid hXB
                clear hX hXB
                go_loopw [12, 13] (fun be i wr => ∃ (j : Nat) (before : Int) (acc : Rows) (t' : Tst), j ≤ M ∧ i = .int .i64 j ∧ be = .int .i64 before ∧ UpX w wr gk K g TS A cc MK acc B t' ∧ finT (match rowsT (M - j) t' (cc : Int) before acc with | none => none | some R => cliT (N - (k + 1)) R.2 (cc : Int) (putS ktI.lt A (cc : Int) (MK, R.1))) = U ∧ (∀ p ∈ acc, p.1 ≤ before) ∧ 0 ≤ before ∧ acc.length ≤ j) (fun _ i _ => M - (intOf i).toNat)
                case atStart => exact ⟨0, MK - 1, [], n.2, Nat.zero_le _, rfl, rfl, HXB.out, HSC.out, (fun p hp => by cases hp), by omega, Nat.le_refl _⟩
                case round =>
                  obtain ⟨j, before, acc, t', hj, rfl, rfl, hUx, hfx, hacc, hbef, hal⟩ := hrel
                  have HUx := Lib.hid hUx; have HFx := Lib.hid hfx; have HAC := Lib.hid hacc
                  obtain ⟨tv', u1, u2, u3, u4⟩ := hUx.tr
                  have b1 := cell_obj u1 1 (.bool t'.2) rfl
                  obtain ⟨tb, hb2⟩ : ∃ b, t'.2 = b := ⟨_, rfl⟩
                  rw [hb2] at b1
                  clear hUx hfx hacc u1 u2 u3 u4 HXB
                  by_cases hlt2 : j < M
                  · cases tb with
                    | true =>
                      have hfin : Hid (finT (cliT (N - (k + 1)) t' (cc : Int) (putS ktI.lt A (cc : Int) (MK, acc))) = U) := Lib.hid (by
                        rw [cliT_bad hb2, ← HFx.out]; exact (rows_fin_bad hb2 _ _ _ hbef _ _ _ _).symm)
                      have hlv := Lib.hid (HUx.out.leave hmk1)
                      clear hb2
                      go_wp2_with fail
                      go_roundw
                      case rel => exact ⟨k + 1, cc, _, t', _, by omega, by go_num, rfl, hlv.out, hfin.out, by omega⟩
                      case measure => simp [intOf]; omega
                    | false =>
                      clear hb2
                      have hsx := HFx.out
                      rw [show M - j = (M - (j + 1)) + 1 by omega, rowsT_succ] at hsx
                      have HSX := Lib.hid hsx
                      clear hsx HFx
                      go_wp2_with fail
                      clear b1
                      refine (rTk _ gk K t' 1 4294967296 HUx.out.tr).mono ?_
                      have hnum := tk_in1 t' (b := 4294967296) (by omega)
                      obtain ⟨num, hnum2⟩ : ∃ x, tk t' 1 4294967296 = x := ⟨_, rfl⟩
                      rw [hnum2] at hnum ⊢
                      rintro e w7 ⟨rfl, hK7, hF7⟩
                      obtain ⟨hnum0, hnum1⟩ := hnum
                      have HNUM := Lib.hid hnum2
                      have hxA := heap_new w7 (.cells #[.int .i64 num.1, .int .u64 0, .bool false, .int .i64 0, .int .i64 0, .int .i64 0, .int .i64 0] 86)
                      have hKA := hK7.fr ((Fr.refl (fun _ => False) w7).alloc (.cells #[.int .i64 num.1, .int .u64 0, .bool false, .int .i64 0, .int .i64 0, .int .i64 0, .int .i64 0] 86)) (fun h => h) (fun _ _ h => h)
                      have hFA := hF7.trans' (S := fun b => b = gk) ((Fr.refl (fun _ => False) w7).alloc (.cells #[.int .i64 num.1, .int .u64 0, .bool false, .int .i64 0, .int .i64 0, .int .i64 0, .int .i64 0] 86)) (fun b _ e => e.elim)
                      have hszx := hF7.size
                      clear hK7 hnum2
                      go_wp2_with fail
                      obtain ⟨xb, hxb⟩ : ∃ xb, w7.heap.size = xb := ⟨_, rfl⟩
                      obtain ⟨WA, hWA⟩ : ∃ WA, w7.alloc (.cells #[.int .i64 num.1, .int .u64 0, .bool false, .int .i64 0, .int .i64 0, .int .i64 0, .int .i64 0] 86) = WA := ⟨_, rfl⟩
                      rw [hWA] at hxA hKA hFA ⊢
                      rw [hxb] at hxA hszx ⊢
                      have HXA := Lib.hid hxA; have HKA := Lib.hid hKA; have HFA := Lib.hid hFA; have HSZ := Lib.hid hszx
                      have hNG : Hid (xb ≠ gk) := Lib.hid (by have := HUx.out.tr.lt; omega)
                      have hNK : Hid (∀ b, K b → b ≠ xb) := Lib.hid (fun b hb e => by have := HKK.out b hb; have := HUx.out.fr.size; omega)
                      clear hxA hKA hFA hF7 hxb hWA hszx
                      refine (rTk WA gk K num.2 0 4294967295 HKA.out).mono ?_
                      have hh := tk_in num.2 (a := 0) (b := 4294967295) (by omega) (by omega)
                      obtain ⟨hi, hhi⟩ : ∃ x, tk num.2 0 4294967295 = x := ⟨_, rfl⟩
                      rw [hhi] at hh ⊢
                      rintro e w8 ⟨rfl, hK8, hF8⟩
                      obtain ⟨hh0, hh1⟩ := hh
                      have HHI := Lib.hid hhi; have HX8 := Lib.hid (hF8.at_ HXA.out hNG.out); have HF8 := Lib.hid (HFA.out.trans hF8); have HK8 := Lib.hid hK8
                      clear hK8 hF8 hhi HXA HFA HKA
                      go_wp2_with fail
                      refine (rTk w8 gk K hi.2 0 4294967295 HK8.out).mono ?_
                      have hl := tk_in hi.2 (a := 0) (b := 4294967295) (by omega) (by omega)
                      obtain ⟨lo, hlo⟩ : ∃ x, tk hi.2 0 4294967295 = x := ⟨_, rfl⟩
                      rw [hlo] at hl ⊢
                      rintro e w9 ⟨rfl, hK9, hF9⟩
                      obtain ⟨hl0, hl1⟩ := hl
                      have HLO := Lib.hid hlo; have HX9 := Lib.hid (hF9.at_ HX8.out hNG.out); have HF9 := Lib.hid (HF8.out.trans hF9); have HK9 := Lib.hid hK9
                      clear hK9 hF9 hlo HX8 HF8 HK8
                      have x1 := cell_obj HX9.out 1 (.int .u64 0) rfl
                      have y1 := obj_frozen HX9.out 1
                      go_wp2_with fail
                      obtain ⟨mx, hmx⟩ : ∃ mx, bits .or .u64 (hi.1 * 4294967296) lo.1 = mx := ⟨_, rfl⟩
                      rw [hmx]
                      have HMX : Hid (mixOf hi.1 lo.1 = mx) := Lib.hid hmx
                      have hS10 : Fr (fun b => b = xb) w9 (w9.setCell ⟨xb, 1, none⟩ (.int .u64 mx)) := (Fr.refl (fun b => b = xb) w9).setCell (p := ⟨xb, 1, none⟩) (fun _ => rfl) _
                      have hob := obj_set HX9.out 1 (.int .u64 mx)
                      simp only [List.setIfInBounds_toArray, List.set_cons_zero, List.set_cons_succ] at hob
                      have HX10 := Lib.hid hob
                      clear hob
                      have HK10 := Lib.hid (HK9.out.fr hS10 (fun e => hNG.out e.symm) (fun b hb e => hNK.out b hb e))
                      have HF10 := Lib.hid (HF9.out.trans' hS10 (fun b hb e => absurd hb (by rw [e]; have := HSZ.out; omega)))
                      obtain ⟨W10, hW10⟩ : ∃ W10, w9.setCell ⟨xb, 1, none⟩ (.int .u64 mx) = W10 := ⟨_, rfl⟩
                      rw [hW10] at HX10 HK10 HF10 ⊢
                      clear hS10 hW10 hmx x1 y1 HX9 HK9 HF9
                      refine (rTkF W10 gk K lo.2 HK10.out).mono ?_
                      obtain ⟨fl, hfl⟩ : ∃ x, tk lo.2 0 1 = x := ⟨_, rfl⟩
                      rw [hfl]
                      obtain ⟨x, hxx⟩ : ∃ x, tk fl.2 0 1000 = x := ⟨_, rfl⟩
                      obtain ⟨kx, hkx⟩ : ∃ kx, tk x.2 (-9223372036854775808) 9223372036854775807 = kx := ⟨_, rfl⟩
                      have hrd : readT t' (cc : Int) = if (fl.1 == 1) = true then ((num.1, ⟨mx, true, ⟨cc, num.1, x.1, kx.1⟩⟩), kx.2) else ((num.1, ⟨mx, false, Ans.zero⟩), fl.2) := by
                        unfold readT
                        simp only [HNUM.out, HHI.out, HLO.out, hfl, HMX.out, hxx, hkx]
                      have HXX := Lib.hid hxx; have HKX := Lib.hid hkx
                      clear hxx hkx
                      obtain ⟨db, hdb⟩ : ∃ db, (fl.1 == 1) = db := ⟨_, rfl⟩
                      rw [hdb] at hrd ⊢
                      rintro e w11 ⟨rfl, hK11, hF11⟩
                      have HRD := Lib.hid hrd
                      have HX11 := Lib.hid (hF11.at_ HX10.out hNG.out); have HF11 := Lib.hid (HF10.out.trans hF11); have HK11 := Lib.hid hK11
                      clear hK11 hF11 hrd hfl hdb HNUM HHI HLO HMX HX10 HF10 HK10
                      cases db with
                      | false =>
                        have x2 := cell_obj HX11.out 2 (.bool false) rfl
                        have y2 := obj_frozen HX11.out 2
                        have hob := obj_set HX11.out 2 (.bool false)
                        simp only [List.setIfInBounds_toArray, List.set_cons_zero, List.set_cons_succ] at hob
                        have HX12 := Lib.hid hob
                        clear hob
                        have hS12 : Fr (fun b => b = xb) w11 (w11.setCell ⟨xb, 2, none⟩ (.bool false)) := (Fr.refl (fun b => b = xb) w11).setCell (p := ⟨xb, 2, none⟩) (fun _ => rfl) _
                        have HK12 := Lib.hid (HK11.out.fr hS12 (fun e => hNG.out e.symm) (fun b hb e => hNK.out b hb e))
                        have HF12 := Lib.hid (HF11.out.trans' hS12 (fun b hb e => absurd hb (by rw [e]; have := HSZ.out; omega)))
                        clear hS12
                        obtain ⟨kk, hkk, hkk2⟩ : ∃ kk, TR (w11.setCell ⟨xb, 2, none⟩ (.bool false)) gk K kk.1 kk.2 ∧ readT t' (cc : Int) = ((num.1, ⟨mx, false, Ans.zero⟩), kk) := ⟨fl.2, HK12.out, HRD.out⟩
                        have HK12 := Lib.hid hkk
                        clear hkk
                        have x0 := cell_obj HX12.out 0 (.int .i64 num.1) rfl
                        have x1 := cell_obj HX12.out 1 (.int .u64 mx) rfl
                        have x2 := cell_obj HX12.out 2 (.bool false) rfl
                        have x3 := cell_obj HX12.out 3 (.int .i64 0) rfl
                        have x4 := cell_obj HX12.out 4 (.int .i64 0) rfl
                        have x5 := cell_obj HX12.out 5 (.int .i64 0) rfl
                        have x6 := cell_obj HX12.out 6 (.int .i64 0) rfl
                        have hU12 := HUx.out.take HK12.out HF12.out
                        have hs := HSX.out
                        rw [hkk2] at hs
                        dsimp only at hs
                        have hFF12 := Lib.hid (hU12.fr.toBelow (B := w.heap.size) (fun b e => e) (Nat.le_refl _))
                        have HU12 := Lib.hid hU12
                        obtain ⟨tv12, u1, -⟩ := HK12.out
                        have b1 := cell_obj u1 1 (.bool kk.2) rfl
                        obtain ⟨tb, hb2⟩ : ∃ b, kk.2 = b := ⟨_, rfl⟩
                        rw [hb2] at b1
                        clear u1 hU12 hkk2 HSX HRD
                        cases tb with
                        | true =>
                          have hUn : Hid (U = none) := Lib.hid (by
                            rw [← hs]
                            by_cases hle : num.1 ≤ before
                            · rw [if_pos hle]; rfl
                            · rw [if_neg hle]; exact rows_fin_bad hb2 _ _ _ hnum0 _ _ _ _)
                          clear hs hb2
                          go_wp2_with fail
                          go_ret2
                          exact ⟨hFF12.out, .inl ⟨hUn.out, _, rfl⟩⟩
                        | false =>
                          clear hb2
                          by_cases hle : num.1 ≤ before
                          · have hUn : Hid (U = none) := Lib.hid (by rw [← hs, if_pos hle]; rfl)
                            clear hs
                            go_wp2_with fail
                            go_ret2
                            exact ⟨hFF12.out, .inl ⟨hUn.out, _, rfl⟩⟩
                          · have hacc := HAC.out
                            have hpe : putS ktI.lt acc num.1 ⟨mx, false, Ans.zero⟩ = acc ++ [(num.1, ⟨mx, false, Ans.zero⟩)] := putS_end (fun p hp => by have := hacc p hp; omega)
                            rw [if_neg hle, hpe] at hs
                            have HS := Lib.hid hs
                            have hacc2 : Hid (∀ p ∈ acc ++ [(num.1, (⟨mx, false, Ans.zero⟩ : RowV))], p.1 ≤ num.1) := Lib.hid (by
                              intro p hp
                              rcases List.mem_append.1 hp with hp | hp
                              · have := hacc p hp; omega
                              · simp at hp; subst hp; exact Int.le_refl _)
                            have hrowe : Hid (rowcs (acc ++ [(num.1, (⟨mx, false, Ans.zero⟩ : RowV))]) = rowcs acc ++ [.int .i64 num.1, .int .u64 mx, .bool false, .int .i64 0, .int .i64 0, .int .i64 0, .int .i64 0]) := Lib.hid (by rw [rowcs_app]; rfl)
                            obtain ⟨ra, rk, c3w, hown⟩ := HUx.out.rx.cell
                            have hgB := HU12.out.rx.lt g HU12.out.rx.own
                            have hgkB := HU12.out.gkB
                            have c3 := HF12.out.cell c3w (fun e => hgg.out e)
                            have hoS : Hid (∀ b, (Value.slice ra acc.length rk).ownBlock = some b → B ≤ b ∧ b ≠ xb) := Lib.hid (fun b hb => by have := hown.lt b hb; have := HSZ.out; omega)
                            have HOW := Lib.hid (HF12.out.row hown (fun b hb e => by have := (hoS.out b hb).1; omega))
                            clear c3w
                            have hz3 := HU12.out.rx.frozen (64 + cc)
                            have hBs := HU12.out.rx.sz
                            have hone : Hid (∀ u ∈ ([.int .i64 num.1, .int .u64 mx, .bool false, .int .i64 0, .int .i64 0, .int .i64 0, .int .i64 0] : List Value), u.oneCell' = true) := Lib.hid (by intro u hu; simp only [List.mem_cons, List.not_mem_nil, or_false] at hu; rcases hu with rfl | rfl | rfl | rfl | rfl | rfl | rfl <;> rfl)
                            have hfrz : Hid (∀ w', Fr (fun b => B ≤ b) (w11.setCell ⟨xb, 2, none⟩ (.bool false)) w' → w'.frozen? ⟨g, 64 + cc, none⟩ = false) := Lib.hid (fun w' hf => by
                              obtain ⟨cs, v0, m0, r1, -⟩ := HU12.out.rx.ex
                              exact obj_frozen (hf.at_ r1 (by show ¬ B ≤ g; omega)) (64 + cc))
                            obtain ⟨iR, hiR, hr0, hr1, hr2⟩ := info_parts infoRow
                            have hc2 : (cc : Int) < 64 := by omega
                            obtain ⟨ln, hln⟩ : ∃ ln, acc.length = ln := ⟨_, rfl⟩
                            have HLN := Lib.hid hln
                            rw [hln] at c3 HOW hal hoS
                            have HKS : Hid (∀ w', Fr (fun b => (Value.slice ra ln rk).ownBlock = some b) (w11.setCell ⟨xb, 2, none⟩ (.bool false)) w' → w'.cell? ⟨g, 64 + cc, none⟩ = some (.slice ra ln rk) ∧ w'.cell? ⟨xb, 0, none⟩ = some (.int .i64 num.1) ∧ w'.cell? ⟨xb, 1, none⟩ = some (.int .u64 mx) ∧ w'.cell? ⟨xb, 2, none⟩ = some (.bool false) ∧ w'.cell? ⟨xb, 3, none⟩ = some (.int .i64 0) ∧ w'.cell? ⟨xb, 4, none⟩ = some (.int .i64 0) ∧ w'.cell? ⟨xb, 5, none⟩ = some (.int .i64 0) ∧ w'.cell? ⟨xb, 6, none⟩ = some (.int .i64 0)) := Lib.hid (fun w' hf => ⟨hf.cell c3 (fun h => by have := (hoS.out _ h).1; dsimp only at this; omega), hf.cell x0 (fun h => (hoS.out _ h).2 rfl), hf.cell x1 (fun h => (hoS.out _ h).2 rfl), hf.cell x2 (fun h => (hoS.out _ h).2 rfl), hf.cell x3 (fun h => (hoS.out _ h).2 rfl), hf.cell x4 (fun h => (hoS.out _ h).2 rfl), hf.cell x5 (fun h => (hoS.out _ h).2 rfl), hf.cell x6 (fun h => (hoS.out _ h).2 rfl)⟩)
                            have HOWF : Hid (∀ w', Fr (fun _ => False) (w11.setCell ⟨xb, 2, none⟩ (.bool false)) w' → w'.ownsRow B 86 7 (.slice ra ln rk) ln (rowcs acc)) := Lib.hid (fun w' hf => hf.row HOW.out (fun _ _ h => h))
                            clear hs hown hacc hpe hln
                            go_wp2_with fail
                            generalize (w11.setCell ⟨xb, 2, none⟩ (.bool false)) = W12 at *
                            have c3d : W12.drew.cell? ⟨g, 64 + cc, none⟩ = some (.slice ra ln rk) := c3
                            have c3a : (W12.alloc (.cells #[.int .i64 num.1, .int .u64 mx, .bool false, .int .i64 0, .int .i64 0, .int .i64 0, .int .i64 0] 86)).cell? ⟨g, 64 + cc, none⟩ = some (.slice ra ln rk) := (HKS.out _ ((Fr.refl _ W12).alloc _)).1
                            have c3b : (W12.alloc (.cells #[.int .i64 num.1, .int .u64 mx, .bool false, .int .i64 0, .int .i64 0, .int .i64 0, .int .i64 0] 86)).drew.cell? ⟨g, 64 + cc, none⟩ = some (.slice ra ln rk) := c3a
                            go_region_law
                              ((refine step_append_src rfl (.tmp 133) (.tmp 135) 50 rfl B 86 iR _ 56 Try.underlying50 hiR hr0 hr1 hr2 rfl (by decide) (.slice ra ln rk) ln (rowcs acc) (by rfl) (by first | exact HOWF.out _ ((Fr.refl _ _).alloc _).drew | exact HOWF.out _ (((Fr.refl _ _).drew).alloc _) | exact HOWF.out _ ((Fr.refl _ _).alloc _)) 1 (by rfl) (rd_obj (cs := [.int .i64 num.1, .int .u64 mx, .bool false, .int .i64 0, .int .i64 0, .int .i64 0, .int .i64 0]) (heap_new _ _) rfl) hone.out (by unfold maxLen; omega) (by omega) (by simp; omega) ?_; intro v1 w1 hown1 hgrow1 hloc1; have HFk : Hid (Fr (fun b => (Value.slice ra ln rk).ownBlock = some b) W12 w1) := Lib.hid (Fr.trans (by first | exact ((Fr.refl _ W12).alloc _).drew | exact ((Fr.refl _ W12).drew).alloc _ | exact (Fr.refl _ W12).alloc _) (Fr.grown hgrow1 (fun r hr _ => hr))); have hF1 : Fr (fun b => B ≤ b) W12 w1 := Fr.trans (by first | exact ((Fr.refl _ W12).alloc _).drew | exact ((Fr.refl _ W12).drew).alloc _ | exact (Fr.refl _ W12).alloc _) (Fr.grown hgrow1 (by intro r hr _; exact (HOW.out.lt r hr).1)); obtain ⟨a1, c1, rfl⟩ := row_sl hown1; have hc1 := hF1.cell c3 (by show ¬ B ≤ g; omega); have hz1 := hfrz.out _ hF1; have HF1 := Lib.hid hF1; have HO1 := Lib.hid hown1; clear hF1 hown1 hgrow1 hloc1))
                            all_goals
                              go_wp2_with fail
                              go_roundw
                              case rel =>
                                have hl1 : (acc ++ [(num.1, (⟨mx, false, Ans.zero⟩ : RowV))]).length = ln + 1 := by simp [HLN.out]
                                exact ⟨j + 1, num.1, acc ++ [(num.1, ⟨mx, false, Ans.zero⟩)], kk, by omega, by go_num, rfl, HU12.out.push (acc' := acc ++ [(num.1, ⟨mx, false, Ans.zero⟩)]) HF1.out (by rw [hrowe.out, hl1]; exact HO1.out) hgg.out HKK.out, HS.out, hacc2.out, hnum0, by rw [hl1]; omega⟩
                              case measure => simp [intOf]; omega
                      | true =>
                        have hrd2 := HRD.out.trans (if_pos rfl)
                        clear HRD
                        have HRD := Lib.hid hrd2
                        clear hrd2
                        have x0 := cell_obj HX11.out 0 (.int .i64 num.1) rfl
                        have y0 := obj_frozen HX11.out 0
                        have x1 := cell_obj HX11.out 1 (.int .u64 mx) rfl
                        have y1 := obj_frozen HX11.out 1
                        have x2 := cell_obj HX11.out 2 (.bool false) rfl
                        have y2 := obj_frozen HX11.out 2
                        have x3 := cell_obj HX11.out 3 (.int .i64 0) rfl
                        have y3 := obj_frozen HX11.out 3
                        have x4 := cell_obj HX11.out 4 (.int .i64 0) rfl
                        have y4 := obj_frozen HX11.out 4
                        have x5 := cell_obj HX11.out 5 (.int .i64 0) rfl
                        have y5 := obj_frozen HX11.out 5
                        have x6 := cell_obj HX11.out 6 (.int .i64 0) rfl
                        have y6 := obj_frozen HX11.out 6
                        have hob := (obj_set (obj_set (obj_set (obj_set (obj_set HX11.out 2 (.bool true)) 3 (.int .i64 (cc : Int))) 4 (.int .i64 num.1)) 5 (.int .i64 0)) 6 (.int .i64 0))
                        simp only [List.setIfInBounds_toArray, List.set_cons_zero, List.set_cons_succ] at hob
                        have hfr := ((((((Fr.refl (fun b => b = xb) w11).setCell (p := ⟨xb, 2, none⟩) (fun _ => rfl) (.bool true)).setCell (p := ⟨xb, 3, none⟩) (fun _ => rfl) (.int .i64 (cc : Int))).setCell (p := ⟨xb, 4, none⟩) (fun _ => rfl) (.int .i64 num.1)).setCell (p := ⟨xb, 5, none⟩) (fun _ => rfl) (.int .i64 0)).setCell (p := ⟨xb, 6, none⟩) (fun _ => rfl) (.int .i64 0))
                        have hK' := HK11.out.fr hfr (fun e => hNG.out e.symm) (fun b hb e => hNK.out b hb e)
                        have hF' := HF11.out.trans' hfr (fun b hb e => absurd hb (by rw [e]; have := HSZ.out; omega))
                        have HX12 := Lib.hid hob; have HK12 := Lib.hid hK'; have HF12 := Lib.hid hF'
                        clear hob hfr hK' hF'
                        go_wp2_with fail
                        clear x0 y0 x1 y1 x2 y2 x3 y3 x4 y4 x5 y5 x6 y6
                        generalize (((((w11.setCell ⟨xb, 2, none⟩ (.bool true)).setCell ⟨xb, 3, none⟩ (.int .i64 (cc : Int))).setCell ⟨xb, 4, none⟩ (.int .i64 num.1)).setCell ⟨xb, 5, none⟩ (.int .i64 0)).setCell ⟨xb, 6, none⟩ (.int .i64 0)) = W12 at *
                        refine (rTk W12 gk K fl.2 0 1000 HK12.out).mono ?_
                        have hx := tk_in fl.2 (a := 0) (b := 1000) (by omega) (by omega)
                        rw [HXX.out] at hx ⊢
                        clear hx
                        rintro e w13 ⟨rfl, hK13, hF13⟩
                        have HX13 := Lib.hid (hF13.at_ HX12.out hNG.out); have HF13 := Lib.hid (HF12.out.trans hF13); have HK13 := Lib.hid hK13
                        clear hK13 hF13 HX12 HF12 HK12 HX11 HF11 HK11
                        have x5 := cell_obj HX13.out 5 (.int .i64 0) rfl
                        have y5 := obj_frozen HX13.out 5
                        have hob := (obj_set HX13.out 5 (.int .i64 x.1))
                        simp only [List.setIfInBounds_toArray, List.set_cons_zero, List.set_cons_succ] at hob
                        have hfr := ((Fr.refl (fun b => b = xb) w13).setCell (p := ⟨xb, 5, none⟩) (fun _ => rfl) (.int .i64 x.1))
                        have hK' := HK13.out.fr hfr (fun e => hNG.out e.symm) (fun b hb e => hNK.out b hb e)
                        have hF' := HF13.out.trans' hfr (fun b hb e => absurd hb (by rw [e]; have := HSZ.out; omega))
                        have HX14 := Lib.hid hob; have HK14 := Lib.hid hK'; have HF14 := Lib.hid hF'
                        clear hob hfr hK' hF'
                        go_wp2_with fail
                        clear x5 y5
                        generalize w13.setCell ⟨xb, 5, none⟩ (.int .i64 x.1) = W14 at *
                        refine (rTk W14 gk K x.2 (-9223372036854775808) 9223372036854775807 HK14.out).mono ?_
                        rw [HKX.out]
                        rintro e w15 ⟨rfl, hK15, hF15⟩
                        have HX15 := Lib.hid (hF15.at_ HX14.out hNG.out); have HF15 := Lib.hid (HF14.out.trans hF15); have HK15 := Lib.hid hK15
                        clear hK15 hF15 HX14 HF14 HK14 HX13 HF13 HK13
                        have hob := (obj_set HX15.out 6 (.int .i64 kx.1))
                        simp only [List.setIfInBounds_toArray, List.set_cons_zero, List.set_cons_succ] at hob
                        have hfr := ((Fr.refl (fun b => b = xb) w15).setCell (p := ⟨xb, 6, none⟩) (fun _ => rfl) (.int .i64 kx.1))
                        have hK' := HK15.out.fr hfr (fun e => hNG.out e.symm) (fun b hb e => hNK.out b hb e)
                        have hF' := HF15.out.trans' hfr (fun b hb e => absurd hb (by rw [e]; have := HSZ.out; omega))
                        have HX16 := Lib.hid hob; have HK16 := Lib.hid hK'; have HF16 := Lib.hid hF'
                        clear hob hfr hK' hF'
                        have y6 := obj_frozen HX15.out 6
                        have z6 := cell_obj HX15.out 6 (.int .i64 0) rfl
                        obtain ⟨kk, hkk, hkk2⟩ : ∃ kk, TR (w15.setCell ⟨xb, 6, none⟩ (.int .i64 kx.1)) gk K kk.1 kk.2 ∧ readT t' (cc : Int) = ((num.1, ⟨mx, true, ⟨cc, num.1, x.1, kx.1⟩⟩), kk) := ⟨kx.2, HK16.out, HRD.out⟩
                        have HK16 := Lib.hid hkk
                        clear hkk
                        have x0 := cell_obj HX16.out 0 (.int .i64 num.1) rfl
                        have x1 := cell_obj HX16.out 1 (.int .u64 mx) rfl
                        have x2 := cell_obj HX16.out 2 (.bool true) rfl
                        have x3 := cell_obj HX16.out 3 (.int .i64 (cc : Int)) rfl
                        have x4 := cell_obj HX16.out 4 (.int .i64 num.1) rfl
                        have x5 := cell_obj HX16.out 5 (.int .i64 x.1) rfl
                        have x6 := cell_obj HX16.out 6 (.int .i64 kx.1) rfl
                        have hU12 := HUx.out.take HK16.out HF16.out
                        have hs := HSX.out
                        rw [hkk2] at hs
                        dsimp only at hs
                        have hFF12 := Lib.hid (hU12.fr.toBelow (B := w.heap.size) (fun b e => e) (Nat.le_refl _))
                        have HU12 := Lib.hid hU12
                        obtain ⟨tv12, u1, -⟩ := HK16.out
                        have b1 := cell_obj u1 1 (.bool kk.2) rfl
                        obtain ⟨tb, hb2⟩ : ∃ b, kk.2 = b := ⟨_, rfl⟩
                        rw [hb2] at b1
                        clear u1 hU12 hkk2 HSX HRD
                        cases tb with
                        | true =>
                          have hUn : Hid (U = none) := Lib.hid (by
                            rw [← hs]
                            by_cases hle : num.1 ≤ before
                            · rw [if_pos hle]; rfl
                            · rw [if_neg hle]; exact rows_fin_bad hb2 _ _ _ hnum0 _ _ _ _)
                          clear hs hb2
                          go_wp2_with fail
                          go_ret2
                          exact ⟨hFF12.out, .inl ⟨hUn.out, _, rfl⟩⟩
                        | false =>
                          clear hb2
                          by_cases hle : num.1 ≤ before
                          · have hUn : Hid (U = none) := Lib.hid (by rw [← hs, if_pos hle]; rfl)
                            clear hs
                            go_wp2_with fail
                            go_ret2
                            exact ⟨hFF12.out, .inl ⟨hUn.out, _, rfl⟩⟩
                          · have hacc := HAC.out
                            have hpe : putS ktI.lt acc num.1 ⟨mx, true, ⟨cc, num.1, x.1, kx.1⟩⟩ = acc ++ [(num.1, ⟨mx, true, ⟨cc, num.1, x.1, kx.1⟩⟩)] := putS_end (fun p hp => by have := hacc p hp; omega)
                            rw [if_neg hle, hpe] at hs
                            have HS := Lib.hid hs
                            have hacc2 : Hid (∀ p ∈ acc ++ [(num.1, (⟨mx, true, ⟨cc, num.1, x.1, kx.1⟩⟩ : RowV))], p.1 ≤ num.1) := Lib.hid (by
                              intro p hp
                              rcases List.mem_append.1 hp with hp | hp
                              · have := hacc p hp; omega
                              · simp at hp; subst hp; exact Int.le_refl _)
                            have hrowe : Hid (rowcs (acc ++ [(num.1, (⟨mx, true, ⟨cc, num.1, x.1, kx.1⟩⟩ : RowV))]) = rowcs acc ++ [.int .i64 num.1, .int .u64 mx, .bool true, .int .i64 (cc : Int), .int .i64 num.1, .int .i64 x.1, .int .i64 kx.1]) := Lib.hid (by rw [rowcs_app]; rfl)
                            obtain ⟨ra, rk, c3w, hown⟩ := HUx.out.rx.cell
                            have hgB := HU12.out.rx.lt g HU12.out.rx.own
                            have hgkB := HU12.out.gkB
                            have c3 := HF16.out.cell c3w (fun e => hgg.out e)
                            have hoS : Hid (∀ b, (Value.slice ra acc.length rk).ownBlock = some b → B ≤ b ∧ b ≠ xb) := Lib.hid (fun b hb => by have := hown.lt b hb; have := HSZ.out; omega)
                            have HOW := Lib.hid (HF16.out.row hown (fun b hb e => by have := (hoS.out b hb).1; omega))
                            clear c3w
                            have hz3 := HU12.out.rx.frozen (64 + cc)
                            have hBs := HU12.out.rx.sz
                            have hone : Hid (∀ u ∈ ([.int .i64 num.1, .int .u64 mx, .bool true, .int .i64 (cc : Int), .int .i64 num.1, .int .i64 x.1, .int .i64 kx.1] : List Value), u.oneCell' = true) := Lib.hid (by intro u hu; simp only [List.mem_cons, List.not_mem_nil, or_false] at hu; rcases hu with rfl | rfl | rfl | rfl | rfl | rfl | rfl <;> rfl)
                            have hfrz : Hid (∀ w', Fr (fun b => B ≤ b) (w15.setCell ⟨xb, 6, none⟩ (.int .i64 kx.1)) w' → w'.frozen? ⟨g, 64 + cc, none⟩ = false) := Lib.hid (fun w' hf => by
                              obtain ⟨cs, v0, m0, r1, -⟩ := HU12.out.rx.ex
                              exact obj_frozen (hf.at_ r1 (by show ¬ B ≤ g; omega)) (64 + cc))
                            obtain ⟨iR, hiR, hr0, hr1, hr2⟩ := info_parts infoRow
                            have hc2 : (cc : Int) < 64 := by omega
                            obtain ⟨ln, hln⟩ : ∃ ln, acc.length = ln := ⟨_, rfl⟩
                            have HLN := Lib.hid hln
                            rw [hln] at c3 HOW hal hoS
                            have HKS : Hid (∀ w', Fr (fun b => (Value.slice ra ln rk).ownBlock = some b) (w15.setCell ⟨xb, 6, none⟩ (.int .i64 kx.1)) w' → w'.cell? ⟨g, 64 + cc, none⟩ = some (.slice ra ln rk) ∧ w'.cell? ⟨xb, 0, none⟩ = some (.int .i64 num.1) ∧ w'.cell? ⟨xb, 1, none⟩ = some (.int .u64 mx) ∧ w'.cell? ⟨xb, 2, none⟩ = some (.bool true) ∧ w'.cell? ⟨xb, 3, none⟩ = some (.int .i64 (cc : Int)) ∧ w'.cell? ⟨xb, 4, none⟩ = some (.int .i64 num.1) ∧ w'.cell? ⟨xb, 5, none⟩ = some (.int .i64 x.1) ∧ w'.cell? ⟨xb, 6, none⟩ = some (.int .i64 kx.1)) := Lib.hid (fun w' hf => ⟨hf.cell c3 (fun h => by have := (hoS.out _ h).1; dsimp only at this; omega), hf.cell x0 (fun h => (hoS.out _ h).2 rfl), hf.cell x1 (fun h => (hoS.out _ h).2 rfl), hf.cell x2 (fun h => (hoS.out _ h).2 rfl), hf.cell x3 (fun h => (hoS.out _ h).2 rfl), hf.cell x4 (fun h => (hoS.out _ h).2 rfl), hf.cell x5 (fun h => (hoS.out _ h).2 rfl), hf.cell x6 (fun h => (hoS.out _ h).2 rfl)⟩)
                            have HOWF : Hid (∀ w', Fr (fun _ => False) (w15.setCell ⟨xb, 6, none⟩ (.int .i64 kx.1)) w' → w'.ownsRow B 86 7 (.slice ra ln rk) ln (rowcs acc)) := Lib.hid (fun w' hf => hf.row HOW.out (fun _ _ h => h))
                            clear hs hown hacc hpe hln
                            go_wp2_with fail
                            generalize (w15.setCell ⟨xb, 6, none⟩ (.int .i64 kx.1)) = W12 at *
                            have c3d : W12.drew.cell? ⟨g, 64 + cc, none⟩ = some (.slice ra ln rk) := c3
                            have c3a : (W12.alloc (.cells #[.int .i64 num.1, .int .u64 mx, .bool true, .int .i64 (cc : Int), .int .i64 num.1, .int .i64 x.1, .int .i64 kx.1] 86)).cell? ⟨g, 64 + cc, none⟩ = some (.slice ra ln rk) := (HKS.out _ ((Fr.refl _ W12).alloc _)).1
                            have c3b : (W12.alloc (.cells #[.int .i64 num.1, .int .u64 mx, .bool true, .int .i64 (cc : Int), .int .i64 num.1, .int .i64 x.1, .int .i64 kx.1] 86)).drew.cell? ⟨g, 64 + cc, none⟩ = some (.slice ra ln rk) := c3a
                            go_region_law
                              ((refine step_append_src rfl (.tmp 133) (.tmp 135) 50 rfl B 86 iR _ 56 Try.underlying50 hiR hr0 hr1 hr2 rfl (by decide) (.slice ra ln rk) ln (rowcs acc) (by rfl) (by first | exact HOWF.out _ ((Fr.refl _ _).alloc _).drew | exact HOWF.out _ (((Fr.refl _ _).drew).alloc _) | exact HOWF.out _ ((Fr.refl _ _).alloc _)) 1 (by rfl) (rd_obj (cs := [.int .i64 num.1, .int .u64 mx, .bool true, .int .i64 (cc : Int), .int .i64 num.1, .int .i64 x.1, .int .i64 kx.1]) (heap_new _ _) rfl) hone.out (by unfold maxLen; omega) (by omega) (by simp; omega) ?_; intro v1 w1 hown1 hgrow1 hloc1; have HFk : Hid (Fr (fun b => (Value.slice ra ln rk).ownBlock = some b) W12 w1) := Lib.hid (Fr.trans (by first | exact ((Fr.refl _ W12).alloc _).drew | exact ((Fr.refl _ W12).drew).alloc _ | exact (Fr.refl _ W12).alloc _) (Fr.grown hgrow1 (fun r hr _ => hr))); have hF1 : Fr (fun b => B ≤ b) W12 w1 := Fr.trans (by first | exact ((Fr.refl _ W12).alloc _).drew | exact ((Fr.refl _ W12).drew).alloc _ | exact (Fr.refl _ W12).alloc _) (Fr.grown hgrow1 (by intro r hr _; exact (HOW.out.lt r hr).1)); obtain ⟨a1, c1, rfl⟩ := row_sl hown1; have hc1 := hF1.cell c3 (by show ¬ B ≤ g; omega); have hz1 := hfrz.out _ hF1; have HF1 := Lib.hid hF1; have HO1 := Lib.hid hown1; clear hF1 hown1 hgrow1 hloc1))
                            all_goals
                              go_wp2_with fail
                              go_roundw
                              case rel =>
                                have hl1 : (acc ++ [(num.1, (⟨mx, true, ⟨cc, num.1, x.1, kx.1⟩⟩ : RowV))]).length = ln + 1 := by simp [HLN.out]
                                exact ⟨j + 1, num.1, acc ++ [(num.1, ⟨mx, true, ⟨cc, num.1, x.1, kx.1⟩⟩)], kk, by omega, by go_num, rfl, HU12.out.push (acc' := acc ++ [(num.1, ⟨mx, true, ⟨cc, num.1, x.1, kx.1⟩⟩)]) HF1.out (by rw [hrowe.out, hl1]; exact HO1.out) hgg.out HKK.out, HS.out, hacc2.out, hnum0, by rw [hl1]; omega⟩
                              case measure => simp [intOf]; omega
                  · obtain rfl : j = M := by omega
                    have hfin : Hid (finT (cliT (N - (k + 1)) t' (cc : Int) (putS ktI.lt A (cc : Int) (MK, acc))) = U) := Lib.hid (by
                      rw [← HFx.out, Nat.sub_self]; rfl)
                    have hlv := Lib.hid (HUx.out.leave hmk1)
                    clear hb2 b1
                    go_wp2_with fail
                    go_roundw
                    case rel => exact ⟨k + 1, cc, _, t', _, by omega, by go_num, rfl, hlv.out, hfin.out, by omega⟩
                    case measure => simp [intOf]; omega
                -- inner end
    · obtain rfl : k = N := by omega
      have hfn := HFin.out
      rw [Nat.sub_self] at hfn
      have hfn : (if doneT t.1 t.2 = 0 then some A else none) = U := hfn
      have hFF := Lib.hid (HUp.out.fr.drew.toBelow (B := w.heap.size) (fun b e => e) (Nat.le_refl _))
      cases tb with
      | true =>
        have hUn : Hid (U = none) := Lib.hid (by rw [← hfn, if_neg (by rw [hb2]; simp [doneT])])
        clear hb2 hfn
        go_wp2_with fail
        go_region
        go_wp2_with fail
        go_ret2
        exact ⟨hFF.out, .inl ⟨hUn.out, _, rfl⟩⟩
      | false =>
        obtain ⟨T, hT⟩ : ∃ T, t.1 = T := ⟨_, rfl⟩
        rw [hT, hb2] at hfn
        rw [hT] at b0
        have HFN := Lib.hid hfn
        clear hfn
        cases T with
        | nil =>
          have hRT := Lib.hid (HUp.out.ru.rt.fr (Fr.refl (fun _ => False) wr).drew (fun _ _ h => h))
          have hLW := Lib.hid HUp.out.low
          clear hb2
          go_wp2_with fail
          go_region
          go_wp2_with fail
          go_ret2
          exact ⟨hFF.out, .inr ⟨A, g, TS, by rw [← HFN.out]; simp [doneT], rfl, hRT.out, hLW.out⟩⟩
        | cons x r =>
          have hne : ((((x :: r).length : Nat) : Int) == 0) = false := by simp; omega
          have hUn : Hid (U = none) := Lib.hid (by rw [← HFN.out]; simp [doneT])
          obtain ⟨ln, hln⟩ : ∃ ln, (x :: r).length = ln := ⟨_, rfl⟩
          rw [hln] at hne b0
          clear hb2 hln
          go_wp2_with fail
          go_region
          go_wp2_with fail
          go_ret2
          exact ⟨hFF.out, .inl ⟨hUn.out, _, rfl⟩⟩
end Go.Proofs.Ytakjiicnbocjeaa
