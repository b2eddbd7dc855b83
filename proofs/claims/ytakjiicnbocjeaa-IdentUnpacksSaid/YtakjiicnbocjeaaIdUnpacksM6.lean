/- Texts of this claim, joined: entrepotref09: Pack; ident and its document: what both packs give; what is open, plainly; entrepotlaw09.Looks: the walk; A region that draws its order: all its operations but the last only read (its calls may draw), and the last one (a store) waits for all: one walk in the text's order serves; The document's mix (entrepotref02): turn, round (written by ref2_gen.py); The mix, word by word: plainly; The document's mix (entrepotref02): Mix; A law: it returns true, and leaves all that was there. What is common to all laws of this seat. -/
import Derived.Test.YtakjiicnbocjeaaIdUnpacksM4
import Derived.Test.YtakjiicnbocjeaaIdUnpacksM2
import Derived.Test.YtakjiicnbocjeaaIdUnpacksM1
import Derived.Deep.RegionWith
import Derived.BigQuiet
import Derived.StillTail
import Derived.Test.YtakjiicnbocjeaaIdUnpacksM3
import Derived.ProofKit
import Derived.OpenShut
import Derived.SizedLaws
import Derived.Below
namespace Go.Proofs.Ytakjiicnbocjeaa
open Go.RowKit Go.Maps
/-- No client is kept that says nothing. -/
def TPres (A : Tbl) : Prop := ∀ p ∈ A, 1 < p.2.1 ∨ 0 < p.2.2.length
theorem pres_yes {A : Tbl} {c : Int} (h : 1 < (cli A c).1 ∨ 0 < (cli A c).2.length) : getS A c = some (cli A c) := by
  unfold cli at *
  cases e : getS A c with
  | none => rw [e] at h; simp at h
  | some x => rfl
theorem pres_no {A : Tbl} {c : Int} (hp : TPres A) (h : ¬ (1 < (cli A c).1 ∨ 0 < (cli A c).2.length)) : getS A c = none := by
  unfold cli at h
  cases e : getS A c with
  | none => rfl
  | some x => rw [e] at h; exact absurd (hp _ (getS_mem e)) h
def preL (A : Tbl) (c : Int) : Tbl := A.filter fun p => decide (p.1 < c)
theorem preL_yes {A : Tbl} {c : Int} (h : Rise A) (hc : 1 < (cli A c).1 ∨ 0 < (cli A c).2.length) : preL A (c + 1) = preL A c ++ [(c, cli A c)] := by
  unfold preL; rw [filter_succ h c, pres_yes hc]
theorem preL_no {A : Tbl} {c : Int} (h : Rise A) (hp : TPres A) (hc : ¬ (1 < (cli A c).1 ∨ 0 < (cli A c).2.length)) : preL A (c + 1) = preL A c := by
  unfold preL; rw [filter_succ h c, pres_no hp hc]; simp
theorem preL_all {A : Tbl} (h : ∀ p ∈ A, isCl p.1 = true) : preL A 64 = A := filter_all fun p hp => by have := h p hp; unfold isCl at this; simp at this; omega
theorem preL_zero {A : Tbl} (h : ∀ p ∈ A, isCl p.1 = true) : preL A 0 = [] := by
  unfold preL; rw [List.filter_eq_nil_iff]; intro p hp; have := h p hp; unfold isCl at this; simp at this; simp; omega
theorem row_cells {w : World} {base len k : Nat} {a : Option Addr} {R : Rows} (h : w.ownsRow base 86 7 (.slice a len k) len (rowcs R)) (hp : 0 < len) :
    ∃ gp, a = some ⟨gp, 0, none⟩ ∧ len ≤ k ∧ ∀ (j : Nat) (q : Int × RowV), R[j]? = some q → ∀ (f : Nat) (u : Value), (rowc q)[f]? = some u → w.cell? ⟨gp, j * 7 + f, none⟩ = some u := by
  rcases h.2 with ⟨e, e0⟩ | ⟨gp, c, cur, e, _, _, hle, _⟩
  · omega
  · injection e with e1 _ e3
    subst e1; subst e3
    refine ⟨gp, rfl, hle, fun j q hq f u hu => ?_⟩
    obtain ⟨ad, e, hc⟩ := (Rd.own h).at_ hp (rowcs_at hq f u hu)
    cases e
    have : (⟨gp, 0, none⟩ : Addr).add (j * 7 + f) = ⟨gp, j * 7 + f, none⟩ := by unfold Addr.add; split <;> simp_all
    rw [this] at hc; exact hc
set_option maxRecDepth 100000 in
set_option maxHeartbeats 4000000 in
theorem rPack (w : World) (g : Nat) (TS : Nat → Prop) (A : Tbl) (h : RT w g TS A) (hR : Rise A) (hp : TPres A) (hk : TOk A) (h64 : A.length ≤ 64) :
    Calls Try.prog 46 #[.pointer (some ⟨g, 0, none⟩)] w fun e w' =>
      Below w.heap.size w w' ∧ ∃ v, e = .returned v ∧ w'.ownsRow w.heap.size 5 1 v (mkAll ([], false) (tabC A)).1.length (u8s (mkAll ([], false) (tabC A)).1) := by
  have HH := Lib.hid h; have HR := Lib.hid hR; have HP := Lib.hid hp; have HK := Lib.hid hk; have H64 := Lib.hid h64
  have hgw := h.lt g h.own
  have HTL : Hid (∀ b, TS b → b ≠ w.heap.size) := Lib.hid (fun b hb e => by have := h.lt b hb; omega)
  obtain ⟨sF, hsF⟩ : ∃ sF, mkAll ([], false) (tabC A) = sF := ⟨_, rfl⟩
  rw [hsF]
  have HSF := Lib.hid hsF
  clear h hR hp hk h64 hsF
  go_enter Try.func46, Try.ntmps46
  go_wp2_with fail
  have hK0 := RK.new w
  have hH0 := HH.out.fr ((Fr.refl (fun _ => False) w).alloc (.cells #[.slice none 0 0, .bool false] 122)) (fun _ _ h => h)
  have hF0 : Fr (fun b => w.heap.size ≤ b) w (w.alloc (.cells #[.slice none 0 0, .bool false] 122)) := (Fr.refl _ w).alloc _
  have hs0 : w.heap.size ≤ (w.alloc (.cells #[.slice none 0 0, .bool false] 122)).heap.size := by simp
  obtain ⟨W0, hW0⟩ : ∃ W0, w.alloc (.cells #[.slice none 0 0, .bool false] 122) = W0 := ⟨_, rfl⟩
  rw [hW0] at hK0 hH0 hF0 hs0 ⊢
  have HK0 := Lib.hid hK0; have HH0 := Lib.hid hH0; have HF0 := Lib.hid hF0; have HS0 := Lib.hid hs0
  clear hW0 hK0 hH0 hF0 hs0 HH
  obtain ⟨B, hB⟩ : ∃ B, w.heap.size = B := ⟨_, rfl⟩
  rw [hB] at HK0 HTL HF0 HS0
  have HB := Lib.hid hB
  clear hB
  have hkz : Hid (preL A 0 = []) := Lib.hid (preL_zero HK.out.keys)
  go_loopw [4, 5] (fun n c wr => ∃ k : Nat, k ≤ 64 ∧ c = .int .i64 k ∧ n = .int .i64 ((preL A k).length : Int) ∧ wr = W0) (fun _ c _ => 64 - (intOf c).toNat)
  case atStart => exact ⟨0, Nat.zero_le _, rfl, by rw [show ((0 : Nat) : Int) = 0 from rfl, hkz.out]; rfl, rfl⟩
  case round =>
    obtain ⟨k, hk, rfl, rfl, rfl⟩ := hrel
    by_cases hlt : k < 64
    · obtain ⟨mk, a, cap, c1, c2, c3, c4, c5⟩ := HH0.out.at_ k hlt
      have hMk := Lib.hid (rMark wr g TS A k HH0.out hlt)
      have hyes := Lib.hid (fun h => preL_yes (A := A) (c := k) HR.out h)
      have hno := Lib.hid (fun h => preL_no (A := A) (c := k) HR.out HP.out h)
      have hpl : Hid (((preL A k).length : Int) ≤ 64) := Lib.hid (by have := List.length_filter_le (fun p : Int × (Int × Rows) => decide (p.1 < (k : Int))) A; have := H64.out; unfold preL; omega)
      obtain ⟨M, hM⟩ : ∃ M, (cli A k).1 = M := ⟨_, rfl⟩
      obtain ⟨L, hL⟩ : ∃ L, (cli A k).2.length = L := ⟨_, rfl⟩
      obtain ⟨N, hN⟩ : ∃ N, (preL A k).length = N := ⟨_, rfl⟩
      rw [hM] at hMk
      rw [hL] at c3
      rw [hN] at hpl ⊢
      have hNN := hpl.out
      have HM := Lib.hid hM; have HL := Lib.hid hL; have HN := Lib.hid hN
      clear c1 c2 c4 c5 hM hL hN
      by_cases h1 : 1 < M
      · go_wp2_with (go_at_call 40; refine hMk.out.mono ?_; rintro e w' ⟨rfl, rfl⟩)
        go_roundw
        case rel => exact ⟨k + 1, by omega, by go_num, by rw [show ((k + 1 : Nat) : Int) = (k : Int) + 1 by omega, hyes.out (.inl (by rw [HM.out]; exact h1))]; simp [HN.out], by trivial⟩
        case measure => simp [intOf]; omega
      · by_cases h2 : 0 < (L : Int)
        · go_wp2_with (go_at_call 40; refine hMk.out.mono ?_; rintro e w' ⟨rfl, rfl⟩)
          go_roundw
          case rel => exact ⟨k + 1, by omega, by go_num, by rw [show ((k + 1 : Nat) : Int) = (k : Int) + 1 by omega, hyes.out (.inr (by rw [HL.out]; omega))]; simp [HN.out], by trivial⟩
          case measure => simp [intOf]; omega
        · go_wp2_with (go_at_call 40; refine hMk.out.mono ?_; rintro e w' ⟨rfl, rfl⟩)
          go_roundw
          case rel => exact ⟨k + 1, by omega, by go_num, by rw [show ((k + 1 : Nat) : Int) = (k : Int) + 1 by omega, hno.out (by rw [HL.out, HM.out]; omega)]; rw [HN.out], by trivial⟩
          case measure => simp [intOf]; omega
    · obtain rfl : k = 64 := by omega
      rw [show ((64 : Nat) : Int) = 64 from rfl, preL_all HK.out.keys]
      have hq0 := rMNum wr B B _ (A.length : Int) HK0.out (okLen (by have := H64.out; omega)) HS0.out
      obtain ⟨S0, hS0⟩ : ∃ S0, mkAll ([], false) [numB (A.length : Int)] = S0 := ⟨_, rfl⟩
      have hS0' : mkQ ([], false) (numB (A.length : Int)) = S0 := hS0
      rw [hS0'] at hq0
      have HQ0 := Lib.hid hq0; have HSS := Lib.hid hS0
      clear hkz hq0 hS0 hS0'
      simp only [HB.out]
      go_wp2_with fail
      refine HQ0.out.mono ?_
      rintro e w1 ⟨⟨v1, rfl⟩, hk1, hf1⟩
      have HK1 := Lib.hid hk1
      have HH1 := Lib.hid (HH0.out.fr hf1 (fun b hb e => HTL.out b hb e))
      have HF1 := Lib.hid (HF0.out.trans' hf1 (fun b _ e => by omega))
      have HS1 : Hid (B ≤ w1.heap.size) := Lib.hid (Nat.le_trans HS0.out hf1.size)
      clear hk1 hf1
      go_wp2_with fail
      go_loopw [6] (fun c wx => ∃ k : Nat, k ≤ 64 ∧ c = .int .i64 k ∧ RK wx B B (mkAll S0 ((preL A k).flatMap cliC)) ∧ RT wx g TS A ∧ Fr (fun b => B ≤ b) w wx ∧ B ≤ wx.heap.size) (fun c _ => 64 - (intOf c).toNat)
      case atStart => exact ⟨0, Nat.zero_le _, rfl, by rw [show ((0 : Nat) : Int) = 0 from rfl, preL_zero HK.out.keys]; exact HK1.out, HH1.out, HF1.out, HS1.out⟩
      case round =>
        obtain ⟨k, hk, rfl, hKr, hHr, hFr, hSr⟩ := hrel
        have HKr := Lib.hid hKr; have HHr := Lib.hid hHr; have HFr := Lib.hid hFr; have HSr := Lib.hid hSr
        clear hKr hHr hFr hSr
        by_cases hlt : k < 64
        · obtain ⟨mk, a, cap, c1, c2, c3, c4, c5⟩ := HHr.out.at_ k hlt
          have hMk := Lib.hid (fun w' h => rMark w' g TS A k h hlt)
          have hyes := Lib.hid (fun h => preL_yes (A := A) (c := k) HR.out h)
          have hno := Lib.hid (fun h => preL_no (A := A) (c := k) HR.out HP.out h)
          obtain ⟨CL, hCL⟩ : ∃ CL, cli A k = CL := ⟨_, rfl⟩
          have hmem : (1 < CL.1 ∨ 0 < CL.2.length) → ((k : Int), CL) ∈ A := fun h => getS_mem (by rw [← hCL] at h ⊢; exact pres_yes h)
          rw [hCL] at hMk hyes hno c3
          obtain ⟨M, R⟩ := CL
          dsimp only at hMk hyes hno hmem c3
          obtain ⟨L, hL⟩ : ∃ L, R.length = L := ⟨_, rfl⟩
          rw [hL] at hyes hno hmem c3
          have HCL := Lib.hid hCL; have HL := Lib.hid hL; have HMEM := Lib.hid hmem
          obtain ⟨s1, hs1⟩ : ∃ s1, mkAll S0 ((preL A k).flatMap cliC) = s1 := ⟨_, rfl⟩
          rw [hs1] at HKr
          have HS1 := Lib.hid hs1
          clear c1 c2 c4 c5 hCL hL hmem hs1
          by_cases h3 : 1 < M ∨ 0 < L
          · have hin := HMEM.out h3
            have hse : Hid (mkAll S0 ((preL A ((k + 1 : Nat) : Int)).flatMap cliC) = mkAll s1 (cliC ((k : Int), (M, R)))) := Lib.hid (by
              rw [show ((k + 1 : Nat) : Int) = (k : Int) + 1 by omega, hyes.out h3, List.flatMap_append, mkAll_app, HS1.out]; simp)
            have hmk := HK.out.marks _ hin
            have hl8 := HK.out.lens _ hin
            have hnu := HK.out.nums _ hin
            have hrw := HK.out.rows _ hin
            dsimp only at hmk hl8 hnu hrw
            rw [HL.out] at hl8
            have hl8I : (L : Int) ≤ 128 := by omega
            have HNU := Lib.hid hnu; have HRW := Lib.hid hrw; have HMKB := Lib.hid hmk
            have hcond : ¬ M ≤ 1 ∨ (M ≤ 1 ∧ ((L : Int) == 0) = false) := by
              by_cases h : M ≤ 1
              · exact .inr ⟨h, by simp; omega⟩
              · exact .inl h
            clear hin hmk hnu hrw h3 hno hyes HMEM
            rcases hcond with hc | ⟨hc, hc2⟩
            all_goals
              go_wp2_with (go_at_call 40; refine (hMk.out _ HHr.out).mono ?_; rintro e w' ⟨rfl, rfl⟩)
              have hBr := HSr.out
              go_wp2_with fail
              refine (rMNum _ B B _ (k : Int) HKr.out (okCl (by unfold isCl; simp; omega)) hBr).mono ?_
              rintro e wa ⟨⟨vv, rfl⟩, hkx, hfx⟩
              have HKa := Lib.hid hkx; have HHa := Lib.hid (HHr.out.fr hfx (fun b hb e => HTL.out b hb e)); have HFa := Lib.hid (HFr.out.trans' hfx (fun b _ e => by omega)); have hBa : B ≤ wa.heap.size := Nat.le_trans hBr hfx.size
              clear hkx hfx
              go_wp2_with fail
              refine (hMk.out _ HHa.out).mono ?_
              rintro e w' ⟨rfl, rfl⟩
              go_wp2_with fail
              refine (rMNum _ B B _ M HKa.out (okMk HMKB.out) hBa).mono ?_
              rintro e wb ⟨⟨vv, rfl⟩, hkx, hfx⟩
              have HKb := Lib.hid hkx; have HHb := Lib.hid (HHa.out.fr hfx (fun b hb e => HTL.out b hb e)); have HFb := Lib.hid (HFa.out.trans' hfx (fun b _ e => by omega)); have hBb : B ≤ wb.heap.size := Nat.le_trans hBa hfx.size
              clear hkx hfx
              obtain ⟨mk2, a2, cap2, -, -, d3, -, -⟩ := HHb.out.at_ k hlt
              rw [HCL.out] at d3
              dsimp only at d3
              rw [HL.out] at d3
              go_wp2_with fail
              refine (rMNum _ B B _ (L : Int) HKb.out (okLen (by omega)) hBb).mono ?_
              rintro e wc ⟨⟨vv, rfl⟩, hkx, hfx⟩
              have HKc := Lib.hid hkx; have HHc := Lib.hid (HHb.out.fr hfx (fun b hb e => HTL.out b hb e)); have HFc := Lib.hid (HFb.out.trans' hfx (fun b _ e => by omega)); have hBc : B ≤ wc.heap.size := Nat.le_trans hBb hfx.size
              clear hkx hfx
              clear d3 c3
              obtain ⟨s2, hs2⟩ : ∃ s2, mkQ (mkQ (mkQ s1 (numB (k : Int))) (numB M)) (numB (L : Int)) = s2 := ⟨_, rfl⟩
              rw [hs2] at HKc
              have hse2 : Hid (mkAll s1 (cliC ((k : Int), (M, R))) = mkAll s2 (rowsC R)) := Lib.hid (by
                unfold cliC
                rw [mkAll_app]
                dsimp only
                rw [HL.out, ← hs2]; rfl)
              clear hs2 HKa HKb HHa HHb HFa HFb hBa hBb
              go_wp2_with fail
              go_loopw [7] (fun i wx => ∃ j : Nat, j ≤ L ∧ i = .int .i64 j ∧ RK wx B B (mkAll s2 (rowsC (R.take j))) ∧ RT wx g TS A ∧ Fr (fun b => B ≤ b) w wx ∧ B ≤ wx.heap.size) (fun i _ => L - (intOf i).toNat)
              case atStart => exact ⟨0, Nat.zero_le _, rfl, HKc.out, HHc.out, HFc.out, hBc⟩
              case round =>
                obtain ⟨j, hj, rfl, hKj, hHj, hFj, hBj⟩ := hrel
                have HKj := Lib.hid hKj; have HHj := Lib.hid hHj; have HFj := Lib.hid hFj
                clear hKj hHj hFj HKc HHc HFc
                obtain ⟨mk2, a2, cap2, -, -, d3, d4, -⟩ := HHj.out.at_ k hlt
                rw [HCL.out] at d3 d4
                dsimp only at d3 d4
                rw [HL.out] at d3 d4
                by_cases hjl : j < L
                · have hjI : (j : Int) < L := by omega
                  obtain ⟨q, hq⟩ : ∃ q, R[j]? = some q := ⟨R[j]'(by rw [HL.out]; exact hjl), List.getElem?_eq_getElem _⟩
                  obtain ⟨gp, rfl, hcap, hcells⟩ := row_cells d4 (by omega)
                  have hqm := List.mem_of_getElem? hq
                  have hnq := HNU.out q hqm
                  have hrq := HRW.out q hqm
                  have hse3 : Hid (mkAll s2 (rowsC (R.take (j + 1))) = mkAll (mkAll s2 (rowsC (R.take j))) (rowCs q.1 q.2)) := Lib.hid (by
                    rw [← mkAll_app, List.take_add_one, hq]; simp [rowsC])
                  obtain ⟨num, ⟨mx, dn, ⟨ac, an, acode, ak⟩⟩⟩ := q
                  have e0 := hcells j _ hq 0 _ rfl
                  have e1 := hcells j _ hq 1 _ rfl
                  have e2 := hcells j _ hq 2 _ rfl
                  have e3 := hcells j _ hq 3 _ rfl
                  have e4 := hcells j _ hq 4 _ rfl
                  have e5 := hcells j _ hq 5 _ rfl
                  have e6 := hcells j _ hq 6 _ rfl
                  rw [Nat.add_zero] at e0
                  dsimp only at e0 e1 e2 e3 e4 e5 e6 hnq hrq hse3
                  have HNQ := Lib.hid hnq; have HRQ := Lib.hid hrq
                  clear hcells hq hqm hnq hrq d4
                  go_wp2_with fail
                  have hK0x := HKj.out.fr ((Fr.refl (fun _ => False) wr).alloc (.cells #[.int .i64 num, .int .u64 mx, .bool dn, .int .i64 ac, .int .i64 an, .int .i64 acode, .int .i64 ak] 86)) (fun _ _ h => h)
                  have hH0x := HHj.out.fr ((Fr.refl (fun _ => False) wr).alloc (.cells #[.int .i64 num, .int .u64 mx, .bool dn, .int .i64 ac, .int .i64 an, .int .i64 acode, .int .i64 ak] 86)) (fun _ _ h => h)
                  have hF0x := HFj.out.trans' ((Fr.refl (fun _ => False) wr).alloc (.cells #[.int .i64 num, .int .u64 mx, .bool dn, .int .i64 ac, .int .i64 an, .int .i64 acode, .int .i64 ak] 86)) (fun b _ e => e.elim)
                  have hX0x := heap_new wr (.cells #[.int .i64 num, .int .u64 mx, .bool dn, .int .i64 ac, .int .i64 an, .int .i64 acode, .int .i64 ak] 86)
                  have hB5 : B ≤ (wr.alloc (.cells #[.int .i64 num, .int .u64 mx, .bool dn, .int .i64 ac, .int .i64 an, .int .i64 acode, .int .i64 ak] 86)).heap.size := by simp; omega
                  have hRb : Hid (¬ wr.heap.size = B) := Lib.hid (by have := HKj.out.lt; omega)
                  have HXB := hRb
                  obtain ⟨rb, hrb⟩ : ∃ rb, wr.heap.size = rb := ⟨_, rfl⟩
                  rw [hrb] at hX0x HXB ⊢
                  obtain ⟨WX, hWX⟩ : ∃ WX, wr.alloc (.cells #[.int .i64 num, .int .u64 mx, .bool dn, .int .i64 ac, .int .i64 an, .int .i64 acode, .int .i64 ak] 86) = WX := ⟨_, rfl⟩
                  rw [hWX] at hK0x hH0x hF0x hX0x hB5 ⊢
                  have HK5 := Lib.hid hK0x; have HH5 := Lib.hid hH0x; have HF5 := Lib.hid hF0x; have HX5 := Lib.hid hX0x
                  clear hK0x hH0x hF0x hX0x hrb hWX hRb e0 e1 e2 e3 e4 e5 e6 d3
                  have hm0 : 0 ≤ mx := HRQ.out.1.mix0
                  have hm1 := HRQ.out.1.mix1
                  dsimp only at hm0 hm1
                  have hmod := Lib.hid (mixMod (x := mx) hm0 hm1)
                  have O1 := Lib.hid (okNu HNQ.out)
                  have O2 : Hid (okI (mx / 4294967296)) := Lib.hid (okHi hm0 hm1)
                  have O3 : Hid (okI (mx % 4294967296)) := Lib.hid (okLo ⟨by omega, by omega⟩)
                  obtain ⟨hi, hhi⟩ : ∃ x, mx / 4294967296 = x := ⟨_, rfl⟩
                  obtain ⟨lo, hlo⟩ : ∃ x, mx % 4294967296 = x := ⟨_, rfl⟩
                  have hwh : IntKind.i64.wrap hi = hi := by rw [IntKind.wrap_i64]; omega
                  have hwl : IntKind.i64.wrap lo = lo := by rw [IntKind.wrap_i64]; omega
                  rw [hhi] at O2
                  rw [hlo] at O3 hmod
                  have O4 := Lib.hid HRQ.out.1.code
                  have O5 := Lib.hid HRQ.out.1.k
                  dsimp only at O4 O5
                  clear hm1
                  have x0 := cell_obj HX5.out 0 (.int .i64 num) rfl
                  have x1 := cell_obj HX5.out 1 (.int .u64 mx) rfl
                  have x2 := cell_obj HX5.out 2 (.bool dn) rfl
                  have x3 := cell_obj HX5.out 3 (.int .i64 ac) rfl
                  have x4 := cell_obj HX5.out 4 (.int .i64 an) rfl
                  have x5 := cell_obj HX5.out 5 (.int .i64 acode) rfl
                  have x6 := cell_obj HX5.out 6 (.int .i64 ak) rfl
                  go_wp2_with fail
                  refine (rMNum _ B B _ num HK5.out O1.out hB5).mono ?_
                  rintro e w6 ⟨⟨vv, rfl⟩, hkx, hfx⟩
                  clear x0 x1 x2 x3 x4 x5 x6
                  have HK6 := Lib.hid hkx; have HH6 := Lib.hid (HH5.out.fr hfx (fun b hb e => HTL.out b hb e)); have HF6 := Lib.hid (HF5.out.trans' hfx (fun b _ e => by omega)); have hB6 : B ≤ w6.heap.size := Nat.le_trans hB5 hfx.size; have HX6 := Lib.hid (hfx.at_ HX5.out HXB.out)
                  clear hkx hfx
                  have x0 := cell_obj HX6.out 0 (.int .i64 num) rfl
                  have x1 := cell_obj HX6.out 1 (.int .u64 mx) rfl
                  have x2 := cell_obj HX6.out 2 (.bool dn) rfl
                  have x3 := cell_obj HX6.out 3 (.int .i64 ac) rfl
                  have x4 := cell_obj HX6.out 4 (.int .i64 an) rfl
                  have x5 := cell_obj HX6.out 5 (.int .i64 acode) rfl
                  have x6 := cell_obj HX6.out 6 (.int .i64 ak) rfl
                  go_wp2_with fail
                  refine (rMNum _ B B _ hi HK6.out O2.out hB6).mono ?_
                  rintro e w7 ⟨⟨vv, rfl⟩, hkx, hfx⟩
                  clear x0 x1 x2 x3 x4 x5 x6
                  have HK7 := Lib.hid hkx; have HH7 := Lib.hid (HH6.out.fr hfx (fun b hb e => HTL.out b hb e)); have HF7 := Lib.hid (HF6.out.trans' hfx (fun b _ e => by omega)); have hB7 : B ≤ w7.heap.size := Nat.le_trans hB6 hfx.size; have HX7 := Lib.hid (hfx.at_ HX6.out HXB.out)
                  clear hkx hfx
                  have x0 := cell_obj HX7.out 0 (.int .i64 num) rfl
                  have x1 := cell_obj HX7.out 1 (.int .u64 mx) rfl
                  have x2 := cell_obj HX7.out 2 (.bool dn) rfl
                  have x3 := cell_obj HX7.out 3 (.int .i64 ac) rfl
                  have x4 := cell_obj HX7.out 4 (.int .i64 an) rfl
                  have x5 := cell_obj HX7.out 5 (.int .i64 acode) rfl
                  have x6 := cell_obj HX7.out 6 (.int .i64 ak) rfl
                  go_wp2_with fail
                  refine (rMNum _ B B _ lo HK7.out O3.out hB7).mono ?_
                  rintro e w8 ⟨⟨vv, rfl⟩, hkx, hfx⟩
                  clear x0 x1 x2 x3 x4 x5 x6
                  have HK8 := Lib.hid hkx; have HH8 := Lib.hid (HH7.out.fr hfx (fun b hb e => HTL.out b hb e)); have HF8 := Lib.hid (HF7.out.trans' hfx (fun b _ e => by omega)); have hB8 : B ≤ w8.heap.size := Nat.le_trans hB7 hfx.size; have HX8 := Lib.hid (hfx.at_ HX7.out HXB.out)
                  clear hkx hfx
                  have x0 := cell_obj HX8.out 0 (.int .i64 num) rfl
                  have x1 := cell_obj HX8.out 1 (.int .u64 mx) rfl
                  have x2 := cell_obj HX8.out 2 (.bool dn) rfl
                  have x3 := cell_obj HX8.out 3 (.int .i64 ac) rfl
                  have x4 := cell_obj HX8.out 4 (.int .i64 an) rfl
                  have x5 := cell_obj HX8.out 5 (.int .i64 acode) rfl
                  have x6 := cell_obj HX8.out 6 (.int .i64 ak) rfl
                  go_wp2_with fail
                  refine (rMFlag _ B B _ dn HK8.out hB8).mono ?_
                  rintro e w9 ⟨⟨vv, rfl⟩, hkx, hfx⟩
                  clear x0 x1 x2 x3 x4 x5 x6
                  have HK9 := Lib.hid hkx; have HH9 := Lib.hid (HH8.out.fr hfx (fun b hb e => HTL.out b hb e)); have HF9 := Lib.hid (HF8.out.trans' hfx (fun b _ e => by omega)); have hB9 : B ≤ w9.heap.size := Nat.le_trans hB8 hfx.size; have HX9 := Lib.hid (hfx.at_ HX8.out HXB.out)
                  clear hkx hfx
                  have x0 := cell_obj HX9.out 0 (.int .i64 num) rfl
                  have x1 := cell_obj HX9.out 1 (.int .u64 mx) rfl
                  have x2 := cell_obj HX9.out 2 (.bool dn) rfl
                  have x3 := cell_obj HX9.out 3 (.int .i64 ac) rfl
                  have x4 := cell_obj HX9.out 4 (.int .i64 an) rfl
                  have x5 := cell_obj HX9.out 5 (.int .i64 acode) rfl
                  have x6 := cell_obj HX9.out 6 (.int .i64 ak) rfl
                  cases dn with
                  | false =>
                    have hfin : Hid (mkAll s2 (rowsC (R.take (j + 1))) = mkQ (mkQ (mkQ (mkQ (mkAll s2 (rowsC (R.take j))) (numB num)) (numB hi)) (numB lo)) [if false then 1 else 0]) := Lib.hid (by
                      rw [hse3.out]; unfold rowCs; dsimp only; rw [hmod.out, hhi]; rfl)
                    go_wp2_with fail
                    go_roundw
                    case rel => exact ⟨j + 1, by omega, by go_num, by rw [hfin.out]; exact HK9.out, HH9.out, HF9.out, hB9⟩
                    case measure => simp [intOf]; omega
                  | true =>
                    have hfin : Hid (mkAll s2 (rowsC (R.take (j + 1))) = mkQ (mkQ (mkQ (mkQ (mkQ (mkQ (mkAll s2 (rowsC (R.take j))) (numB num)) (numB hi)) (numB lo)) [if true then 1 else 0]) (numB acode)) (numB ak)) := Lib.hid (by
                      rw [hse3.out]; unfold rowCs; dsimp only; rw [hmod.out, hhi]; rfl)
                    go_wp2_with fail
                    refine (rMNum _ B B _ acode HK9.out O4.out hB9).mono ?_
                    rintro e w10 ⟨⟨vv, rfl⟩, hkx, hfx⟩
                    clear x0 x1 x2 x3 x4 x5 x6
                    have HK10 := Lib.hid hkx; have HH10 := Lib.hid (HH9.out.fr hfx (fun b hb e => HTL.out b hb e)); have HF10 := Lib.hid (HF9.out.trans' hfx (fun b _ e => by omega)); have hB10 : B ≤ w10.heap.size := Nat.le_trans hB9 hfx.size; have HX10 := Lib.hid (hfx.at_ HX9.out HXB.out)
                    clear hkx hfx
                    have x0 := cell_obj HX10.out 0 (.int .i64 num) rfl
                    have x1 := cell_obj HX10.out 1 (.int .u64 mx) rfl
                    have x2 := cell_obj HX10.out 2 (.bool true) rfl
                    have x3 := cell_obj HX10.out 3 (.int .i64 ac) rfl
                    have x4 := cell_obj HX10.out 4 (.int .i64 an) rfl
                    have x5 := cell_obj HX10.out 5 (.int .i64 acode) rfl
                    have x6 := cell_obj HX10.out 6 (.int .i64 ak) rfl
                    go_wp2_with fail
                    refine (rMNum _ B B _ ak HK10.out O5.out hB10).mono ?_
                    rintro e w11 ⟨⟨vv, rfl⟩, hkx, hfx⟩
                    clear x0 x1 x2 x3 x4 x5 x6
                    have HK11 := Lib.hid hkx; have HH11 := Lib.hid (HH10.out.fr hfx (fun b hb e => HTL.out b hb e)); have HF11 := Lib.hid (HF10.out.trans' hfx (fun b _ e => by omega)); have hB11 : B ≤ w11.heap.size := Nat.le_trans hB10 hfx.size; have HX11 := Lib.hid (hfx.at_ HX10.out HXB.out)
                    clear hkx hfx
                    have x0 := cell_obj HX11.out 0 (.int .i64 num) rfl
                    have x1 := cell_obj HX11.out 1 (.int .u64 mx) rfl
                    have x2 := cell_obj HX11.out 2 (.bool true) rfl
                    have x3 := cell_obj HX11.out 3 (.int .i64 ac) rfl
                    have x4 := cell_obj HX11.out 4 (.int .i64 an) rfl
                    have x5 := cell_obj HX11.out 5 (.int .i64 acode) rfl
                    have x6 := cell_obj HX11.out 6 (.int .i64 ak) rfl
                    go_wp2_with fail
                    go_roundw
                    case rel => exact ⟨j + 1, by omega, by go_num, by rw [hfin.out]; exact HK11.out, HH11.out, HF11.out, hB11⟩
                    case measure => simp [intOf]; omega
                · obtain rfl : j = L := by omega
                  go_wp2_with fail
                  go_roundw
                  case rel => exact ⟨k + 1, by omega, by go_num, by rw [hse.out, hse2.out]; have := HKj.out; rwa [List.take_of_length_le (by rw [HL.out]; omega)] at this, HHj.out, HFj.out, hBj⟩
                  case measure => simp [intOf]; omega
          · have hse : Hid (preL A ((k + 1 : Nat) : Int) = preL A k) := Lib.hid (by rw [show ((k + 1 : Nat) : Int) = (k : Int) + 1 by omega]; exact hno.out h3)
            have hM1 : M ≤ 1 := by omega
            obtain rfl : L = 0 := by omega
            clear h3 hyes hno HMEM
            go_wp2_with (go_at_call 40; refine (hMk.out _ HHr.out).mono ?_; rintro e w' ⟨rfl, rfl⟩)
            go_roundw
            case rel => exact ⟨k + 1, by omega, by go_num, by rw [hse.out, HS1.out]; exact HKr.out, HHr.out, HFr.out, HSr.out⟩
            case measure => simp [intOf]; omega
        · obtain rfl : k = 64 := by omega
          rw [show ((64 : Nat) : Int) = 64 from rfl, preL_all HK.out.keys, ← HSS.out, ← mkAll_app] at HKr
          have hfin : mkAll ([], false) ([numB (A.length : Int)] ++ A.flatMap cliC) = sF := HSF.out
          rw [hfin] at HKr
          clear hfin
          obtain ⟨v, r1, r2, r3⟩ := HKr.out.ex
          have q0 := cell_obj r1 0 v rfl
          have RR := Lib.hid r2
          have hFin := Lib.hid (HFr.out.toBelow (B := w.heap.size) (fun b e => by rw [HB.out]; exact e) (Nat.le_refl _))
          clear r1 r2 r3
          go_wp2_with fail
          go_ret
          rw [← HB.out] at RR
          exact ⟨hFin.out, v, rfl, RR.out⟩
end Go.Proofs.Ytakjiicnbocjeaa
namespace Go.Proofs.Ytakjiicnbocjeaa
open Go.RowKit Go.Maps
theorem tabC_byt {A : Tbl} (h : Good A) : Byt (tabC A).flatten := by
  intro x hx
  obtain ⟨c, hc, hx⟩ := List.mem_flatten.1 hx
  exact tabC_mem h.tok h.len c hc x hx
set_option maxRecDepth 100000 in
theorem xPack (w : World) (g : Nat) (TS : Nat → Prop) (A : Tbl) (h : TA w g TS A) (hG : Good A) :
    Calls Try.prog 17 #[.pointer (some ⟨g, 0, none⟩)] w fun e w' => Below w.heap.size w w' ∧ ∃ v, e = .returned v ∧ Bn w.heap.size w' v (tabC A).flatten := by
  obtain ⟨⟨m, l, hT, rfl, hm, hr⟩, -⟩ := h
  have h64 : l.length ≤ 64 := by have := hG.len; simpa [absl] using this
  refine (iPack w g m l hT h64 hG.tok).mono ?_
  rintro e w' ⟨hb, v, rfl, ho⟩
  rw [tab_flat hG] at ho
  exact ⟨hb, v, rfl, Bs.own ho (tabC_byt hG)⟩
set_option maxRecDepth 100000 in
theorem yPack (w : World) (g : Nat) (TS : Nat → Prop) (A : Tbl) (h : RT w g TS A) (hG : Good A) :
    Calls Try.prog 46 #[.pointer (some ⟨g, 0, none⟩)] w fun e w' => Below w.heap.size w w' ∧ ∃ v, e = .returned v ∧ Bn w.heap.size w' v (tabC A).flatten := by
  refine (rPack w g TS A h hG.rise (fun p hp => (hG.all p hp).pres) hG.tok hG.len).mono ?_
  rintro e w' ⟨hb, v, rfl, ho⟩
  rw [tab_flat hG] at ho
  exact ⟨hb, v, rfl, Bs.own ho (tabC_byt hG)⟩
/-- What is open of a client. -/
def wantR (c : Int) (R : Rows) : List (Int × Int) := (R.filter fun q => !q.2.done).map fun q => (c, q.1)
def wantP (A : Tbl) : List (Int × Int) := A.flatMap fun p => wantR p.1 p.2.2
theorem flatMap_eq {α β : Type} {f g : α → List β} : ∀ {l : List α}, (∀ p ∈ l, f p = g p) → l.flatMap f = l.flatMap g
  | [], _ => rfl
  | a :: r, h => by rw [List.flatMap_cons, List.flatMap_cons, h a (by simp), flatMap_eq (l := r) (fun p hp => h p (by simp [hp]))]
theorem filter_flat {α β : Type} {f : α → List β} {q : β → Bool} : ∀ {l : List α}, (l.flatMap f).filter q = l.flatMap fun p => (f p).filter q
  | [] => rfl
  | a :: r => by rw [List.flatMap_cons, List.filter_append, filter_flat, List.flatMap_cons]
theorem opens_want {l : List (Int × Cl)} (hnd : KeysND l) (hnr : ∀ p ∈ l, KeysND p.2.rows) : opens l = wantP (absl l) := by
  unfold opens nums wantP absl
  rw [filter_flat, List.flatMap_map]
  refine flatMap_eq fun p hp => ?_
  unfold wantR
  rw [List.filter_map]
  congr 1
  refine List.filter_congr fun q hq => ?_
  show undoneAt l (p.1, q.1) = _
  unfold undoneAt
  rw [getS_of (v := p.2) hnd hp]
  dsimp only
  rw [getS_of (v := q.2) (hnr p hp) hq]
theorem wantP_next {A : Tbl} (h : Rise A) (hp : TPres A) (c : Int) : wantP (preL A (c + 1)) = wantP (preL A c) ++ wantR c (cli A c).2 := by
  by_cases hc : 1 < (cli A c).1 ∨ 0 < (cli A c).2.length
  · rw [preL_yes h hc]; simp [wantP]
  · rw [preL_no h hp hc]
    have : (cli A c).2 = [] := List.eq_nil_of_length_eq_zero (by omega)
    rw [this]; simp [wantR]
theorem wantR_yes {c : Int} {R : Rows} {j : Nat} {q : Int × RowV} (h : R[j]? = some q) (hd : q.2.done = false) : wantR c (R.take (j + 1)) = wantR c (R.take j) ++ [(c, q.1)] := by
  unfold wantR; rw [List.take_add_one, h, List.filter_append, List.map_append]; simp [hd]
theorem wantR_no {c : Int} {R : Rows} {j : Nat} {q : Int × RowV} (h : R[j]? = some q) (hd : q.2.done = true) : wantR c (R.take (j + 1)) = wantR c (R.take j) := by
  unfold wantR; rw [List.take_add_one, h, List.filter_append]; simp [hd]
theorem wantR_len (c : Int) (R : Rows) : (wantR c R).length ≤ R.length := by unfold wantR; rw [List.length_map]; exact List.length_filter_le _ _
theorem wantP_len : ∀ {A : Tbl}, (∀ p ∈ A, p.2.2.length ≤ 128) → (wantP A).length ≤ 128 * A.length
  | [], _ => by simp [wantP]
  | p :: r, h => by
    have h1 := wantR_len p.1 p.2.2
    have h2 := h p (by simp)
    have h3 := wantP_len (A := r) (fun q hq => h q (by simp [hq]))
    have e : wantP (p :: r) = wantR p.1 p.2.2 ++ wantP r := by simp [wantP]
    rw [e, List.length_append, List.length_cons]; omega
def pairC (x : Int × Int) : List Value := [.int .i64 x.1, .int .i64 x.2]
def pairCs (L : List (Int × Int)) : List Value := L.flatMap pairC
theorem pairCs_app (L M : List (Int × Int)) : pairCs (L ++ M) = pairCs L ++ pairCs M := by simp [pairCs]
theorem pairCs_one {u : Value} {L : List (Int × Int)} (h : u ∈ pairCs L) : u.oneCell' = true := by
  simp only [pairCs, List.mem_flatMap] at h
  obtain ⟨q, _, hq⟩ := h
  simp only [pairC, List.mem_cons, List.not_mem_nil, or_false] at hq
  rcases hq with rfl | rfl <;> rfl
theorem pairCs_len (L : List (Int × Int)) : (pairCs L).length = L.length * 2 := by
  induction L with
  | nil => rfl
  | cons q r ih => simp only [pairCs, List.flatMap_cons, List.length_append, List.length_cons] at *; rw [ih]; simp [pairC]; omega
theorem pairCs_at {L : List (Int × Int)} {k : Nat} {q : Int × Int} (h : L[k]? = some q) (j : Nat) (u : Value) (hj : (pairC q)[j]? = some u) : (pairCs L)[k * 2 + j]? = some u := by
  have hk : k < L.length := (List.getElem?_eq_some_iff.1 h).1
  have e : L = L.take k ++ q :: L.drop (k + 1) := by
    rw [← (List.getElem?_eq_some_iff.1 h).2, ← List.drop_eq_getElem_cons hk, List.take_append_drop]
  rw [e, pairCs_app]
  have hl : (pairCs (L.take k)).length = k * 2 := by rw [pairCs_len, List.length_take]; congr 1; omega
  rw [List.getElem?_append_right (by omega), hl, show k * 2 + j - k * 2 = j by omega]
  have : pairCs (q :: L.drop (k + 1)) = pairC q ++ pairCs (L.drop (k + 1)) := by simp [pairCs]
  rw [this, List.getElem?_append_left (List.getElem?_eq_some_iff.1 hj).1]
  exact hj
theorem pair_cells {w : World} {base len k : Nat} {a : Option Addr} {L : List (Int × Int)} (h : w.ownsRow base 36 2 (.slice a len k) len (pairCs L)) (hp : 0 < len) :
    ∃ gp, a = some ⟨gp, 0, none⟩ ∧ len ≤ k ∧ ∀ (j : Nat) (q : Int × Int), L[j]? = some q → ∀ (f : Nat) (u : Value), (pairC q)[f]? = some u → w.cell? ⟨gp, j * 2 + f, none⟩ = some u := by
  rcases h.2 with ⟨e, e0⟩ | ⟨gp, c, cur, e, _, _, hle, _⟩
  · omega
  · injection e with e1 _ e3
    subst e1; subst e3
    refine ⟨gp, rfl, hle, fun j q hq f u hu => ?_⟩
    obtain ⟨ad, e, hc⟩ := (Rd.own h).at_ hp (pairCs_at hq f u hu)
    cases e
    have : (⟨gp, 0, none⟩ : Addr).add (j * 2 + f) = ⟨gp, j * 2 + f, none⟩ := by unfold Addr.add; split <;> simp_all
    rw [this] at hc; exact hc
end Go.Proofs.Ytakjiicnbocjeaa
namespace Go.Proofs.Ytakjiicnbocjeaa
open Go.RowKit Go.Maps
attribute [local go_sem] Oper.semAt_some
theorem infoPair : (Try.prog.info? 36).map (fun i => (i.zero, i.size, i.bytes)) = some (some (.agg #[.int .i64 0, .int .i64 0]), 2, 16) := by kernel_rfl
theorem intEqS (w : World) (d : Nat) (x : Int) : (Op.equalIn (d + 1) 3 (.int .i64 x) (.int .i64 x)).run Try.prog w = .ok true w := by
  simp [Op.equalIn, run_underlying Try.underlying3]
theorem pairEqD (w : World) (d : Nat) (x y : Int) : (Op.equalIn (d + 2) 36 (.agg #[.int .i64 x, .int .i64 y]) (.agg #[.int .i64 x, .int .i64 y])).run Try.prog w = .ok true w := by
  have h1 := intEqS w d x
  have h2 := intEqS w d y
  have hp : (part 3 #[.int .i64 x, .int .i64 y] 0).run Try.prog w = .ok (.int .i64 x) w := by kernel_rfl
  have hq : (part 3 #[.int .i64 x, .int .i64 y] 1).run Try.prog w = .ok (.int .i64 y) w := by kernel_rfl
  have hs : (sizeOf 3).run Try.prog w = .ok 1 w := by kernel_rfl
  unfold Op.equalIn
  simp only [Sem.run_bind, run_underlying Try.underlying36, Result.andThen_ok, hs]
  simp [Std.Legacy.Range.forIn_eq_forIn_range', Std.Legacy.Range.size, List.range', hp, hq, h1, h2]
structure LkI (w0 w : World) (n0 wb g : Nat) (L : List (Int × Int)) : Prop where
  res : w.heap[n0]? = some (.cells #[.bool false] 4)
  bt : w.heap[n0 + 1]? = some (.cells #[.pointer (some ⟨g, 0, none⟩)] 23)
  box : ∃ a c, w.heap[wb]? = some (.cells #[.slice a L.length c] 93) ∧ w.ownsRow n0 36 2 (.slice a L.length c) L.length (pairCs L)
  fr : Fr (fun b => n0 ≤ b) w0 w
  wbe : wb = n0 + 2
section
variable {w0 w w' w1 : World} {n0 wb g : Nat} {L : List (Int × Int)}
theorem own_other {u : Value} {n base j : Nat} {xs : List Value} {cs : Array Value} {t : TypeId} (h : w.ownsRow base 36 2 u n xs) (ho : w.heap[j]? = some (.cells cs t)) (ht : t ≠ 36) : ∀ b, u.ownBlock = some b → b ≠ j := by
  intro b hb e
  subst e
  rcases h.2 with ⟨rfl, _⟩ | ⟨g', c', cur, e1, _, h7, _⟩
  · cases hb
  · subst e1
    cases hb
    rw [ho] at h7
    injection h7 with h7
    injection h7 with _ h8
    exact ht h8
theorem LkI.keep (h : LkI w0 w n0 wb g L) (hf : Fr (fun _ => False) w w') : LkI w0 w' n0 wb g L := by
  obtain ⟨h1, h2, ⟨a, c, h3, h4⟩, h5, h6⟩ := h
  exact ⟨hf.at_ h1 (fun h => h), hf.at_ h2 (fun h => h), ⟨a, c, hf.at_ h3 (fun h => h), hf.row h4 (fun _ _ h => h)⟩, h5.trans' hf (fun _ _ e => e.elim), h6⟩
theorem LkI.fa {B : Nat} (h : LkI w0 w n0 wb g L) (hf : Fa B w w') (hB : w0.heap.size ≤ B) : LkI w0 w' n0 wb g L := by
  obtain ⟨h1, h2, ⟨a, c, h3, h4⟩, h5, h6⟩ := h
  refine ⟨Fa.cells hf h1, Fa.cells hf h2, ⟨a, c, Fa.cells hf h3, Fa.row hf h4⟩, h5.trans' hf (fun b hb e => ?_), h6⟩
  have := e.1
  omega
theorem LkI.n (h : LkI w0 w n0 wb g L) {nb : Nat} {v : Value} (hn : w.heap[nb]? = some (.cells #[v] 3)) (u : Value) (h0 : n0 ≤ nb) : LkI w0 (w.setCell ⟨nb, 0, none⟩ u) n0 wb g L := by
  obtain ⟨h1, h2, ⟨a, c, h3, h4⟩, h5, h6⟩ := h
  have hF : Fr (fun b => b = nb) w (w.setCell ⟨nb, 0, none⟩ u) := (Fr.refl (fun b => b = nb) w).setCell (p := ⟨nb, 0, none⟩) (fun _ => rfl) _
  have hne : ∀ {j : Nat} {cs : Array Value} {t : TypeId}, w.heap[j]? = some (.cells cs t) → t ≠ 3 → j ≠ nb := by
    intro j cs t hj ht e
    subst e
    rw [hj] at hn
    injection hn with hn
    injection hn with _ h8
    exact ht h8
  exact ⟨hF.at_ h1 (hne h1 (by decide)), hF.at_ h2 (hne h2 (by decide)), ⟨a, c, hF.at_ h3 (hne h3 (by decide)), hF.row h4 (fun b hb e => own_other h4 hn (by decide) b hb e)⟩, h5.trans' hF (fun b _ e => by omega), h6⟩
def LkJ (w0 : World) (n0 wb g nb : Nat) (L : List (Int × Int)) (k : Nat) (_ : Nat → Prop) (W : World) : Prop := LkI w0 W n0 wb g L ∧ W.heap[nb]? = some (.cells #[.int .i64 (k : Int)] 3)
def LkX (_ : Code) (_ : Nat) (_ : Nat → Prop) (_ : World) : Prop := False
theorem LkI.push (h : LkI w0 w n0 wb g L) {a : Option Addr} {c : Nat} (hb : w.heap[wb]? = some (.cells #[.slice a L.length c] 93)) (ho : w.ownsRow n0 36 2 (.slice a L.length c) L.length (pairCs L))
    (hf : Fr (fun b => (Value.slice a L.length c).ownBlock = some b) w w1) {a1 : Option Addr} {c1 : Nat} {L' : List (Int × Int)} (ho1 : w1.ownsRow n0 36 2 (.slice a1 L'.length c1) L'.length (pairCs L')) :
    LkI w0 (w1.setCell ⟨wb, 0, none⟩ (.slice a1 L'.length c1)) n0 wb g L' := by
  have hwb := h.wbe
  have e0 := own_other ho h.res (by decide)
  have e1 := own_other ho h.bt (by decide)
  have e2 := own_other ho hb (by decide)
  have r0 := hf.at_ h.res (fun e => e0 _ e rfl)
  have r1 := hf.at_ h.bt (fun e => e1 _ e rfl)
  have r2 := hf.at_ hb (fun e => e2 _ e rfl)
  have hF : Fr (fun b => b = wb) w1 (w1.setCell ⟨wb, 0, none⟩ (.slice a1 L'.length c1)) := (Fr.refl (fun b => b = wb) w1).setCell (p := ⟨wb, 0, none⟩) (fun _ => rfl) _
  refine ⟨hF.at_ r0 (by omega), hF.at_ r1 (by omega), ⟨a1, c1, obj_set r2 0 _, hF.row ho1 (fun b hb e => own_other ho1 r2 (by decide) b hb e)⟩, (h.fr.trans' hf (fun b _ e => (ho.lt b e).1)).trans' hF (fun b _ e => by omega), hwb⟩
end
set_option maxRecDepth 100000 in
set_option maxHeartbeats 8000000 in
theorem wLooks (w : World) (g gx : Nat) (TS TX : Nat → Prop) (A : Tbl) (h : TA w g TS A) (hx : RT w gx TX A) (hG : Good A) :
    Calls Try.prog 22 #[.pointer (some ⟨g, 0, none⟩), .pointer (some ⟨gx, 0, none⟩)] w fun e w' => e = .returned (.bool true) ∧ Below w.heap.size w w' := by
  obtain ⟨n0, hn0⟩ : ∃ n0, w.heap.size = n0 := ⟨_, rfl⟩
  have HS := Lib.hid hn0
  have HTA : Hid (∀ w', Fr (fun b => n0 ≤ b) w w' → TA w' g TS A) := Lib.hid (fun w' hf => h.fr hf (fun b hb e => by have := h.lt b hb; omega))
  have HTX : Hid (∀ w', Fr (fun b => n0 ≤ b) w w' → RT w' gx TX A) := Lib.hid (fun w' hf => hx.fr hf (fun b hb e => by have := hx.lt b hb; omega))
  have HG := Lib.hid hG
  have hnil := fun (w : World) (f : Fn) (x y : Array Value) => run_eql_func_nil (P := Try.prog) w 44 _ _ _ f x y Try.underlying44
  clear h hx hG
  refine (callsIn_wide (n := 0)).1 ?_
  refine callsIn_of_wp_marks Try.func22 rfl trivial ?_ rfl
  simp only [Try.ntmps22, List.size_toArray, List.length_cons, List.length_nil, Nat.reduceAdd, Nat.reduceSub, Array.replicate_succ, Array.replicate_zero, List.push_toArray, List.append_toArray, List.nil_append, List.cons_append]
  refine wpIn_wide.2 ?_
  go_wp2_with (go_at_call 16; refine (iOpen _ _).mono ?_; rintro e w1 ⟨rfl, rfl⟩)
  have hL0 : LkI w (((w.alloc (.cells #[.bool false] 4)).alloc (.cells #[.pointer (some ⟨g, 0, none⟩)] 23)).alloc (.cells #[.slice none 0 0] 93)) n0 (n0 + 1 + 1) g [] := by
    refine ⟨heap_keep (heap_keep (heap_at hn0.symm _) _) _, heap_keep (heap_at (by simp; omega) _) _, ⟨none, 0, heap_at (by simp; omega) _, World.ownsRow_nil _ _ _ _⟩, (((Fr.refl _ w).alloc _).alloc _).alloc _, by omega⟩
  obtain ⟨W0, hW0⟩ : ∃ W0, (((w.alloc (.cells #[.bool false] 4)).alloc (.cells #[.pointer (some ⟨g, 0, none⟩)] 23)).alloc (.cells #[.slice none 0 0] 93)) = W0 := ⟨_, rfl⟩
  rw [hW0] at hL0 ⊢
  obtain ⟨wb, hwb⟩ : ∃ wb, n0 + 1 + 1 = wb := ⟨_, rfl⟩
  rw [hwb] at hL0 ⊢
  have HL0 := Lib.hid hL0
  clear hW0 hL0 hwb
  clear hnil
  have hkz : Hid (wantP (preL A 0) = []) := Lib.hid (by rw [preL_zero HG.out.tok.keys]; rfl)
  go_loopw [7] (fun c wr => ∃ k : Nat, k ≤ 64 ∧ c = .int .i64 k ∧ LkI w wr n0 wb g (wantP (preL A k))) (fun c _ => 64 - (intOf c).toNat)
  case atStart => exact ⟨0, Nat.zero_le _, rfl, by rw [show ((0 : Nat) : Int) = 0 from rfl, hkz.out]; exact HL0.out⟩
  case round =>
    obtain ⟨k, hk, rfl, hI⟩ := hrel
    have HI := Lib.hid hI
    clear hI hkz HL0
    by_cases hlt : k < 64
    · have hX := HTX.out wr HI.out.fr
      obtain ⟨mk, a, cap, -, -, c3, c4, -⟩ := hX.at_ k hlt
      have hokk : okI (k : Int) := by unfold okI; omega
      have hMA : Hid (∀ W, Fr (fun b => n0 ≤ b) w W → Calls Try.prog 15 #[.pointer (some ⟨g, 0, none⟩), .int .i64 k] W fun e w' => e = .returned (.int .i64 (cli A k).1) ∧ Fr (fun _ => False) W w') := Lib.hid (fun W hf => by
        have := xMark W g TS A k (HTA.out W hf) hokk
        unfold markM at this
        rw [if_pos (by unfold isCl; simp; omega)] at this
        exact this)
      have hLA : Hid (∀ W, Fr (fun b => n0 ≤ b) w W → Calls Try.prog 14 #[.pointer (some ⟨g, 0, none⟩), .int .i64 k] W fun e w' => e = .returned (.int .i64 ((cli A k).2.length : Int)) ∧ W = w') := Lib.hid (fun W hf => by
        have := xLen W g TS A k (HTA.out W hf) hokk
        rw [lenM_cli] at this
        exact this)
      have hMX : Hid (∀ W, Fr (fun b => n0 ≤ b) w W → Calls Try.prog 40 #[.pointer (some ⟨gx, 0, none⟩), .int .i64 k] W fun e w' => e = .returned (.int .i64 (cli A k).1) ∧ W = w') := Lib.hid (fun W hf => rMark W gx TX A k (HTX.out W hf) hlt)
      have hnx := Lib.hid (wantP_next HG.out.rise (fun p hp => (HG.out.all p hp).pres) k)
      obtain ⟨CL, hCL⟩ : ∃ CL, cli A k = CL := ⟨_, rfl⟩
      rw [hCL] at hMA hLA hMX hnx c3 c4
      have hlen8 : CL.2.length ≤ 128 := by rw [← hCL]; exact cli_len HG.out.tok.lens k
      obtain ⟨M, R⟩ := CL
      dsimp only at hMA hLA hMX hnx c3 c4 hlen8
      obtain ⟨N, hN⟩ : ∃ N, R.length = N := ⟨_, rfl⟩
      rw [hN] at hLA c3 c4 hlen8
      have HC4 := Lib.hid c4
      have HN := Lib.hid hN; have HCL := Lib.hid hCL
      have hlen8I : (N : Int) ≤ 128 := by omega
      have HD := Lib.hid ((Fr.refl (fun _ => False) wr).drew)
      have c3' : wr.drew.cell? ⟨gx, 64 + k, none⟩ = some (.slice a N cap) := c3
      clear hX c4 hN hCL hokk
      go_wp2_with fail
      go_region_held3 (fun w' => w'.cell? ⟨gx, 64 + k, none⟩ = some (.slice a N cap)) (first | exact c3' | exact c3)
        (first
          | (go_at_call 15; refine (hMA.out _ (HI.out.fr.trans' HD.out (fun _ _ e => e.elim))).mono ?_; rintro e w5 ⟨rfl, hf5⟩; have c3' := hf5.cell c3' (fun h => h); have HD := Lib.hid (HD.out.trans hf5); clear hf5)
          | (go_at_call 40; refine (hMX.out _ (HI.out.fr.trans' HD.out (fun _ _ e => e.elim))).mono ?_; rintro e w6 ⟨rfl, rfl⟩)
          | (go_at_call 14; refine (hLA.out _ (HI.out.fr.trans' HD.out (fun _ _ e => e.elim))).mono ?_; rintro e w7 ⟨rfl, rfl⟩))
      all_goals
        have hI5 := HI.out.keep HD.out
        have hO5 := HD.out.row HC4.out (fun _ _ h => h)
        have HI5 := Lib.hid hI5; have HO5 := Lib.hid hO5
        clear hI5 hO5 HI HC4 c3 c3' HD
        go_wp2_with fail
        go_loopw [8] (fun i wr => ∃ j : Nat, j ≤ N ∧ i = .int .i64 j ∧ LkI w wr n0 wb g (wantP (preL A k) ++ wantR k (R.take j))) (fun i _ => N - (intOf i).toNat)
        case atStart => exact ⟨0, Nat.zero_le _, rfl, by simpa [wantR] using HI5.out⟩
        case round =>
          obtain ⟨j, hj, rfl, hIj⟩ := hrel
          have HIj := Lib.hid hIj
          clear hIj HI5 HO5
          have hX := HTX.out wr HIj.out.fr
          obtain ⟨mk, a, cap, -, -, c3, c4, -⟩ := hX.at_ k hlt
          rw [HCL.out] at c3 c4
          dsimp only at c3 c4
          rw [HN.out] at c3 c4
          clear hX
          by_cases hjl : j < N
          · have hjI : (j : Int) < N := by omega
            obtain ⟨q, hq⟩ : ∃ q, R[j]? = some q := ⟨R[j]'(by rw [HN.out]; exact hjl), List.getElem?_eq_getElem _⟩
            obtain ⟨gp, rfl, hcap, hcells⟩ := row_cells c4 (by omega)
            have d0 := hcells j _ hq 0 _ rfl
            have d2 := hcells j _ hq 2 _ rfl
            rw [Nat.add_zero] at d0
            have hyes := Lib.hid (fun hd => wantR_yes (c := (k : Int)) hq hd)
            have hno := Lib.hid (fun hd => wantR_no (c := (k : Int)) hq hd)
            obtain ⟨num, ⟨mx, dn, an⟩⟩ := q
            dsimp only at d0 d2 hyes hno
            clear hcells hq c4
            cases dn with
            | true =>
              go_wp2_with fail
              go_roundw
              case rel => exact ⟨j + 1, by omega, by go_num, by rw [hno.out rfl]; exact HIj.out⟩
              case measure => simp [intOf]; omega
            | false =>
              obtain ⟨L, hL⟩ : ∃ L, wantP (preL A k) ++ wantR k (R.take j) = L := ⟨_, rfl⟩
              have hL' : Hid (wantP (preL A k) ++ wantR k (R.take (j + 1)) = L ++ [((k : Int), num)]) := Lib.hid (by rw [hyes.out rfl, ← List.append_assoc, hL])
              have hLl : L.length ≤ 16384 := by
                have h1 := wantP_len (A := preL A k) (fun p hp => HG.out.tok.lens p (List.mem_filter.1 hp).1)
                have h2 := List.length_filter_le (fun p : Int × (Int × Rows) => decide (p.1 < (k : Int))) A
                have h3 := HG.out.len
                have h4 := wantR_len (k : Int) (R.take j)
                rw [List.length_take, HN.out] at h4
                have h5 : (preL A k).length ≤ 64 := Nat.le_trans h2 h3
                rw [← hL, List.length_append]
                have h6 : (preL A k).length ≤ k := by
                  have hr : (preL A k).Pairwise (fun p q => p.1 < q.1) := rise_filter _ HG.out.rise
                  have h7 : ((preL A k).map (·.1)).Pairwise (fun x y : Int => x < y) := by rw [List.pairwise_map]; exact hr
                  have := rise_len (lo := 0) (hi := (k : Int)) h7 (fun x hx => by
                    obtain ⟨p, hp, rfl⟩ := List.mem_map.1 hx
                    obtain ⟨hp1, hp2⟩ := List.mem_filter.1 hp
                    have := (HG.out.all p hp1).key
                    simp at hp2; omega) (by omega)
                  simp at this; omega
                omega
              rw [hL] at HIj
              obtain ⟨ba, bc, q1, q2⟩ := HIj.out.box
              have HQ1 := Lib.hid q1; have HQ2 := Lib.hid q2
              have hn2 := HIj.out.wbe
              obtain ⟨ln, hln⟩ : ∃ ln, L.length = ln := ⟨_, rfl⟩
              have HLN := Lib.hid hln
              rw [hln] at hLl q1 q2
              have e2 := own_other q2 q1 (by decide)
              have e3 := cell_obj q1 0 (.slice ba ln bc) rfl
              have e3f := obj_frozen q1 0
              have HE2 := Lib.hid e2; have HOW := Lib.hid q2; have HBX := Lib.hid q1
              have HOF : Hid (∀ w', Fr (fun _ => False) wr w' → w'.ownsRow n0 36 2 (.slice ba ln bc) ln (pairCs L)) := Lib.hid (fun w' hf => hf.row HOW.out (fun _ _ h => h))
              have hone : Hid (∀ u ∈ ([.int .i64 k, .int .i64 num] : List Value), u.oneCell' = true) := Lib.hid (by intro u hu; simp only [List.mem_cons, List.not_mem_nil, or_false] at hu; rcases hu with rfl | rfl <;> rfl)
              have hs0 : n0 ≤ wr.heap.size := by have := (Array.getElem?_eq_some_iff.1 q1).1; omega
              obtain ⟨iP, hiP, hp0, hp1, hp2⟩ := info_parts infoPair
              have al3 : (wr.alloc (.cells #[.int .i64 k, .int .i64 num] 36)).cell? ⟨wb, 0, none⟩ = some (.slice ba ln bc) := ((Fr.refl (fun _ => False) wr).alloc _).cell e3 (fun h => h)
              have al3d : (wr.alloc (.cells #[.int .i64 k, .int .i64 num] 36)).drew.cell? ⟨wb, 0, none⟩ = some (.slice ba ln bc) := al3
              have e3d : wr.drew.cell? ⟨wb, 0, none⟩ = some (.slice ba ln bc) := e3
              have c3d : wr.drew.cell? ⟨gx, 64 + k, none⟩ = some (.slice (some ⟨gp, 0, none⟩) N cap) := c3
              have d0d : wr.drew.cell? ⟨gp, j * 7, none⟩ = some (.int .i64 num) := d0
              have hkI : (k : Int) < 64 := by omega
              have hk0 : (0 : Int) ≤ k := by omega
              clear q1 q2 e2 hL hln hyes hno HN hn2
              go_wp2_with fail
              go_region_held3 (fun _ => True) (trivial)
                ((refine step_append_src rfl (.tmp 62) (.tmp 75) 93 rfl n0 36 iP _ 16 Try.underlying93 hiP hp0 hp1 hp2 rfl (by decide) (.slice ba ln bc) ln (pairCs L) (by rfl) (by first | exact HOF.out _ ((Fr.refl _ _).alloc _).drew | exact HOF.out _ (((Fr.refl _ _).drew).alloc _) | exact HOF.out _ ((Fr.refl _ _).alloc _)) 1 (by rfl) (rd_obj (cs := [.int .i64 k, .int .i64 num]) (heap_new _ _) rfl) hone.out (by unfold maxLen; omega) (by omega) (by simp; omega) ?_; intro v1 w1 hown1 hgrow1 hloc1; have hF1 : Fr (fun b => (Value.slice ba ln bc).ownBlock = some b) wr w1 := Fr.trans (by first | exact ((Fr.refl _ wr).alloc _).drew | exact ((Fr.refl _ wr).drew).alloc _ | exact (Fr.refl _ wr).alloc _) (Fr.grown hgrow1 (fun r hr _ => hr)); obtain ⟨a1, c1, rfl⟩ := row_sl hown1; have s1 := hF1.cell e3 (fun e => HE2.out _ e rfl); have s2 := obj_frozen (hF1.at_ HBX.out (fun e => HE2.out _ e rfl)) 0; have HF1 := Lib.hid hF1; have HO1 := Lib.hid hown1; clear hF1 hown1 hgrow1 hloc1))
              all_goals
                go_wp2_with fail
                go_roundw
                case rel =>
                  have hl1 : (L ++ [((k : Int), num)]).length = ln + 1 := by simp [HLN.out]
                  refine ⟨j + 1, by omega, by go_num, ?_⟩
                  rw [hL'.out]
                  have hp := HIj.out.push (L' := L ++ [((k : Int), num)]) (a1 := a1) (c1 := c1) HQ1.out HQ2.out (by rw [HLN.out]; exact HF1.out) (by rw [hl1, pairCs_app]; exact HO1.out)
                  rw [hl1] at hp
                  exact hp
                case measure => simp [intOf]; omega
          · obtain rfl : j = N := by omega
            go_wp2_with fail
            go_roundw
            case rel =>
              refine ⟨k + 1, by omega, by go_num, ?_⟩
              rw [show ((k + 1 : Nat) : Int) = (k : Int) + 1 by omega, hnx.out]
              have := HIj.out
              rwa [List.take_of_length_le (by rw [HN.out]; omega)] at this
            case measure => simp [intOf]; omega
    · obtain rfl : k = 64 := by omega
      rw [show ((64 : Nat) : Int) = 64 from rfl, preL_all HG.out.tok.keys] at HI
      have hLl : Hid ((wantP A).length ≤ 8192) := Lib.hid (by have h1 := wantP_len HG.out.tok.lens; have := HG.out.len; omega)
      go_wp2_with fail
      have hI1 := HI.out.keep ((Fr.refl (fun _ => False) wr).alloc (.cells #[.int .i64 0] 3))
      have hn1 := heap_new wr (.cells #[.int .i64 0] 3)
      have hs1 : n0 ≤ wr.heap.size := by have := HI.out.fr.size; omega
      have hs2 : (wr.alloc (.cells #[.int .i64 0] 3)).heap.size = wr.heap.size + 1 := by simp
      obtain ⟨nb, hnb⟩ : ∃ nb, wr.heap.size = nb := ⟨_, rfl⟩
      obtain ⟨W1, hW1⟩ : ∃ W1, wr.alloc (.cells #[.int .i64 0] 3) = W1 := ⟨_, rfl⟩
      rw [hW1] at hI1 hn1 hs2 ⊢
      rw [hnb] at hn1 hs1 hs2 ⊢
      have hT := HTA.out W1 hI1.fr
      obtain ⟨⟨m, l, hT1, hT2, hT3, hT4⟩, hT5, hT6, hT7, hT8⟩ := HTA.out w (Fr.refl _ _)
      have hgl := hT6 g hT5
      have hml := hT6 m hT3
      have hTW : Tab W1 g m l := hT1.fr hI1.fr (by omega) (by omega) (fun p hp e => by have := hT6 _ (hT4 p hp); omega)
      have hop : opens l = wantP A := by rw [← hT2]; exact opens_want (mp_nd hT1.map) (fun p hp => mp_nd (hT1.rows p hp))
      have h64 : l.length ≤ 64 := by have := HG.out.len; rw [← hT2] at this; simpa [absl] using this
      have h128 : ∀ p ∈ l, p.2.rows.length ≤ 128 := fun p hp => hT8 _ (by rw [← hT2]; exact List.mem_map.2 ⟨p, hp, rfl⟩)
      have hIt := iOpen1 (fun b => b = nb) W1 (n0 + 1) g m l hI1.bt hTW h64 h128 (by have := (Array.getElem?_eq_some_iff.1 HI.out.bt).1; omega) (by omega) (by omega) (fun p hp => by have := hT6 _ (hT4 p hp); omega)
      rw [hop] at hIt
      have HIt := Lib.hid hIt; have HI1 := Lib.hid hI1; have HN1 := Lib.hid hn1; have HS1 := Lib.hid hs1; have HS2 := Lib.hid hs2
      have HWS : Hid (w.heap.size ≤ W1.heap.size) := Lib.hid hI1.fr.size
      clear hT hT1 hT2 hT3 hT4 hT5 hT6 hT7 hT8 hgl hml hTW hop h64 h128 hIt hI1 hn1 hW1 hnb hs1 hs2 HI
      refine (wpIn_wide (n := 0)).1 ?_
      refine rangeX (w0 := W1) (X := wantP A) (S := fun b => b = nb) rfl (enters_of Try.func31 (by kernel_rfl) rfl) HIt.out (Below.refl _ _) (fun b hb => by have := HS2.out; omega) (fun _ => rfl)
        (LkJ w n0 wb g nb (wantP A)) LkX
        (fun k C W W' hs hf => ⟨hs.1.fa hf HWS.out, Fa.cells hf hs.2⟩) (fun c k C W W' hs hf => hs) ⟨HI1.out, HN1.out⟩ ?round ?done ?stop
      have hfn : ∀ f, Fence.wide.fn f := fun _ => trivial
      have hdp : Fence.wide.depth.isSome = false := rfl
      case round =>
        rintro lp k x C W hx hlp hi hr
        dsimp only [encP]
        gi_wp2
        refine Took.mk (Fr.refl _ _) hi ?_
        rintro Wb ⟨hbI, hbn⟩ hrb hf hsz hsw hCC _
        obtain ⟨ba, bc, q1, q2⟩ := hbI.box
        have hkl : k < (wantP A).length := (List.getElem?_eq_some_iff.1 hx).1
        obtain ⟨gp, rfl, hcap, hcells⟩ := pair_cells q2 (by omega)
        have d0 := hcells k _ hx 0 _ rfl
        have d1 := hcells k _ hx 1 _ rfl
        rw [Nat.add_zero] at d0
        obtain ⟨ln, hln⟩ : ∃ ln, (wantP A).length = ln := ⟨_, rfl⟩
        rw [hln] at q1 hkl hcap hLl
        have hkI : (k : Int) < ln := by omega
        have hlI : (ln : Int) ≤ 8192 := by have := hLl.out; omega
        have e0 := cell_obj q1 0 (.slice (some ⟨gp, 0, none⟩) ln bc) rfl
        have e1 := cell_obj hbn 0 (.int .i64 k) rfl
        have f1 := obj_frozen hbn 0
        obtain ⟨x1, x2⟩ := x
        have hpe : (Op.equalIn 10000 36 (.agg #[.int .i64 x1, .int .i64 x2]) (.agg #[.int .i64 x1, .int .i64 x2])).run Try.prog Wb = .ok true Wb := pairEqD Wb 9998 x1 x2
        dsimp only at d0 d1 ⊢
        have HB := Lib.hid hbI; have HBN := Lib.hid hbn
        clear hi hr hf q1 q2 hcells hx hbI hbn hrb
        gi_wp2
        refine ⟨(Fr.refl _ _).setCell (p := ⟨nb, 0, none⟩) (fun _ => .inl rfl) _, HB.out.n HBN.out _ HS1.out, ?_⟩
        have := obj_set HBN.out 0 (.int .i64 ((k : Int) + 1))
        simpa using this
      case stop => intro D c k C W hD hk hX; exact hX.elim
      case done =>
        rintro D C W hD ⟨hbI, hbn⟩ hr hK
        obtain ⟨ba, bc, q1, q2⟩ := hbI.box
        obtain ⟨ln, hln⟩ : ∃ ln, (wantP A).length = ln := ⟨_, rfl⟩
        rw [hln] at q1 hbn
        have e0 := cell_obj q1 0 (.slice ba ln bc) rfl
        have e1 := cell_obj hbn 0 (.int .i64 ln) rfl
        have r0 := cell_obj hbI.res 0 (.bool false) rfl
        have f0 := obj_frozen hbI.res 0
        have HFc := Lib.hid hbI.fr.drew; have HR := Lib.hid hbI.res; have HKD := Lib.hid hK
        have HD0 : Hid (n0 ≤ D) := Lib.hid (by have := HS1.out; have := HS2.out; omega)
        have hDn : Hid (D ≠ n0) := Lib.hid (by have := HS1.out; have := HS2.out; omega)
        have hyt : Byt (tabC A).flatten := tabC_byt HG.out
        obtain ⟨FB, hFB⟩ : ∃ FB, (tabC A).flatten = FB := ⟨_, rfl⟩
        have hXP : Hid (∀ W, Fr (fun b => n0 ≤ b) w W → Calls Try.prog 17 #[.pointer (some ⟨g, 0, none⟩)] W fun e w' => Below W.heap.size W w' ∧ ∃ v, e = .returned v ∧ Bn W.heap.size w' v FB) := Lib.hid (fun W hf => by rw [← hFB]; exact xPack W g TS A (HTA.out W hf) HG.out)
        have hYP : Hid (∀ W, Fr (fun b => n0 ≤ b) w W → Calls Try.prog 46 #[.pointer (some ⟨gx, 0, none⟩)] W fun e w' => Below W.heap.size W w' ∧ ∃ v, e = .returned v ∧ Bn W.heap.size w' v FB) := Lib.hid (fun W hf => by rw [← hFB]; exact yPack W gx TX A (HTX.out W hf) HG.out)
        clear hbI hbn hr hK q1 q2 hln hyt hFB hlt hk HIt HI1 HN1
        go_wp2_with fail
        refine wp_region_noPanic ?_
        go_region_with (first
          | (go_at_call 17; refine (hXP.out _ HFc.out).mono ?_; rintro e wA ⟨hbA, vA, rfl, hBA⟩; have hstA := hBA.1.string; have HBA := Lib.hid hBA.1; have hFb := Fr.below (S := fun _ => False) hbA; have HFc := Lib.hid (HFc.out.trans' hFb (fun _ _ h => h.elim)); have HR := Lib.hid (hFb.at_ HR.out (fun h => h)); have HKD := Lib.hid (hFb.at_ HKD.out (fun h => h)); have r0 := cell_obj HR.out 0 (.bool false) rfl; have f0 := obj_frozen HR.out 0; clear hBA hbA hFb)
          | (go_at_call 46; refine (hYP.out _ HFc.out).mono ?_; rintro e wB ⟨hbB, vB, rfl, hBB⟩; have hstB := hBB.1.string; have hstA := (HBA.out.fr (Fr.below (S := fun _ => False) hbB) (fun _ h => h.elim)).string; have hFb := Fr.below (S := fun _ => False) hbB; have HFc := Lib.hid (HFc.out.trans' hFb (fun _ _ h => h.elim)); have HR := Lib.hid (hFb.at_ HR.out (fun h => h)); have HKD := Lib.hid (hFb.at_ HKD.out (fun h => h)); have r0 := cell_obj HR.out 0 (.bool false) rfl; have f0 := obj_frozen HR.out 0; clear hBB hbB hFb))
        all_goals
          refine NoPanic.normal ?_
          have hR5 := obj_set HR.out 0 (.bool true)
          have hK5 := ((Fr.refl (fun b => b = n0) _).setCell (p := ⟨n0, 0, none⟩) (fun _ => rfl) (.bool true)).at_ HKD.out hDn.out
          have hF5 := HFc.out.trans ((Fr.refl (fun b => n0 ≤ b) _).setCell (p := ⟨n0, 0, none⟩) (fun _ => Nat.le_refl _) (.bool true))
          have hc5 := cell_obj (Fa.cells (frPut (B := n0) (.deferred none) HD0.out hK5 rfl) hR5) 0 (.bool true) rfl
          have HF5 := Lib.hid hF5; have HK5 := Lib.hid hK5; have HC5 := Lib.hid hc5
          clear hR5 hK5 hF5 hc5 r0 f0
          go_wp2_with fail
          refine ⟨by simp, .inl ⟨_, _, rfl, run_takeDeferred HK5.out, ?_⟩⟩
          refine ⟨.bool true, by simp [results, Try.results22, go_sem, HC5.out], rfl, ?_⟩
          exact (HF5.out.putObj (l := D) (fun _ => HD0.out) _).toBelow (fun b hb => by have := HS.out; omega) (Nat.le_refl _)
end Go.Proofs.Ytakjiicnbocjeaa
namespace Go.Proofs.Ytakjiicnbocjeaa
open Go
/-- The last operation, made harmless. -/
def idle (o : Oper) : Oper := { o with op := .assign (.const (.bool false)) }
section
variable {P : Program} {md : Region.Mode} {l : List Oper} {z : Oper} {C : World → Prop}
theorem idle_size : (l ++ [idle z]).toArray.size = (l ++ [z]).toArray.size := by simp
theorem idle_after (i : Nat) : ((l ++ [idle z]).toArray[i]?).map (·.after) = ((l ++ [z]).toArray[i]?).map (·.after) := by
  simp only [List.getElem?_toArray]
  rcases Nat.lt_trichotomy i l.length with h | h | h
  · rw [List.getElem?_append_left h, List.getElem?_append_left h]
  · subst h; simp [idle]
  · rw [List.getElem?_append_right (by omega), List.getElem?_append_right (by omega), List.getElem?_eq_none (by simp; omega), List.getElem?_eq_none (by simp; omega)]
theorem idle_dst (i : Nat) : ((l ++ [idle z]).toArray[i]?).bind (·.dst) = ((l ++ [z]).toArray[i]?).bind (·.dst) := by
  simp only [List.getElem?_toArray]
  rcases Nat.lt_trichotomy i l.length with h | h | h
  · rw [List.getElem?_append_left h, List.getElem?_append_left h]
  · subst h; simp [idle]
  · rw [List.getElem?_append_right (by omega), List.getElem?_append_right (by omega), List.getElem?_eq_none (by simp; omega), List.getElem?_eq_none (by simp; omega)]
theorem idle_ready (listed : Array Bool) : Region.ready md (l ++ [idle z]).toArray listed = Region.ready md (l ++ [z]).toArray listed := by
  unfold Region.ready
  rw [idle_size]
  refine List.filter_congr fun i _ => ?_
  have h := idle_after (l := l) (z := z) i
  congr 1
  generalize (l ++ [idle z]).toArray[i]? = x at *
  generalize (l ++ [z]).toArray[i]? = y at *
  cases x <;> cases y <;> simp at h ⊢
  rw [h]
theorem idle_yielded (tmps : Array Value) : yielded (l ++ [idle z]).toArray tmps = yielded (l ++ [z]).toArray tmps := by
  funext j
  unfold yielded
  rw [idle_dst]
theorem idle_wpOp {Q : Exit → Act → World → Prop} {i : Nat} (hi : i < l.length) (K : Act → World → Prop) (a : Act) (w : World) : wpOp P (l ++ [idle z]).toArray Q i K a w = wpOp P (l ++ [z]).toArray Q i K a w := by
  have h : (l ++ [idle z]).toArray[i]? = (l ++ [z]).toArray[i]? := by simp only [List.getElem?_toArray]; rw [List.getElem?_append_left hi, List.getElem?_append_left hi]
  unfold wpOp
  rw [h, idle_yielded]
theorem wpAny_done {ops : Array Oper} {Q : Exit → Act → World → Prop} {a : Act} {w : World} {listed : Array Bool} (h : Region.ready md ops listed = []) (hQ : Q .normal a w) : ∀ f, wpAny P md ops Q f listed a w
  | 0 => ⟨h, hQ⟩
  | f + 1 => ⟨fun _ => hQ, fun i hi => by rw [h] at hi; cases hi⟩
theorem wpAnyQ_done {ops : Array Oper} {Q : Act → Prop} {a : Act} {listed : Array Bool} (h : Region.ready md ops listed = []) : ∀ f, wpAnyQ P md ops C Q f listed a → Q a
  | 0, hq => hq.2
  | _ + 1, hq => hq.1 h
/-- Each operation waits for earlier ones only. -/
def acyB (md : Region.Mode) (ops : Array Oper) : Bool := (List.range ops.size).all fun k => match ops[k]? with
  | some o => o.after.all fun e => !Region.binds md e || decide (e.on < k)
  | none => true
theorem ready_some {ops : Array Oper} {listed : Array Bool} (ha : acyB md ops = true) (hs : listed.size = ops.size) : ∀ (n k : Nat), k < ops.size → k ≤ n → listed.getD k true = false → Region.ready md ops listed ≠ []
  | n, k, hk, hn, hu => by
    by_cases hall : ∀ j, j < k → listed.getD j false = true
    · intro e
      have : k ∈ Region.ready md ops listed := by
        refine mem_ready.2 ⟨hu, ops[k], Array.getElem?_eq_getElem hk, fun e he hb => ?_⟩
        have h1 := List.all_eq_true.1 ha k (List.mem_range.2 hk)
        rw [Array.getElem?_eq_getElem hk] at h1
        obtain ⟨i, hi, rfl⟩ := Array.mem_iff_getElem.1 he
        have h2 := Array.all_eq_true.1 h1 i hi
        simp only [hb, Bool.not_true, Bool.false_or, decide_eq_true_eq] at h2
        exact hall _ h2
      rw [e] at this; cases this
    · cases n with
      | zero => exact absurd (fun j hj => by omega) hall
      | succ n =>
        have : ∃ j, j < k ∧ listed.getD j false ≠ true := Classical.byContradiction fun h => hall fun j hj => Classical.byContradiction fun hne => h ⟨j, hj, hne⟩
        obtain ⟨j, hj, hne⟩ := this
        refine ready_some ha hs n j (by omega) (by omega) ?_
        exact getD_in (by omega) (by simpa using hne)
theorem quiet_tail_sim {Q : Exit → Act → World → Prop} (hs : Region.sinkB md (l ++ [z]).toArray l.length = true) (hc : Region.chainB md (l ++ [z]).toArray l.length = true) (ha : acyB md (l ++ [z]).toArray = true) (hd : z.dst = none) :
    ∀ (fuel : Nat) (listed : Array Bool) (a : Act) (w : World), C w → HeadInv md (l ++ [z]).toArray l.length listed →
      wpAnyQ P md (l ++ [idle z]).toArray C (fun a' => ∀ w', C w' → wpOp P (l ++ [z]).toArray Q l.length (fun a w => Q .normal a w) a' w') fuel listed a → wpAny P md (l ++ [z]).toArray Q fuel listed a w := by
  intro fuel
  have hsz : (l ++ [z]).toArray.size = l.length + 1 := by simp
  induction fuel with
  | zero =>
    intro listed a w hw inv h
    have h1 := h.1
    rw [idle_ready] at h1
    exact absurd h1 (ready_some ha inv.size _ l.length (by omega) (Nat.le_refl _) (inv.tail _ (Nat.le_refl _) (by omega)))
  | succ fuel ih =>
    intro listed a w hw inv h
    have hne := ready_some ha inv.size _ l.length (by omega) (Nat.le_refl _) (inv.tail _ (Nat.le_refl _) (by omega))
    refine ⟨fun e => absurd e hne, fun i hi => ?_⟩
    have hq := h.2 i (by rw [idle_ready]; exact hi)
    have hi1 : i < l.length + 1 := by
      obtain ⟨_, o, ho, _⟩ := mem_ready.1 hi
      have := (Array.getElem?_eq_some_iff.1 ho).1
      omega
    by_cases hil : i < l.length
    · rw [← idle_wpOp hil]
      exact wpOp_of_qOp hw (fun a' w' hw' hK => ih _ a' w' hw' (inv.set hi hil) hK) hq
    · have hin : i = l.length := by omega
      subst hin
      have hall : ∀ j, j < l.length → listed.getD j true = true := by
        intro j hj
        cases e : listed.getD j true with
        | true => rfl
        | false => exact absurd hi (tail_waits hs hc (by omega) inv _ j rfl hj e _ (Nat.le_refl _))
      have hdone : Region.ready md (l ++ [z]).toArray (listed.setIfInBounds l.length true) = [] := by
        rw [List.eq_nil_iff_forall_not_mem]
        intro j hj
        obtain ⟨hu, o, ho, _⟩ := mem_ready.1 hj
        have hjl := (Array.getElem?_eq_some_iff.1 ho).1
        by_cases e : j = l.length
        · subst e
          have hls : l.length < listed.size := by rw [inv.size]; omega
          simp [hls] at hu
        · rw [getD_set_ne true (fun h => e h.symm)] at hu
          rw [hall j (by omega)] at hu; cases hu
      have h0 : (l ++ [idle z]).toArray[l.length]? = some (idle z) := by simp
      obtain ⟨v, _, hK⟩ := yieldsIn_of_qOp h0 hq
      have hput : a.put (idle z).dst v = a := by
        have : (idle z).dst = none := hd
        rw [this]; rfl
      rw [hput] at hK
      have hQ := wpAnyQ_done (by rw [idle_ready]; exact hdone) _ hK w hw
      exact wpOp_mono (fun a' w' h' => wpAny_done hdone h' _) hQ
/-- What is asked of the region, apart from its walk. -/
def tailQ (l : List Oper) (n : Nat) : Bool :=
  decide (l.length = n + 1) && (match l[n]? with | some z => z.dst.isNone | none => false) && Region.sinkB .any l.toArray n && Region.chainB .any l.toArray n && acyB .any l.toArray && Region.lexB .any (l.take n ++ (l.drop n).map idle).toArray
theorem wp_region_quiet_tail {id : Nat} {Q : Exit → Act → World → Prop} {a : Act} {w : World} {l : List Oper} (n : Nat) (hm : P.follows .mixedOrders = true) (hB : tailQ l n = true)
    (h : wpQuiet P (l.take n ++ (l.drop n).map idle).toArray (fun w' => ∃ q, w' = w.drewN q) (fun a' => ∀ q, wpList P l.toArray Q (l.drop n) a' (w.drewN q)) (l.take n ++ (l.drop n).map idle) a) : (Code.region id l.toArray true).wp P Q a w := by
  simp only [tailQ, Bool.and_eq_true, decide_eq_true_eq] at hB
  obtain ⟨⟨⟨⟨⟨hl, hd⟩, hs⟩, hc⟩, ha⟩, hx⟩ := hB
  obtain ⟨z, hz⟩ : ∃ z, l[n]? = some z := ⟨l[n], List.getElem?_eq_getElem (by omega)⟩
  rw [hz] at hd
  have hdz : z.dst = none := by simpa using hd
  have hdr : l.drop n = [z] := by
    rw [List.drop_eq_getElem_cons (by omega), (List.getElem?_eq_some_iff.1 hz).2, List.drop_eq_nil_of_le (by omega)]
  obtain ⟨L, hL⟩ : ∃ L, l.take n = L := ⟨_, rfl⟩
  have hlL : l = L ++ [z] := by rw [← hL, ← hdr, List.take_append_drop]
  have hnL : L.length = n := by rw [← hL, List.length_take]; omega
  rw [hdr, hL, List.map_cons, List.map_nil] at h hx
  subst hlL
  subst hnL
  have hz0 : (L ++ [z]).toArray[L.length]? = some z := by simp
  have eQ : (fun a' => ∀ q, wpList P (L ++ [z]).toArray Q [z] a' (w.drewN q)) = (fun a' => ∀ w', (∃ q, w' = w.drewN q) → wpOp P (L ++ [z]).toArray Q L.length (fun a w => Q .normal a w) a' w') := by
    funext a'
    have e : ∀ q, wpList P (L ++ [z]).toArray Q [z] a' (w.drewN q) = wpOp P (L ++ [z]).toArray Q L.length (fun a w => Q .normal a w) a' (w.drewN q) := fun q => by
      unfold wpOp wpList
      simp only [hz0]
      rfl
    refine propext ⟨?_, fun h q => by rw [e]; exact h _ ⟨q, rfl⟩⟩
    rintro h w' ⟨q, rfl⟩
    rw [← e]; exact h q
  rw [eQ] at h
  refine wp_region_any hm ?_
  have hx' := hx
  simp only [Region.lexB, Bool.and_eq_true] at hx'
  have H := wpAnyQ_lex (P := P) (C := fun w' => ∃ q, w' = w.drewN q) (md := .any) hx'.1 (L ++ [idle z]) 0 (Array.replicate (L ++ [idle z]).toArray.size false) a (by simp) (by simpa using hx'.2) h
  have inv0 : HeadInv .any (L ++ [z]).toArray L.length (Array.replicate (L ++ [z]).toArray.size false) :=
    ⟨by simp, fun j oj _ hl => (by rw [getD_replicate_false] at hl; cases hl), fun t _ ht => getD_in (by simpa using ht) (getD_replicate_false _ _)⟩
  rw [idle_size, show (L ++ [idle z]).length = (L ++ [z]).toArray.size by simp] at H
  exact quiet_tail_sim (C := fun w' => ∃ q, w' = w.drewN q) hs hc ha hdz _ _ a { w with drawn := w.drawn + 1 } ⟨1, rfl⟩ inv0 H
end
end Go.Proofs.Ytakjiicnbocjeaa
namespace Go.Proofs.Ytakjiicnbocjeaa
open Go.RowKit
set_option maxRecDepth 100000 in
theorem rTurn (x k : Int) (w : World) (h0 : 0 ≤ k) (h1 : k < 64) : Calls Try.prog 75 #[.int .u64 x, .int .i64 k] w fun e w' => e = .returned (.int .u64 (rotU x k)) ∧ ∃ m, w' = w.drewN m := by
  unfold rotU
  go_enter Try.func75, Try.ntmps75
  go_wp2_with fail
  go_quiet (fail)
  go_wp2
  go_ret
  exact ⟨rfl, _, rfl⟩
theorem rTurn2 (x k : Int) (w : World) (h0 : 0 ≤ k) (h1 : k < 64) (n : Nat) : Calls Try.prog 75 #[.int .u64 x, .int .i64 k] (w.drewN n) fun e w' => e = .returned (.int .u64 (rotU x k)) ∧ ∃ m, w' = w.drewN m := by
  refine (rTurn x k _ h0 h1).mono ?_
  rintro e w' ⟨h, m, rfl⟩
  exact ⟨h, _, World.drewN_drewN _ _ _⟩
theorem set_other {w : World} {g h j : Nat} {o : Obj} (hh : w.heap[h]? = some o) (hne : h ≠ g) (v : Value) : (w.setCell ⟨g, j, none⟩ v).heap[h]? = some o := by
  show (w.heap.modify g _)[h]? = _
  rw [Array.getElem?_modify, if_neg (by omega)]; exact hh
set_option maxRecDepth 100000 in
set_option maxHeartbeats 4000000 in
theorem rRound (w : World) (s : S4) : Calls Try.prog 59 #[.agg s.cs] w fun e w' => e = .returned (.agg (rnd s).cs) ∧ Below w.heap.size w w' := by
  obtain ⟨a, b, c, d⟩ := s
  have hz := heap_new w (.cells #[.int .u64 a, .int .u64 b, .int .u64 c, .int .u64 d] 114)
  have hS : ((w.alloc (.cells #[.int .u64 a, .int .u64 b, .int .u64 c, .int .u64 d] 114)).alloc (.cells #[.int .u64 0, .int .u64 0, .int .u64 0, .int .u64 0] 114)).heap[w.heap.size]? = some (.cells #[.int .u64 a, .int .u64 b, .int .u64 c, .int .u64 d] 114) := heap_keep hz _
  have hR : ((w.alloc (.cells #[.int .u64 a, .int .u64 b, .int .u64 c, .int .u64 d] 114)).alloc (.cells #[.int .u64 0, .int .u64 0, .int .u64 0, .int .u64 0] 114)).heap[w.heap.size + 1]? = some (.cells #[.int .u64 0, .int .u64 0, .int .u64 0, .int .u64 0] 114) := heap_at (by simp) _
  have F0 : Hid (Fr (fun b => w.heap.size ≤ b) w ((w.alloc (.cells #[.int .u64 a, .int .u64 b, .int .u64 c, .int .u64 d] 114)).alloc (.cells #[.int .u64 0, .int .u64 0, .int .u64 0, .int .u64 0] 114))) := Lib.hid (((Fr.refl _ _).alloc _).alloc _)
  have HS := Lib.hid hS; have HR := Lib.hid hR
  clear hz hR
  unfold S4.cs
  dsimp only
  go_enter Try.func59, Try.ntmps59
  have q0 := cell_obj hS 0 (.int .u64 a) rfl
  have q1 := cell_obj hS 1 (.int .u64 b) rfl
  have fz := obj_frozen hS 0
  go_wp2_with fail
  obtain ⟨a1, ha1⟩ : ∃ v : Int, v = IntKind.u64.wrap (a + b) := ⟨_, rfl⟩
  rw [← ha1]
  have Ha1 := Lib.hid ha1
  have h1 : ((w.alloc (.cells #[.int .u64 a1, .int .u64 b, .int .u64 c, .int .u64 d] 114)).alloc (.cells #[.int .u64 0, .int .u64 0, .int .u64 0, .int .u64 0] 114)).heap[w.heap.size]? = some (.cells #[.int .u64 a1, .int .u64 b, .int .u64 c, .int .u64 d] 114) := heap_keep (heap_new w _) _
  have HR1 : Hid (((w.alloc (.cells #[.int .u64 a1, .int .u64 b, .int .u64 c, .int .u64 d] 114)).alloc (.cells #[.int .u64 0, .int .u64 0, .int .u64 0, .int .u64 0] 114)).heap[w.heap.size + 1]? = some (.cells #[.int .u64 0, .int .u64 0, .int .u64 0, .int .u64 0] 114)) := Lib.hid (heap_at (by simp) _)
  have F1 : Hid (Fr (fun b => w.heap.size ≤ b) w ((w.alloc (.cells #[.int .u64 a1, .int .u64 b, .int .u64 c, .int .u64 d] 114)).alloc (.cells #[.int .u64 0, .int .u64 0, .int .u64 0, .int .u64 0] 114))) := Lib.hid (((Fr.refl _ _).alloc _).alloc _)
  obtain ⟨B, hB⟩ : ∃ B, w.heap.size = B := ⟨_, rfl⟩
  rw [hB] at h1 HR1 F1 ⊢
  have HBB : Hid (w.heap.size = B) := Lib.hid hB
  generalize (w.alloc (.cells #[.int .u64 a1, .int .u64 b, .int .u64 c, .int .u64 d] 114)).alloc (.cells #[.int .u64 0, .int .u64 0, .int .u64 0, .int .u64 0] 114) = U1 at *
  clear ha1 q0 q1 fz hS F0 HS HR hB
  have q0 := cell_obj h1 0 (.int .u64 a1) rfl
  have fz0 := obj_frozen h1 0
  have q1 := cell_obj h1 1 (.int .u64 b) rfl
  have fz1 := obj_frozen h1 1
  have q2 := cell_obj h1 2 (.int .u64 c) rfl
  have fz2 := obj_frozen h1 2
  have q3 := cell_obj h1 3 (.int .u64 d) rfl
  have fz3 := obj_frozen h1 3
  refine wp_region_quiet_tail 7 (by kernel_rfl) (by kernel_rfl) ?_
  simp only [List.take_succ_cons, List.take_zero, List.drop_succ_cons, List.drop_zero, List.map_cons, List.map_nil, List.cons_append, List.nil_append, idle]
  repeat (go_big_quiet_step ((go_at_call 75; exact rTurn2 _ 13 _ (by omega) (by omega) _)))
  refine wpQuiet_nil ?_
  intro nq
  go_wp2_with fail
  obtain ⟨b1, hb1⟩ : ∃ v : Int, v = bits .xor .u64 (rotU b 13) a1 := ⟨_, rfl⟩
  rw [← hb1]
  have Hb1 := Lib.hid hb1
  have h2 : ((U1.drewN nq).setCell ⟨B, 1, none⟩ (.int .u64 b1)).heap[B]? = some (.cells #[.int .u64 a1, .int .u64 b1, .int .u64 c, .int .u64 d] 114) := obj_set h1 1 _
  have F2 := Lib.hid ((F1.out.drewN nq).setCell (p := ⟨B, 1, none⟩) (fun _ => Nat.le_refl _) (.int .u64 b1))
  have HR2 : Hid (((U1.drewN nq).setCell ⟨B, 1, none⟩ (.int .u64 b1)).heap[B + 1]? = some (.cells #[.int .u64 0, .int .u64 0, .int .u64 0, .int .u64 0] 114)) := Lib.hid (set_other HR1.out (by omega) _)
  generalize (U1.drewN nq).setCell ⟨B, 1, none⟩ (.int .u64 b1) = U2 at *
  clear hb1 h1 F1 HR1
  clear q0 q1 q2 q3 fz0 fz1 fz2 fz3
  have q0 := cell_obj h2 0 (.int .u64 a1) rfl
  have fz0 := obj_frozen h2 0
  have q1 := cell_obj h2 1 (.int .u64 b1) rfl
  have fz1 := obj_frozen h2 1
  have q2 := cell_obj h2 2 (.int .u64 c) rfl
  have fz2 := obj_frozen h2 2
  have q3 := cell_obj h2 3 (.int .u64 d) rfl
  have fz3 := obj_frozen h2 3
  go_wp2_with (go_at_call 75; refine (rTurn _ 32 _ (by omega) (by omega)).mono ?_; rintro e w' ⟨rfl, mq, rfl⟩)
  obtain ⟨a2, ha2⟩ : ∃ v : Int, v = rotU a1 32 := ⟨_, rfl⟩
  rw [← ha2]
  have Ha2 := Lib.hid ha2
  have h3 : ((U2.drewN mq).setCell ⟨B, 0, none⟩ (.int .u64 a2)).heap[B]? = some (.cells #[.int .u64 a2, .int .u64 b1, .int .u64 c, .int .u64 d] 114) := obj_set h2 0 _
  have F3 := Lib.hid ((F2.out.drewN mq).setCell (p := ⟨B, 0, none⟩) (fun _ => Nat.le_refl _) (.int .u64 a2))
  have HR3 : Hid (((U2.drewN mq).setCell ⟨B, 0, none⟩ (.int .u64 a2)).heap[B + 1]? = some (.cells #[.int .u64 0, .int .u64 0, .int .u64 0, .int .u64 0] 114)) := Lib.hid (set_other HR2.out (by omega) _)
  generalize (U2.drewN mq).setCell ⟨B, 0, none⟩ (.int .u64 a2) = U3 at *
  clear ha2 h2 F2 HR2
  obtain ⟨c1, hc1⟩ : ∃ v : Int, v = IntKind.u64.wrap (c + d) := ⟨_, rfl⟩
  rw [← hc1]
  have Hc1 := Lib.hid hc1
  have h4 : ((U3).setCell ⟨B, 2, none⟩ (.int .u64 c1)).heap[B]? = some (.cells #[.int .u64 a2, .int .u64 b1, .int .u64 c1, .int .u64 d] 114) := obj_set h3 2 _
  have F4 := Lib.hid ((F3.out).setCell (p := ⟨B, 2, none⟩) (fun _ => Nat.le_refl _) (.int .u64 c1))
  have HR4 : Hid (((U3).setCell ⟨B, 2, none⟩ (.int .u64 c1)).heap[B + 1]? = some (.cells #[.int .u64 0, .int .u64 0, .int .u64 0, .int .u64 0] 114)) := Lib.hid (set_other HR3.out (by omega) _)
  generalize (U3).setCell ⟨B, 2, none⟩ (.int .u64 c1) = U4 at *
  clear hc1 h3 F3 HR3
  clear q0 q1 q2 q3 fz0 fz1 fz2 fz3
  have q0 := cell_obj h4 0 (.int .u64 a2) rfl
  have fz0 := obj_frozen h4 0
  have q1 := cell_obj h4 1 (.int .u64 b1) rfl
  have fz1 := obj_frozen h4 1
  have q2 := cell_obj h4 2 (.int .u64 c1) rfl
  have fz2 := obj_frozen h4 2
  have q3 := cell_obj h4 3 (.int .u64 d) rfl
  have fz3 := obj_frozen h4 3
  refine wp_region_quiet_tail 7 (by kernel_rfl) (by kernel_rfl) ?_
  simp only [List.take_succ_cons, List.take_zero, List.drop_succ_cons, List.drop_zero, List.map_cons, List.map_nil, List.cons_append, List.nil_append, idle]
  repeat (go_big_quiet_step ((go_at_call 75; exact rTurn2 _ 16 _ (by omega) (by omega) _)))
  refine wpQuiet_nil ?_
  intro nq
  go_wp2_with fail
  obtain ⟨d1, hd1⟩ : ∃ v : Int, v = bits .xor .u64 (rotU d 16) c1 := ⟨_, rfl⟩
  rw [← hd1]
  have Hd1 := Lib.hid hd1
  have h5 : ((U4.drewN nq).setCell ⟨B, 3, none⟩ (.int .u64 d1)).heap[B]? = some (.cells #[.int .u64 a2, .int .u64 b1, .int .u64 c1, .int .u64 d1] 114) := obj_set h4 3 _
  have F5 := Lib.hid ((F4.out.drewN nq).setCell (p := ⟨B, 3, none⟩) (fun _ => Nat.le_refl _) (.int .u64 d1))
  have HR5 : Hid (((U4.drewN nq).setCell ⟨B, 3, none⟩ (.int .u64 d1)).heap[B + 1]? = some (.cells #[.int .u64 0, .int .u64 0, .int .u64 0, .int .u64 0] 114)) := Lib.hid (set_other HR4.out (by omega) _)
  generalize (U4.drewN nq).setCell ⟨B, 3, none⟩ (.int .u64 d1) = U5 at *
  clear hd1 h4 F4 HR4
  clear q0 q1 q2 q3 fz0 fz1 fz2 fz3
  have q0 := cell_obj h5 0 (.int .u64 a2) rfl
  have fz0 := obj_frozen h5 0
  have q1 := cell_obj h5 1 (.int .u64 b1) rfl
  have fz1 := obj_frozen h5 1
  have q2 := cell_obj h5 2 (.int .u64 c1) rfl
  have fz2 := obj_frozen h5 2
  have q3 := cell_obj h5 3 (.int .u64 d1) rfl
  have fz3 := obj_frozen h5 3
  go_wp2_with fail
  obtain ⟨a3, ha3⟩ : ∃ v : Int, v = IntKind.u64.wrap (a2 + d1) := ⟨_, rfl⟩
  rw [← ha3]
  have Ha3 := Lib.hid ha3
  have h6 : ((U5).setCell ⟨B, 0, none⟩ (.int .u64 a3)).heap[B]? = some (.cells #[.int .u64 a3, .int .u64 b1, .int .u64 c1, .int .u64 d1] 114) := obj_set h5 0 _
  have F6 := Lib.hid ((F5.out).setCell (p := ⟨B, 0, none⟩) (fun _ => Nat.le_refl _) (.int .u64 a3))
  have HR6 : Hid (((U5).setCell ⟨B, 0, none⟩ (.int .u64 a3)).heap[B + 1]? = some (.cells #[.int .u64 0, .int .u64 0, .int .u64 0, .int .u64 0] 114)) := Lib.hid (set_other HR5.out (by omega) _)
  generalize (U5).setCell ⟨B, 0, none⟩ (.int .u64 a3) = U6 at *
  clear ha3 h5 F5 HR5
  clear q0 q1 q2 q3 fz0 fz1 fz2 fz3
  have q0 := cell_obj h6 0 (.int .u64 a3) rfl
  have fz0 := obj_frozen h6 0
  have q1 := cell_obj h6 1 (.int .u64 b1) rfl
  have fz1 := obj_frozen h6 1
  have q2 := cell_obj h6 2 (.int .u64 c1) rfl
  have fz2 := obj_frozen h6 2
  have q3 := cell_obj h6 3 (.int .u64 d1) rfl
  have fz3 := obj_frozen h6 3
  refine wp_region_quiet_tail 7 (by kernel_rfl) (by kernel_rfl) ?_
  simp only [List.take_succ_cons, List.take_zero, List.drop_succ_cons, List.drop_zero, List.map_cons, List.map_nil, List.cons_append, List.nil_append, idle]
  repeat (go_big_quiet_step ((go_at_call 75; exact rTurn2 _ 21 _ (by omega) (by omega) _)))
  refine wpQuiet_nil ?_
  intro nq
  go_wp2_with fail
  obtain ⟨d2, hd2⟩ : ∃ v : Int, v = bits .xor .u64 (rotU d1 21) a3 := ⟨_, rfl⟩
  rw [← hd2]
  have Hd2 := Lib.hid hd2
  have h7 : ((U6.drewN nq).setCell ⟨B, 3, none⟩ (.int .u64 d2)).heap[B]? = some (.cells #[.int .u64 a3, .int .u64 b1, .int .u64 c1, .int .u64 d2] 114) := obj_set h6 3 _
  have F7 := Lib.hid ((F6.out.drewN nq).setCell (p := ⟨B, 3, none⟩) (fun _ => Nat.le_refl _) (.int .u64 d2))
  have HR7 : Hid (((U6.drewN nq).setCell ⟨B, 3, none⟩ (.int .u64 d2)).heap[B + 1]? = some (.cells #[.int .u64 0, .int .u64 0, .int .u64 0, .int .u64 0] 114)) := Lib.hid (set_other HR6.out (by omega) _)
  generalize (U6.drewN nq).setCell ⟨B, 3, none⟩ (.int .u64 d2) = U7 at *
  clear hd2 h6 F6 HR6
  clear q0 q1 q2 q3 fz0 fz1 fz2 fz3
  have q0 := cell_obj h7 0 (.int .u64 a3) rfl
  have fz0 := obj_frozen h7 0
  have q1 := cell_obj h7 1 (.int .u64 b1) rfl
  have fz1 := obj_frozen h7 1
  have q2 := cell_obj h7 2 (.int .u64 c1) rfl
  have fz2 := obj_frozen h7 2
  have q3 := cell_obj h7 3 (.int .u64 d2) rfl
  have fz3 := obj_frozen h7 3
  go_wp2_with fail
  obtain ⟨c2, hc2⟩ : ∃ v : Int, v = IntKind.u64.wrap (c1 + b1) := ⟨_, rfl⟩
  rw [← hc2]
  have Hc2 := Lib.hid hc2
  have h8 : ((U7).setCell ⟨B, 2, none⟩ (.int .u64 c2)).heap[B]? = some (.cells #[.int .u64 a3, .int .u64 b1, .int .u64 c2, .int .u64 d2] 114) := obj_set h7 2 _
  have F8 := Lib.hid ((F7.out).setCell (p := ⟨B, 2, none⟩) (fun _ => Nat.le_refl _) (.int .u64 c2))
  have HR8 : Hid (((U7).setCell ⟨B, 2, none⟩ (.int .u64 c2)).heap[B + 1]? = some (.cells #[.int .u64 0, .int .u64 0, .int .u64 0, .int .u64 0] 114)) := Lib.hid (set_other HR7.out (by omega) _)
  generalize (U7).setCell ⟨B, 2, none⟩ (.int .u64 c2) = U8 at *
  clear hc2 h7 F7 HR7
  clear q0 q1 q2 q3 fz0 fz1 fz2 fz3
  have q0 := cell_obj h8 0 (.int .u64 a3) rfl
  have fz0 := obj_frozen h8 0
  have q1 := cell_obj h8 1 (.int .u64 b1) rfl
  have fz1 := obj_frozen h8 1
  have q2 := cell_obj h8 2 (.int .u64 c2) rfl
  have fz2 := obj_frozen h8 2
  have q3 := cell_obj h8 3 (.int .u64 d2) rfl
  have fz3 := obj_frozen h8 3
  refine wp_region_quiet_tail 7 (by kernel_rfl) (by kernel_rfl) ?_
  simp only [List.take_succ_cons, List.take_zero, List.drop_succ_cons, List.drop_zero, List.map_cons, List.map_nil, List.cons_append, List.nil_append, idle]
  repeat (go_big_quiet_step ((go_at_call 75; exact rTurn2 _ 17 _ (by omega) (by omega) _)))
  refine wpQuiet_nil ?_
  intro nq
  go_wp2_with fail
  obtain ⟨b2, hb2⟩ : ∃ v : Int, v = bits .xor .u64 (rotU b1 17) c2 := ⟨_, rfl⟩
  rw [← hb2]
  have Hb2 := Lib.hid hb2
  have h9 : ((U8.drewN nq).setCell ⟨B, 1, none⟩ (.int .u64 b2)).heap[B]? = some (.cells #[.int .u64 a3, .int .u64 b2, .int .u64 c2, .int .u64 d2] 114) := obj_set h8 1 _
  have F9 := Lib.hid ((F8.out.drewN nq).setCell (p := ⟨B, 1, none⟩) (fun _ => Nat.le_refl _) (.int .u64 b2))
  have HR9 : Hid (((U8.drewN nq).setCell ⟨B, 1, none⟩ (.int .u64 b2)).heap[B + 1]? = some (.cells #[.int .u64 0, .int .u64 0, .int .u64 0, .int .u64 0] 114)) := Lib.hid (set_other HR8.out (by omega) _)
  generalize (U8.drewN nq).setCell ⟨B, 1, none⟩ (.int .u64 b2) = U9 at *
  clear hb2 h8 F8 HR8
  clear q0 q1 q2 q3 fz0 fz1 fz2 fz3
  have q0 := cell_obj h9 0 (.int .u64 a3) rfl
  have fz0 := obj_frozen h9 0
  have q1 := cell_obj h9 1 (.int .u64 b2) rfl
  have fz1 := obj_frozen h9 1
  have q2 := cell_obj h9 2 (.int .u64 c2) rfl
  have fz2 := obj_frozen h9 2
  have q3 := cell_obj h9 3 (.int .u64 d2) rfl
  have fz3 := obj_frozen h9 3
  have hRR := HR9.out
  have p0 := cell_obj hRR 0 (.int .u64 0) rfl
  have fp0 := obj_frozen hRR 0
  have p1 := cell_obj hRR 1 (.int .u64 0) rfl
  have fp1 := obj_frozen hRR 1
  have p2 := cell_obj hRR 2 (.int .u64 0) rfl
  have fp2 := obj_frozen hRR 2
  have p3 := cell_obj hRR 3 (.int .u64 0) rfl
  have fp3 := obj_frozen hRR 3
  clear hRR
  go_wp2_with (go_at_call 75; refine (rTurn _ 32 _ (by omega) (by omega)).mono ?_; rintro e w' ⟨rfl, mq, rfl⟩)
  obtain ⟨c3, hc3⟩ : ∃ v : Int, v = rotU c2 32 := ⟨_, rfl⟩
  rw [← hc3]
  have Hc3 := Lib.hid hc3
  have hE0 := obj_set (obj_set (obj_set (obj_set (set_other (HR9.out : (U9.drewN mq).heap[B + 1]? = _) (g := B) (by omega) (j := 2) (.int .u64 c3)) 0 (.int .u64 a3)) 1 (.int .u64 b2)) 2 (.int .u64 c3)) 3 (.int .u64 d2)
  simp only [List.setIfInBounds_toArray, List.set_cons_zero, List.set_cons_succ] at hE0
  have hE : ((((((U9.drewN mq).setCell ⟨B, 2, none⟩ (.int .u64 c3)).setCell ⟨B + 1, 0, none⟩ (.int .u64 a3)).setCell ⟨B + 1, 1, none⟩ (.int .u64 b2)).setCell ⟨B + 1, 2, none⟩ (.int .u64 c3)).setCell ⟨B + 1, 3, none⟩ (.int .u64 d2)).heap[B + 1]? = some (.cells #[.int .u64 a3, .int .u64 b2, .int .u64 c3, .int .u64 d2] 114) := hE0
  clear hE0
  have FE : Fr (fun b => B ≤ b) w (((((((U9.drewN mq).setCell ⟨B, 2, none⟩ (.int .u64 c3)).setCell ⟨B + 1, 0, none⟩ (.int .u64 a3)).setCell ⟨B + 1, 1, none⟩ (.int .u64 b2)).setCell ⟨B + 1, 2, none⟩ (.int .u64 c3)).setCell ⟨B + 1, 3, none⟩ (.int .u64 d2))) :=
    (((((F9.out.drewN mq).setCell (p := ⟨B, 2, none⟩) (fun _ => Nat.le_refl _) _).setCell (p := ⟨B + 1, 0, none⟩) (fun _ => Nat.le_succ _) _).setCell (p := ⟨B + 1, 1, none⟩) (fun _ => Nat.le_succ _) _).setCell (p := ⟨B + 1, 2, none⟩) (fun _ => Nat.le_succ _) _).setCell (p := ⟨B + 1, 3, none⟩) (fun _ => Nat.le_succ _) _
  clear p0 p1 p2 p3 fp0 fp1 fp2 fp3 q0 q1 q2 q3 fz0 fz1 fz2 fz3 hc3 h9 F9 HR9
  have HFE := Lib.hid FE
  generalize ((((((U9.drewN mq).setCell ⟨B, 2, none⟩ (.int .u64 c3)).setCell ⟨B + 1, 0, none⟩ (.int .u64 a3)).setCell ⟨B + 1, 1, none⟩ (.int .u64 b2)).setCell ⟨B + 1, 2, none⟩ (.int .u64 c3)).setCell ⟨B + 1, 3, none⟩ (.int .u64 d2)) = E at *
  clear FE
  try simp only [Exit.inBlock, Exit.then]
  refine bodyPost_ret (v := .agg #[.int .u64 a3, .int .u64 b2, .int .u64 c3, .int .u64 d2]) ?_ rfl ?_
  · have p0 := cell_obj hE 0 (.int .u64 a3) rfl
    have p1 := cell_obj hE 1 (.int .u64 b2) rfl
    have p2 := cell_obj hE 2 (.int .u64 c3) rfl
    have p3 := cell_obj hE 3 (.int .u64 d2) rfl
    simp [results, Try.results59, go_sem, p0, p1, p2, p3]
  refine ⟨ret_val ?_, HFE.out.toBelow (fun b e => by rw [HBB.out]; exact e) (Nat.le_refl _)⟩
  unfold rnd
  simp only [← Ha1.out, ← Hb1.out, ← Ha2.out, ← Hc1.out, ← Hd1.out, ← Ha3.out, ← Hd2.out, ← Hc2.out, ← Hb2.out, ← Hc3.out]
end Go.Proofs.Ytakjiicnbocjeaa
namespace Go.Proofs.Ytakjiicnbocjeaa
open Go.RowKit
/-- Bytes as a number, the lowest first. -/
def leN (l : List Int) : Int := l.foldr (fun c m => m * 256 + c) 0
theorem leN_nat {l : List Int} (hb : ∀ x ∈ l, 0 ≤ x ∧ x < 256) : ∃ m : Nat, leN l = m ∧ m < 256 ^ l.length := by
  induction l with
  | nil => exact ⟨0, rfl, by simp⟩
  | cons c r ih =>
    obtain ⟨m, e, h⟩ := ih (fun x hx => hb x (by simp [hx]))
    obtain ⟨h0, h1⟩ := hb c (by simp)
    refine ⟨m * 256 + c.toNat, ?_, ?_⟩
    · show leN r * 256 + c = _
      rw [e]; omega
    · rw [List.length_cons, Nat.pow_succ]; omega
theorem leN_snoc (l : List Int) (c : Int) : leN (l ++ [c]) = leN l + c * ((256 ^ l.length : Nat) : Int) := by
  induction l with
  | nil => simp [leN]
  | cons a r ih =>
    show leN (r ++ [c]) * 256 + a = (leN r * 256 + a) + _
    rw [ih, List.length_cons, Nat.pow_succ, Int.natCast_mul, Int.add_mul, ← Int.mul_assoc]
    simp only [Int.mul_assoc, show ((256 : Nat) : Int) = 256 from rfl]
    omega
theorem pow256_2 (j : Nat) : (256 : Nat) ^ j = 2 ^ (8 * j) := by rw [Nat.pow_mul]
/-- A byte put above. -/
theorem or_high {m : Nat} {c : Int} {j : Nat} (hj : j < 8) (hm : m < 256 ^ j) (h0 : 0 ≤ c) : bits .or .u64 (m : Int) (IntKind.u64.wrap (c * 2 ^ (8 * j))) = ((m + (c.toNat * 256 ^ j) % 18446744073709551616 : Nat) : Int) := by
  obtain ⟨k, rfl⟩ : ∃ k : Nat, c = k := ⟨c.toNat, by omega⟩
  have e1 : IntKind.u64.wrap ((k : Int) * 2 ^ (8 * j)) = (((k * 256 ^ j) % 18446744073709551616 : Nat) : Int) := by
    show ((k : Int) * 2 ^ (8 * j)) % 18446744073709551616 = _
    rw [pow256_2]
    simp
  have hp : (256 : Nat) ^ j ≤ 256 ^ 7 := Nat.pow_le_pow_right (by omega) (by omega)
  rw [e1, u64_or_nat _ _ (by omega) (Nat.mod_lt _ (by omega)), Int.toNat_natCast]
  congr 1
  have e2 : (k * 256 ^ j) % 18446744073709551616 = 2 ^ (8 * j) * (k % 256 ^ (8 - j)) := by
    rw [show (18446744073709551616 : Nat) = 256 ^ j * 256 ^ (8 - j) by rw [← Nat.pow_add, show j + (8 - j) = 8 by omega], Nat.mul_comm k, Nat.mul_mod_mul_left, pow256_2]
  rw [e2, Nat.or_comm, ← Nat.two_pow_add_eq_or_of_lt (i := 8 * j) (b := m) (by rw [← pow256_2]; exact hm), Nat.add_comm]
def wordAt (l : List Int) (k : Nat) : Int := leN ((l.drop (8 * k)).take 8)
def wordsS (s : S4) (l : List Int) : Nat → S4
  | 0 => s
  | k + 1 => wrd (wordsS s l k) (wordAt l k)
theorem mixFrom_words (s : S4) {l : List Int} (hb : ∀ x ∈ l, 0 ≤ x ∧ x < 256) : ∀ i, i ≤ l.length → mixFrom (s, 0) 0 (l.take i) = (wordsS s l (i / 8), leN ((l.drop (8 * (i / 8))).take (i % 8)))
  | 0, _ => by simp [mixFrom, wordsS, leN]
  | i + 1, h => by
    obtain ⟨x, hx⟩ : ∃ x, l[i]? = some x := ⟨l[i], List.getElem?_eq_getElem (by omega)⟩
    obtain ⟨x0, x1⟩ := hb x (List.mem_of_getElem? hx)
    have ih := mixFrom_words s hb i (by omega)
    have e0 : l.take (i + 1) = l.take i ++ [x] := by rw [List.take_add_one, hx]; rfl
    rw [e0, mixFrom_snoc, ih, List.length_take, Nat.min_eq_left (by omega), Nat.zero_add]
    have hr : i % 8 < 8 := Nat.mod_lt _ (by omega)
    have hsn : (l.drop (8 * (i / 8))).take (i % 8 + 1) = (l.drop (8 * (i / 8))).take (i % 8) ++ [x] := by
      rw [List.take_add_one, List.getElem?_drop, show 8 * (i / 8) + i % 8 = i by omega, hx]; rfl
    have hlen : ((l.drop (8 * (i / 8))).take (i % 8)).length = i % 8 := by rw [List.length_take, List.length_drop]; omega
    obtain ⟨m, hm, hml⟩ := leN_nat (l := (l.drop (8 * (i / 8))).take (i % 8)) (fun y hy => hb y (List.mem_of_mem_drop (List.mem_of_mem_take hy)))
    rw [hlen] at hml
    have hor : bits .or .u64 (leN ((l.drop (8 * (i / 8))).take (i % 8))) (IntKind.u64.wrap (x * 2 ^ (8 * (i % 8)))) = leN ((l.drop (8 * (i / 8))).take (i % 8 + 1)) := by
      rw [hsn, leN_snoc, hlen, hm, or_high hr hml x0]
      have hp : (256 : Nat) ^ (i % 8) ≤ 256 ^ 7 := Nat.pow_le_pow_right (by omega) (by omega)
      have hlt : x.toNat * 256 ^ (i % 8) < 18446744073709551616 := by
        have : x.toNat * 256 ^ (i % 8) ≤ 255 * 256 ^ 7 := Nat.mul_le_mul (by omega) hp
        omega
      rw [Nat.mod_eq_of_lt hlt, Int.natCast_add, Int.natCast_mul, Int.toNat_of_nonneg x0]
    unfold mixStep
    dsimp only
    by_cases h7 : i % 8 = 7
    · rw [if_pos h7, hor]
      have e1 : (i + 1) / 8 = i / 8 + 1 := by omega
      have e2 : (i + 1) % 8 = 0 := by omega
      rw [e1, e2, List.take_zero, h7]
      rfl
    · rw [if_neg h7, hor]
      have e1 : (i + 1) / 8 = i / 8 := by omega
      have e2 : (i + 1) % 8 = i % 8 + 1 := by omega
      rw [e1, e2]
theorem wordsS_app (s : S4) (l m : List Int) : ∀ k, 8 * k ≤ l.length → wordsS s (l ++ m) k = wordsS s l k
  | 0, _ => rfl
  | k + 1, h => by
    unfold wordsS
    rw [wordsS_app s l m k (by omega)]
    congr 1
    unfold wordAt
    rw [List.drop_append_of_le_length (by omega), List.take_append_of_le_length (by rw [List.length_drop]; omega)]
theorem leN_zeros : ∀ k, leN (List.replicate k 0) = 0
  | 0 => rfl
  | k + 1 => by show leN (List.replicate k 0) * 256 + 0 = 0; rw [leN_zeros k]; rfl
theorem leN_app (l m : List Int) : leN (l ++ m) = leN l + leN m * ((256 ^ l.length : Nat) : Int) := by
  induction l with
  | nil => simp [leN]
  | cons a r ih =>
    show leN (r ++ m) * 256 + a = (leN r * 256 + a) + _
    rw [ih, List.length_cons, Nat.pow_succ, Int.natCast_mul, Int.add_mul, ← Int.mul_assoc]
    simp only [Int.mul_assoc, show ((256 : Nat) : Int) = 256 from rfl]
    omega
/-- The bytes and what is put behind them: noughts, and the length. -/
def padB (bs : List Int) : List Int := bs ++ List.replicate (7 - bs.length % 8) 0 ++ [((bs.length % 256 : Nat) : Int)]
theorem padB_len (bs : List Int) : (padB bs).length = 8 * (bs.length / 8 + 1) := by
  unfold padB
  simp
  omega
def mixQ (s : S4) : Int :=
  let t := rnd (rnd (rnd (rnd { s with c := bits .xor .u64 s.c 255 })))
  bits .xor .u64 (bits .xor .u64 (bits .xor .u64 t.a t.b) t.c) t.d
/-- THE PROGRAM'S MIX, WORD BY WORD. -/
theorem mixF_words (seal_ : Int) {bs : List Int} (hb : ∀ x ∈ bs, 0 ≤ x ∧ x < 256) : mixF seal_ bs = mixQ (wordsS (mixS seal_) (padB bs) (bs.length / 8 + 1)) := by
  have h := mixFrom_words (mixS seal_) hb bs.length (Nat.le_refl _)
  rw [List.take_length] at h
  unfold mixF mixEnd
  rw [h]
  obtain ⟨n, hn⟩ : ∃ n, bs.length = n := ⟨_, rfl⟩
  have hlen : ((bs.drop (8 * (n / 8))).take (n % 8)).length = n % 8 := by rw [List.length_take, List.length_drop]; omega
  obtain ⟨m, hm, hml⟩ := leN_nat (l := (bs.drop (8 * (n / 8))).take (n % 8)) (fun y hy => hb y (List.mem_of_mem_drop (List.mem_of_mem_take hy)))
  rw [hlen] at hml
  have hr : n % 8 < 8 := Nat.mod_lt _ (by omega)
  rw [hn]
  have hml7 : m < 256 ^ 7 := Nat.lt_of_lt_of_le hml (Nat.pow_le_pow_right (by omega) (by omega))
  have hlast : wordAt (padB bs) (n / 8) = bits .or .u64 (leN ((bs.drop (8 * (n / 8))).take (n % 8))) (IntKind.u64.wrap ((n : Int) * 2 ^ 56)) := by
    rw [hm, show (56 : Nat) = 8 * 7 from rfl, or_high (by omega) hml7 (by omega), Int.toNat_natCast]
    unfold wordAt padB
    rw [hn, List.append_assoc, List.drop_append_of_le_length (by omega), List.take_of_length_le (by simp; omega), leN_app, leN_app, leN_zeros]
    have ht : bs.drop (8 * (n / 8)) = (bs.drop (8 * (n / 8))).take (n % 8) := by rw [List.take_of_length_le (by rw [List.length_drop]; omega)]
    rw [ht, hm, hlen]
    have e1 : leN [((n % 256 : Nat) : Int)] = ((n % 256 : Nat) : Int) := by simp [leN]
    rw [e1, List.length_replicate]
    have e2 : (n * 256 ^ 7) % 18446744073709551616 = (n % 256) * 256 ^ 7 := by
      rw [show (18446744073709551616 : Nat) = 256 * 256 ^ 7 by rfl, Nat.mul_mod_mul_right]
    rw [e2]
    have e3 : ((256 ^ (7 - n % 8) : Nat) : Int) * ((256 ^ (n % 8) : Nat) : Int) = ((256 ^ 7 : Nat) : Int) := by
      rw [← Int.natCast_mul, ← Nat.pow_add, show 7 - n % 8 + n % 8 = 7 by omega]
    rw [Int.zero_add, Int.mul_assoc, e3]
    simp
  have hst : wordsS (mixS seal_) (padB bs) (n / 8) = wordsS (mixS seal_) bs (n / 8) := by
    unfold padB
    rw [List.append_assoc]
    exact wordsS_app _ _ _ _ (by omega)
  unfold mixQ
  rw [show wordsS (mixS seal_) (padB bs) (n / 8 + 1) = wrd (wordsS (mixS seal_) (padB bs) (n / 8)) (wordAt (padB bs) (n / 8)) from rfl, hst, hlast]
/-- What the document's inner loop makes of eight bytes, from the last one down: byte i and those above. -/
theorem leN_step {l : List Int} {i : Nat} {x : Int} (h : l[i]? = some x) : leN (l.drop i) = leN (l.drop (i + 1)) * 256 + x := by
  have hi := (List.getElem?_eq_some_iff.1 h).1
  rw [List.drop_eq_getElem_cons hi, (List.getElem?_eq_some_iff.1 h).2]
  rfl
end Go.Proofs.Ytakjiicnbocjeaa
namespace Go.Proofs.Ytakjiicnbocjeaa
open Go.RowKit Go.Maps
theorem xorC1 : bits .xor .u64 7021802355507858702 7237128888997146477 = 368457802846855779 := by kernel_rfl
theorem xorC2 : bits .xor .u64 7021802355507858702 8387220255154660723 = 1519701440043968637 := by kernel_rfl
def lenV (v : Value) : Nat := match v with | .slice _ n _ => n | _ => 0
theorem Bs.rd {w : World} {a : Option Addr} {n c : Nat} {bs : List Int} (h : Bs w (.slice a n c) bs) : Rd w 1 a bs.length (u8s bs) := by
  obtain ⟨_, a', c', e, hx⟩ := h
  injection e with e1 e2 e3
  subst e1
  refine ⟨by simp [u8s], fun hp => ?_⟩
  obtain ⟨x0, hx0⟩ : ∃ x0, bs[0]? = some x0 := ⟨bs[0], List.getElem?_eq_getElem hp⟩
  obtain ⟨_, _, ad, rfl, _⟩ := hx 0 x0 hx0
  refine ⟨ad, rfl, fun j u hu => ?_⟩
  simp only [u8s, List.getElem?_map, Option.map_eq_some_iff] at hu
  obtain ⟨x, hx', rfl⟩ := hu
  obtain ⟨_, _, ad', e, hcl⟩ := hx j x hx'
  cases e
  exact hcl
/-- The four words lie in the first new block, the bytes in a row behind it. -/
structure MixI (w wr : World) (S : S4) (v : Value) (L : List Int) : Prop where
  arr : wr.heap[w.heap.size]? = some (.cells S.cs 114)
  row : wr.ownsRow (w.heap.size + 1) 5 1 v L.length (u8s L)
  fr : Fr (fun b => w.heap.size ≤ b) w wr
theorem MixI.size {w wr : World} {S : S4} {v : Value} {L : List Int} (h : MixI w wr S v L) : w.heap.size + 1 ≤ wr.heap.size := (Array.getElem?_eq_some_iff.1 h.arr).1
theorem MixI.push {w wr w' : World} {S : S4} {v v' : Value} {L : List Int} {x : Int} (h : MixI w wr S v L) (o : Obj) (ho : w'.ownsRow (w.heap.size + 1) 5 1 v' (L.length + 1) (u8s L ++ [.int .u8 x]))
    (hg : (wr.alloc o).grownBy w' v.ownBlock) : MixI w w' S v' (L ++ [x]) := by
  have hF : Fr (fun b => w.heap.size + 1 ≤ b) wr w' := ((Fr.refl _ wr).alloc o).trans (Fr.grown hg (fun r hr _ => (h.row.lt r hr).1))
  refine ⟨hF.at_ h.arr (by omega), by rw [List.length_append]; simpa [u8s] using ho, h.fr.trans' hF (fun b _ e => by omega)⟩
theorem MixI.set {w wr : World} {S S' : S4} {v : Value} {L : List Int} {j : Nat} {u : Value} (h : MixI w wr S v L) (hs : (S.cs).setIfInBounds j u = S'.cs) : MixI w (wr.setCell ⟨w.heap.size, j, none⟩ u) S' v L := by
  have hF : Fr (fun b => b = w.heap.size) wr (wr.setCell ⟨w.heap.size, j, none⟩ u) := (Fr.refl (fun b => b = w.heap.size) wr).setCell (p := ⟨w.heap.size, j, none⟩) (fun _ => rfl) _
  exact ⟨hs ▸ obj_set h.arr j u, hF.row h.row (fun b hb => by have := (h.row.lt b hb).1; omega), h.fr.trans' hF (fun b _ e => by omega)⟩
theorem MixI.below {w wr w' : World} {S : S4} {v : Value} {L : List Int} (h : MixI w wr S v L) (hb : Below wr.heap.size wr w') : MixI w w' S v L := by
  have hF := Fr.below (S := fun _ => False) hb
  exact ⟨hF.at_ h.arr (fun h => h), hF.row h.row (fun _ _ h => h), h.fr.trans' hF (fun _ _ e => e.elim)⟩
set_option maxRecDepth 100000 in
set_option maxHeartbeats 4000000 in
theorem rMix (w : World) (sl : Int) (v : Value) (bs : List Int) (h : Bs w v bs) (hl : (bs.length : Int) ≤ 140737488351232) (hb : ∀ x ∈ bs, 0 ≤ x ∧ x < 256) :
    Calls Try.prog 41 #[.int .u64 sl, v] w fun e w' => e = .returned (.int .u64 (mixF sl bs)) ∧ Below w.heap.size w w' := by
  obtain ⟨i0, hi', hz0, hz1, hz2⟩ := info_parts infoU8
  rw [mixF_words sl hb]
  obtain ⟨_, a, c, rfl, hx⟩ := id h
  have HR := Lib.hid h.rd
  obtain ⟨res, hres⟩ : ∃ r, mixQ (wordsS (mixS sl) (padB bs) (bs.length / 8 + 1)) = r := ⟨_, rfl⟩
  rw [hres]
  have HRES := Lib.hid hres; have HB := Lib.hid hb
  obtain ⟨n, hn⟩ : ∃ n, bs.length = n := ⟨_, rfl⟩
  have HN := Lib.hid hn
  rw [hn] at hl HR ⊢
  have H0 := Lib.hid (heap_new w (.cells (mixS sl).cs 114))
  have F0 : Hid (Fr (fun b => w.heap.size ≤ b) w (w.alloc (.cells (mixS sl).cs 114))) := Lib.hid ((Fr.refl _ w).alloc _)
  unfold mixS S4.cs at H0 F0
  dsimp only at H0 F0
  have hc1 := xorC1
  have hc2 := xorC2
  obtain ⟨S0, hS0⟩ : ∃ S0, mixS sl = S0 := ⟨_, rfl⟩
  have hown0 : Hid (((w.alloc (.cells (mixS sl).cs 114)).alloc (.cells #[] 5)).ownsRow (w.heap.size + 1) 5 1 (.slice (some ⟨w.heap.size + 1, 0, none⟩) 0 0) 0 []) := Lib.hid (by
    have := own_new (w := w.alloc (.cells (mixS sl).cs 114)) (base := w.heap.size + 1) (t := 5) #[] (by simp) (by simp)
    simpa using this)
  have hrd0 : Hid (Rd ((w.alloc (.cells (mixS sl).cs 114)).alloc (.cells #[] 5)) 1 a n (u8s bs)) := Lib.hid (HR.out.fr (((Fr.refl (fun _ => False) w).alloc _).alloc _) (fun _ _ h => h))
  have hi0 : Hid (∀ v1 w1, w1.ownsRow (w.heap.size + 1) 5 1 v1 n (u8s bs) → ((w.alloc (.cells (mixS sl).cs 114)).alloc (.cells #[] 5)).grownBy w1 (some (w.heap.size + 1)) → MixI w w1 S0 v1 bs) := Lib.hid (by
    intro v1 w1 ho hg
    have hF : Fr (fun b => w.heap.size + 1 ≤ b) (w.alloc (.cells (mixS sl).cs 114)) w1 := ((Fr.refl _ _).alloc _).trans (Fr.grown hg (fun r hr _ => by cases hr; exact Nat.le_refl _))
    refine ⟨hF.at_ (hS0 ▸ heap_new w _) (by omega), by rw [hn]; exact ho, ((Fr.refl _ w).alloc _).trans' hF (fun b _ e => by omega)⟩)
  have HS0 := Lib.hid hS0
  unfold mixS S4.cs at hown0 hrd0 hi0
  dsimp only at hown0 hrd0 hi0
  have hbs1 : ∀ u ∈ u8s bs, u.oneCell' = true := by intro u hu; simp [u8s] at hu; obtain ⟨x, _, rfl⟩ := hu; rfl
  have HB1 := Lib.hid hbs1
  clear h hx hres hb hn hbs1 hS0 HR H0 F0
  go_enter Try.func41, Try.ntmps41
  go_wp2_with (at_builtin; refine wpList_append_src rfl _ _ 28 rfl (w.heap.size + 1) 5 i0 (.int .u8 0) 1 Try.underlying28 hi' hz0 hz1 hz2 rfl (by decide) _ 0 [] rfl hown0.out c rfl hrd0.out HB1.out (by unfold maxLen; omega) (by omega) (by simp) ?_; intro v1 w1 hown1 hgrow1 _; simp only [Nat.zero_add, List.nil_append] at hown1; have hI1 := hi0.out v1 w1 hown1 hgrow1; clear hown1 hgrow1)
  have HI1 := Lib.hid hI1
  clear hI1 hown0 hrd0 hi0 hc1 hc2
  have h1 : ∀ x : Int, ∀ u ∈ [Value.int .u8 x], u.oneCell' = true := by intro x u hu; simp at hu; subst hu; rfl
  have H1 := Lib.hid h1
  clear h1
  go_loopw [7] (fun v wr => ∃ z : Nat, z ≤ 7 - n % 8 ∧ MixI w wr S0 v (bs ++ List.replicate z 0)) (fun v _ => n + 8 - lenV v)
  case atStart => exact ⟨0, Nat.zero_le _, by simpa using HI1.out⟩
  case round =>
    obtain ⟨z, hz, hI⟩ := hrel
    clear HI1
    obtain ⟨av, cv, rfl⟩ := row_sl hI.row
    have hlz : (bs ++ List.replicate z 0).length = n + z := by rw [List.length_append, List.length_replicate, HN.out]
    have HI := Lib.hid hI
    have hsz := hI.size
    rw [hlz] at HI ⊢
    have HLZ := Lib.hid hlz
    clear hI hlz
    obtain ⟨r, hr⟩ : ∃ r : Nat, (n + z) % 8 = r := ⟨_, rfl⟩
    have hr8 : r < 8 := by omega
    have ht : ((n : Int) + (z : Int)).tmod 8 = (r : Int) := by rw [Int.tmod_eq_emod_of_nonneg (by omega)]; omega
    have HRR := Lib.hid hr
    have HZ := Lib.hid hz
    have hz7 : (z : Int) ≤ 7 := by omega
    clear hr hz
    by_cases h7 : r = 7
    · subst h7
      go_wp2_with (at_builtin; refine wpList_append_src rfl _ _ 28 rfl (w.heap.size + 1) 5 i0 (.int .u8 0) 1 Try.underlying28 hi' hz0 hz1 hz2 rfl (by decide) (.slice av (n + z) cv) (n + z) (u8s (bs ++ List.replicate z 0)) rfl (by have := HI.out.row; rw [HLZ.out] at this; exact this.alloc _) 1 rfl (Rd.own (own_new #[_] (Nat.le_refl _) (by simp))) (H1.out _) (by unfold maxLen; omega) (by omega) (by simp; omega) ?_; intro v2 w2 hown2 hgrow2 _; have hI2 := HI.out.push _ (by rw [HLZ.out]; exact hown2) hgrow2)
      have hz : z = 7 - n % 8 := by have := HRR.out; have := HZ.out; omega
      have hP0 : bs ++ List.replicate z 0 ++ [(n : Int) % 256] = padB bs := by
        unfold padB
        rw [HN.out, hz]
        simp
      rw [hP0] at hI2
      have hRES := HRES.out
      have hPl := padB_len bs
      rw [HN.out, HS0.out] at hRES
      rw [HN.out] at hPl
      have hPb : ∀ x ∈ padB bs, 0 ≤ x ∧ x < 256 := by
        intro x hx
        unfold padB at hx
        rcases List.mem_append.1 hx with hx | hx
        · rcases List.mem_append.1 hx with hx | hx
          · exact HB.out x hx
          · have := (List.mem_replicate.1 hx).2; omega
        · simp at hx; omega
      have hnz : n + z + 1 = 8 * (n / 8 + 1) := by have := HRR.out; omega
      rw [hnz] at hown2
      obtain ⟨a2, c2, rfl⟩ := row_sl hown2
      obtain ⟨K, hK⟩ : ∃ K, n / 8 + 1 = K := ⟨_, rfl⟩
      obtain ⟨P, hP⟩ : ∃ P, padB bs = P := ⟨_, rfl⟩
      rw [hK] at hown2 hRES hPl hI2 ⊢
      rw [hP] at hRES hPl hPb hI2
      have hK1 : 1 ≤ K := by omega
      have hK2 : (K : Int) ≤ 140737488351232 := by omega
      obtain ⟨gp, c3, e1, hgb, _⟩ := hown2.form (by omega)
      injection e1 with e1 _ e3
      subst e1
      subst e3
      have hcell : ∀ (wr : World) (S : S4) (i : Nat) (x : Int), MixI w wr S (.slice (some ⟨gp, 0, none⟩) (8 * K) c2) P → P[i]? = some x → wr.cell? ⟨gp, i, none⟩ = some (.int .u8 x) := by
        intro wr S i x hI hx
        have h1 := hI.row
        rw [hPl] at h1
        obtain ⟨ad, e, h2⟩ := (Rd.own h1).at_ (k := i) (u := .int .u8 x) (by omega) (by simp [u8s, hx])
        cases e
        have e2 : (⟨gp, 0, none⟩ : Addr).add i = ⟨gp, i, none⟩ := by unfold Addr.add; split <;> simp_all
        rw [e2] at h2; exact h2
      have HC := Lib.hid hcell; have HRES2 := Lib.hid hRES; have HPL := Lib.hid hPl; have HPB := Lib.hid hPb; have HI2 := Lib.hid hI2
      clear hP0 hcell hRES hPl hPb hI2 hown2 hgrow2 hnz HI HLZ HZ HRR ht hr8 hz hz7 HRES HB HN HS0 HB1 hP hK hl
      go_loopw [8, 9, 10] (fun at_ _ _ wr => ∃ k : Nat, k ≤ K ∧ at_ = .int .i64 (8 * (k : Int)) ∧ MixI w wr (wordsS S0 P k) (.slice (some ⟨gp, 0, none⟩) (8 * K) c2) P) (fun at_ _ _ _ => 8 * K - (intOf at_).toNat)
      case atStart => exact ⟨0, Nat.zero_le _, rfl, HI2.out⟩
      case round =>
        obtain ⟨k, hk, rfl, hI⟩ := hrel
        have HI := Lib.hid hI
        clear hI HI2
        by_cases hkK : k < K
        · go_wp2_with fail
          obtain ⟨W, hW⟩ : ∃ W, (P.drop (8 * k)).take 8 = W := ⟨_, rfl⟩
          have hWl : W.length = 8 := by rw [← hW, List.length_take, List.length_drop, HPL.out]; omega
          have hWb : ∀ x ∈ W, 0 ≤ x ∧ x < 256 := by intro x hx; rw [← hW] at hx; exact HPB.out x (List.mem_of_mem_drop (List.mem_of_mem_take hx))
          have hWa : wordAt P k = leN W := by unfold wordAt; rw [hW]
          have hWg : ∀ j, j < 8 → W[j]? = P[8 * k + j]? := by intro j hj; rw [← hW, List.getElem?_take, if_pos hj, List.getElem?_drop]
          have HWL := Lib.hid hWl; have HWB := Lib.hid hWb; have HWA := Lib.hid hWa; have HWG := Lib.hid hWg
          clear hW hWl hWb hWa hWg
          go_loopw [9, 10] (fun m i wr' => ∃ j : Nat, j ≤ 8 ∧ i = .int .i64 ((j : Int) - 1) ∧ m = .int .u64 (leN (W.drop j)) ∧ wr' = wr) (fun _ i _ => (intOf i + 1).toNat)
          case atStart => exact ⟨8, Nat.le_refl _, rfl, by rw [List.drop_eq_nil_of_le (by rw [HWL.out]; omega)]; rfl, rfl⟩
          case round =>
            obtain ⟨j, hj, rfl, rfl, rfl⟩ := hrel
            cases j with
            | succ i =>
              obtain ⟨x, hx⟩ : ∃ x, W[i]? = some x := ⟨W[i]'(by rw [HWL.out]; omega), List.getElem?_eq_getElem _⟩
              have hst := leN_step hx
              obtain ⟨m, hm, hml⟩ := leN_nat (l := W.drop (i + 1)) (fun y hy => HWB.out y (List.mem_of_mem_drop hy))
              obtain ⟨x0, x1⟩ := HWB.out x (List.mem_of_getElem? hx)
              have hcx := HC.out _ _ (8 * k + i) x HI.out (by rw [← HWG.out i (by omega)]; exact hx)
              rw [List.length_drop, HWL.out] at hml
              have hm7 : m < 256 ^ 7 := Nat.lt_of_lt_of_le hml (Nat.pow_le_pow_right (by omega) (by omega))
              have hor : bits .or .u64 (IntKind.u64.wrap ((m : Int) * 256)) x = leN (W.drop i) := by
                have := or_add m x.toNat (by omega) (by omega)
                rw [Int.toNat_of_nonneg x0] at this
                rw [this, hst, hm]
                omega
              have hw : IntKind.u64.wrap ((m : Int) * 256) = (m : Int) * 256 := wrapU (by omega) (by omega)
              rw [hm]
              have hi1 : ((i + 1 : Nat) : Int) - 1 = (i : Int) := by omega
              rw [hi1]
              have HOR := Lib.hid hor; have HW := Lib.hid hw
              have hm8 : (m : Int) < 72057594037927936 := by omega
              have hi8 : (i : Int) < 8 := by omega
              have hk8 : (k : Int) < K := by omega
              clear hst hm hml hm7 hor hw hi1 hx
              go_wp2
              go_roundw
              case rel => exact ⟨i, by omega, rfl, by rw [← HOR.out, HW.out], by trivial⟩
              case measure => simp [intOf]
            | zero =>
              obtain ⟨S, hS⟩ : ∃ S, wordsS S0 P k = S := ⟨_, rfl⟩
              obtain ⟨m, hm⟩ : ∃ m, leN (W.drop 0) = m := ⟨_, rfl⟩
              have hS1 : wordsS S0 P (k + 1) = wrd S m := by rw [← hm, List.drop_zero, ← HWA.out, ← hS]; rfl
              rw [hm]
              rw [hS] at HI
              have HS1 := Lib.hid hS1
              clear hS hm hS1
              obtain ⟨sa, sb, sc, sd⟩ := S
              have hA := HI.out.arr
              have q0 := cell_obj hA 0 (.int .u64 sa) rfl
              have q1 := cell_obj hA 1 (.int .u64 sb) rfl
              have q2 := cell_obj hA 2 (.int .u64 sc) rfl
              have q3 := cell_obj hA 3 (.int .u64 sd) rfl
              have z3 := obj_frozen hA 3
              have HI2 := Lib.hid (HI.out.set (j := 3) (u := .int .u64 (bits .xor .u64 sd m)) (S' := ⟨sa, sb, sc, bits .xor .u64 sd m⟩) rfl)
              clear hA
              go_wp2_with fail
              refine (rRound _ ⟨sa, sb, sc, bits .xor .u64 sd m⟩).mono ?_
              rintro e w3 ⟨rfl, hB3⟩
              have HI3 := Lib.hid (HI2.out.below hB3)
              clear hB3 HI2 HI q0 q1 q2 q3 z3
              go_wp2_with fail
              refine (rRound _ _).mono ?_
              rintro e w4 ⟨rfl, hB4⟩
              have HI4 := Lib.hid (HI3.out.below hB4)
              clear hB4 HI3
              obtain ⟨T, hT⟩ : ∃ T, rnd (rnd ⟨sa, sb, sc, bits .xor .u64 sd m⟩) = T := ⟨_, rfl⟩
              rw [hT]
              have HT := Lib.hid hT
              clear hT
              obtain ⟨ta, tb, tc, td⟩ := T
              have hA := HI4.out.arr
              have q0 := cell_obj hA 0 (.int .u64 sa) rfl
              have q1 := cell_obj hA 1 (.int .u64 sb) rfl
              have q2 := cell_obj hA 2 (.int .u64 sc) rfl
              have q3 := cell_obj hA 3 (.int .u64 (bits .xor .u64 sd m)) rfl
              have z0 := obj_frozen hA 0
              have z1 := obj_frozen hA 1
              have z2 := obj_frozen hA 2
              have z3 := obj_frozen hA 3
              have HI5 := Lib.hid (((((HI4.out.set (j := 0) (u := .int .u64 ta) (S' := ⟨ta, sb, sc, bits .xor .u64 sd m⟩) rfl).set (j := 1) (u := .int .u64 tb) (S' := ⟨ta, tb, sc, bits .xor .u64 sd m⟩) rfl).set (j := 2) (u := .int .u64 tc) (S' := ⟨ta, tb, tc, bits .xor .u64 sd m⟩) rfl).set (j := 3) (u := .int .u64 td) (S' := ⟨ta, tb, tc, td⟩) rfl).set (j := 0) (u := .int .u64 (bits .xor .u64 ta m)) (S' := ⟨bits .xor .u64 ta m, tb, tc, td⟩) rfl)
              have hW2 : wordsS S0 P (k + 1) = ⟨bits .xor .u64 ta m, tb, tc, td⟩ := by rw [HS1.out]; unfold wrd; dsimp only; rw [HT.out]
              have HW2 := Lib.hid hW2
              unfold S4.cs
              dsimp only
              clear hA hW2
              have hk8 : (k : Int) < K := by omega
              go_wp2
              go_roundw
              case rel => exact ⟨k + 1, by omega, by go_num, by rw [HW2.out]; exact HI5.out⟩
              case measure => simp [intOf]; omega
        · have hke : k = K := by omega
          subst hke
          have hk8 : ¬ 8 * (k : Int) < 8 * (k : Int) := by omega
          obtain ⟨S, hS⟩ : ∃ S, wordsS S0 P k = S := ⟨_, rfl⟩
          have hres := HRES2.out
          rw [hS] at HI hres
          unfold mixQ at hres
          obtain ⟨sa, sb, sc, sd⟩ := S
          dsimp only at hres
          have HRS := Lib.hid hres
          have hA := HI.out.arr
          have q0 := cell_obj hA 0 (.int .u64 sa) rfl
          have q1 := cell_obj hA 1 (.int .u64 sb) rfl
          have q2 := cell_obj hA 2 (.int .u64 sc) rfl
          have q3 := cell_obj hA 3 (.int .u64 sd) rfl
          have z2 := obj_frozen hA 2
          have HI2 := Lib.hid (HI.out.set (j := 2) (u := .int .u64 (bits .xor .u64 sc 255)) (S' := ⟨sa, sb, bits .xor .u64 sc 255, sd⟩) rfl)
          clear hA hres hS
          go_wp2_with fail
          refine (rRound _ ⟨sa, sb, bits .xor .u64 sc 255, sd⟩).mono ?_
          rintro e w3 ⟨rfl, hB3⟩
          have HI3 := Lib.hid (HI2.out.below hB3)
          clear hB3 HI2 HI q0 q1 q2 q3 z2
          go_wp2_with fail
          refine (rRound _ _).mono ?_
          rintro e w4 ⟨rfl, hB4⟩
          have HI4 := Lib.hid (HI3.out.below hB4)
          clear hB4 HI3
          go_wp2_with fail
          refine (rRound _ _).mono ?_
          rintro e w5 ⟨rfl, hB5⟩
          have HI5 := Lib.hid (HI4.out.below hB5)
          clear hB5 HI4
          go_wp2_with fail
          refine (rRound _ _).mono ?_
          rintro e w6 ⟨rfl, hB6⟩
          have HI6 := Lib.hid (HI5.out.below hB6)
          clear hB6 HI5
          obtain ⟨T, hT⟩ : ∃ T, rnd (rnd (rnd (rnd ⟨sa, sb, bits .xor .u64 sc 255, sd⟩))) = T := ⟨_, rfl⟩
          rw [hT] at HRS ⊢
          clear hT
          obtain ⟨ta, tb, tc, td⟩ := T
          have hA := HI6.out.arr
          have q0 := cell_obj hA 0 (.int .u64 sa) rfl
          have q1 := cell_obj hA 1 (.int .u64 sb) rfl
          have q2 := cell_obj hA 2 (.int .u64 (bits .xor .u64 sc 255)) rfl
          have q3 := cell_obj hA 3 (.int .u64 sd) rfl
          have z0 := obj_frozen hA 0
          have z1 := obj_frozen hA 1
          have z2 := obj_frozen hA 2
          have z3 := obj_frozen hA 3
          have HI7 := Lib.hid ((((HI6.out.set (j := 0) (u := .int .u64 ta) (S' := ⟨ta, sb, bits .xor .u64 sc 255, sd⟩) rfl).set (j := 1) (u := .int .u64 tb) (S' := ⟨ta, tb, bits .xor .u64 sc 255, sd⟩) rfl).set (j := 2) (u := .int .u64 tc) (S' := ⟨ta, tb, tc, sd⟩) rfl).set (j := 3) (u := .int .u64 td) (S' := ⟨ta, tb, tc, td⟩) rfl)
          unfold S4.cs
          dsimp only at HRS ⊢
          clear hA
          go_wp2
          go_ret
          exact ⟨ret_val (by rw [← HRS.out]; rfl), HI7.out.fr.toBelow (fun b e => e) (Nat.le_refl _)⟩
    · have h7' : ((r : Int) == 7) = false := by simp; omega
      go_wp2_with (at_builtin; refine wpList_append_src rfl _ _ 28 rfl (w.heap.size + 1) 5 i0 (.int .u8 0) 1 Try.underlying28 hi' hz0 hz1 hz2 rfl (by decide) (.slice av (n + z) cv) (n + z) (u8s (bs ++ List.replicate z 0)) rfl (by have := HI.out.row; rw [HLZ.out] at this; exact this.alloc _) 1 rfl (Rd.own (own_new #[.int .u8 0] (Nat.le_refl _) (by simp))) (H1.out _) (by unfold maxLen; omega) (by omega) (by simp; omega) ?_; intro v2 w2 hown2 hgrow2 _; have hI2 := HI.out.push _ (by rw [HLZ.out]; exact hown2) hgrow2)
      go_roundw
      case rel =>
        refine ⟨z + 1, by have := HRR.out; have := HZ.out; omega, ?_⟩
        rw [show bs ++ List.replicate (z + 1) 0 = bs ++ List.replicate z 0 ++ [0] by rw [List.replicate_succ', List.append_assoc]]
        exact hI2
      case measure =>
        obtain ⟨a2, c2, rfl⟩ := row_sl hown2
        have := HRR.out; have := HZ.out
        simp [lenV]
        omega
end Go.Proofs.Ytakjiicnbocjeaa
namespace Go.Proofs.Ytakjiicnbocjeaa
open Go.ChangeShapes Go.WideShapes Go.ChangeAt Go.RowKit
theorem own : ownKnob Try.prog.godebug = none := by kernel_rfl
theorem laidOut : laidOutB Try.prog = true := by kernel_rfl
section
variable {H : Type} {enc : TypeId × Value → H} {P : Program}
theorem trodAll_below {W W' : World} (hl : laidOutB P = true) (hb : Below W.heap.size W W') : ∀ {ts : List TypeId} {vs : List Value} {ds : List (DataW H)} {ps : List MemPlace} {sp : Nat → Bool},
    (∀ t ∈ ts, (P.readableRec t && decide (t < P.types.size)) = true) → DataW.TrodAll enc P W 0 (fun _ => true) true ts vs ds ps → (∀ p ∈ ps, p.block < W.heap.size) → (∀ p ∈ ps, sp p.block = true) →
    DataW.TrodAll enc P W' 0 sp true ts vs ds ps
  | [], vs, ds, ps, sp, _, h, _, _ => by
    cases vs <;> cases ds <;> exact h
  | t :: ts, vs, ds, ps, sp, hr, h, hlt, hsp => by
    obtain ⟨v, vs', d, ds', p, q, rfl, rfl, rfl, h1, h2⟩ := trodAll_cons h
    have ht := hr t (by simp)
    simp only [Bool.and_eq_true, decide_eq_true_eq] at ht
    exact ⟨p, q, WideElems.Trod_stays hl ht.1 ht.2 h1 (fun x hx => hb.same (hlt x (by simp [hx]))) (fun x hx => hsp x (by simp [hx])),
      trodAll_below hl hb (fun t ht => hr t (by simp [ht])) h2 (fun x hx => hlt x (by simp [hx])) (fun x hx => hsp x (by simp [hx])), rfl⟩
/-- The row's last step for a law, whatever its parameters. -/
theorem law_post {f : Func} {s : ChangeSpec} {W W' : World} {args : Array Value} {ds gs : List (DataW H)} {before : List MemPlace} {tb : TypeId}
    (hl : laidOutB P = true) (hread : (f.params.toList.all fun t => P.readableRec t && decide (t < P.types.size)) = true) (hr : f.resultTypes = #[tb]) (htb : P.underlying tb = some .bool)
    (hW : DataW.Whole enc P f.params.toList s.vars false W args.toList ds gs before) (hvars : s.vars = []) (hfn : s.fn H ds = { results := [.lit (.bool true)], args := ds })
    (hb : Below W.heap.size W W') : s.post enc P f false true false false W args (.bool true) W' := by
  have hlt : ∀ p ∈ before, p.block < W.heap.size := fun p hp => hW.lt p hp
  have hW' := hW
  obtain ⟨p, q, hA, hV, he, hz, hn⟩ := hW
  rw [hvars] at hV
  obtain ⟨rfl, rfl⟩ := trodVars_none hV
  rw [List.append_nil] at he
  subst he
  have e1 : s.fn H (ds ++ []) = { results := [.lit (.bool true)], args := ds } := by rw [List.append_nil]; exact hfn
  refine ⟨ds, [], before, [], before, [], hW', ?_, ?_, ?_, World.keptBut_mono (fun x hx => ⟨hx, .inr (.inl hx)⟩) (hb.frame (· ∈ before)), fun h => by cases h⟩
  · rw [e1, hr]
    exact trodAll_cons_mk (shut_bool htb true) trodAll_mk0
  · rw [e1]
    exact trodAll_below hl hb (List.all_eq_true.1 hread) hA hlt (fun x hx => by simpa using hlt x hx)
  · rw [e1, hvars]
    exact rfl
end
end Go.Proofs.Ytakjiicnbocjeaa
